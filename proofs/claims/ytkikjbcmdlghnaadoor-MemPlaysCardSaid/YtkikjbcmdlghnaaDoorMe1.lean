/- Places of entries, plainly: how they stand. No program here. -/
import Derived.Test.YtkikjbcmdlghnaaDoorOx3
set_option linter.unusedVariables false
set_option maxRecDepth 100000
namespace Go.Cph.Ok
open Go Go.RowKit Go.Cph Go.Cph.Skip
/-- The place of a key's version of a number. -/
def place (k : Bs) (n : Nat) : Bs := bytes ⟨true, ofBs k, 0⟩ ++ be 8 (18446744073709551615 - n)
theorem text_apart {a b : Bs} (h : Op.bytesLess a b = true) : Apart (bytes ⟨true, ofBs a, 0⟩) (bytes ⟨true, ofBs b, 0⟩) :=
  ahead_apart (a := ⟨true, ofBs a, 0⟩) (b := ⟨true, ofBs b, 0⟩) (show bless (ofBs a) (ofBs b) = true from h)
theorem place_key {a b : Bs} (h : Op.bytesLess a b = true) (s t : Nat) : Apart (place a s) (place b t) := (text_apart h).app _ _
theorem place_seq {s t : Nat} (a : Bs) (h : t < s) (hs : s < 18446744073709551616) : Apart (place a s) (place a t) := by
  refine (be_apart 8 _ _ ?_ ?_).pre _
  · omega
  · have : (256 : Nat) ^ 8 = 18446744073709551616 := by decide
    omega
/-- Places rise as entries do: by keys, of one key by numbers, the greatest first. -/
theorem place_less (a b : Bs) (s t : Nat) (hs : s < 18446744073709551616) (ht : t < 18446744073709551616) :
    Op.bytesLess (place a s) (place b t) = (Op.bytesLess a b || (a == b && decide (t < s))) := by
  cases h : Op.bytesLess a b
  · cases h2 : Op.bytesLess b a
    · have e := bl_total _ _ h h2
      subst e
      rcases Nat.lt_trichotomy s t with h3 | h3 | h3
      · rw [bl_asymm (place_seq a h3 ht).less]
        have : ¬ t < s := by omega
        simp [this]
      · subst h3
        rw [bl_irrefl]; simp
      · rw [(place_seq a h3 hs).less]; simp [h3]
    · rw [bl_asymm (place_key h2 t s).less]
      have : (a == b) = false := by rw [beq_eq_false_iff_ne]; rintro rfl; rw [bl_irrefl] at h2; cases h2
      rw [this]; rfl
  · rw [(place_key h s t).less]; rfl
/-- Each entry's place is its own. -/
theorem place_same (a b : Bs) (s t : Nat) (hs : s < 18446744073709551616) (ht : t < 18446744073709551616) : (place a s == place b t) = (a == b && s == t) := by
  have h1 := place_less a b s t hs ht
  have h2 := place_less b a t s ht hs
  cases e : (a == b && s == t)
  · rw [beq_eq_false_iff_ne]
    intro h3
    rw [h3, bl_irrefl] at h1 h2
    have h4 := h1.symm
    have h5 := h2.symm
    rw [Bool.or_eq_false_iff, Bool.and_eq_false_iff] at h4 h5
    have h6 := bl_total _ _ h4.1 h5.1
    subst h6
    have h7 : ¬ t < s := by rcases h4.2 with h | h <;> simp at h; omega
    have h8 : ¬ s < t := by rcases h5.2 with h | h <;> simp at h; omega
    have : s = t := by omega
    subst this
    simp at e
  · rw [Bool.and_eq_true, beq_iff_eq, beq_iff_eq] at e
    rw [e.1, e.2]; simp
theorem place_long (a : Bs) (s : Nat) : (place a s).length = (esc a).length + 11 := by
  unfold place
  rw [List.length_append, be_len]
  show (2 :: (esc (ofBs a).data.toList ++ [0, 1])).length + 8 = _
  rw [List.length_cons, List.length_append, ofBs_list]
  show (esc a).length + 2 + 1 + 8 = _
  omega
end Go.Cph.Ok
