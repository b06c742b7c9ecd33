/- The greatest prefix from an address on, plainly; covers as they grow. No program in sight. -/
import Derived.Test.YtmjjhnfdpiclfaaGreatDoorCp3
set_option linter.unusedVariables false
set_option linter.unusedSimpArgs false
namespace Go.Cph.Px
open Go.Cph.Cv
instance okDec (f t k : Nat) : Decidable (OkB f t k) := decidable_of_iff (2 ^ k ∣ f ∧ f + 2 ^ k ≤ t + 1) ⟨fun h => ⟨h.1, h.2⟩, fun h => ⟨h.al, h.le⟩⟩
theorem can_fam {a b : Ad} (h : CanP a b) : a.1 = 4 ∨ a.1 = 6 := right_fam h.1
theorem num_widF {a : Ad} (h : rightA a = true) : num a < 2 ^ widF a.1 := by rw [widF_wid]; exact num_wid h
/-- One bit less: is it still one that begins with the address, and not above the other one? -/
theorem great_step {a b : Ad} (h : CanP a b) {k : Nat} (hk : k < widF a.1) : ∃ qa : Ad, cutP a (width a.1 - ((k : Int)) - 1) = (qa, width a.1 - ((k + 1 : Nat) : Int)) ∧
    ((qa == a) = false → ¬ OkB (num a) (num b) (k + 1)) ∧ ((qa == a) = true → qa = a ∧ lessA b (lastR (a, width a.1 - ((k + 1 : Nat) : Int))) = !decide (OkB (num a) (num b) (k + 1))) := by
  have hw : widF a.1 = wid a := rfl
  have hf := can_fam h
  have hc := cut_pfN h.1 (k := k + 1) (by omega)
  have e1 : width a.1 - (k : Int) - 1 = width a.1 - ((k + 1 : Nat) : Int) := by omega
  refine ⟨ofNum a.1 (num a / 2 ^ (k + 1) * 2 ^ (k + 1)), by rw [e1, hc]; rfl, fun hq => ?_, fun hq => ?_⟩
  · intro hb
    have : num a / 2 ^ (k + 1) * 2 ^ (k + 1) = num a := aligned.2 hb.al
    rw [this, ofNum_self] at hq
    simp at hq
  · have hq := eq_of_beq hq
    refine ⟨hq, ?_⟩
    have hn : num a / 2 ^ (k + 1) * 2 ^ (k + 1) = num a := by
      have h2 := congrArg num hq
      have h3 := num_lt a
      have h4 := Nat.div_mul_le_self (num a) (2 ^ (k + 1))
      rwa [num_ofNum _ _ (by omega)] at h2
    have hd := aligned.1 hn
    have hlt := num_widF h.1
    have hend : num a + 2 ^ (k + 1) ≤ 2 ^ widF a.1 := by
      obtain ⟨q, hq2⟩ := hd
      have e : 2 ^ widF a.1 = 2 ^ (k + 1) * 2 ^ (widF a.1 - (k + 1)) := by rw [← Nat.pow_add]; congr 1; omega
      rw [hq2, e] at hlt
      rw [hq2, e, ← Nat.mul_succ]
      exact Nat.mul_le_mul_left _ (Nat.lt_of_mul_lt_mul_left hlt)
    obtain ⟨r1, r2, r3⟩ := pfN_rt hf (n := num a) (k := k + 1) (by omega) hd hend
    have ep : pfN a.1 (num a) (k + 1) = (a, width a.1 - ((k + 1 : Nat) : Int)) := Prod.ext ofNum_self rfl
    rw [ep] at r1 r2 r3
    obtain ⟨l1, l2, l3⟩ := lastR_num r1
    rw [r3] at l2
    have hp : 0 < 2 ^ (k + 1) := Nat.pow_pos (by decide)
    rw [less_same (by rw [l1]; exact h.2.2.symm), l2]
    by_cases hb : OkB (num a) (num b) (k + 1)
    · rw [decide_eq_true hb]
      have := hb.le
      rw [decide_eq_false (by show ¬ num b < num a + _; omega)]; rfl
    · rw [decide_eq_false hb]
      have : ¬ num a + 2 ^ (k + 1) ≤ num b + 1 := fun hh => hb ⟨hd, hh⟩
      rw [decide_eq_true (by show num b < num a + _; omega)]; rfl
theorem great_zero (f t : Nat) (h : f ≤ t) : OkB f t 0 := ⟨by rw [Nat.pow_zero]; exact Nat.one_dvd _, by rw [Nat.pow_zero]; omega⟩
theorem pfN_self {a : Ad} (k : Nat) : pfN a.1 (num a) k = (a, width a.1 - (k : Int)) := Prod.ext ofNum_self rfl
/-- A cover that grows: what is done, and where it goes on. -/
structure Grows (a b : Ad) (done : List (Nat × Nat)) (n : Nat) : Prop where
  le : n ≤ 2 ^ widF a.1
  all : ∀ rest, Greedy (widF a.1) (num b) n rest → Greedy (widF a.1) (num b) (num a) (done ++ rest)
theorem Grows.start {a b : Ad} (h : CanP a b) : Grows a b [] (num a) := ⟨Nat.le_of_lt (num_widF h.1), fun rest hr => hr⟩
theorem Grows.step {a b : Ad} {done : List (Nat × Nat)} {n k : Nat} (h : CanP a b) (g : Grows a b done n) (hn : n ≤ num b) (hk : IsGreat (widF a.1) n (num b) k) : Grows a b (done ++ [(n, k)]) (n + 2 ^ k) := by
  have hb := num_widF h.2.1
  rw [← h.2.2] at hb
  have := hk.ok.le
  exact ⟨by omega, fun rest hr => by rw [List.append_assoc]; exact g.all _ (.step hn hk hr)⟩
theorem Grows.small {a b : Ad} {done : List (Nat × Nat)} {n : Nat} (h : CanP a b) (g : Grows a b done n) (hn : n ≤ num b) : done.length < 254 := by
  have hb := num_widF h.2.1
  rw [← h.2.2] at hb
  have hg := greedy_part hn hb
  have hp := hg.pos hn
  have ha := g.all _ hg
  have hab : num a ≤ num b := by
    rcases Nat.lt_or_ge (num b) (num a) with k | k
    · have := ha.nil_of k
      rw [List.append_eq_nil_iff] at this
      rw [this.2] at hp; exact absurd hp (by simp)
    · exact k
  have he := ha.unique (greedy_part hab hb)
  have hl := congrArg List.length he
  rw [List.length_append] at hl
  have hw : 2 ≤ widF a.1 ∧ widF a.1 ≤ 128 := by unfold widF; split <;> omega
  have := part_length (f := num a) hw.1 hb
  omega
theorem Grows.done {a b : Ad} {done : List (Nat × Nat)} {n : Nat} (h : CanP a b) (g : Grows a b done n) (hn : num b < n) : coverP a b = done.map (pfB a.1) := by
  have := g.all [] (.done hn)
  rw [List.append_nil] at this
  exact cover_greedy h this
/-- The address at which it goes on. -/
theorem go_on {a b : Ad} (h : CanP a b) {n : Nat} (hn : n ≤ num b) : CanP (ofNum a.1 n) b ∧ num (ofNum a.1 n) = n := by
  have hb := num_widF h.2.1
  rw [← h.2.2] at hb
  obtain ⟨h1, h2⟩ := ofNum_right (can_fam h) (show n < 2 ^ widF a.1 by omega)
  exact ⟨⟨h1, h.2.1, (ofNum_fam _ _).trans h.2.2⟩, h2⟩
end Go.Cph.Px
