/- Each nought of a text followed by a byte 255: what strings.ReplaceAll makes; what strings.IndexByte finds. No program here. -/
import Derived.Test.YtkikjbcmdlghnaaDoorOx2
import Derived.Lib.Replace
import Derived.Lib.ReplaceLaws
import Derived.Lib.CountLaws
import Derived.Lib.IndexLaws
set_option linter.unusedVariables false
namespace Go.Cph.Ok
open Go Go.RowKit Go.Cph
theorem esc_none {s : Bs} (h : ∀ b ∈ s, b ≠ 0) : esc s = s := by
  induction s with
  | nil => rfl
  | cons b s ih =>
    rw [esc_cons, if_neg (h b (by simp)), ih fun c hc => h c (List.mem_cons_of_mem _ hc)]
    rfl
theorem occ_zero (s : Bs) (j : Nat) : Lib.occAt s [0] j = true ↔ s[j]? = some 0 := by
  unfold Lib.occAt
  rw [List.isPrefixOf_iff_prefix, ← List.getElem?_drop_zero s j]
  cases s.drop j with
  | nil => simp
  | cons c r => simp [List.cons_prefix_cons, eq_comm]
where
  List.getElem?_drop_zero (s : Bs) (j : Nat) : (s.drop j)[0]? = s[j]? := by rw [List.getElem?_drop]; rfl
theorem rep_esc : ∀ (k : Nat) (s : Bs), s.length ≤ k → Lib.replaceK [0] [0, 255] (Lib.count s [0]) s = esc s := by
  intro k
  induction k with
  | zero =>
    intro s hs
    have : s = [] := List.eq_nil_of_length_eq_zero (by omega)
    subst this
    rfl
  | succ k ih =>
    intro s hs
    rcases Lib.index_spec s [0] with ⟨h1, h2⟩ | ⟨i, h1, h2, h3, h4⟩
    · rw [Lib.count_miss h1]
      show s = esc s
      refine (esc_none fun b hb e => ?_).symm
      obtain ⟨j, hj, hbj⟩ := List.mem_iff_getElem.1 hb
      have h5 := h2 j (by omega)
      rw [Bool.eq_false_iff] at h5
      exact h5 ((occ_zero s j).2 (by rw [List.getElem?_eq_getElem hj, hbj, e]))
    · have h5 := (occ_zero s i).1 h3
      obtain ⟨hi, hsi⟩ := List.getElem?_eq_some_iff.1 h5
      have hsplit : s = s.take i ++ 0 :: s.drop (i + 1) := by
        rw [← hsi, List.getElem_cons_drop, List.take_append_drop]
      have hnone : ∀ b ∈ s.take i, b ≠ 0 := fun b hb e => by
        obtain ⟨j, hj, hbj⟩ := List.mem_iff_getElem.1 hb
        have hji : j < i := by rw [List.length_take] at hj; omega
        have h6 := h4 j hji
        rw [Bool.eq_false_iff] at h6
        refine h6 ((occ_zero s j).2 ?_)
        rw [List.getElem_take] at hbj
        rw [List.getElem?_eq_getElem (by omega), hbj, e]
      rw [Lib.count_hit (by simp) h1, Nat.add_comm, Lib.replaceK_hit _ _ _ _ _ h1]
      rw [show i + ([0] : Bs).length = i + 1 from rfl, ih _ (by rw [List.length_drop]; omega)]
      conv => rhs; rw [hsplit, esc_append, esc_none hnone, esc_cons, if_pos rfl]
      rw [List.append_assoc]
theorem replace_esc (s : Bs) : Lib.replaceAll s [0] [0, 255] = esc s := by
  unfold Lib.replaceAll Lib.replace
  rw [if_neg (by decide)]
  unfold Lib.replaceNum
  rw [if_pos (Or.inl (by omega))]
  exact rep_esc s.length s (Nat.le_refl _)
theorem count_zero_le (s : ByteArray) : Lib.countB s ⟨#[0]⟩ ≤ s.size := by
  have := Lib.countB_mul_le ⟨#[0]⟩ (by decide) s.size s (Nat.le_refl _)
  have e : (⟨#[0]⟩ : ByteArray).size = 1 := rfl
  rw [e] at this
  omega
theorem esc_len (s : Bs) : s.length ≤ (esc s).length ∧ (esc s).length ≤ 2 * s.length := by
  induction s with
  | nil => exact ⟨Nat.le_refl _, Nat.le_refl _⟩
  | cons b s ih =>
    rw [esc_cons, List.length_append, List.length_cons]
    split <;> simp <;> omega
end Go.Cph.Ok
