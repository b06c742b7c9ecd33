/- Stable sorting, plainly: what a row is while one is put into its place. No program in sight. -/
import Derived.Test.YtmnfddmjlkkcoaaSo3
set_option linter.unusedVariables false
set_option linter.unusedSimpArgs false
namespace Go.Cph.So
section
variable {α : Type} {lt : α → α → Bool}
/-- The first t of c are sorted. -/
def insA (lt : α → α → Bool) (p c q : List α) (t : Nat) : List α := p ++ (sortL lt (c.take t) ++ (c.drop t ++ q))
theorem sortL_le_one (c : List α) (h : c.length ≤ 1) : sortL lt c = c := by
  rcases c with _ | ⟨a, _ | ⟨b, c⟩⟩
  · rfl
  · rfl
  · simp at h
theorem insA_start (p c q : List α) : insA lt p c q 1 = p ++ (c ++ q) := by
  unfold insA
  rw [sortL_le_one _ (by simp; omega), ← List.append_assoc (c.take 1), List.take_append_drop]
theorem insA_end (p c q : List α) {t : Nat} (h : c.length ≤ t) : insA lt p c q t = p ++ (sortL lt c ++ q) := by
  unfold insA
  rw [List.take_of_length_le h, List.drop_of_length_le h, List.nil_append]
theorem insA_length (h : Weak lt) (p c q : List α) (t : Nat) : (insA lt p c q t).length = p.length + (c.length + q.length) := by
  unfold insA
  simp only [List.length_append, sortL_length h, List.length_take, List.length_drop]
  omega
/-- .. and the next one moves down. -/
def insB (lt : α → α → Bool) (p c q : List α) (t : Nat) (x : α) (k : Nat) : List α := p ++ (shifted (sortL lt (c.take t)) x k ++ (c.drop (t + 1) ++ q))
theorem take_len {t : Nat} {c : List α} (ht : t < c.length) : (c.take t).length = t := by rw [List.length_take]; omega
theorem insB_start (h : Weak lt) (p c q : List α) {t : Nat} (ht : t < c.length) : insA lt p c q t = insB lt p c q t c[t] t := by
  unfold insA insB shifted
  have hl : (sortL lt (c.take t)).length = t := by rw [sortL_length h, take_len ht]
  have e1 : (sortL lt (c.take t)).take t = sortL lt (c.take t) := List.take_of_length_le (by omega)
  have e2 : (sortL lt (c.take t)).drop t = [] := List.drop_of_length_le (by omega)
  rw [e1, e2, List.drop_eq_getElem_cons ht]
  simp only [List.append_assoc, List.cons_append, List.nil_append]
theorem insB_at (h : Weak lt) (p c q : List α) {t k : Nat} (ht : t < c.length) (x : α) (hk : k ≤ t) : (insB lt p c q t x k)[p.length + k]? = some x := by
  have hl : (sortL lt (c.take t)).length = t := by rw [sortL_length h, take_len ht]
  unfold insB
  rw [get_mid _ _ _ k (by rw [shifted_length _ _ (by omega)]; omega), ← shifted_at (sortL lt (c.take t)) x (j := k) (by omega)]
  exact (List.getElem?_eq_getElem _).symm
theorem insB_prev (h : Weak lt) (p c q : List α) {t k : Nat} (ht : t < c.length) (x : α) (hk : k + 1 ≤ t) : (insB lt p c q t x (k + 1))[p.length + k]? = (sortL lt (c.take t))[k]? := by
  have hl : (sortL lt (c.take t)).length = t := by rw [sortL_length h, take_len ht]
  unfold insB
  rw [get_mid _ _ _ k (by rw [shifted_length _ _ (by omega)]; omega)]
  have := shifted_prev (sortL lt (c.take t)) x (j := k) (by omega)
  rw [List.getElem?_eq_getElem (by rw [shifted_length _ _ (by omega)]; omega)] at this
  rw [this]
  exact (List.getElem?_eq_getElem _).symm
theorem insB_down (h : Weak lt) (p c q : List α) {t k : Nat} (ht : t < c.length) (x y : α) (hk : k + 1 ≤ t) (hy : (sortL lt (c.take t))[k]? = some y) :
    ((insB lt p c q t x (k + 1)).set (p.length + (k + 1)) y).set (p.length + k) x = insB lt p c q t x k := by
  have hl : (sortL lt (c.take t)).length = t := by rw [sortL_length h, take_len ht]
  have hy' : y = (sortL lt (c.take t))[k]'(by omega) := by
    rw [List.getElem?_eq_getElem (by omega)] at hy; exact (Option.some.inj hy).symm
  unfold insB
  rw [set_mid _ _ _ _ (by rw [shifted_length _ _ (by omega)]; omega), set_mid _ _ _ _ (by rw [List.length_set, shifted_length _ _ (by omega)]; omega), hy', shifted_down _ x (by omega)]
theorem insB_end (h : Weak lt) (p c q : List α) {t k : Nat} (ht : t < c.length) (hk : k ≤ t)
    (hlo : ∀ y, 0 < k → (sortL lt (c.take t))[k - 1]? = some y → lt c[t] y = false) (hhi : ∀ i y, k ≤ i → (sortL lt (c.take t))[i]? = some y → lt c[t] y = true) :
    insB lt p c q t c[t] k = insA lt p c q (t + 1) := by
  have hl : (sortL lt (c.take t)).length = t := by rw [sortL_length h, take_len ht]
  have hs := (sortL_is h (c.take t)).1
  unfold insA insB
  rw [List.take_succ_eq_append_getElem ht, sortL_snoc, ins_shift h hs (j := k) (by omega) (fun i hi hik => ?_) (fun i hi hik => hhi i _ hik (List.getElem?_eq_getElem hi))]
  have h0 := hlo _ (by omega) (List.getElem?_eq_getElem (by omega))
  exact h.trans (hs.at (i := i) (j := k - 1) hi (by omega) (by omega) h) h0
end
end Go.Cph.So
