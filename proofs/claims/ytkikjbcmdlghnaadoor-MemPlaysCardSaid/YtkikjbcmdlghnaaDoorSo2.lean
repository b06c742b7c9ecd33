/- Stable sorting, plainly: two sorted rows made one; blocks. No program in sight. -/
import Derived.Test.YtkikjbcmdlghnaaDoorSo1
set_option linter.unusedVariables false
set_option linter.unusedSimpArgs false
namespace Go.Cph.So
section
variable {α : Type} {lt : α → α → Bool}

/-! ### one in front of a sorted row; one behind -/
theorem front_one (h : Weak lt) {y : List α} (hy : Sorted lt y) {x : α} {t : Nat} (ht : t ≤ y.length) (hlo : ∀ i (hi : i < y.length), i < t → lt y[i] x = true) (hhi : ∀ i (hi : i < y.length), t ≤ i → lt y[i] x = false) :
    sortL lt ([x] ++ y) = y.take t ++ x :: y.drop t := by
  refine sortL_eq h ?_ ?_
  · refine Sorted.append (hy.take t) ?_ fun a ha b hb => ?_
    · refine List.pairwise_cons.2 ⟨fun b hb => ?_, hy.drop t⟩
      obtain ⟨i, hi, rfl⟩ := List.getElem_of_mem hb
      rw [List.length_drop] at hi
      rw [List.getElem_drop]
      exact hhi _ (by omega) (by omega)
    · obtain ⟨i, hi, rfl⟩ := List.getElem_of_mem ha
      rw [List.length_take] at hi
      rw [List.getElem_take]
      rcases List.mem_cons.1 hb with rfl | hb
      · exact h.asymm (hlo i (by omega) (by omega))
      · obtain ⟨k, hk, rfl⟩ := List.getElem_of_mem hb
        rw [List.length_drop] at hk
        rw [List.getElem_drop]
        exact hy.at (by omega) (by omega) (by omega) h
  · have e1 : y.take t ++ x :: y.drop t = (y.take t ++ [x]) ++ y.drop t := by simp
    have e2 : [x] ++ y = ([x] ++ y.take t) ++ y.drop t := by rw [List.append_assoc, List.take_append_drop]
    rw [e1, e2]
    refine Same.append (Same.swap h fun a ha b hb => ?_).symm (Same.rfl' _)
    simp at ha
    subst ha
    obtain ⟨i, hi, rfl⟩ := List.getElem_of_mem hb
    rw [List.length_take] at hi
    rw [List.getElem_take]
    exact hlo i (by omega) (by omega)
theorem behind_one (h : Weak lt) {s : List α} (hs : Sorted lt s) {x : α} {j : Nat} (hj : j ≤ s.length) (hlo : ∀ i (hi : i < s.length), i < j → lt x s[i] = false) (hhi : ∀ i (hi : i < s.length), j ≤ i → lt x s[i] = true) :
    sortL lt (s ++ [x]) = shifted s x j := by
  rw [sortL_snoc, sortL_sorted h hs]
  exact ins_shift h hs hj hlo hhi
/-! ### where two sorted rows part -/
theorem sym_split (h : Weak lt) {x y : List α} (hx : Sorted lt x) (hy : Sorted lt y) {s e : Nat} (hs : s ≤ x.length) (he : e ≤ y.length)
    (h1 : ∀ (a : s < x.length) (b : 0 < e), lt (y[e - 1]'(by omega)) x[s] = true) (h2 : ∀ (a : 0 < s) (b : e < y.length), lt y[e] (x[s - 1]'(by omega)) = false) :
    sortL lt (x ++ y) = sortL lt (x.take s ++ y.take e) ++ sortL lt (x.drop s ++ y.drop e) := by
  have hyx : ∀ a ∈ x.drop s, ∀ b ∈ y.take e, lt b a = true := by
    intro a ha b hb
    obtain ⟨i, hi, rfl⟩ := List.getElem_of_mem ha
    obtain ⟨j, hj, rfl⟩ := List.getElem_of_mem hb
    rw [List.length_drop] at hi
    rw [List.length_take] at hj
    rw [List.getElem_drop, List.getElem_take]
    have g := h1 (by omega) (by omega)
    have g1 := hx.at (i := s) (j := s + i) (by omega) (by omega) (by omega) h
    have g2 := hy.at (i := j) (j := e - 1) (by omega) (by omega) (by omega) h
    exact h.lt_of_lt_le (h.lt_of_le_lt g2 g) g1
  refine sortL_eq h ?_ ?_
  · refine Sorted.append (sortL_is h _).1 (sortL_is h _).1 fun a ha b hb => ?_
    rw [mem_sortL h, List.mem_append] at ha hb
    rcases ha with ha | ha <;> rcases hb with hb | hb
    · have := hx
      unfold Sorted at this
      rw [← List.take_append_drop s x, List.pairwise_append] at this
      exact this.2.2 a ha b hb
    · obtain ⟨i, hi, rfl⟩ := List.getElem_of_mem ha
      obtain ⟨j, hj, rfl⟩ := List.getElem_of_mem hb
      rw [List.length_take] at hi
      rw [List.length_drop] at hj
      rw [List.getElem_take, List.getElem_drop]
      have g := h2 (by omega) (by omega)
      have g1 := hx.at (i := i) (j := s - 1) (by omega) (by omega) (by omega) h
      have g2 := hy.at (i := e) (j := e + j) (by omega) (by omega) (by omega) h
      exact h.trans (h.trans g1 g) g2
    · exact h.asymm (hyx b hb a ha)
    · have := hy
      unfold Sorted at this
      rw [← List.take_append_drop e y, List.pairwise_append] at this
      exact this.2.2 a ha b hb
  · refine ((sortL_is h _).2.1.append (sortL_is h _).2.1).trans ?_
    have e1 : x.take s ++ y.take e ++ (x.drop s ++ y.drop e) = x.take s ++ ((y.take e ++ x.drop s) ++ y.drop e) := by simp
    have e2 : x ++ y = x.take s ++ ((x.drop s ++ y.take e) ++ y.drop e) := by
      conv => lhs; rw [← List.take_append_drop s x, ← List.take_append_drop e y]
      simp only [List.append_assoc]
    rw [e1, e2]
    exact (Same.rfl' _).append ((Same.swap h hyx).symm.append (Same.rfl' _))
/-- The test of the search: the document's own order is not asked. -/
def symT (lt : α → α → Bool) (x y : List α) (hh i : Nat) : Prop := ∀ (a : i < x.length) (b : hh - 1 - i < y.length), lt (y[hh - 1 - i]) (x[i]) = true
def symF (lt : α → α → Bool) (x y : List α) (hh i : Nat) : Prop := ∀ (a : i < x.length) (b : hh - 1 - i < y.length), lt (y[hh - 1 - i]) (x[i]) = false
theorem symF_down (h : Weak lt) {x y : List α} (hx : Sorted lt x) (hy : Sorted lt y) {hh i j : Nat} (hij : i ≤ j) (hj : j < x.length) (hjh : j < hh) (hb : hh - 1 - i < y.length) (hf : lt (y[hh - 1 - j]'(by omega)) x[j] = false) : symF lt x y hh i := fun a b => by
  have g1 := hx.at (i := i) (j := j) a hj hij h
  have g2 := hy.at (i := hh - 1 - j) (j := hh - 1 - i) (by omega) b (by omega) h
  exact h.trans (h.trans g1 hf) g2
theorem symT_up (h : Weak lt) {x y : List α} (hx : Sorted lt x) (hy : Sorted lt y) {hh i j : Nat} (hij : i ≤ j) (hi : i < x.length) (hjh : j < hh) (hb : hh - 1 - i < y.length) (hf : lt (y[hh - 1 - i]) x[i] = true) : symT lt x y hh j := fun a b => by
  have g1 := hx.at (i := i) (j := j) hi a hij h
  have g2 := hy.at (i := hh - 1 - j) (j := hh - 1 - i) b hb (by omega) h
  exact h.lt_of_lt_le (h.lt_of_le_lt g2 hf) g1

/-! ### blocks -/
/-- r is l with each of its blocks of so many sorted. -/
inductive Blk (lt : α → α → Bool) (bs : Nat) : List α → List α → Prop
  | nil : Blk lt bs [] []
  | last (c : List α) (h0 : 0 < c.length) (h : c.length ≤ bs) : Blk lt bs c (sortL lt c)
  | cons {l r : List α} (c : List α) (h : c.length = bs) (k : Blk lt bs l r) : Blk lt bs (c ++ l) (sortL lt c ++ r)
theorem Blk.len (h : Weak lt) {bs : Nat} {l r : List α} (k : Blk lt bs l r) : r.length = l.length := by
  induction k with
  | nil => rfl
  | last c h0 hl => exact sortL_length h c
  | cons c hl k ih => rw [List.length_append, List.length_append, sortL_length h, ih]
/-- One block alone. -/
theorem Blk.whole (h : Weak lt) {bs : Nat} {l r : List α} (k : Blk lt bs l r) (hl : l.length ≤ bs) (h0 : 0 < bs) : r = sortL lt l := by
  cases k with
  | nil => rfl
  | last c _ _ => rfl
  | cons c hc k =>
    rename_i l' r'
    rw [List.length_append] at hl
    have e : l' = [] := List.eq_nil_of_length_eq_zero (by omega)
    have e2 : r' = [] := List.eq_nil_of_length_eq_zero (by have := k.len h; rw [this, e]; rfl)
    rw [e, e2, List.append_nil, List.append_nil]
/-- The first two blocks, where there are more than one block. -/
theorem Blk.two (h : Weak lt) {bs : Nat} {l r : List α} (k : Blk lt bs l r) (h0 : 0 < bs) (hl : bs < l.length) :
    ∃ c l' r', l = c ++ l' ∧ r = sortL lt c ++ r' ∧ c.length = bs ∧ Blk lt bs l' r' := by
  cases k with
  | nil => simp at hl
  | last c _ hc => omega
  | cons c hc k => exact ⟨c, _, _, rfl, rfl, hc, k⟩
theorem Blk.one {bs : Nat} {l : List α} (hl : l.length ≤ bs) : Blk lt bs l (sortL lt l) := by
  rcases Nat.eq_zero_or_pos l.length with h | h
  · have : l = [] := List.eq_nil_of_length_eq_zero h
    subst this; exact .nil
  · exact .last l h hl
/-- Whole blocks, and what is behind. -/
inductive Full (lt : α → α → Bool) (bs : Nat) : Nat → List α → List α → Prop
  | nil : Full lt bs 0 [] []
  | snoc {n : Nat} {l r : List α} (k : Full lt bs n l r) (c : List α) (h : c.length = bs) : Full lt bs (n + 1) (l ++ c) (r ++ sortL lt c)
theorem Full.len (h : Weak lt) {bs n : Nat} {l r : List α} (k : Full lt bs n l r) : l.length = n * bs ∧ r.length = n * bs := by
  induction k with
  | nil => simp
  | snoc k c hc ih => rw [List.length_append, List.length_append, sortL_length h, ih.1, ih.2, hc, Nat.succ_mul]; exact ⟨rfl, rfl⟩
theorem Full.blk {bs n : Nat} {l r : List α} (k : Full lt bs n l r) : ∀ {l' r' : List α}, Blk lt bs l' r' → Blk lt bs (l ++ l') (r ++ r') := by
  induction k with
  | nil => intro l' r' h; exact h
  | snoc k c hc ih =>
    intro l' r' h
    rw [List.append_assoc, List.append_assoc]
    exact ih (.cons c hc h)

/-! ### a part of a row set anew -/
theorem set_mid (p l q : List α) (j : Nat) (hj : j < l.length) (v : α) : (p ++ (l ++ q)).set (p.length + j) v = p ++ (l.set j v ++ q) := by
  rw [List.set_append_right _ _ (by omega), Nat.add_sub_cancel_left, List.set_append_left _ _ hj]
theorem get_mid (p l q : List α) (j : Nat) (hj : j < l.length) : (p ++ (l ++ q))[p.length + j]? = some l[j] := by
  rw [List.getElem?_append_right (by omega), Nat.add_sub_cancel_left, List.getElem?_append_left hj]
  exact List.getElem?_eq_getElem hj
end
end Go.Cph.So
