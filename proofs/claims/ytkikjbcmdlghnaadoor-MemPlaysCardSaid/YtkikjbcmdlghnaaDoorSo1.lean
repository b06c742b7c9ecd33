/- Stable sorting, plainly: lists put in the order of a weak order, alike ones as they stood. No program in sight. -/
namespace Go.Cph.So

/-- A strict weak order, as a test. -/
structure Weak {α : Type} (lt : α → α → Bool) : Prop where
  asymm : ∀ {a b}, lt a b = true → lt b a = false
  trans : ∀ {a b c}, lt b a = false → lt c b = false → lt c a = false
section
variable {α : Type} {lt : α → α → Bool}
def eqv (lt : α → α → Bool) (x y : α) : Bool := !lt x y && !lt y x
def Sorted (lt : α → α → Bool) (l : List α) : Prop := l.Pairwise fun a b => lt b a = false
def Same (lt : α → α → Bool) (l m : List α) : Prop := ∀ x, l.filter (eqv lt x) = m.filter (eqv lt x)
theorem Weak.irrefl (h : Weak lt) (a : α) : lt a a = false := by
  cases hc : lt a a with
  | false => rfl
  | true => have := h.asymm hc; rw [hc] at this; exact this
theorem Weak.lt_of_lt_le (h : Weak lt) {a b c : α} (h1 : lt a b = true) (h2 : lt c b = false) : lt a c = true := by
  cases hc : lt a c with
  | true => rfl
  | false => have := h.trans h2 hc; rw [h1] at this; cases this
theorem Weak.lt_of_le_lt (h : Weak lt) {a b c : α} (h1 : lt b a = false) (h2 : lt b c = true) : lt a c = true := by
  cases hc : lt a c with
  | true => rfl
  | false => have := h.trans hc h1; rw [h2] at this; cases this
theorem eqv_iff {x y : α} : eqv lt x y = true ↔ lt x y = false ∧ lt y x = false := by simp [eqv]
theorem Weak.eqv_refl (h : Weak lt) (x : α) : eqv lt x x = true := eqv_iff.2 ⟨h.irrefl x, h.irrefl x⟩
theorem Weak.eqv_trans (h : Weak lt) {x y z : α} (h1 : eqv lt x y = true) (h2 : eqv lt x z = true) : lt y z = false ∧ lt z y = false := by
  obtain ⟨a, b⟩ := eqv_iff.1 h1
  obtain ⟨c, d⟩ := eqv_iff.1 h2
  exact ⟨h.trans c b, h.trans a d⟩
theorem Same.rfl' (l : List α) : Same lt l l := fun _ => rfl
theorem Same.symm {l m : List α} (h : Same lt l m) : Same lt m l := fun x => (h x).symm
theorem Same.trans {l m k : List α} (h : Same lt l m) (g : Same lt m k) : Same lt l k := fun x => (h x).trans (g x)
theorem Same.append {l m l' m' : List α} (h : Same lt l l') (g : Same lt m m') : Same lt (l ++ m) (l' ++ m') := fun x => by rw [List.filter_append, List.filter_append, h x, g x]
theorem Same.mem (h : Weak lt) {l m : List α} (hs : Same lt l m) {x : α} (hx : x ∈ l) : x ∈ m := by
  have : x ∈ l.filter (eqv lt x) := List.mem_filter.2 ⟨hx, h.eqv_refl x⟩
  rw [hs x] at this
  exact (List.mem_filter.1 this).1
/-- Two rows the one of which is ahead of the other change places. -/
theorem Same.swap (h : Weak lt) {x y : List α} (hs : ∀ a ∈ x, ∀ b ∈ y, lt b a = true) : Same lt (x ++ y) (y ++ x) := by
  intro z
  rw [List.filter_append, List.filter_append]
  by_cases hx : x.filter (eqv lt z) = []
  · rw [hx]; simp
  · have hy : y.filter (eqv lt z) = [] := by
      rw [List.filter_eq_nil_iff]
      intro b hb hc
      obtain ⟨a, ha⟩ := List.exists_mem_of_ne_nil _ hx
      obtain ⟨ha1, ha2⟩ := List.mem_filter.1 ha
      have h1 := h.eqv_trans ha2 hc
      have h2 := hs a ha1 b hb
      rw [h2] at h1; exact absurd h1.2 (by decide)
    rw [hy]; simp
theorem same_unique (h : Weak lt) : ∀ {l m : List α}, Sorted lt l → Sorted lt m → Same lt l m → l = m
  | [], [], _, _, _ => rfl
  | [], b :: m, _, _, hs => absurd (hs.symm.mem h (List.mem_cons_self)) (by simp)
  | a :: l, [], _, _, hs => absurd (hs.mem h (List.mem_cons_self)) (by simp)
  | a :: l, b :: m, hl, hm, hs => by
    unfold Sorted at hl hm
    rw [List.pairwise_cons] at hl hm
    have h1 : lt a b = false := by
      rcases List.mem_cons.1 (hs.mem h (List.mem_cons_self (a := a) (l := l))) with e | e
      · rw [e]; exact h.irrefl b
      · exact hm.1 a e
    have h2 : lt b a = false := by
      rcases List.mem_cons.1 (hs.symm.mem h (List.mem_cons_self (a := b) (l := m))) with e | e
      · rw [e]; exact h.irrefl a
      · exact hl.1 b e
    have hab : a = b := by
      have := hs a
      rw [List.filter_cons_of_pos (h.eqv_refl a), List.filter_cons_of_pos (eqv_iff.2 ⟨h1, h2⟩)] at this
      exact (List.cons.inj this).1
    subst hab
    congr 1
    refine same_unique h hl.2 hm.2 fun x => ?_
    have := hs x
    rw [List.filter_cons, List.filter_cons] at this
    split at this
    · exact (List.cons.inj this).2
    · exact this

/-! ### the sorted list -/
def ins (lt : α → α → Bool) (x : α) : List α → List α
  | [] => [x]
  | y :: l => if lt x y then x :: y :: l else y :: ins lt x l
def sortL (lt : α → α → Bool) : List α → List α := fun l => l.foldl (fun s x => ins lt x s) []
theorem mem_ins {x y : α} : ∀ {l : List α}, y ∈ ins lt x l ↔ y = x ∨ y ∈ l
  | [] => by simp [ins]
  | z :: l => by
    unfold ins
    split
    · simp
    · simp only [List.mem_cons, mem_ins (l := l)]
      constructor
      · rintro (h | h | h)
        · exact .inr (.inl h)
        · exact .inl h
        · exact .inr (.inr h)
      · rintro (h | h | h)
        · exact .inr (.inl h)
        · exact .inl h
        · exact .inr (.inr h)
theorem ins_length (x : α) : ∀ l : List α, (ins lt x l).length = l.length + 1
  | [] => rfl
  | z :: l => by
    unfold ins
    split
    · rfl
    · simp [ins_length x l]
theorem ins_sorted (h : Weak lt) (x : α) : ∀ {l : List α}, Sorted lt l → Sorted lt (ins lt x l)
  | [], _ => by simp [ins, Sorted]
  | z :: l, hs => by
    unfold Sorted at hs ⊢
    rw [List.pairwise_cons] at hs
    unfold ins
    split
    · rename_i hc
      rw [List.pairwise_cons, List.pairwise_cons]
      refine ⟨fun y hy => ?_, hs⟩
      rcases List.mem_cons.1 hy with rfl | hy
      · exact h.asymm hc
      · exact h.trans (h.asymm hc) (hs.1 y hy)
    · rename_i hc
      rw [List.pairwise_cons]
      refine ⟨fun y hy => ?_, ins_sorted h x hs.2⟩
      rcases mem_ins.1 hy with rfl | hy
      · simpa using hc
      · exact hs.1 y hy
theorem ins_same (h : Weak lt) (x : α) : ∀ {l : List α}, Sorted lt l → Same lt (ins lt x l) (l ++ [x])
  | [], _ => Same.rfl' _
  | z :: l, hs => by
    unfold Sorted at hs
    rw [List.pairwise_cons] at hs
    unfold ins
    split
    · rename_i hc
      refine (Same.swap h (x := z :: l) (y := [x]) fun a ha b hb => ?_).symm
      simp at hb
      subst hb
      rcases List.mem_cons.1 ha with rfl | ha
      · exact hc
      · exact h.lt_of_lt_le hc (hs.1 a ha)
    · intro y
      have := ins_same h x hs.2 y
      rw [List.cons_append, List.filter_cons, List.filter_cons, this]
theorem sortL_snoc (l : List α) (x : α) : sortL lt (l ++ [x]) = ins lt x (sortL lt l) := by unfold sortL; rw [List.foldl_append]; rfl
theorem sortL_is (h : Weak lt) (l : List α) : Sorted lt (sortL lt l) ∧ Same lt (sortL lt l) l ∧ (sortL lt l).length = l.length := by
  suffices k : ∀ r : List α, Sorted lt (sortL lt r.reverse) ∧ Same lt (sortL lt r.reverse) r.reverse ∧ (sortL lt r.reverse).length = r.reverse.length by simpa using k l.reverse
  intro r
  induction r with
  | nil => exact ⟨List.Pairwise.nil, Same.rfl' _, rfl⟩
  | cons x r ih =>
    obtain ⟨h1, h2, h3⟩ := ih
    rw [List.reverse_cons, sortL_snoc]
    exact ⟨ins_sorted h x h1, (ins_same h x h1).trans (h2.append (Same.rfl' _)), by rw [ins_length, h3]; simp⟩
theorem sortL_eq (h : Weak lt) {l m : List α} (hs : Sorted lt m) (hm : Same lt m l) : sortL lt l = m :=
  same_unique h (sortL_is h l).1 hs ((sortL_is h l).2.1.trans hm.symm)
theorem sortL_same (h : Weak lt) {l m : List α} (hs : Same lt l m) : sortL lt l = sortL lt m := sortL_eq h (sortL_is h m).1 ((sortL_is h m).2.1.trans hs.symm)
theorem sortL_sorted (h : Weak lt) {l : List α} (hs : Sorted lt l) : sortL lt l = l := sortL_eq h hs (Same.rfl' _)
theorem sortL_length (h : Weak lt) (l : List α) : (sortL lt l).length = l.length := (sortL_is h l).2.2
theorem mem_sortL (h : Weak lt) {l : List α} {x : α} : x ∈ sortL lt l ↔ x ∈ l := ⟨fun hx => (sortL_is h l).2.1.mem h hx, fun hx => (sortL_is h l).2.1.symm.mem h hx⟩
theorem sortL_pair (h : Weak lt) (l m : List α) : sortL lt (sortL lt l ++ sortL lt m) = sortL lt (l ++ m) := sortL_same h ((sortL_is h l).2.1.append (sortL_is h m).2.1)
theorem Sorted.append {l m : List α} (hl : Sorted lt l) (hm : Sorted lt m) (hx : ∀ a ∈ l, ∀ b ∈ m, lt b a = false) : Sorted lt (l ++ m) := List.pairwise_append.2 ⟨hl, hm, hx⟩
theorem Sorted.take {l : List α} (h : Sorted lt l) (k : Nat) : Sorted lt (l.take k) := h.sublist (List.take_sublist _ _)
theorem Sorted.drop {l : List α} (h : Sorted lt l) (k : Nat) : Sorted lt (l.drop k) := h.sublist (List.drop_sublist _ _)
theorem Sorted.at {l : List α} (h : Sorted lt l) {i j : Nat} (hi : i < l.length) (hj : j < l.length) (hle : i ≤ j) (hw : Weak lt) : lt l[j] l[i] = false := by
  rcases Nat.lt_or_ge i j with hlt | hge
  · exact List.pairwise_iff_getElem.1 h i j hi hj hlt
  · have : i = j := by omega
    subst this; exact hw.irrefl _

/-! ### one put into its place -/
/-- A list that is sorted but for its last one, which was moved down past some: what stands now. -/
def shifted (s : List α) (x : α) (j : Nat) : List α := s.take j ++ x :: s.drop j
theorem ins_shift (h : Weak lt) {s : List α} (hs : Sorted lt s) {x : α} {j : Nat} (hj : j ≤ s.length) (hlo : ∀ i (hi : i < s.length), i < j → lt x s[i] = false) (hhi : ∀ i (hi : i < s.length), j ≤ i → lt x s[i] = true) : ins lt x s = shifted s x j := by
  refine same_unique h (ins_sorted h x hs) ?_ ((ins_same h x hs).trans ?_)
  · unfold shifted
    refine Sorted.append (hs.take j) ?_ fun a ha b hb => ?_
    · refine List.pairwise_cons.2 ⟨fun b hb => ?_, hs.drop j⟩
      obtain ⟨i, hi, rfl⟩ := List.getElem_of_mem hb
      rw [List.length_drop] at hi
      rw [List.getElem_drop]
      exact h.asymm (hhi _ (by omega) (by omega))
    · obtain ⟨i, hi, rfl⟩ := List.getElem_of_mem ha
      rw [List.length_take] at hi
      rw [List.getElem_take]
      rcases List.mem_cons.1 hb with rfl | hb
      · exact hlo i (by omega) (by omega)
      · obtain ⟨k, hk, rfl⟩ := List.getElem_of_mem hb
        rw [List.length_drop] at hk
        rw [List.getElem_drop]
        exact hs.at (by omega) (by omega) (by omega) h
  · have e : s ++ [x] = s.take j ++ (s.drop j ++ [x]) := by rw [← List.append_assoc, List.take_append_drop]
    rw [e]
    unfold shifted
    refine (Same.rfl' _).append (Same.swap h (x := s.drop j) (y := [x]) fun a ha b hb => ?_)
    simp at hb
    subst hb
    obtain ⟨i, hi, rfl⟩ := List.getElem_of_mem ha
    rw [List.length_drop] at hi
    rw [List.getElem_drop]
    exact hhi _ (by omega) (by omega)
theorem shifted_length (s : List α) (x : α) {j : Nat} (hj : j ≤ s.length) : (shifted s x j).length = s.length + 1 := by unfold shifted; simp; omega
theorem shifted_at (s : List α) (x : α) {j : Nat} (hj : j ≤ s.length) : (shifted s x j)[j]? = some x := by
  unfold shifted
  rw [List.getElem?_append_right (by rw [List.length_take]; omega), List.length_take, Nat.min_eq_left hj, Nat.sub_self]
  rfl
theorem shifted_prev (s : List α) (x : α) {j : Nat} (hj : j + 1 ≤ s.length) : (shifted s x (j + 1))[j]? = some (s[j]'(by omega)) := by
  unfold shifted
  rw [List.getElem?_append_left (by simp; omega), List.getElem?_take, if_pos (by omega)]
  exact List.getElem?_eq_getElem (by omega)
theorem shifted_down (s : List α) (x : α) {j : Nat} (hj : j < s.length) : ((shifted s x (j + 1)).set (j + 1) s[j]).set j x = shifted s x j := by
  unfold shifted
  have hl : (s.take (j + 1)).length = j + 1 := by simp; omega
  rw [List.set_append_right _ _ (by omega), hl, Nat.sub_self, List.set_cons_zero, List.set_append_left _ _ (by omega), List.take_succ_eq_append_getElem hj, List.set_append_right _ _ (by simp; omega)]
  have e : j - (s.take j).length = 0 := by simp; omega
  rw [e, List.set_cons_zero, List.append_assoc, List.drop_eq_getElem_cons hj]
  rfl
end
end Go.Cph.So
