/- Stable sorting, plainly: of alike ones the first; rows that rise are told by what is in them. No program in sight. -/
import Derived.Test.YtkikjbcmdlghnaaDoorSo2
set_option linter.unusedVariables false
set_option linter.unusedSimpArgs false
namespace Go.Cph.So
section
variable {α : Type} {lt : α → α → Bool}
theorem eqv_comm (x y : α) : eqv lt x y = eqv lt y x := by unfold eqv; rw [Bool.and_comm]
theorem Weak.eqv_tr (h : Weak lt) {x y z : α} (h1 : eqv lt x y = true) (h2 : eqv lt y z = true) : eqv lt x z = true := by
  rw [eqv_iff] at h1 h2 ⊢
  exact ⟨h.trans h2.1 h1.1, h.trans h1.2 h2.2⟩
theorem Weak.eqv_left (h : Weak lt) {x y : α} (h1 : eqv lt x y = true) (z : α) : eqv lt z x = eqv lt z y := by
  rw [Bool.eq_iff_iff]
  exact ⟨fun k => h.eqv_tr k h1, fun k => h.eqv_tr k (by rw [eqv_comm]; exact h1)⟩
/-- A row that rises. -/
def Strict (lt : α → α → Bool) (l : List α) : Prop := l.Pairwise fun a b => lt a b = true
theorem Strict.sorted (h : Weak lt) {l : List α} (hs : Strict lt l) : Sorted lt l := List.Pairwise.imp (fun {a b} hab => h.asymm hab) hs
theorem strict_unique (h : Weak lt) : ∀ {l m : List α}, Strict lt l → Strict lt m → (∀ x, x ∈ l ↔ x ∈ m) → l = m
  | [], [], _, _, _ => rfl
  | [], b :: m, _, _, hs => absurd ((hs b).2 List.mem_cons_self) (by simp)
  | a :: l, [], _, _, hs => absurd ((hs a).1 List.mem_cons_self) (by simp)
  | a :: l, b :: m, hl, hm, hs => by
    unfold Strict at hl hm
    rw [List.pairwise_cons] at hl hm
    have hab : a = b := by
      rcases List.mem_cons.1 ((hs a).1 List.mem_cons_self) with e | e
      · exact e
      · rcases List.mem_cons.1 ((hs b).2 List.mem_cons_self) with e2 | e2
        · exact e2.symm
        · have h1 := hm.1 a e
          have h2 := h.asymm (hl.1 b e2)
          rw [h1] at h2; cases h2
    subst hab
    congr 1
    refine strict_unique h hl.2 hm.2 fun x => ?_
    have := hs x
    simp only [List.mem_cons] at this
    constructor
    · intro hx
      rcases this.1 (.inr hx) with e | e
      · subst e; have h1 := hl.1 x hx; rw [h.irrefl] at h1; cases h1
      · exact e
    · intro hx
      rcases this.2 (.inr hx) with e | e
      · subst e; have h1 := hm.1 x hx; rw [h.irrefl] at h1; cases h1
      · exact e

/-! ### of alike ones the first -/
/-- Is it the first of those alike? -/
def Fst (lt : α → α → Bool) (l : List α) (x : α) : Prop := (l.filter (eqv lt x)).head? = some x
theorem Fst.mem {l : List α} {x : α} (h : Fst lt l x) : x ∈ l := by
  have : x ∈ l.filter (eqv lt x) := List.mem_of_mem_head? (by rw [h]; rfl)
  exact (List.mem_filter.1 this).1
theorem Fst.same {l m : List α} (hs : Same lt l m) {x : α} : Fst lt l x ↔ Fst lt m x := by unfold Fst; rw [hs x]
theorem fst_some (h : Weak lt) {l : List α} {x : α} (hx : x ∈ l) : ∃ y, Fst lt l y ∧ eqv lt x y = true := by
  have hm : x ∈ l.filter (eqv lt x) := List.mem_filter.2 ⟨hx, h.eqv_refl x⟩
  cases hf : l.filter (eqv lt x) with
  | nil => rw [hf] at hm; cases hm
  | cons y r =>
    have hy : y ∈ l.filter (eqv lt x) := by rw [hf]; exact List.mem_cons_self
    have hxy := (List.mem_filter.1 hy).2
    refine ⟨y, ?_, hxy⟩
    have e : l.filter (eqv lt y) = l.filter (eqv lt x) := by
      congr 1; funext z
      rw [eqv_comm y z, eqv_comm x z, h.eqv_left (by rw [eqv_comm]; exact hxy)]
    unfold Fst
    rw [e, hf]; rfl
def compA (lt : α → α → Bool) : α → List α → List α
  | _, [] => []
  | p, b :: l => if eqv lt b p then compA lt b l else b :: compA lt b l
def compactL (lt : α → α → Bool) : List α → List α
  | [] => []
  | a :: l => a :: compA lt a l
theorem compA_snoc (lt : α → α → Bool) (x : α) : ∀ (l : List α) (p : α), compA lt p (l ++ [x]) = compA lt p l ++ (if eqv lt x ((p :: l).getLast (by simp)) then [] else [x])
  | [], p => by by_cases h : eqv lt x p = true <;> simp [compA, h]
  | b :: l, p => by
    simp only [List.cons_append, compA]
    have ih := compA_snoc lt x l b
    rw [List.getLast_cons (by simp)]
    split
    · exact ih
    · rw [ih]; rfl
theorem mem_compA (h : Weak lt) {x : α} : ∀ {l : List α} {p : α}, Sorted lt (p :: l) → (x ∈ compA lt p l ↔ eqv lt x p = false ∧ (l.filter (eqv lt x)).head? = some x)
  | [], p, _ => by simp [compA]
  | b :: l, p, hs => by
    unfold Sorted at hs
    rw [List.pairwise_cons] at hs
    have ih := mem_compA h (x := x) (l := l) (p := b) hs.2
    unfold compA
    by_cases hbp : eqv lt b p = true
    · rw [if_pos hbp, ih, h.eqv_left hbp x]
      refine and_congr_right fun hxp => ?_
      rw [List.filter_cons, h.eqv_left hbp x, hxp]
      simp
    · rw [if_neg hbp, List.mem_cons, ih, List.filter_cons]
      by_cases hxb : eqv lt x b = true
      · rw [if_pos hxb, hxb]
        simp only [List.head?_cons, Option.some.injEq, Bool.true_eq_false, false_and, or_false]
        constructor
        · rintro rfl; exact ⟨by simpa using hbp, rfl⟩
        · exact fun k => k.2.symm
      · have hxb' : eqv lt x b = false := by simpa using hxb
        have hne : x ≠ b := fun e => by subst e; rw [h.eqv_refl] at hxb'; cases hxb'
        rw [hxb']
        simp only [hne, false_or, true_and, Bool.false_eq_true, if_false]
        constructor
        · intro hh
          refine ⟨?_, hh⟩
          have hxl : x ∈ l := (Fst.mem (lt := lt) hh)
          cases hxp : eqv lt x p with
          | false => rfl
          | true =>
            exfalso; apply hbp
            have hr := hs.2
            rw [List.pairwise_cons] at hr
            have h1 := hs.1 b List.mem_cons_self
            have h2 := hr.1 x hxl
            obtain ⟨h3, h4⟩ := eqv_iff.1 hxp
            exact eqv_iff.2 ⟨h1, h.trans h2 h4⟩
        · exact fun k => k.2
theorem mem_compactL (h : Weak lt) {x : α} {l : List α} (hs : Sorted lt l) : x ∈ compactL lt l ↔ Fst lt l x := by
  cases l with
  | nil => simp [compactL, Fst]
  | cons a l =>
    unfold compactL Fst
    rw [List.mem_cons, mem_compA h hs, List.filter_cons]
    by_cases hxa : eqv lt x a = true
    · rw [if_pos hxa, hxa]; simp; exact ⟨fun e => e.symm, fun e => e.symm⟩
    · have hxa' : eqv lt x a = false := by simpa using hxa
      have hne : x ≠ a := fun e => by subst e; rw [h.eqv_refl] at hxa'; cases hxa'
      rw [hxa']; simp [hne]
theorem compA_sub (lt : α → α → Bool) : ∀ (l : List α) (p : α), (compA lt p l).Sublist l
  | [], _ => List.Sublist.slnil
  | b :: l, p => by
    unfold compA
    split
    · exact (compA_sub lt l b).cons _
    · exact (compA_sub lt l b).cons_cons _
theorem compactL_sub (lt : α → α → Bool) (l : List α) : (compactL lt l).Sublist l := by
  cases l with
  | nil => exact List.Sublist.slnil
  | cons a l => exact (compA_sub lt l a).cons_cons _
theorem compA_strict (h : Weak lt) : ∀ {l : List α} {p : α}, Sorted lt (p :: l) → Strict lt (p :: compA lt p l)
  | [], p, _ => by simp [compA, Strict]
  | b :: l, p, hs => by
    unfold Sorted at hs
    rw [List.pairwise_cons] at hs
    have ih := compA_strict h (l := l) (p := b) hs.2
    unfold Strict at ih ⊢
    rw [List.pairwise_cons] at ih
    unfold compA
    by_cases hbp : eqv lt b p = true
    · rw [if_pos hbp, List.pairwise_cons]
      exact ⟨fun x hx => h.lt_of_le_lt (eqv_iff.1 hbp).1 (ih.1 x hx), ih.2⟩
    · rw [if_neg hbp, List.pairwise_cons, List.pairwise_cons]
      have hpb : lt p b = true := by
        have h1 := hs.1 b List.mem_cons_self
        cases k : lt p b with
        | true => rfl
        | false => exact absurd (eqv_iff.2 ⟨h1, k⟩) hbp
      refine ⟨fun x hx => ?_, ih⟩
      rcases List.mem_cons.1 hx with rfl | hx
      · exact hpb
      · exact h.lt_of_lt_le hpb (h.asymm (ih.1 x hx))
theorem compactL_strict (h : Weak lt) {l : List α} (hs : Sorted lt l) : Strict lt (compactL lt l) := by
  cases l with
  | nil => exact List.Pairwise.nil
  | cons a l => exact compA_strict h hs
theorem strict_fst (h : Weak lt) {l : List α} (hs : Strict lt l) {x : α} (hx : x ∈ l) : Fst lt l x := by
  obtain ⟨y, hy, hxy⟩ := fst_some h hx
  have hyl := hy.mem
  have hxe : x = y := by
    obtain ⟨i, hi, rfl⟩ := List.getElem_of_mem hx
    obtain ⟨j, hj, rfl⟩ := List.getElem_of_mem hyl
    obtain ⟨h1, h2⟩ := eqv_iff.1 hxy
    rcases Nat.lt_trichotomy i j with hlt | rfl | hlt
    · have := List.pairwise_iff_getElem.1 hs i j hi hj hlt; rw [h1] at this; cases this
    · rfl
    · have := List.pairwise_iff_getElem.1 hs j i hj hi hlt; rw [h2] at this; cases this
  rw [hxe]; exact hy

/-- Lists put together: sorted, of alike ones the first. -/
def mergeL (lt : α → α → Bool) (l : List α) : List α := compactL lt (sortL lt l)
theorem mergeL_strict (h : Weak lt) (l : List α) : Strict lt (mergeL lt l) := compactL_strict h (sortL_is h l).1
theorem mem_mergeL (h : Weak lt) {l : List α} {x : α} : x ∈ mergeL lt l ↔ Fst lt l x := by
  unfold mergeL
  rw [mem_compactL h (sortL_is h l).1]
  exact Fst.same (sortL_is h l).2.1
theorem mergeL_eq (h : Weak lt) {l m : List α} (hm : Strict lt m) (hs : ∀ x, x ∈ m ↔ Fst lt l x) : mergeL lt l = m :=
  strict_unique h (mergeL_strict h l) hm fun x => by rw [mem_mergeL h, hs x]
theorem mergeL_length (h : Weak lt) (l : List α) : (mergeL lt l).length ≤ l.length := by
  have := (compactL_sub lt (sortL lt l)).length_le
  rw [sortL_length h] at this
  exact this
theorem mergeL_self (h : Weak lt) {l : List α} (hs : Strict lt l) : mergeL lt l = l :=
  mergeL_eq h hs fun x => ⟨strict_fst h hs, Fst.mem⟩
end
end Go.Cph.So
