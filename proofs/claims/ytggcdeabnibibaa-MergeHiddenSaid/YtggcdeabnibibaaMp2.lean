/- The document's way to put lists together, plainly: of alike ones the first; one by one into their places. -/
import Derived.Test.YtggcdeabnibibaaMp1
set_option linter.unusedVariables false
set_option linter.unusedSimpArgs false
namespace Go.Proofs.Try.Mg
open Go.RowKit Go.Cph Go.Cph.Skip Go.Cph.So

def stepF (acc : List Ent) (e : Ent) : List Ent := if acc.any (eqv ltE e) then acc else acc ++ [e]
def firstsL (l : List Ent) : List Ent := l.foldl stepF []
theorem firstsL_snoc (l : List Ent) (e : Ent) : firstsL (l ++ [e]) = stepF (firstsL l) e := by unfold firstsL; rw [List.foldl_append]; rfl
theorem fst_snoc (l : List Ent) (e x : Ent) : Fst ltE (l ++ [e]) x ↔ Fst ltE l x ∨ (l.filter (eqv ltE x) = [] ∧ eqv ltE x e = true ∧ x = e) := by
  unfold Fst
  rw [List.filter_append]
  cases h : l.filter (eqv ltE x) with
  | nil =>
    by_cases hx : eqv ltE x e = true
    · simp [hx, eq_comm]
    · have hx' : eqv ltE x e = false := by simpa using hx
      simp [hx']
  | cons a r => simp
theorem firsts_is (l : List Ent) : (firstsL l).Pairwise (fun a b => eqv ltE a b = false) ∧ ∀ x, x ∈ firstsL l ↔ Fst ltE l x := by
  suffices k : ∀ r : List Ent, (firstsL r.reverse).Pairwise (fun a b => eqv ltE a b = false) ∧ ∀ x, x ∈ firstsL r.reverse ↔ Fst ltE r.reverse x by simpa using k l.reverse
  intro r
  induction r with
  | nil => exact ⟨List.Pairwise.nil, fun x => by simp [firstsL, Fst]⟩
  | cons e r ih =>
    obtain ⟨h1, h2⟩ := ih
    rw [List.reverse_cons, firstsL_snoc]
    generalize r.reverse = l at *
    unfold stepF
    by_cases ha : (firstsL l).any (eqv ltE e) = true
    · rw [if_pos ha]
      refine ⟨h1, fun x => ?_⟩
      rw [h2, fst_snoc]
      constructor
      · exact .inl
      · rintro (h | ⟨h3, -, rfl⟩)
        · exact h
        · exfalso
          rw [List.any_eq_true] at ha
          obtain ⟨y, hy, hxy⟩ := ha
          have hyl := ((h2 y).1 hy).mem
          have : y ∈ l.filter (eqv ltE x) := List.mem_filter.2 ⟨hyl, hxy⟩
          rw [h3] at this; cases this
    · rw [if_neg ha]
      have hn : ∀ y ∈ firstsL l, eqv ltE e y = false := by
        intro y hy
        cases h : eqv ltE e y with
        | false => rfl
        | true => exact absurd (List.any_eq_true.2 ⟨y, hy, h⟩) ha
      have hln : l.filter (eqv ltE e) = [] := by
        rw [List.filter_eq_nil_iff]
        intro y hy hc
        obtain ⟨z, hz, hyz⟩ := fst_some weakE hy
        have := hn z ((h2 z).2 hz)
        rw [weakE.eqv_tr hc hyz] at this; cases this
      refine ⟨List.pairwise_append.2 ⟨h1, by simp, fun a ha' b hb => ?_⟩, fun x => ?_⟩
      · simp at hb; subst hb; rw [eqv_comm]; exact hn a ha'
      · rw [List.mem_append, h2, fst_snoc]
        refine or_congr_right ?_
        simp only [List.mem_singleton]
        constructor
        · rintro rfl; exact ⟨hln, weakE.eqv_refl _, rfl⟩
        · exact fun h => h.2.2
theorem firstsL_le (l : List Ent) : (firstsL l).length ≤ l.length := by
  suffices k : ∀ r : List Ent, (firstsL r.reverse).length ≤ r.reverse.length by simpa using k l.reverse
  intro r
  induction r with
  | nil => simp [firstsL]
  | cons e r ih =>
    rw [List.reverse_cons, firstsL_snoc]
    unfold stepF
    split <;> simp at ih ⊢ <;> omega
def insD (s : List Ent) (x : Ent) : List Ent := s.takeWhile (fun y => ltE y x) ++ x :: s.dropWhile (fun y => ltE y x)
def sortD (l : List Ent) : List Ent := l.foldl insD []
theorem sortD_snoc (l : List Ent) (x : Ent) : sortD (l ++ [x]) = insD (sortD l) x := by unfold sortD; rw [List.foldl_append]; rfl
theorem insD_length (s : List Ent) (x : Ent) : (insD s x).length = s.length + 1 := by
  unfold insD
  have := congrArg List.length (List.takeWhile_append_dropWhile (p := fun y => ltE y x) (l := s))
  rw [List.length_append] at this
  rw [List.length_append, List.length_cons]; omega
theorem sortD_length (l : List Ent) : (sortD l).length = l.length := by
  suffices k : ∀ r : List Ent, (sortD r.reverse).length = r.reverse.length by simpa using k l.reverse
  intro r
  induction r with
  | nil => rfl
  | cons e r ih => rw [List.reverse_cons, sortD_snoc, insD_length, ih]; simp
theorem mem_insD (s : List Ent) (x y : Ent) : y ∈ insD s x ↔ y = x ∨ y ∈ s := by
  unfold insD
  have := List.takeWhile_append_dropWhile (p := fun y => ltE y x) (l := s)
  conv => rhs; rw [← this]
  simp only [List.mem_append, List.mem_cons]
  constructor
  · rintro (h | h | h)
    · exact .inr (.inl h)
    · exact .inl h
    · exact .inr (.inr h)
  · rintro (h | h | h)
    · exact .inr (.inl h)
    · exact .inl h
    · exact .inr (.inr h)
theorem takeWhile_all {α : Type} {p : α → Bool} : ∀ {l : List α} {y : α}, y ∈ l.takeWhile p → p y = true
  | [], y, h => by simp at h
  | a :: l, y, h => by
    rw [List.takeWhile_cons] at h
    split at h
    · rename_i ha
      rcases List.mem_cons.1 h with rfl | h
      · exact ha
      · exact takeWhile_all h
    · simp at h
theorem dropWhile_first {α : Type} {p : α → Bool} : ∀ {l : List α} {y : α} {r : List α}, l.dropWhile p = y :: r → p y = false
  | [], y, r, h => by simp at h
  | a :: l, y, r, h => by
    rw [List.dropWhile_cons] at h
    split at h
    · exact dropWhile_first h
    · rename_i ha; injection h with h1 _; subst h1; simpa using ha
theorem insD_strict {s : List Ent} (hs : Strict ltE s) {x : Ent} (hx : ∀ y ∈ s, eqv ltE x y = false) : Strict ltE (insD s x) := by
  have e := List.takeWhile_append_dropWhile (p := fun y => ltE y x) (l := s)
  have hs' := hs
  rw [← e] at hs'
  unfold Strict at hs' ⊢
  rw [List.pairwise_append] at hs'
  obtain ⟨h1, h2, h3⟩ := hs'
  have hd : ∀ y ∈ s.dropWhile (fun y => ltE y x), ltE x y = true := by
    intro y hy
    have hne := hx y (by rw [← e]; exact List.mem_append_right _ hy)
    have hle : ltE y x = false := by
      cases hdw : s.dropWhile (fun y => ltE y x) with
      | nil => rw [hdw] at hy; cases hy
      | cons z r =>
        have hz := dropWhile_first hdw
        rw [hdw] at hy h2
        rcases List.mem_cons.1 hy with rfl | hy
        · exact hz
        · have hzy := (List.pairwise_cons.1 h2).1 y hy
          cases hyx : ltE y x with
          | false => rfl
          | true => have := weakE.lt_of_lt_le hzy (weakE.asymm hyx); rw [hz] at this; cases this
    cases hxy : ltE x y with
    | true => rfl
    | false => have := eqv_iff.2 ⟨hxy, hle⟩; rw [hne] at this; cases this
  unfold insD
  rw [List.pairwise_append, List.pairwise_cons]
  refine ⟨h1, ⟨hd, h2⟩, fun a ha b hb => ?_⟩
  have hax : ltE a x = true := takeWhile_all (p := fun y => ltE y x) ha
  rcases List.mem_cons.1 hb with rfl | hb
  · exact hax
  · exact h3 a ha b hb
theorem sortD_is {l : List Ent} (h : l.Pairwise (fun a b => eqv ltE a b = false)) : Strict ltE (sortD l) ∧ ∀ x, x ∈ sortD l ↔ x ∈ l := by
  suffices k : ∀ r : List Ent, r.reverse.Pairwise (fun a b => eqv ltE a b = false) → Strict ltE (sortD r.reverse) ∧ ∀ x, x ∈ sortD r.reverse ↔ x ∈ r.reverse by
    have := k l.reverse (by simpa using h); simpa using this
  intro r
  induction r with
  | nil => intro _; exact ⟨List.Pairwise.nil, fun x => by simp [sortD]⟩
  | cons e r ih =>
    intro hr
    rw [List.reverse_cons] at hr ⊢
    rw [List.pairwise_append] at hr
    obtain ⟨h1, h2⟩ := ih hr.1
    rw [sortD_snoc]
    refine ⟨insD_strict h1 fun y hy => ?_, fun x => ?_⟩
    · rw [eqv_comm]; exact hr.2.2 y ((h2 y).1 hy) e (by simp)
    · rw [mem_insD, h2, List.mem_append]; simp [or_comm]
theorem mergeD (l : List Ent) : sortD (firstsL l) = mergeL ltE l := by
  obtain ⟨h1, h2⟩ := firsts_is l
  obtain ⟨h3, h4⟩ := sortD_is h1
  exact (mergeL_eq weakE h3 fun x => by rw [h4, h2]).symm
theorem takeWhile_at {α : Type} {p : α → Bool} {l : List α} {k : Nat} (hk : k ≤ l.length) (h : ∀ j (hj : j < l.length), j < k → p l[j] = true) (hs : ∀ (h : k < l.length), p l[k] = false) : l.takeWhile p = l.take k ∧ l.dropWhile p = l.drop k := by
  induction l generalizing k with
  | nil => simp at hk; subst hk; simp
  | cons a l ih =>
    cases k with
    | zero => have := hs (by simp); simp only [List.getElem_cons_zero] at this; simp [this]
    | succ k =>
      have ha := h 0 (by simp) (by omega)
      simp only [List.getElem_cons_zero] at ha
      obtain ⟨h1, h2⟩ := ih (k := k) (by simpa using hk) (fun j hj hjk => by have := h (j + 1) (by simpa using hj) (by omega); simpa using this) (fun hk' => by have := hs (by simpa using hk'); simpa using this)
      simp [ha, h1, h2]
end Go.Proofs.Try.Mg
