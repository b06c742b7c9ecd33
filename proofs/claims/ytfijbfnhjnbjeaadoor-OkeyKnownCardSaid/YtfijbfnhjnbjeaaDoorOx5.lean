/- What is read of a text: nought by nought. No program here. -/
import Derived.Test.YtfijbfnhjnbjeaaDoorOx4
set_option linter.unusedVariables false
namespace Go.Cph.Ok
open Go Go.RowKit Go.Cph
theorem text_none : ∀ {l : Bs}, (∀ b ∈ l, b ≠ 0) → readText l = none
  | [], _ => rfl
  | [c], _ => rfl
  | c :: d :: r, h => by
    rw [readText, if_neg (h c (by simp)), text_none (l := d :: r) fun b hb => h b (List.mem_cons_of_mem _ hb)]
    rfl
theorem text_pre : ∀ {p r : Bs}, (∀ b ∈ p, b ≠ 0) → r ≠ [] → readText (p ++ r) = (readText r).map fun x => (p ++ x.1, x.2)
  | [], r, _, _ => by
    rw [List.nil_append]
    cases readText r <;> rfl
  | c :: p, r, h, hr => by
    have ih := text_pre (p := p) (r := r) (fun b hb => h b (List.mem_cons_of_mem _ hb)) hr
    rw [List.cons_append]
    cases hs : p ++ r with
    | nil => simp at hs; exact absurd hs.2 hr
    | cons d t =>
      rw [readText, if_neg (h c (by simp)), ← hs, ih]
      cases readText r <;> rfl
theorem byte_split {l : Bs} {i : Nat} (h : Lib.indexByte l 0 = i) : i < l.length ∧ l = l.take i ++ 0 :: l.drop (i + 1) ∧ ∀ b ∈ l.take i, b ≠ 0 := by
  obtain ⟨h1, h2⟩ := Lib.indexByte_some h
  obtain ⟨hi, hsi⟩ := List.getElem?_eq_some_iff.1 h1
  refine ⟨hi, ?_, fun b hb e => ?_⟩
  · rw [← hsi, List.getElem_cons_drop, List.take_append_drop]
  · obtain ⟨j, hj, hbj⟩ := List.mem_iff_getElem.1 hb
    have hji : j < i := by rw [List.length_take] at hj; omega
    rw [List.getElem_take] at hbj
    exact h2 j hji (by rw [List.getElem?_eq_getElem (by omega), hbj, e])
theorem byte_none {l : Bs} (h : Lib.indexByte l 0 = -1) : ∀ b ∈ l, b ≠ 0 := fun b hb e => by
  obtain ⟨j, hj, hbj⟩ := List.mem_iff_getElem.1 hb
  exact Lib.indexByte_none h j (by rw [List.getElem?_eq_getElem hj, hbj, e])
/-- What the loop of readText goes by. -/
theorem text_case {l : Bs} {i : Nat} (h : Lib.indexByte l 0 = i) :
    (i + 1 = l.length ∧ readText l = none) ∨ (∃ d, i + 1 < l.length ∧ l[i + 1]? = some d ∧
      readText l = if d = 1 then some (l.take i, l.drop (i + 2)) else if d = 255 then (readText (l.drop (i + 2))).map (fun x => (l.take i ++ 0 :: x.1, x.2)) else none) := by
  obtain ⟨hi, hs, hn⟩ := byte_split h
  have hp := text_pre (p := l.take i) (r := 0 :: l.drop (i + 1)) hn (by simp)
  rw [← hs] at hp
  cases hd : l.drop (i + 1) with
  | nil =>
    left
    have := congrArg List.length hd
    rw [List.length_drop, List.length_nil] at this
    refine ⟨by omega, ?_⟩
    rw [hp, hd]; rfl
  | cons d r =>
    right
    have hlen : i + 1 < l.length := by
      have := congrArg List.length hd
      rw [List.length_drop, List.length_cons] at this
      omega
    have hr : l.drop (i + 2) = r := by rw [show i + 2 = (i + 1) + 1 from rfl, ← List.drop_drop, hd]; rfl
    refine ⟨d, hlen, ?_, ?_⟩
    · have : (l.drop (i + 1))[0]? = some d := by rw [hd]; rfl
      rw [List.getElem?_drop] at this
      exact this
    · rw [hp, hd, readText, if_pos rfl, hr]
      by_cases h1 : d = 1
      · rw [if_pos h1, if_pos h1]; simp
      · rw [if_neg h1, if_neg h1]
        by_cases h2 : d = 255
        · rw [if_pos h2, if_pos h2]
          cases readText r <;> rfl
        · rw [if_neg h2, if_neg h2]; rfl
end Go.Cph.Ok
