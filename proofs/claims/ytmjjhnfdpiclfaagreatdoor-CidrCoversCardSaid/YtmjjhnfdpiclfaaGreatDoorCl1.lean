/- CidrNested, CidrHalves: what the walks ask, plainly. No program in sight. -/
import Derived.Test.YtmjjhnfdpiclfaaGreatDoorCp3
set_option linter.unusedVariables false
set_option linter.unusedSimpArgs false
namespace Go.Cph.Px
open Go.Cph.Cv Go.Cph.Tx
theorem bool_of {b : Bool} (h : ¬ b = true) : b = false := by cases b; rfl; exact absurd rfl h
theorem nested1 (p q r : Pf) : (within p q = true ∧ meets p q = true ∧ meets q p = true ∧ within q r = true ∧ within p r = true) ∨ (within p q = true ∧ meets p q = true ∧ meets q p = true ∧ within q r = false) ∨
    (within p q = false ∧ within q p = true ∧ meets p q = true ∧ meets q p = true) ∨ (within p q = false ∧ within q p = false ∧ meets p q = false ∧ meets q p = false) := by
  unfold meets
  cases h1 : within p q
  · cases h2 : within q p
    · exact .inr (.inr (.inr ⟨rfl, rfl, rfl, rfl⟩))
    · exact .inr (.inr (.inl ⟨rfl, rfl, rfl, rfl⟩))
  · cases h3 : within q r
    · exact .inr (.inl ⟨rfl, rfl, by simp, rfl⟩)
    · exact .inl ⟨rfl, rfl, by simp, rfl, within_trans h1 h3⟩
theorem last_has {p : Pf} (h : Rt p) : hasP p (lastR p) = true ∧ hasP p p.1 = true := by
  obtain ⟨l1, l2, l3⟩ := lastR_num h
  have hp : 0 < 2 ^ rest p.1 p.2 := Nat.pow_pos (by decide)
  exact ⟨(has_num h).2 ⟨l3, l1, by omega, by omega⟩, (has_num h).2 ⟨h.ad, rfl, Nat.le_refl _, by omega⟩⟩
theorem nested3 (p q : Pf) (a : Ad) : (within p q = false) ∨ (within p q = true ∧ hasP p a = true ∧ hasP q a = true ∧ ¬ p.2 < q.2 ∧ hasP q p.1 = true ∧ hasP q (lastR p) = true) ∨
    (within p q = true ∧ hasP p a = false ∧ ¬ p.2 < q.2 ∧ hasP q p.1 = true ∧ hasP q (lastR p) = true) := by
  cases h1 : within p q
  · exact .inl rfl
  · right
    obtain ⟨k1, k2, k3⟩ := within_iff.1 h1
    have k4 := has_iff.2 (has_of_within h1 (has_iff.1 (last_has k1).1))
    cases h2 : hasP p a
    · exact .inr ⟨rfl, rfl, by omega, has_iff.2 k3, k4⟩
    · exact .inl ⟨rfl, rfl, has_iff.2 (has_of_within h1 (has_iff.1 h2)), by omega, has_iff.2 k3, k4⟩
theorem within_self (p : Pf) : within p p = rightP p := by
  cases h : rightP p with
  | false => unfold within; rw [h]; rfl
  | true => exact within_refl (rightP_iff.1 h)
theorem meets_has {p q : Pf} {a : Ad} (h : hasP p a = true) (k : hasP q a = true) : meets p q = true := by
  rw [meets_iff]
  rcases Int.le_total q.2 p.2 with hb | hb
  · exact .inl (within_of_has (has_iff.1 h) (has_iff.1 k) hb)
  · exact .inr (within_of_has (has_iff.1 k) (has_iff.1 h) hb)
theorem nested5 (p q : Pf) (a : Ad) : (rightP p = false ∧ within p p = false ∧ hasP p a = false ∧ meets p q = false) ∨ (rightP p = true ∧ within p p = true ∧ hasP p a = false) ∨
    (rightP p = true ∧ within p p = true ∧ hasP p a = true ∧ hasP q a = false) ∨ (rightP p = true ∧ within p p = true ∧ hasP p a = true ∧ hasP q a = true ∧ meets p q = true) := by
  rw [within_self]
  cases h : rightP p with
  | false =>
    refine .inl ⟨rfl, rfl, no_has h a, ?_⟩
    refine bool_of fun hm => ?_
    rcases meets_iff.1 hm with k | k
    · have := rightP_iff.2 (within_iff.1 k).1; rw [h] at this; cases this
    · have := rightP_iff.2 (within_iff.1 k).2.2.right; rw [h] at this; cases this
  | true =>
    right
    cases h2 : hasP p a with
    | false => exact .inl ⟨rfl, rfl, rfl⟩
    | true =>
      cases h3 : hasP q a with
      | false => exact .inr (.inl ⟨rfl, rfl, rfl, rfl⟩)
      | true => exact .inr (.inr ⟨rfl, rfl, rfl, rfl, meets_has h2 h3⟩)
theorem nested9 {p : Pf} (h : rightP p = true) (a : Ad) : (rightA a = false ∧ hasP p a = false) ∨ (rightA a = true ∧ (a.1 == p.1.1) = false ∧ hasP p a = false) ∨ (rightA a = true ∧ (a.1 == p.1.1) = true ∧ lessA a p.1 = true ∧ hasP p a = false) ∨
    (rightA a = true ∧ (a.1 == p.1.1) = true ∧ lessA a p.1 = false ∧ lessA (lastR p) a = true ∧ hasP p a = false) ∨ (rightA a = true ∧ (a.1 == p.1.1) = true ∧ lessA a p.1 = false ∧ lessA (lastR p) a = false ∧ hasP p a = true) := by
  have hr := rightP_iff.1 h
  have hn := has_num hr (x := a)
  obtain ⟨l1, l2, l3⟩ := lastR_num hr
  have hp : 0 < 2 ^ rest p.1 p.2 := Nat.pow_pos (by decide)
  cases h1 : rightA a with
  | false => exact .inl ⟨rfl, bool_of fun k => by have := (hn.1 k).1; rw [h1] at this; cases this⟩
  | true =>
    right
    by_cases h2 : a.1 = p.1.1
    · right
      have e2 : (a.1 == p.1.1) = true := by simpa using h2
      by_cases h3 : num a < num p.1
      · exact .inl ⟨rfl, e2, by rw [less_same h2]; simpa using h3, bool_of fun k => by have := (hn.1 k).2.2.1; omega⟩
      · right
        have e3 : lessA a p.1 = false := by rw [less_same h2]; simpa using h3
        have hs : (lastR p).1 = a.1 := by rw [l1, h2]
        by_cases h4 : num (lastR p) < num a
        · exact .inl ⟨rfl, e2, e3, by rw [less_same hs]; simpa using h4, bool_of fun k => by have := (hn.1 k).2.2.2; omega⟩
        · exact .inr ⟨rfl, e2, e3, by rw [less_same hs]; simpa using h4, hn.2 ⟨h1, h2, by omega, by omega⟩⟩
    · refine .inl ⟨rfl, by simpa using h2, bool_of fun k => h2 (hn.1 k).2.1⟩
theorem last_no {p : Pf} (h : rightP p = false) : lastR p = zeroA := by unfold lastR; rw [h]; rfl
end Go.Cph.Px
