/- The document's Cut and Meets are the program's; a cover by halves, prefix by prefix. No program in sight. -/
import Derived.Test.YtmjjhnfdpiclfaaGreatDoorCl1
import Derived.Test.YtmjjhnfdpiclfaaGreatDoorCp4
set_option linter.unusedVariables false
set_option linter.unusedSimpArgs false
namespace Go.Cph.Px
open Go.Cph.Cv Go.Cph.Tx
theorem cut_fill {a : Ad} {k : Nat} (hr : rightA a = true) (hk : k ≤ wid a) : cutP a (k : Int) = (fillA a k 0, (k : Int)) ∧ fits a (k : Int) = true := by
  have hw := width_wid a
  have h1 := cut_pfN hr (k := wid a - k) (by omega)
  rw [show width a.1 - ((wid a - k : Nat) : Int) = (k : Int) by omega] at h1
  obtain ⟨f1, f2⟩ := fillA_num hr hk 0 (.inl rfl)
  refine ⟨?_, fits_iff.2 ⟨hr, by omega, by omega⟩⟩
  rw [h1]
  refine Prod.ext (ad_ext ((ofNum_fam _ _).trans f1.symm) ?_) ?_
  · have h1 := num_lt a
    have h2 := Nat.div_mul_le_self (num a) (2 ^ (wid a - k))
    have h3 := num_ofNum a.1 (num a / 2 ^ (wid a - k) * 2 ^ (wid a - k)) (by omega)
    rw [if_neg (by decide), Nat.add_zero] at f2
    exact h3.trans f2.symm
  · show width a.1 - ((wid a - k : Nat) : Int) = (k : Int)
    omega
/-- Which bits do not fit, by the row's length. -/
theorem fits_row {a : Ad} {b : Int} : fits a b = true ↔ (rowA a).length ≠ 0 ∧ 0 ≤ b ∧ b ≤ ((rowA a).length : Int) := by
  have hw := width_wid a
  have hp := wid_pos a
  cases hr : rightA a with
  | false => 
    rw [row_none hr]
    constructor
    · intro h
      have := (fits_iff.1 h).1
      rw [hr] at this
      cases this
    · intro h
      exact absurd rfl h.1
  | true =>
    rw [row_length hr]
    constructor
    · intro h
      obtain ⟨h1, h2, h3⟩ := fits_iff.1 h
      exact ⟨by omega, h2, by omega⟩
    · intro ⟨h1, h2, h3⟩
      exact fits_iff.2 ⟨hr, h2, by omega⟩
def meetsR (p q : Pf) : Bool := rightP p && (rightP q && (hasP q p.1 || (hasP q (lastR p) || (hasP p q.1 || hasP p (lastR q)))))
theorem within_has {p q : Pf} (h : within p q = true) : rightP p = true ∧ rightP q = true ∧ hasP q p.1 = true := by
  unfold within at h
  simp only [Bool.and_eq_true] at h
  exact ⟨h.1, rightP_iff.2 (has_right h.2.2), h.2.2⟩
theorem meetsR_eq (p q : Pf) : meetsR p q = meets p q := by
  rw [Bool.eq_iff_iff]
  unfold meetsR
  constructor
  · intro h
    simp only [Bool.and_eq_true, Bool.or_eq_true] at h
    obtain ⟨h1, h2, h3⟩ := h
    obtain ⟨p1, p2⟩ := last_has (rightP_iff.1 h1)
    obtain ⟨q1, q2⟩ := last_has (rightP_iff.1 h2)
    rcases h3 with h | h | h | h
    · exact meets_has p2 h
    · exact meets_has p1 h
    · exact meets_has h q2
    · exact meets_has h q1
  · intro h
    simp only [Bool.and_eq_true, Bool.or_eq_true]
    rcases meets_iff.1 h with h | h
    · obtain ⟨h1, h2, h3⟩ := within_has h
      exact ⟨h1, h2, .inl h3⟩
    · obtain ⟨h1, h2, h3⟩ := within_has h
      exact ⟨h2, h1, .inr (.inr (.inl h3))⟩
/-- What a prefix has of a range, by halves. -/
def partP (p : Pf) (a b : Ad) : List Pf := (partN (rest p.1 p.2) (num p.1) (num a) (num b)).map (pfB p.1.1)
structure PartFam (p : Pf) (a b : Ad) : Prop where
  rt : Rt p
  ra : rightA a = true
  rb : rightA b = true
  fa : a.1 = p.1.1
  fb : b.1 = p.1.1
theorem pfB_self {p : Pf} (h : Rt p) : pfB p.1.1 (num p.1, rest p.1 p.2) = p := (pf_pfN h).symm
structure Split (p x y : Pf) (a b : Ad) : Prop where
  halves : halvesP p = (x, y, true)
  fx : PartFam x a b
  fy : PartFam y a b
  lx : rest x.1 x.2 < rest p.1 p.2
  ly : rest y.1 y.2 < rest p.1 p.2
  app : partP p a b = partP x a b ++ partP y a b
theorem part_cases {p : Pf} {a b : Ad} (h : PartFam p a b) :
    (lessA (lastR p) a = true ∧ partP p a b = []) ∨ (lessA (lastR p) a = false ∧ lessA b p.1 = true ∧ partP p a b = []) ∨
    (lessA (lastR p) a = false ∧ lessA b p.1 = false ∧ lessA b a = true ∧ partP p a b = []) ∨
    (lessA (lastR p) a = false ∧ lessA b p.1 = false ∧ lessA b a = false ∧ lessA p.1 a = false ∧ lessA b (lastR p) = false ∧ partP p a b = [p]) ∨
    (lessA (lastR p) a = false ∧ lessA b p.1 = false ∧ lessA b a = false ∧ lessA p.1 a = true ∧ ∃ x y, Split p x y a b) ∨
    (lessA (lastR p) a = false ∧ lessA b p.1 = false ∧ lessA b a = false ∧ lessA p.1 a = false ∧ lessA b (lastR p) = true ∧ ∃ x y, Split p x y a b) := by
  obtain ⟨l1, l2, l3⟩ := lastR_num h.rt
  have hpos : 0 < 2 ^ rest p.1 p.2 := Nat.pow_pos (by decide)
  have e1 : lessA (lastR p) a = decide (num (lastR p) < num a) := less_same (l1.trans h.fa.symm)
  have e2 : lessA b p.1 = decide (num b < num p.1) := less_same h.fb
  have e3 : lessA b a = decide (num b < num a) := less_same (h.fb.trans h.fa.symm)
  have e4 : lessA p.1 a = decide (num p.1 < num a) := less_same h.fa.symm
  have e5 : lessA b (lastR p) = decide (num b < num (lastR p)) := less_same (h.fb.trans l1.symm)
  rw [e1, e2, e3, e4, e5, l2]
  obtain ⟨k, hk⟩ : ∃ k, k = rest p.1 p.2 := ⟨_, rfl⟩
  have hout : num p.1 + 2 ^ k ≤ num a ∨ num b < num p.1 ∨ num b < num a → partP p a b = [] := by
    intro ho
    unfold partP
    rw [← hk, part_out ho]
    rfl
  have hin : num a ≤ num p.1 → num p.1 + 2 ^ k ≤ num b + 1 → partP p a b = [p] := by
    intro h1 h2
    unfold partP
    rw [← hk, part_in h1 h2, List.map_cons, List.map_nil, hk, pfB_self h.rt]
  have hsplit : ¬ (num p.1 + 2 ^ k ≤ num a ∨ num b < num p.1 ∨ num b < num a) → ¬ (num a ≤ num p.1 ∧ num p.1 + 2 ^ k ≤ num b + 1) → ∃ x y, Split p x y a b := by
    intro h1 h2
    have hk0 : k ≠ 0 := by
      intro e
      rw [e, Nat.pow_zero] at h1 h2
      omega
    have hbits : p.2 ≠ width p.1.1 := by
      intro e
      have : rest p.1 p.2 = 0 := by
        show (width p.1.1 - p.2).toNat = 0
        omega
      omega
    obtain ⟨x, y, j, hh, H⟩ := halves_some h.rt hbits
    have hj : k = j + 1 := hk.trans H.rest
    obtain ⟨x1, x2, x3, x4⟩ := H.px
    obtain ⟨y1, y2, y3, y4⟩ := H.py
    refine ⟨x, y, hh, ⟨x1, h.ra, h.rb, h.fa.trans x4.symm, h.fb.trans x4.symm⟩, ⟨y1, h.ra, h.rb, h.fa.trans y4.symm, h.fb.trans y4.symm⟩, by omega, by omega, ?_⟩
    unfold partP
    rw [x2, x3, x4, y2, y3, y4, H.rest]
    rw [hj] at h1 h2
    rw [part_split h1 h2, List.map_append]
  rw [← hk] at hpos ⊢
  by_cases c1 : num p.1 + (2 ^ k - 1) < num a
  · exact .inl ⟨by simpa using c1, hout (by omega)⟩
  right
  by_cases c2 : num b < num p.1
  · exact .inl ⟨by simpa using c1, by simpa using c2, hout (by omega)⟩
  right
  by_cases c3 : num b < num a
  · exact .inl ⟨by simpa using c1, by simpa using c2, by simpa using c3, hout (by omega)⟩
  right
  by_cases c4 : num p.1 < num a
  · exact .inr (.inl ⟨by simpa using c1, by simpa using c2, by simpa using c3, by simpa using c4, hsplit (by omega) (by omega)⟩)
  by_cases c5 : num b < num p.1 + (2 ^ k - 1)
  · exact .inr (.inr ⟨by simpa using c1, by simpa using c2, by simpa using c3, by simpa using c4, by simpa using c5, hsplit (by omega) (by omega)⟩)
  · exact .inl ⟨by simpa using c1, by simpa using c2, by simpa using c3, by simpa using c4, by simpa using c5, hin (by omega) (by omega)⟩
theorem partP_len {p : Pf} {a b : Ad} (h : PartFam p a b) : (partP p a b).length ≤ 257 := by
  unfold partP
  rw [List.length_map]
  have hr := rest_range p h.rt
  have hw : wid p.1 ≤ 128 := by unfold wid; split <;> omega
  obtain ⟨k, hk⟩ : ∃ k, k = rest p.1 p.2 := ⟨_, rfl⟩
  rw [← hk] at hr ⊢
  by_cases h1 : num p.1 < num a
  · by_cases h2 : num b + 1 < num p.1 + 2 ^ k
    · have := part_both (f := num a) (t := num b) k (num p.1) h1 h2; omega
    · have := part_right (f := num a) (t := num b) k (num p.1) h1 (by omega); omega
  · by_cases h2 : num b + 1 < num p.1 + 2 ^ k
    · have := part_left (f := num a) (t := num b) k (num p.1) (by omega) h2; omega
    · rw [part_in (by omega) (by omega)]; simp
theorem rest_top (f : UInt8) (h : f = 4 ∨ f = 6) : rest (f, 0, 0) 0 = widF f ∧ rightP ((f, 0, 0), 0) = true ∧ num (f, 0, 0) = 0 := by
  rcases h with rfl | rfl
  · exact ⟨by decide, by decide +kernel, rfl⟩
  · exact ⟨by decide, by decide +kernel, rfl⟩
theorem start_part {a b : Ad} (h : CanP a b) : PartFam ((a.1, 0, 0), 0) a b ∧ partP ((a.1, 0, 0), 0) a b = coverP a b := by
  obtain ⟨h1, h2, h3⟩ := rest_top a.1 (can_fam h)
  refine ⟨⟨rightP_iff.1 h2, h.1, h.2.1, rfl, h.2.2.symm⟩, ?_⟩
  rw [cover_can h]
  unfold partP
  rw [h1, h3]
end Go.Cph.Px
