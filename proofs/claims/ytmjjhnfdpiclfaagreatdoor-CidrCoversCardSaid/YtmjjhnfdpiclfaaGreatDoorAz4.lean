/- Neighbours of an address, plainly: what AddrNear asks. -/
import Derived.Test.YtmjjhnfdpiclfaaGreatDoorAz2
set_option linter.unusedVariables false
set_option linter.unusedSimpArgs false
set_option maxRecDepth 100000
namespace Go.Proofs.Tryz.Tx
open Go.RowKit Go.Cph Go.Cph.Tx
open Go.Cph.Px (Ad rightA bytesA zeroA lessA rank num rank_inj less_rank ad_ext rightA_iff)
open Go.Proofs.Tryz.Gp (nextA backA nearA next_is back_is)
theorem near_no (a : Ad) (l h c : UInt64) (k : (nearA a l h c).2 = false) : (nearA a l h c).1 = zeroA := by
  have e : nearA a l h c = if rightA a && (rightA (a.1, Gp.addW a.2.1 h (Gp.addC a.2.2 l 0), Gp.addW a.2.2 l 0) && Gp.addC a.2.1 h (Gp.addC a.2.2 l 0) == c) then ((a.1, Gp.addW a.2.1 h (Gp.addC a.2.2 l 0), Gp.addW a.2.2 l 0), true) else (zeroA, false) := rfl
  rw [e] at k ⊢
  split at k
  · cases k
  · rename_i hh; rw [if_neg hh]
theorem next_no {a : Ad} (h : (nextA a).2 = false) : nextA a = (zeroA, false) := Prod.ext (near_no a 1 0 0 h) h
theorem back_no {a : Ad} (h : (backA a).2 = false) : backA a = (zeroA, false) := Prod.ext (near_no a _ _ _ h) h
def topB (a : Ad) : Bool := (a.1 == 4 && a.2.2 == 4294967295) || (a.1 == 6 && (a.2.1 == 18446744073709551615 && a.2.2 == 18446744073709551615))
theorem rank_fam {a b : Ad} (h : a.1 = b.1) : (rank a < rank b ↔ num a < num b) ∧ (rank a ≤ rank b ↔ num a ≤ num b) ∧ (rank a = rank b + 1 ↔ num a = num b + 1) := by
  unfold rank; rw [h]; omega
theorem right4 {a : Ad} (h : a.1 = 4) (hr : rightA a = true) : a.2.1 = 0 ∧ a.2.2.toNat ≤ 4294967295 := by
  obtain ⟨f, x, y⟩ := a
  subst h
  have := rightA_iff.1 hr
  rcases this with h6 | ⟨_, h4⟩
  · exact absurd (show (4 : UInt8) = 6 from h6) (by decide)
  · unfold num at h4
    simp only at h4 ⊢
    have hx : x.toNat = 0 := by omega
    refine ⟨UInt64.toNat_inj.1 (by rw [hx]; rfl), by omega⟩
/-- The last address of a family. -/
def lastOf (f : UInt8) : Ad := if f = 4 then (4, 0, 4294967295) else (6, 18446744073709551615, 18446744073709551615)
theorem last_right {f : UInt8} (h : f = 4 ∨ f = 6) : rightA (lastOf f) = true ∧ (lastOf f).1 = f := by
  rcases h with rfl | rfl
  · exact ⟨by decide, rfl⟩
  · exact ⟨by decide, rfl⟩
theorem top_iff {a : Ad} (hr : rightA a = true) : topB a = true ↔ a = lastOf a.1 := by
  obtain ⟨f, x, y⟩ := a
  rcases right_fam hr with h | h
  · have h4 := right4 h hr
    simp only at h h4
    subst h
    obtain ⟨h0, _⟩ := h4
    subst h0
    unfold topB lastOf
    simp
  · simp only at h
    subst h
    unfold topB lastOf
    simp
theorem top_max {a c : Ad} (hc : c = lastOf a.1) (hr : rightA a = true) : num a ≤ num c := by
  rcases right_fam hr with h | h
  · have h4 := right4 h hr
    subst hc
    unfold lastOf num
    rw [if_pos h, h4.1]
    show 0 * _ + a.2.2.toNat ≤ 0 * _ + 4294967295
    omega
  · subst hc
    unfold lastOf
    rw [if_neg (by rw [h]; decide)]
    have := Px.num_lt a
    show num a ≤ 18446744073709551615 * 18446744073709551616 + 18446744073709551615
    omega
theorem next_top {a : Ad} (hr : rightA a = true) : (nextA a).2 = !topB a := by
  have hf := right_fam hr
  obtain ⟨l1, l2⟩ := last_right hf
  obtain ⟨h1, h2⟩ := next_is a
  cases hn : (nextA a).2 with
  | true =>
    obtain ⟨_, k2, k3, k4⟩ := h1 hn
    cases ht : topB a with
    | false => rfl
    | true =>
      have e := (top_iff hr).1 ht
      have := top_max (a := (nextA a).1) (c := a) (by rw [k3]; exact e) k2
      rw [(rank_fam k3).2.2] at k4
      omega
  | false =>
    have := h2 hr hn (lastOf a.1) l1 l2
    rw [(rank_fam l2).2.1] at this
    have hm := top_max (c := lastOf a.1) rfl hr
    have e : a = lastOf a.1 := ad_ext l2.symm (by omega)
    rw [(top_iff hr).2 e]; rfl
theorem back_first {a : Ad} (hr : rightA a = true) : (backA a).2 = (a.2.1 != 0 || a.2.2 != 0) := by
  obtain ⟨h1, h2⟩ := back_is a
  have hz : (a.2.1 != 0 || a.2.2 != 0) = decide (num a ≠ 0) := by
    obtain ⟨f, x, y⟩ := a
    have ex : (x != 0) = decide (x.toNat ≠ 0) := by
      rw [Bool.eq_iff_iff]; simp [← UInt64.toNat_inj]
    have ey : (y != 0) = decide (y.toNat ≠ 0) := by
      rw [Bool.eq_iff_iff]; simp [← UInt64.toNat_inj]
    simp only [ex, ey]
    unfold num
    rw [Bool.eq_iff_iff]
    simp only [Bool.or_eq_true, decide_eq_true_eq]
    omega
  rw [hz]
  cases hb : (backA a).2 with
  | true =>
    obtain ⟨_, k2, k3, k4⟩ := h1 hb
    have : num a = num (backA a).1 + 1 := ((rank_fam k3.symm).2.2).1 k4.symm
    rw [decide_eq_true (by omega)]
  | false =>
    have hz0 : rightA (a.1, 0, 0) = true := by
      rcases right_fam hr with h | h <;> rw [h] <;> decide
    have := h2 hr hb (a.1, 0, 0) hz0 rfl
    rw [(rank_fam (a := a) (b := (a.1, 0, 0)) rfl).2.1] at this
    have e : num (a.1, 0, 0) = 0 := by unfold num; simp
    rw [decide_eq_false (by omega)]
structure NextOk (a n : Ad) : Prop where
  fam : n.1 = a.1
  right : rightA n = true
  back : backA n = (a, true)
  less : lessA a n = true
  none : ∀ x, lessA a x = true → lessA x n = false
theorem next_ok {a : Ad} (h : (nextA a).2 = true) : NextOk a (nextA a).1 := by
  obtain ⟨k1, k2, k3, k4⟩ := (next_is a).1 h
  refine ⟨k3, k2, ?_, less_rank.2 (by omega), fun x hx => ?_⟩
  · obtain ⟨h1, h2⟩ := back_is (nextA a).1
    cases hb : (backA (nextA a).1).2 with
    | true =>
      obtain ⟨_, _, _, m4⟩ := h1 hb
      exact Prod.ext (rank_inj (by show rank _ = rank a; omega)) hb
    | false =>
      have := h2 k2 hb a k1 k3.symm
      omega
  · have hx := less_rank.1 hx
    cases hl : lessA x (nextA a).1 with
    | false => rfl
    | true => have := less_rank.1 hl; omega
structure BackOk (a p : Ad) : Prop where
  fam : p.1 = a.1
  right : rightA p = true
  next : nextA p = (a, true)
  less : lessA p a = true
  none : ∀ x, lessA p x = true → lessA x a = false
theorem back_ok {a : Ad} (h : (backA a).2 = true) : BackOk a (backA a).1 := by
  obtain ⟨k1, k2, k3, k4⟩ := (back_is a).1 h
  refine ⟨k3, k2, ?_, less_rank.2 (by omega), fun x hx => ?_⟩
  · obtain ⟨h1, h2⟩ := next_is (backA a).1
    cases hb : (nextA (backA a).1).2 with
    | true =>
      obtain ⟨_, _, _, m4⟩ := h1 hb
      exact Prod.ext (rank_inj (by show rank _ = rank a; omega)) hb
    | false =>
      have := h2 k2 hb a k1 k3.symm
      omega
  · have hx := less_rank.1 hx
    cases hl : lessA x a with
    | false => rfl
    | true => have := less_rank.1 hl; omega
theorem near_wrong {a : Ad} (h : rightA a = false) : nextA a = (zeroA, false) ∧ backA a = (zeroA, false) := by
  refine ⟨?_, ?_⟩
  · cases hn : (nextA a).2 with
    | false => exact next_no hn
    | true => have := ((next_is a).1 hn).1; rw [h] at this; cases this
  · cases hn : (backA a).2 with
    | false => exact back_no hn
    | true => have := ((back_is a).1 hn).1; rw [h] at this; cases this
end Go.Proofs.Tryz.Tx
