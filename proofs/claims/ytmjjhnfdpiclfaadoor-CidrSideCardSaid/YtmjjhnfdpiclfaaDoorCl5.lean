/- CidrBack: what the walk asks, plainly. No program in sight. -/
import Derived.Test.YtmjjhnfdpiclfaaDoorCl3
import Derived.Test.YtmjjhnfdpiclfaaDoorMT
set_option linter.unusedVariables false
set_option linter.unusedSimpArgs false
namespace Go.Cph.Px
open Go.Cph.Cv Go.Cph.Tx
theorem parse_textP {p : Pf} (h : rightP p = true) {r : Option Pf} (hr : ParseIs (textP p) r) : r = some p := (hr p).2 ⟨h, rfl⟩
theorem cut_last {p : Pf} (h : rightP p = true) : cutP (lastR p) p.2 = p ∧ fits (lastR p) p.2 = true := by
  have hr := rightP_iff.1 h
  obtain ⟨l1, l2, l3⟩ := lastR_num hr
  have hk := rest_range p hr
  have hw : wid (lastR p) = wid p.1 := by unfold wid; rw [l1]
  have e : p.2 = width (lastR p).1 - (rest p.1 p.2 : Int) := by
    have := hr.hi
    rw [l1]; unfold rest; omega
  have hc := cut_pfN l3 (k := rest p.1 p.2) (by omega)
  rw [← e] at hc
  refine ⟨?_, fits_iff.2 ⟨l3, hr.lo, by rw [l1]; exact hr.hi⟩⟩
  have hp : 0 < 2 ^ rest p.1 p.2 := Nat.pow_pos (by decide)
  have hf : num (lastR p) / 2 ^ rest p.1 p.2 * 2 ^ rest p.1 p.2 = num p.1 := (floor_eq (aligned.1 hr.al)).2 ⟨by omega, by omega⟩
  rw [hc, hf, l1]
  exact (pf_pfN hr).symm
theorem cut_fits {a : Ad} {b : Int} (h : fits a b = true) : rightP (cutP a b) = true ∧ hasP (cutP a b) a = true := by
  obtain ⟨h1, h2, h3⟩ := fits_iff.1 h
  have hw := width_wid a
  obtain ⟨k, hk⟩ : ∃ k : Nat, b = width a.1 - (k : Int) ∧ k ≤ wid a := ⟨(width a.1 - b).toNat, by omega, by omega⟩
  obtain ⟨rfl, hk2⟩ := hk
  rw [cut_pfN h1 hk2]
  have hd : 2 ^ k ∣ num a / 2 ^ k * 2 ^ k := Nat.dvd_mul_left _ _
  have hlt := num_wid h1
  have hp : 0 < 2 ^ k := Nat.pow_pos (by decide)
  have hend : num a / 2 ^ k * 2 ^ k + 2 ^ k ≤ 2 ^ widF a.1 := by
    rw [widF_wid]
    have e : 2 ^ wid a = 2 ^ (wid a - k) * 2 ^ k := by rw [← Nat.pow_add]; congr 1; omega
    rw [e, ← Nat.succ_mul]
    refine Nat.mul_le_mul_right _ ?_
    rw [e] at hlt
    exact (Nat.div_lt_iff_lt_mul hp).2 hlt
  obtain ⟨r1, r2, r3⟩ := pfN_rt (right_fam h1) (by rw [widF_wid]; exact hk2) hd hend
  refine ⟨rightP_iff.2 r1, (has_num r1).2 ⟨h1, (ofNum_fam _ _).symm, ?_, ?_⟩⟩
  · rw [r2]; exact Nat.div_mul_le_self _ _
  · rw [r2, r3]
    have h4 := Nat.div_add_mod (num a) (2 ^ k)
    have h5 := Nat.mod_lt (num a) hp
    rw [Nat.mul_comm] at h4
    omega
theorem cut_is {p : Pf} {a : Ad} (h : fits a p.2 = true) : (cutP a p.2 == p) = hasP p a := by
  have e : cutP a p.2 = (cutA a (rest a p.2), p.2) := by unfold cutP; rw [if_pos h]
  unfold hasP
  rw [h, Bool.true_and, e, Bool.eq_iff_iff, beq_iff_eq, beq_iff_eq]
  constructor
  · intro k; rw [← k]
  · intro k; exact Prod.ext k rfl
theorem cut_not {p : Pf} {a : Ad} (h : fits a p.2 = false) : cutP a p.2 = zeroP ∧ hasP p a = false := by
  refine ⟨by unfold cutP; rw [h]; rfl, by unfold hasP; rw [h]; rfl⟩
end Go.Cph.Px
