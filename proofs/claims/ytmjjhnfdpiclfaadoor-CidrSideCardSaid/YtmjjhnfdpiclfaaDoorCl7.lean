/- CidrSide: what a cover is like, by prefixes. No program in sight. -/
import Derived.Test.YtmjjhnfdpiclfaaDoorCl5
import Derived.Test.YtmjjhnfdpiclfaaDoorCp4
set_option linter.unusedVariables false
set_option linter.unusedSimpArgs false
namespace Go.Cph.Px
open Go.Cph.Cv Go.Cph.Tx
/-- A block of a cover, as a prefix. -/
theorem blk_pf {a b : Ad} (h : CanP a b) {n k : Nat} (hk : IsGreat (widF a.1) n (num b) k) : Rt (pfN a.1 n k) ∧ num (pfN a.1 n k).1 = n ∧ rest (pfN a.1 n k).1 (pfN a.1 n k).2 = k ∧ (pfN a.1 n k).1.1 = a.1 ∧ n + 2 ^ k ≤ 2 ^ widF a.1 := by
  have hb := num_widF h.2.1
  rw [← h.2.2] at hb
  have hle := hk.ok.le
  obtain ⟨r1, r2, r3⟩ := pfN_rt (can_fam h) hk.le hk.ok.al (by omega)
  exact ⟨r1, r2, r3, ofNum_fam _ _, by omega⟩
structure SideFacts (l : List Pf) (a b x : Ad) : Prop where
  len : 0 < l.length ∧ l.length ≤ 254
  first : ∀ h : 0 < l.length, l[0].1 = a
  last : ∀ h : 0 < l.length, lastR l[l.length - 1] = b
  right : ∀ i (h : i < l.length), rightP l[i] = true
  next : ∀ i (h : i + 1 < l.length), Go.Proofs.Tryd.Gp.nextA (lastR l[i]) = (l[i + 1].1, true)
  apart : ∀ i (h : i + 1 < l.length), fits l[i + 1].1 (l[i + 1].2 - 1) = true → l[i].2 = l[i + 1].2 → (cutP l[i + 1].1 (l[i + 1].2 - 1)).1 ≠ l[i].1
  count : l.countP (fun p => hasP p x) = if rightA x = true ∧ x.1 = a.1 ∧ num a ≤ num x ∧ num x ≤ num b then 1 else 0
theorem side_facts {a b : Ad} (h : CanP a b) (hab : num a ≤ num b) (x : Ad) : SideFacts (coverP a b) a b x := by
  have hb := num_widF h.2.1
  rw [← h.2.2] at hb
  have hg := greedy_part hab hb
  have hs := hg.sides
  have hpos := hg.pos hab
  have hct := hg.count (num x)
  have hw : 2 ≤ widF a.1 ∧ widF a.1 ≤ 128 := by unfold widF; split <;> omega
  have hlen := part_length (f := num a) hw.1 hb
  rw [cover_can h]
  obtain ⟨L, hL⟩ : ∃ L, L = partN (widF a.1) 0 (num a) (num b) := ⟨_, rfl⟩
  rw [← hL] at hs hpos hct hlen ⊢
  clear hg hL
  have hB : ∀ i (k : i < L.length), IsGreat (widF a.1) L[i].1 (num b) L[i].2 := fun i k => hs.blk _ (List.getElem_mem _)
  have hP : ∀ i (k : i < (L.map (pfB a.1)).length), (L.map (pfB a.1))[i] = pfN a.1 (L[i]'(by simpa using k)).1 (L[i]'(by simpa using k)).2 := fun i k => by rw [List.getElem_map]; rfl
  refine ⟨⟨by simpa using hpos, by rw [List.length_map]; omega⟩, fun k => ?_, fun k => ?_, fun i k => ?_, fun i k => ?_, fun i k => ?_, ?_⟩
  · rw [hP 0 k]
    have e := hs.first hpos
    have := (blk_pf h (hB 0 hpos)).2.1
    refine ad_ext (ofNum_fam _ _) ?_
    rw [this, e]
  · have hl : (L.map (pfB a.1)).length - 1 = L.length - 1 := by rw [List.length_map]
    rw [hP _ (by omega)]
    obtain ⟨r1, r2, r3, r4, r5⟩ := blk_pf h (hB (L.length - 1) (by omega))
    have e := hs.last hpos
    obtain ⟨m1, m2, m3⟩ := lastR_num r1
    rw [r2, r3] at m2
    have hp : 0 < 2 ^ L[L.length - 1].2 := Nat.pow_pos (by decide)
    simp only [hl]
    exact ad_ext (m1.trans (r4.trans h.2.2)) (by rw [m2]; omega)
  · rw [hP i k]
    exact rightP_iff.2 (blk_pf h (hB i (by simpa using k))).1
  · have k1 : i + 1 < L.length := by simpa using k
    rw [hP i (by omega), hP (i + 1) k]
    obtain ⟨r1, r2, r3, r4, r5⟩ := blk_pf h (hB i (by omega))
    obtain ⟨s1, s2, s3, s4, s5⟩ := blk_pf h (hB (i + 1) k1)
    have e := hs.next i k1
    have hp : 0 < 2 ^ L[i + 1].2 := Nat.pow_pos (by decide)
    have nb := (Go.Proofs.Tryd.Gp.next_blk r1).1
    rw [r2, r3, r4] at nb
    rw [nb (by omega)]
    refine Prod.ext ?_ rfl
    refine ad_ext ((ofNum_fam _ _).trans s4.symm) ?_
    rw [s2, e]
    exact (ofNum_right (can_fam h) (by omega)).2
  · have k1 : i + 1 < L.length := by simpa using k
    rw [hP i (by omega), hP (i + 1) k]
    obtain ⟨r1, r2, r3, r4, r5⟩ := blk_pf h (hB i (by omega))
    obtain ⟨s1, s2, s3, s4, s5⟩ := blk_pf h (hB (i + 1) k1)
    have e := hs.next i k1
    intro h1 h2 h3
    have hbits : L[i].2 = L[i + 1].2 := by
      have : width a.1 - (L[i].2 : Int) = width a.1 - (L[i + 1].2 : Int) := h2
      omega
    obtain ⟨g1, g2, g3⟩ := fits_iff.1 h1
    have hk1 : L[i + 1].2 + 1 ≤ widF a.1 := by
      have : (pfN a.1 L[i + 1].1 L[i + 1].2).2 = width a.1 - (L[i + 1].2 : Int) := rfl
      rw [this, width_widF] at g2
      omega
    have hcut := cut_pfN s1.ad (k := L[i + 1].2 + 1) (by rw [← widF_wid, s4]; exact hk1)
    rw [s2, s4] at hcut
    rw [show (pfN a.1 L[i + 1].1 L[i + 1].2).2 - 1 = width a.1 - ((L[i + 1].2 + 1 : Nat) : Int) from by show width a.1 - (L[i + 1].2 : Int) - 1 = _; omega, hcut] at h3
    have h4 := congrArg num h3
    rw [r2] at h4
    have hlt : L[i + 1].1 / 2 ^ (L[i + 1].2 + 1) * 2 ^ (L[i + 1].2 + 1) ≤ L[i + 1].1 := Nat.div_mul_le_self _ _
    have hpw : 2 ^ widF a.1 ≤ 2 ^ 128 := Nat.pow_le_pow_right (by decide) hw.2
    have hp : 0 < 2 ^ L[i + 1].2 := Nat.pow_pos (by decide)
    have h5 : num (pfN a.1 (L[i + 1].1 / 2 ^ (L[i + 1].2 + 1) * 2 ^ (L[i + 1].2 + 1)) (L[i + 1].2 + 1)).1 = L[i + 1].1 / 2 ^ (L[i + 1].2 + 1) * 2 ^ (L[i + 1].2 + 1) := num_ofNum _ _ (by omega)
    rw [h5] at h4
    exact hs.apart hb i k1 hbits (by rw [hbits, ← h4]; exact Nat.dvd_mul_left _ _)
  · rw [List.countP_map]
    by_cases hx : rightA x = true ∧ x.1 = a.1
    · have hc : L.countP ((fun p => hasP p x) ∘ pfB a.1) = L.countP (inB (num x)) := by
        refine List.countP_congr fun y hy => ?_
        obtain ⟨r1, r2, r3, r4, r5⟩ := blk_pf h (hs.blk y hy)
        show hasP (pfN a.1 y.1 y.2) x = true ↔ inB (num x) y = true
        rw [has_num r1, r2, r3, r4]
        unfold inB
        simp only [Bool.and_eq_true, decide_eq_true_eq]
        exact ⟨fun q => ⟨q.2.2.1, q.2.2.2⟩, fun q => ⟨hx.1, hx.2, q.1, q.2⟩⟩
      rw [hc, hct]
      by_cases hi : num a ≤ num x ∧ num x ≤ num b
      · rw [if_pos hi, if_pos ⟨hx.1, hx.2, hi.1, hi.2⟩]
      · rw [if_neg hi, if_neg (fun q => hi ⟨q.2.2.1, q.2.2.2⟩)]
    · have hc : L.countP ((fun p => hasP p x) ∘ pfB a.1) = 0 := by
        rw [List.countP_eq_zero]
        intro y hy
        obtain ⟨r1, r2, r3, r4, r5⟩ := blk_pf h (hs.blk y hy)
        show ¬ hasP (pfN a.1 y.1 y.2) x = true
        rw [has_num r1, r4]
        exact fun q => hx ⟨q.1, q.2.1⟩
      rw [hc, if_neg (fun q => hx ⟨q.1, q.2.1⟩)]
end Go.Cph.Px
