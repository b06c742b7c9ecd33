/- A prefix's halves as the document makes them; what comes behind a block; covers as lists of prefixes. No program in sight. -/
import Derived.Test.YtmjjhnfdpiclfaaGreatDoorMT
import Derived.Test.YtmjjhnfdpiclfaaGreatDoorAz4
set_option linter.unusedVariables false
set_option linter.unusedSimpArgs false
namespace Go.Cph.Px
open Go.Cph.Cv
theorem valB_one (m : Nat) : valB (1 :: List.replicate m 0) = 2 ^ m := by
  have h := valB_append [1] (List.replicate m 0)
  rw [valB_zeros, List.length_replicate, Nat.add_zero] at h
  have e : valB [1] = 1 := rfl
  rw [e, Nat.one_mul] at h
  exact h
theorem bitsN_zero {x m : Nat} (h : x % 2 ^ m = 0) : bitsN x m = List.replicate m 0 := by
  refine List.eq_replicate_iff.2 ⟨bitsN_length x m, fun b hb => ?_⟩
  have h1 := low_zero.2 h b hb
  simp only [bitsN, List.mem_map] at hb
  obtain ⟨i, _, rfl⟩ := hb
  split
  · rename_i h2; rw [if_pos h2] at h1; exact absurd rfl h1
  · rfl
/-- The document's second half: the first free bit is 1. -/
theorem half_row {p x y : Pf} {k : Nat} (h : Half p x y k) : fromB p.1.1 (bytesR ((rowA p.1).set p.2.toNat 1)) = y.1 ∧ fromOk p.1.1 ((rowA p.1).length / 8) = true ∧ p.2.toNat < (rowA p.1).length := by
  obtain ⟨f1, f2, f3, f4, f5⟩ := h.facts
  obtain ⟨y1, y2, y3, y4⟩ := h.py
  have hr : rowA p.1 = bitsN (num p.1) (wid p.1) := by unfold rowA; rw [if_pos h.rt.ad]
  have hw : wid p.1 = p.2.toNat + (k + 1) := by
    have h1 := h.rest
    rw [rest_wid _ h.rt.lo] at h1
    omega
  have hlow : num p.1 % 2 ^ (k + 1) = 0 := Nat.mod_eq_zero_of_dvd f1
  have htd : rowA p.1 = (rowA p.1).take p.2.toNat ++ List.replicate (k + 1) 0 := by
    conv => lhs; rw [← List.take_append_drop p.2.toNat (rowA p.1)]
    congr 1
    rw [hr, drop_bitsN, hw, Nat.add_sub_cancel_left, bitsN_zero hlow]
  have htl : ((rowA p.1).take p.2.toNat).length = p.2.toNat := by rw [List.length_take, hr, bitsN_length]; omega
  have hset : (rowA p.1).set p.2.toNat 1 = (rowA p.1).take p.2.toNat ++ 1 :: List.replicate k 0 := by
    conv => lhs; rw [htd]
    rw [List.set_append_right _ _ (by omega), htl, Nat.sub_self, List.replicate_succ, List.set_cons_zero]
  have hlen : ((rowA p.1).set p.2.toNat 1).length = 8 * sizeB p.1 := by rw [List.length_set, hr, bitsN_length, wid_size]
  have hbit : ∀ b ∈ (rowA p.1).set p.2.toNat 1, b.toNat ≤ 1 := by
    intro b hb
    rcases List.mem_or_eq_of_mem_set hb with hb | hb
    · rw [hr] at hb
      simp only [bitsN, List.mem_map] at hb
      obtain ⟨i, _, rfl⟩ := hb
      split <;> decide
    · rw [hb]; decide
  have hlt : num p.1 / 2 ^ (k + 1) < 2 ^ p.2.toNat := by
    rw [Nat.div_lt_iff_lt_mul (Nat.pow_pos (by decide)), ← Nat.pow_add, ← hw]
    exact num_wid h.rt.ad
  have hv : val (bytesR ((rowA p.1).set p.2.toNat 1)) = num p.1 + 2 ^ k := by
    rw [val_bytesR (sizeB p.1) _ hlen hbit, hset, valB_append, hr, take_bitsN _ _ _ (by omega), valB_bitsN, show wid p.1 - p.2.toNat = k + 1 by omega, Nat.mod_eq_of_lt hlt, valB_one, List.length_cons, List.length_replicate, Nat.div_mul_cancel f1]
  have hok : fromOk p.1.1 (sizeB p.1) = true := by
    unfold fromOk sizeB
    rcases f4 with h4 | h6
    · rw [h4]; rfl
    · rw [h6]; rfl
  refine ⟨?_, ?_, by rw [hr, bitsN_length]; omega⟩
  · have e : (bytesR ((rowA p.1).set p.2.toNat 1)).length = sizeB p.1 := by unfold bytesR; rw [List.length_map, List.length_range, hlen]; omega
    unfold fromB
    rw [e, if_pos hok, hv, h.y]; rfl
  · rw [hr, bitsN_length, wid_size, Nat.mul_comm, Nat.mul_div_cancel _ (by decide)]; exact hok
theorem rank_same {a b : Ad} (h : a.1 = b.1) : rank a < rank b ↔ num a < num b := by unfold rank; rw [h]; omega
theorem less_same {a b : Ad} (h : a.1 = b.1) : lessA a b = decide (num a < num b) := by
  rw [Bool.eq_iff_iff, less_rank, rank_same h, decide_eq_true_eq]
end Go.Cph.Px
namespace Go.Proofs.Tryz.Gp
open Go.Cph.Px Go.Cph.Cv
/-- What comes behind a block. -/
theorem next_blk {p : Pf} (h : Rt p) : (num p.1 + 2 ^ rest p.1 p.2 < 2 ^ widF p.1.1 → nextA (lastR p) = (ofNum p.1.1 (num p.1 + 2 ^ rest p.1 p.2), true)) ∧
    (¬ num p.1 + 2 ^ rest p.1 p.2 < 2 ^ widF p.1.1 → nextA (lastR p) = (zeroA, false)) := by
  obtain ⟨l1, l2, l3⟩ := lastR_num h
  have hp : 0 < 2 ^ rest p.1 p.2 := Nat.pow_pos (by decide)
  have hf := right_fam h.ad
  obtain ⟨n1, n2⟩ := next_is (lastR p)
  have hrk : ∀ c : Ad, c.1 = (lastR p).1 → (rank c ≤ rank (lastR p) ↔ num c ≤ num (lastR p)) := fun c hc => by unfold rank; rw [hc]; omega
  constructor
  · intro hlt
    obtain ⟨o1, o2⟩ := ofNum_right hf hlt
    cases hn : (nextA (lastR p)).2 with
    | true =>
      obtain ⟨k1, k2, k3, k4⟩ := n1 hn
      refine Prod.ext (ad_ext (k3.trans (l1.trans (ofNum_fam _ _).symm)) ?_) hn
      unfold rank at k4
      rw [k3] at k4
      rw [o2]; omega
    | false =>
      have h1 := n2 l3 hn (ofNum p.1.1 (num p.1 + 2 ^ rest p.1 p.2)) o1 ((ofNum_fam _ _).trans l1.symm)
      rw [hrk _ ((ofNum_fam _ _).trans l1.symm), o2, l2] at h1
      omega
  · intro hge
    cases hn : (nextA (lastR p)).2 with
    | true =>
      obtain ⟨k1, k2, k3, k4⟩ := n1 hn
      exfalso
      apply hge
      have h1 := num_wid k2
      have h2 : wid (nextA (lastR p)).1 = widF p.1.1 := by rw [← widF_wid, k3, l1]
      rw [h2] at h1
      unfold rank at k4
      rw [k3] at k4
      omega
    | false => exact Tx.next_no hn
end Go.Proofs.Tryz.Gp
namespace Go.Cph.Px
open Go.Cph.Cv
def pfB (f : UInt8) (b : Nat × Nat) : Pf := pfN f b.1 b.2
/-- The cover of a range. -/
def coverP (a b : Ad) : List Pf := if rightA a && (rightA b && a.1 == b.1) then (partN (widF a.1) 0 (num a) (num b)).map (pfB a.1) else []
def CanP (a b : Ad) : Prop := rightA a = true ∧ rightA b = true ∧ a.1 = b.1
theorem cover_can {a b : Ad} (h : CanP a b) : coverP a b = (partN (widF a.1) 0 (num a) (num b)).map (pfB a.1) := by
  unfold coverP; rw [h.1, h.2.1, h.2.2]; simp
theorem cover_not {a b : Ad} (h : ¬ CanP a b) : coverP a b = [] := by
  unfold coverP
  rw [if_neg]
  intro k
  simp only [Bool.and_eq_true, beq_iff_eq] at k
  exact h k
theorem cover_less {a b : Ad} (h : CanP a b) (hl : num b < num a) : coverP a b = [] := by
  rw [cover_can h, part_out (.inr (.inr hl))]; rfl
theorem cover_greedy {a b : Ad} (h : CanP a b) {l : List (Nat × Nat)} (hl : Greedy (widF a.1) (num b) (num a) l) : coverP a b = l.map (pfB a.1) := by
  rw [cover_can h]
  rcases Nat.lt_or_ge (num b) (num a) with k | k
  · rw [part_out (.inr (.inr k)), hl.nil_of k]
  · have hw := num_wid h.2.1
    rw [← widF_wid, ← h.2.2] at hw
    rw [(greedy_part k hw).unique hl]
end Go.Cph.Px
namespace Go.Cph.Px
open Go.Cph.Cv
theorem or_low {x k : Nat} (h : 2 ^ k ∣ x) : x ||| (2 ^ k - 1) = x + (2 ^ k - 1) := by
  obtain ⟨q, rfl⟩ := h
  exact (Nat.two_pow_add_eq_or_of_lt (by have : 0 < 2 ^ k := Nat.pow_pos (by decide); omega) q).symm
/-- The last address, word by word. -/
theorem last_words {p : Pf} (h : Rt p) : ∃ x y : UInt64, lastR p = (p.1.1, x, y) ∧ x.toNat = p.1.2.1.toNat ||| (2 ^ (rest p.1 p.2 - 64) - 1) ∧ y.toNat = p.1.2.2.toNat ||| (2 ^ min (rest p.1 p.2) 64 - 1) := by
  obtain ⟨l1, l2, l3⟩ := lastR_num h
  have hal := aligned.1 h.al
  have hk : rest p.1 p.2 ≤ 128 := rest_le _ h.lo
  refine ⟨(lastR p).2.1, (lastR p).2.2, by rw [← l1], ?_⟩
  obtain ⟨⟨f, hi, lo⟩, bits⟩ := p
  generalize lastR ((f, hi, lo), bits) = A at *
  obtain ⟨g, x, y⟩ := A
  simp only [num] at l2 hal ⊢
  generalize rest (f, hi, lo) bits = k at *
  have a1 : hi.toNat < 18446744073709551616 := hi.toNat_lt
  have a2 : lo.toNat < 18446744073709551616 := lo.toNat_lt
  have a3 : x.toNat < 18446744073709551616 := x.toNat_lt
  have a4 : y.toNat < 18446744073709551616 := y.toNat_lt
  have e64 : (18446744073709551616 : Nat) = 2 ^ 64 := by decide
  have hp : 0 < 2 ^ k := Nat.pow_pos (by decide)
  rcases Nat.lt_or_ge k 65 with hlt | hge
  · have hle : k ≤ 64 := by omega
    have hd64 : 2 ^ k ∣ 18446744073709551616 := by rw [e64]; exact Nat.pow_dvd_pow 2 hle
    have hlo : 2 ^ k ∣ lo.toNat := (Nat.dvd_add_right (Nat.dvd_trans hd64 (Nat.dvd_mul_left _ _))).1 hal
    have hlt2 : lo.toNat + 2 ^ k ≤ 18446744073709551616 := by
      obtain ⟨q, hq⟩ := hlo
      obtain ⟨r, hr⟩ := hd64
      rw [hq, hr] at a2
      have := Nat.lt_of_mul_lt_mul_left a2
      rw [hq, hr, ← Nat.mul_succ]
      exact Nat.mul_le_mul_left _ this
    rw [Nat.min_eq_left hle, Nat.sub_eq_zero_of_le hle, Nat.pow_zero, Nat.sub_self, Nat.or_zero, or_low hlo]
    omega
  · obtain ⟨j, rfl⟩ : ∃ j, k = 64 + j := ⟨k - 64, by omega⟩
    have hpk : 2 ^ (64 + j) = 18446744073709551616 * 2 ^ j := by rw [Nat.pow_add, ← e64]
    have hlo0 : lo.toNat = 0 := by
      have h1 : 18446744073709551616 ∣ hi.toNat * 18446744073709551616 + lo.toNat := Nat.dvd_trans ⟨2 ^ j, hpk⟩ hal
      have h2 := (Nat.dvd_add_right (Nat.dvd_mul_left _ _)).1 h1
      rcases Nat.eq_zero_or_pos lo.toNat with h3 | h3
      · exact h3
      · have := Nat.le_of_dvd h3 h2; omega
    have hhi : 2 ^ j ∣ hi.toNat := by
      rw [hlo0, Nat.add_zero, hpk, Nat.mul_comm hi.toNat] at hal
      exact Nat.dvd_of_mul_dvd_mul_left (by decide) hal
    have hpj : 0 < 2 ^ j := Nat.pow_pos (by decide)
    rw [Nat.min_eq_right (by omega), Nat.add_sub_cancel_left, or_low hhi, hlo0, Nat.zero_or]
    rw [hpk, hlo0] at l2
    have e2 : (2 : Nat) ^ 64 - 1 = 18446744073709551615 := by decide
    rw [e2]
    generalize 2 ^ j = m at *
    omega
end Go.Cph.Px
