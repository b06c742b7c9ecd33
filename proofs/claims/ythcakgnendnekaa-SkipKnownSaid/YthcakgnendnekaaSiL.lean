/- SkipKnown: the walk. -/
import Derived.Test.YthcakgnendnekaaSiK
open Go.RowKit Go.Cph Go.Cph.Skip
set_option linter.unusedVariables false
set_option linter.unusedSimpArgs false
namespace Go.Proofs.Try.SkI

set_option maxRecDepth 100000 in
set_option maxHeartbeats 4000000 in
theorem known (w : World) : Calls Try.prog 7 #[] w (SkS.AwakePost w) := by
  go_enter Try.func7, Try.ntmps7
  go_wp2_with fail
  refine (cNew w).mono ?_
  rintro e w1 ⟨rfl, hat, hb⟩
  have HA1 := Lib.hid hat
  have HB1 := Lib.hid hb
  have hf1 : ∀ j, foot w.heap.size (.slice none 0 0) ([] : List (Nd V)) j → w.heap.size ≤ j := by
    rintro j (h | h | ⟨y, hy, _⟩)
    · omega
    · simp [Value.ownBlock] at h
    · simp at hy
  have HF1 := Lib.hid hf1
  clear hat hb hf1
  go_wp2_with fail
  refine (cSet kB 1 2 w1 HA1.out linkedNil (by simp)).mono ?_
  rintro e w2 ⟨nx2, nodes2, v2, fr2, rfl, hat, hln, htc, hft, his⟩
  have hi2 := his.its (fun i j hi => absurd hi (by simp))
  rw [show its ([] : List (Nd V)) = [] from rfl, i1] at hi2
  have HI2 := Lib.hid hi2.1
  have hfr : fr2 = true := hi2.2
  subst hfr
  have HA2 := Lib.hid hat
  have HL2 := Lib.hid hln
  have HB2 := Lib.hid (HB1.out.trans (htc.below HB1.out.size HF1.out))
  have HF2 := Lib.hid (show ∀ j, foot w.heap.size v2 nodes2 j → w.heap.size ≤ j from fun j hj => by rcases hft j hj with h | h; exact HF1.out j h; have := HB1.out.size; omega)
  have hlen2 : nodes2.length ≤ 1000000 := by have := congrArg List.length HI2.out; simp [its] at this; omega
  clear hat hln htc hft his hi2
  go_wp2_with fail
  refine (cSet kA 2 0 w2 HA2.out HL2.out hlen2).mono ?_
  rintro e w3 ⟨nx3, nodes3, v3, fr3, rfl, hat, hln, htc, hft, his⟩
  have hi3 := his.its HL2.out.keys
  rw [HI2.out, i2, h2] at hi3
  have HI3 := Lib.hid hi3.1
  have hfr : fr3 = true := hi3.2
  subst hfr
  have HA3 := Lib.hid hat
  have HL3 := Lib.hid hln
  have HB3 := Lib.hid (HB2.out.trans (htc.below HB2.out.size HF2.out))
  have HF3 := Lib.hid (show ∀ j, foot w.heap.size v3 nodes3 j → w.heap.size ≤ j from fun j hj => by rcases hft j hj with h | h; exact HF2.out j h; have := HB2.out.size; omega)
  have hlen3 : nodes3.length ≤ 1000000 := by have := congrArg List.length HI3.out; simp [its] at this; omega
  clear hat hln htc hft his hi3
  go_wp2_with fail
  refine (cSet kC 3 99 w3 HA3.out HL3.out hlen3).mono ?_
  rintro e w4 ⟨nx4, nodes4, v4, fr4, rfl, hat, hln, htc, hft, his⟩
  have hi4 := his.its HL3.out.keys
  rw [HI3.out, i3, h3] at hi4
  have HI4 := Lib.hid hi4.1
  have hfr : fr4 = true := hi4.2
  subst hfr
  have HA4 := Lib.hid hat
  have HL4 := Lib.hid hln
  have HB4 := Lib.hid (HB3.out.trans (htc.below HB3.out.size HF3.out))
  have HF4 := Lib.hid (show ∀ j, foot w.heap.size v4 nodes4 j → w.heap.size ≤ j from fun j hj => by rcases hft j hj with h | h; exact HF3.out j h; have := HB3.out.size; omega)
  have hlen4 : nodes4.length ≤ 1000000 := by have := congrArg List.length HI4.out; simp [its] at this; omega
  clear hat hln htc hft his hi4
  go_wp2_with fail
  refine (cSet kB 4 7 w4 HA4.out HL4.out hlen4).mono ?_
  rintro e w5 ⟨nx5, nodes5, v5, fr5, rfl, hat, hln, htc, hft, his⟩
  have hi5 := his.its HL4.out.keys
  rw [HI4.out, i4, h4] at hi5
  have HI5 := Lib.hid hi5.1
  have hfr : fr5 = false := hi5.2
  subst hfr
  have HA5 := Lib.hid hat
  have HL5 := Lib.hid hln
  have HB5 := Lib.hid (HB4.out.trans (htc.below HB4.out.size HF4.out))
  have HF5 := Lib.hid (show ∀ j, foot w.heap.size v5 nodes5 j → w.heap.size ≤ j from fun j hj => by rcases hft j hj with h | h; exact HF4.out j h; have := HB4.out.size; omega)
  have hlen5 : nodes5.length ≤ 1000000 := by have := congrArg List.length HI5.out; simp [its] at this; omega
  clear hat hln htc hft his hi5
  have H3 := Lib.hid (show Three nodes5 from HI5.out)
  have hlen : nodes5.length = 3 := by have := congrArg List.length HI5.out; simpa [its] using this
  have HN := Lib.hid hlen
  clear hlen
  go_wp2_with fail
  refine (cGet kB w5 HA5.out HL5.out).mono ?_
  rintro e w6 ⟨⟨n, k, x, ok, rfl, hq, htl⟩, hb⟩
  obtain ⟨rfl, rfl⟩ := getB H3.out hq htl
  have HA6 := Lib.hid (HA5.out.kept hb)
  have HB6 := Lib.hid (below_step HB5.out hb HB5.out.size)
  clear hb hq htl
  go_wp2_with fail
  refine (cGet kD w6 HA6.out HL5.out).mono ?_
  rintro e w7 ⟨⟨n, k, x, ok, rfl, hq, htl⟩, hb⟩
  obtain rfl := getD H3.out hq htl
  have HA7 := Lib.hid (HA6.out.kept hb)
  have HB7 := Lib.hid (below_step HB6.out hb HB6.out.size)
  clear hb hq htl
  go_wp2_with fail
  refine (cSeek kAB w7 HA7.out HL5.out).mono ?_
  rintro e w8 ⟨⟨n, k, x, ok, rfl, hq, htl⟩, hb⟩
  obtain ⟨rfl, rfl, rfl⟩ := seekAB H3.out hq htl
  have HA8 := Lib.hid (HA7.out.kept hb)
  have HB8 := Lib.hid (below_step HB7.out hb HB7.out.size)
  clear hb hq htl
  go_wp2_with fail
  refine (cAfter kB w8 HA8.out HL5.out).mono ?_
  rintro e w9 ⟨⟨n, k, x, ok, rfl, hq, htl⟩, hb⟩
  obtain ⟨rfl, rfl, rfl⟩ := afterB H3.out hq htl
  have HA9 := Lib.hid (HA8.out.kept hb)
  have HB9 := Lib.hid (below_step HB8.out hb HB8.out.size)
  clear hb hq htl
  go_wp2_with fail
  refine (cSeek kD w9 HA9.out HL5.out).mono ?_
  rintro e w10 ⟨⟨n, k, x, ok, rfl, hq, htl⟩, hb⟩
  obtain rfl := seekD H3.out hq htl
  have HA10 := Lib.hid (HA9.out.kept hb)
  have HB10 := Lib.hid (below_step HB9.out hb HB9.out.size)
  clear hb hq htl
  have q1 : (kB.toList == [98]) = true := by decide +kernel
  have q2 : (kC.toList == [99]) = true := by decide +kernel
  go_wp2_with fail
  refine (cTowers w10 HA10.out HL5.out (by rw [HN.out]; omega)).mono ?_
  rintro e w11 ⟨ut, xs, rfl, hch, _, hown, hb⟩
  have hx := towers3 H3.out hch
  rw [hx.1, hx.2] at hown
  obtain ⟨gt, capt, rfl, _, _, _, hcell, _⟩ := owns_shape hown (by omega)
  have ct0 : w11.cell? ⟨gt, 0, none⟩ = some (.int .i64 1) := hcell 0 (by omega)
  have ct1 : w11.cell? ⟨gt, 1, none⟩ = some (.int .i64 2) := hcell 1 (by omega)
  have ct2 : w11.cell? ⟨gt, 2, none⟩ = some (.int .i64 12) := hcell 2 (by omega)
  clear hcell
  have HA11 := Lib.hid (HA10.out.kept hb)
  have HB11 := Lib.hid (below_step HB10.out hb HB10.out.size)
  clear hb hch hown hx
  go_wp2_with fail
  refine (cRow (1 : Nat) w11 HA11.out HL5.out (by omega) (by rw [HN.out]; omega)).mono ?_
  rintro e w12 ⟨ur, xs, rfl, hch, _, hown, hb⟩
  have hx := row1 H3.out hch
  rw [hx.1, hx.2] at hown
  obtain ⟨gr, capr, rfl, _, _, _, hcell, _⟩ := owns_shape hown (by omega)
  have cr0 : w12.cell? ⟨gr, 0, none⟩ = some (.string kB) := hcell 0 (by omega)
  have cr1 : w12.cell? ⟨gr, 1, none⟩ = some (.string kC) := hcell 1 (by omega)
  clear hcell
  have HA12 := Lib.hid (HA11.out.kept hb)
  have HB12 := Lib.hid (below_step HB11.out hb HB11.out.size)
  replace ct0 := cell_kept hb ct0
  replace ct1 := cell_kept hb ct1
  replace ct2 := cell_kept hb ct2
  clear hb hch hown hx
  go_wp2_with fail
  refine (cRow (2 : Nat) w12 HA12.out HL5.out (by omega) (by rw [HN.out]; omega)).mono ?_
  rintro e w13 ⟨us, xs, rfl, hch, _, hown, hb⟩
  have hx := row2 H3.out hch
  rw [hx.1, hx.2] at hown
  obtain ⟨gs, caps, rfl, _, _, _, hcell, _⟩ := owns_shape hown (by omega)
  have cs0 : w13.cell? ⟨gs, 0, none⟩ = some (.string kC) := hcell 0 (by omega)
  clear hcell
  have HA13 := Lib.hid (HA12.out.kept hb)
  have HB13 := Lib.hid (below_step HB12.out hb HB12.out.size)
  replace ct0 := cell_kept hb ct0
  replace ct1 := cell_kept hb ct1
  replace ct2 := cell_kept hb ct2
  replace cr0 := cell_kept hb cr0
  replace cr1 := cell_kept hb cr1
  clear hb hch hown hx
  go_wp2_with fail
  refine (cRow (0 : Nat) w13 HA13.out HL5.out (by omega) (by rw [HN.out]; omega)).mono ?_
  rintro e w14 ⟨ua, xs, rfl, hch, _, hown, hb⟩
  have hx := row0 H3.out hch
  rw [hx] at hown
  obtain ⟨ga, capa, rfl, _⟩ := owns_shape hown (by omega)
  have HA14 := Lib.hid (HA13.out.kept hb)
  have HB14 := Lib.hid (below_step HB13.out hb HB13.out.size)
  clear hb hch hown hx
  go_wp2_with fail
  refine (cRow (11 : Nat) w14 HA14.out HL5.out (by omega) (by rw [HN.out]; omega)).mono ?_
  rintro e w15 ⟨ub, xs, rfl, hch, _, hown, hb⟩
  have hx := row11 H3.out hch
  rw [hx] at hown
  obtain ⟨gb, capb, rfl, _⟩ := owns_shape hown (by omega)
  have HA15 := Lib.hid (HA14.out.kept hb)
  have HB15 := Lib.hid (below_step HB14.out hb HB14.out.size)
  clear hb hch hown hx
  go_wp2_with fail
  refine (cRowOut 12 w15 (by omega)).mono ?_
  rintro e w16 ⟨rfl, rfl⟩
  go_wp2_with fail
  refine (cRowOut (-1) w15 (by omega)).mono ?_
  rintro e w16 ⟨rfl, rfl⟩
  have hln6 := cLen w15 HA15.out
  rw [HN.out] at hln6
  go_wp2_with fail
  refine hln6.mono ?_
  rintro e w16 ⟨rfl, rfl⟩
  go_wp2_with fail
  refine (SkS.awake w15).mono ?_
  rintro e w16 ⟨rfl, hb⟩
  go_wp2_with fail
  go_ret
  exact ⟨rfl, below_step HB15.out hb HB15.out.size⟩
end Go.Proofs.Try.SkI
