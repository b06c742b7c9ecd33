/- MemStill: two memories; its walk. -/
import Derived.Test.YtkikjbcmdlghnaaDoorLa
set_option linter.unusedVariables false
set_option linter.unusedSimpArgs false
set_option maxRecDepth 100000
namespace Go.Proofs.Tryd.Skm
open Go.RowKit Go.Cph Go.Cph.Skip Go.Cph.Skm Go.Cph.Ok Go.Proofs.Tryd.Ok
/-- Two memories apart. -/
structure StR (w2 : World) (pa pb : Nat) (u : List Pu) (at_ : UInt64) (i j : Nat) (W : World) : Prop where
  out : ∃ Fa Fb : Nat → Prop, IsMem Fa W pa (first u i) ∧ IsMem Fb W pb (few u at_ j) ∧ (∀ k, Fa k → ¬ Fb k) ∧ (∀ k, Fa k → w2.heap.size ≤ k) ∧ (∀ k, Fb k → w2.heap.size ≤ k)
  bel : Below w2.heap.size w2 W
section
variable {w2 W W' : World} {pa pb : Nat} {u : List Pu} {at_ : UInt64} {i j : Nat} {m : Int}
theorem StR.later (h : StR w2 pa pb u at_ i j W) (hb : Below W.heap.size W W') : StR w2 pa pb u at_ i j W' := by
  obtain ⟨Fa, Fb, h1, h2, h3⟩ := h.out
  exact ⟨⟨Fa, Fb, h1.kept hb, h2.kept hb, h3⟩, below_step h.bel hb h.bel.size⟩
theorem StR.putA (h : StR w2 pa pb u at_ i j W) (hg : Good u) (hs : ∀ p ∈ u, p.1.1.size ≤ 20000 ∧ p.1.2.1.size ≤ 20000) (hn : u.length ≤ 100) (hm : MaxAt m w2) (hi : i < u.length) (height : Int) :
    Calls Tryd.prog 12 #[ptr pa, encV u[i].1, .int .i64 height] W fun r W' => (∃ z, r = .returned (.int .i64 z)) ∧ StR w2 pa pb u at_ (i + 1) j W' := by
  obtain ⟨Fa, Fb, h1, h2, h3, h4, h5⟩ := h.out
  have hsz := hs _ (List.getElem_mem hi)
  have hby := bytesN_le (es := first u i) fun e he => by obtain ⟨p, hp, rfl⟩ := first_mem e he; exact hs p hp
  have hln := first_len u i
  refine (mPut u[i].1 height m W h1 (max_kept hm h.bel (max_lt hm)) (by omega) (by omega) (by omega) (by omega)).mono ?_
  rintro r W' ⟨F', hr, hmem, ht, hf⟩
  rw [put_first hg hi] at hmem
  refine ⟨⟨_, hr⟩, ⟨F', Fb, hmem, h2.touched ht fun k hb ha => h3 k ha hb, fun k hk hb => ?_, fun k hk => ?_, h5⟩, h.bel.trans (ht.below h.bel.size h4)⟩
  · rcases hf k hk with h6 | h6
    · exact h3 k h6 hb
    · have := h2.lt k hb; omega
  · rcases hf k hk with h6 | h6
    · exact h4 k h6
    · exact Nat.le_trans h.bel.size h6
theorem StR.putB (h : StR w2 pa pb u at_ i j W) (hg : Good u) (hs : ∀ p ∈ u, p.1.1.size ≤ 20000 ∧ p.1.2.1.size ≤ 20000) (hn : u.length ≤ 100) (hm : MaxAt m w2) (hj : j < u.length) (hle : u[j].1.2.2.1 ≤ at_) (height : Int) :
    Calls Tryd.prog 12 #[ptr pb, encV u[j].1, .int .i64 height] W fun r W' => (∃ z, r = .returned (.int .i64 z)) ∧ StR w2 pa pb u at_ i (j + 1) W' := by
  obtain ⟨Fa, Fb, h1, h2, h3, h4, h5⟩ := h.out
  have hsz := hs _ (List.getElem_mem hj)
  have hby := bytesN_le (es := few u at_ j) fun e he => by obtain ⟨p, hp, rfl⟩ := first_mem e (List.mem_filter.1 he).1; exact hs p hp
  have hln := few_len u at_ j
  refine (mPut u[j].1 height m W h2 (max_kept hm h.bel (max_lt hm)) (by omega) (by omega) (by omega) (by omega)).mono ?_
  rintro r W' ⟨F', hr, hmem, ht, hf⟩
  rw [put_few hg hj hle] at hmem
  refine ⟨⟨_, hr⟩, ⟨Fa, F', h1.touched ht fun k ha hb => h3 k ha hb, hmem, fun k ha hk => ?_, h4, fun k hk => ?_⟩, h.bel.trans (ht.below h.bel.size h5)⟩
  · rcases hf k hk with h6 | h6
    · exact h3 k ha h6
    · have := h1.lt k ha; omega
  · rcases hf k hk with h6 | h6
    · exact h5 k h6
    · exact Nat.le_trans h.bel.size h6
theorem StR.skipB (h : StR w2 pa pb u at_ i j W) (hj : j < u.length) (hle : ¬ u[j].1.2.2.1 ≤ at_) : StR w2 pa pb u at_ i (j + 1) W := by
  obtain ⟨Fa, Fb, h1, h2, h3⟩ := h.out
  refine ⟨⟨Fa, Fb, h1, ?_, h3⟩, h.bel⟩
  rw [few_succ hj, if_neg hle]; exact h2
end
/-- Does an entry count? -/
def counts (key : ByteArray) (at_ : UInt64) (e : Et) : Bool := decide (e.1 = key) && decide (e.2.2.1 ≤ at_)
def hits (key : ByteArray) (at_ : UInt64) (x : Et) (l : List Pu) : Bool := l.any fun p => counts key at_ p.1 && decide (p.1 = x)
theorem hits_take (key : ByteArray) (at_ : UInt64) (x : Et) {u : List Pu} {i : Nat} (h : i < u.length) : hits key at_ x (u.take (i + 1)) = (hits key at_ x (u.take i) || (counts key at_ u[i].1 && decide (u[i].1 = x))) := by
  unfold hits
  rw [List.take_succ_eq_append_getElem h, List.any_append]; simp
set_option maxHeartbeats 12800000 in
theorem still_u (v : Value) (l : List Pu) (key : ByteArray) (at_ : UInt64) (m : Int) (w : World) (h : PutsAt w v l) (hl : l.length ≤ 9223372036854775807) (hm : MaxAt m w) :
    Calls Tryd.prog 4 #[v, .string key, .int .u64 (at_.toNat : Int)] w (AwPost w) := by
  have HAW := Lib.hid (show ∀ W, Below w.heap.size w W → Calls Tryd.prog 7 #[] W (AwPost w) from fun W hW => (awake_any m W (max_kept hm hW (max_lt hm))).mono fun e w' h => aw_mono h hW)
  have HGX := Lib.hid (pgreat_any v l w h hl)
  have H := Lib.hid h
  have HM := Lib.hid hm
  clear h hl hm
  go_enter Tryd.func4, Tryd.ntmps4
  go_wp2_with fail
  refine HGX.out.mono ?_
  rintro e w1 ⟨r, rfl, hsm, hb⟩
  have B1 := Lib.hid hb
  have HSM := Lib.hid hsm
  clear hsm hb HGX
  by_cases hbig : r = true ∨ 20000 < key.size
  · by_cases hr : r = true
    · subst hr
      clear hbig
      go_wp2_with fail
      refine (HAW.out w1 B1.out).mono ?_
      rintro e w2 ⟨rfl, hb⟩
      have HB := Lib.hid hb
      clear hb
      go_wp2_with fail
      go_ret
      exact ⟨rfl, HB.out⟩
    · rw [Bool.not_eq_true] at hr
      subst hr
      have k1 : (20000 : Int) < (key.size : Int) := by have := hbig.resolve_left (by simp); omega
      clear hbig
      go_wp2_with fail
      refine (HAW.out w1 B1.out).mono ?_
      rintro e w2 ⟨rfl, hb⟩
      have HB := Lib.hid hb
      clear hb
      go_wp2_with fail
      go_ret
      exact ⟨rfl, HB.out⟩
  · obtain rfl : r = false := by cases r <;> simp_all
    have hsmall := HSM.out rfl
    have HKS := Lib.hid (show key.size ≤ 20000 by omega)
    have k1 : ¬ (20000 : Int) < (key.size : Int) := by omega
    have k1d : decide ((20000 : Int) < (key.size : Int)) = false := decide_eq_false k1
    have HUN := Lib.hid (unlike_any v l w1 (H.out.kept B1.out) hsmall.num)
    obtain ⟨u, hu⟩ : ∃ u, u = unlikeL l := ⟨_, rfl⟩
    have HG := Lib.hid (show Good u from hu ▸ unlike_good l)
    have HS := Lib.hid (show ∀ p ∈ u, p.1.1.size ≤ 20000 ∧ p.1.2.1.size ≤ 20000 from fun p hp => hsmall.each p (unlike_mem l p (hu ▸ hp)))
    have HN := Lib.hid (show u.length ≤ 100 from by rw [hu]; exact Nat.le_trans (unlikeL_le l) hsmall.num)
    unfold UnlikePost at HUN
    rw [← hu] at HUN
    clear hbig hsmall hu HSM
    go_wp2_with fail
    refine HUN.out.mono ?_
    rintro e w2 ⟨uv, rfl, hrow, hb⟩
    have B2 := Lib.hid (below_step B1.out hb B1.out.size)
    obtain ⟨oo, oc, huv⟩ := owns_slice hrow
    subst huv
    have HROW := Lib.hid (show PutsAt w2 (.slice oo u.length oc) u from Seg.of_owns hrow)
    have HM2 := Lib.hid (max_kept HM.out B2.out (max_lt HM.out))
    clear hrow hb HUN
    go_wp2_with fail
    refine (mNew w2).mono ?_
    rintro e w3 ⟨Fa, pa, rfl, hma, hfa, hb⟩
    have MA := Lib.hid hma
    have FA := Lib.hid hfa
    have B3 := Lib.hid hb
    clear hma hfa hb
    go_wp2_with fail
    refine (mNew w3).mono ?_
    rintro e w4 ⟨Fb, pb, rfl, hmb, hfb, hb⟩
    have HST := Lib.hid (show StR w2 pa pb u at_ 0 0 w4 from ⟨⟨Fa, Fb, MA.out.kept hb, hmb, fun k ha hb' => by have := MA.out.lt k ha; have := hfb k hb'; omega, FA.out, fun k hk => Nat.le_trans B3.out.size (hfb k hk)⟩, below_step B3.out hb B3.out.size⟩)
    clear hmb hfb hb MA FA B3
    go_wp2_with fail
    obtain ⟨n, hn⟩ : ∃ n, n = u.length := ⟨_, rfl⟩
    have HNL := Lib.hid hn
    have hn100 : n ≤ 100 := by rw [hn]; exact HN.out
    rw [← hn] at HROW ⊢
    clear hn
    go_loopw [10] (fun vi W => ∃ i : Nat, i ≤ n ∧ vi = .int .i64 i ∧ StR w2 pa pb u at_ i i W) (fun vi _ => n - (intOf vi).toNat)
    case atStart => exact ⟨0, Nat.zero_le _, rfl, HST.out⟩
    case round =>
      obtain ⟨i, hi, rfl, hst⟩ := hrel
      have HSTR := Lib.hid hst
      by_cases hlt : i < n
      · have hiu : i < u.length := by rw [← HNL.out]; exact hlt
        have hrw := HROW.out
        rw [HNL.out] at hrw
        obtain ⟨b, off, cap', hve, hcs⟩ := puts_cells hrw (by omega)
        injection hve with hx1 hx2 hx3
        subst hx1
        obtain ⟨p, hp⟩ : ∃ p, p = u[i]'hiu := ⟨_, rfl⟩
        have hcw := hcs i hiu
        rw [← hp] at hcw
        have HCW := Lib.hid (show ∀ W, Below w2.heap.size w2 W → CellsU W b (off + i * 5) p from fun W hW => hcw.kept hW)
        have HP := Lib.hid hp
        have hpa := hst.later (Below.refl _ _).drew |>.putA HG.out HS.out HN.out HM2.out hiu p.2
        rw [← hp] at hpa
        have HPA := Lib.hid hpa
        have hcw2 := HCW.out wr hst.bel
        have d0 := hcw2.c0
        have d1 := hcw2.c1
        have d2 := hcw2.c2
        have d3 := hcw2.c3
        have d4 := hcw2.c4
        have q1 : (0 : Int) ≤ (i : Int) := by omega
        have q2 : (i : Int) < (n : Int) := by omega
        have q4 : IntKind.i64.wrap ((i : Int) + 1) = (i : Int) + 1 := by rw [IntKind.wrap_i64]; omega
        have HLT := Lib.hid hlt
        clear hx2 hx3 hcs hcw hcw2 hp hpa hst hlt hrw
        go_upto_region 9 with (fail)
        go_still_tail 11, (by kernel_rfl)
        change wpList _ _ _ _ _ wr.drew
        go_upto_region 10 with (go_at_call 12; refine HPA.out.mono ?_; rintro e w5 ⟨⟨z, rfl⟩, hs5⟩)
        have HS5 := Lib.hid hs5
        have hcw5 := HCW.out w5 hs5.bel
        have d0 := hcw5.c0
        have d1 := hcw5.c1
        have d2 := hcw5.c2
        have d3 := hcw5.c3
        clear hs5 hcw5
        by_cases hle : p.1.2.2.1 ≤ at_
        · have i1 : (p.1.2.2.1.toNat : Int) ≤ (at_.toNat : Int) := by rw [UInt64.le_iff_toNat_le] at hle; omega
          have i1b : decide (p.1.2.2.1.toNat ≤ at_.toNat) = true := by simp; omega
          have i1c : p.1.2.2.1.toNat ≤ at_.toNat := by omega
          have hpb := HS5.out.putB HG.out HS.out HN.out HM2.out hiu (by rw [← HP.out]; exact hle) 1
          rw [← HP.out] at hpb
          have HPB := Lib.hid hpb
          clear hpb hle
          go_wp2_with fail
          refine HPB.out.mono ?_
          rintro e w6 ⟨⟨z2, rfl⟩, hs6⟩
          have HS6 := Lib.hid hs6
          clear hs6
          go_wp2_with fail
          go_roundw
          case rel => exact ⟨i + 1, HLT.out, by go_num, HS6.out⟩
          case measure => have := HLT.out; simp [intOf]; omega
        · have i1 : ¬ (p.1.2.2.1.toNat : Int) ≤ (at_.toNat : Int) := by rw [UInt64.le_iff_toNat_le] at hle; omega
          have i1b : decide (p.1.2.2.1.toNat ≤ at_.toNat) = false := by simp; omega
          have i1c : ¬ p.1.2.2.1.toNat ≤ at_.toNat := by omega
          have HS6 := Lib.hid (HS5.out.skipB hiu (by rw [← HP.out]; exact hle))
          clear hle
          go_wp2_with fail
          go_roundw
          case rel => exact ⟨i + 1, HLT.out, by go_num, HS6.out⟩
          case measure => have := HLT.out; simp [intOf]; omega
      · have hie : i = u.length := by have := HNL.out; omega
        have hq : ¬ (i : Int) < (n : Int) := by omega
        rw [hie] at hst
        clear hlt HSTR
        obtain ⟨Fa, Fb, ha, hb, hd⟩ := hst.out
        have HBW := Lib.hid hst.bel
        have HA := Lib.hid ha
        have HB := Lib.hid hb
        clear ha hb hd hst hie
        -- behind the loop
        have HUQ := Lib.hid (show Uniq2 (first u u.length) from by rw [first_all]; exact HG.out.uniq)
        have HATA := Lib.hid (mAt key at_ m wr HA.out (max_kept HM2.out HBW.out (max_lt HM2.out)) (by have := HKS.out; omega))
        go_wp2_with fail
        refine HATA.out.mono ?_
        rintro e w5 ⟨x, ok, rfl, hax, hb⟩
        have HAX := Lib.hid hax
        have B5 := Lib.hid (below_step HBW.out hb HBW.out.size)
        have HB5 := Lib.hid (HB.out.kept hb)
        clear hb hax HATA HA HB
        cases ok with
        | false =>
          have hxz : x = zeroV := by
            rcases HAX.out with ⟨_, h, _⟩ | ⟨h, _⟩
            · exact h
            · cases h
          subst hxz
          have hbx5 : Below w5.heap.size w5 (w5.alloc boxZ) := (Below.refl _ _).alloc (Nat.le_refl _) _
          have B6 := Lib.hid (below_step B5.out hbx5 B5.out.size)
          have HGX := Lib.hid (heap_alloc_new w5 boxZ)
          have HATB := Lib.hid (show Calls Tryd.prog 13 #[ptr pb, .string key, .int .u64 (at_.toNat : Int)] (w5.alloc boxZ) fun r w' => r = .returned (.tuple #[.agg #[.string ⟨#[]⟩, .string ⟨#[]⟩, .int .u64 0, .bool false], .bool false]) ∧ Below (w5.alloc boxZ).heap.size (w5.alloc boxZ) w' from
            (mAt key at_ m _ (HB5.out.kept hbx5) (max_kept HM2.out B6.out (max_lt HM2.out)) (by have := HKS.out; omega)).mono fun r w' ⟨y, is, h1, h2, h3⟩ => by
              obtain ⟨rfl, rfl⟩ := AtIs.one (HUQ.out.filter _) HAX.out.still h2
              exact ⟨h1, h3⟩)
          clear hbx5
          go_wp2_with fail
          refine HATB.out.mono ?_
          rintro e w7 ⟨rfl, hb⟩
          have hbx7 : Below w7.heap.size w7 (w7.alloc boxZ) := (Below.refl _ _).alloc (Nat.le_refl _) _
          have B8 := Lib.hid (below_step (below_step B6.out hb B6.out.size) hbx7 (below_step B6.out hb B6.out.size).size)
          have HGX8 := Lib.hid (blk_kept hbx7 (blk_kept hb HGX.out))
          have HGY8 := Lib.hid (heap_alloc_new w7 boxZ)
          clear hb hbx7 HATB HGX HB5 B5 B6
          go_upto_region 14 with (fail)
          obtain ⟨bx, hbx⟩ : ∃ b, b = w5.heap.size := ⟨_, rfl⟩
          obtain ⟨by_, hby⟩ : ∃ b, b = w7.heap.size := ⟨_, rfl⟩
          rw [← hbx] at HGX8 ⊢
          rw [← hby] at HGY8 ⊢
          clear hbx hby
          generalize w7.alloc boxZ = w8 at *
          have x0 : w8.cell? ⟨bx, 0, none⟩ = some (.string ⟨#[]⟩) := by rw [blk_cell HGX8.out]; rfl
          have x1 : w8.cell? ⟨bx, 1, none⟩ = some (.string ⟨#[]⟩) := by rw [blk_cell HGX8.out]; rfl
          have x2 : w8.cell? ⟨bx, 2, none⟩ = some (.int .u64 0) := by rw [blk_cell HGX8.out]; rfl
          have x3 : w8.cell? ⟨bx, 3, none⟩ = some (.bool false) := by rw [blk_cell HGX8.out]; rfl
          have y0 : w8.cell? ⟨by_, 0, none⟩ = some (.string ⟨#[]⟩) := by rw [blk_cell HGY8.out]; rfl
          have y1 : w8.cell? ⟨by_, 1, none⟩ = some (.string ⟨#[]⟩) := by rw [blk_cell HGY8.out]; rfl
          have y2 : w8.cell? ⟨by_, 2, none⟩ = some (.int .u64 0) := by rw [blk_cell HGY8.out]; rfl
          have y3 : w8.cell? ⟨by_, 3, none⟩ = some (.bool false) := by rw [blk_cell HGY8.out]; rfl
          have hnz : ∀ W, (binOp .neq TE (.agg #[.string ⟨#[]⟩, .string ⟨#[]⟩, .int .u64 0, .bool false]) (.agg #[.string ⟨#[]⟩, .string ⟨#[]⟩, .int .u64 0, .bool false])).run Tryd.prog W = .ok (.bool false) W := fun W => by
            have := run_neqE zeroV zeroV W
            rw [show (!decide (zeroV = zeroV)) = false from by simp] at this
            exact this
          go_wp2_with fail
          clear x0 x1 x2 x3 y0 y1 y2 y3 hnz
          have HROWN := HNL.out
          clear HST
          go_loopw [15, 16] (fun vt vi W => ∃ i : Nat, i ≤ n ∧ vi = .int .i64 i ∧ vt = .bool (false) ∧ Below w8.heap.size w8 W) (fun _ vi _ => n - (intOf vi).toNat)
          case atStart => exact ⟨0, Nat.zero_le _, rfl, rfl, Below.refl _ _⟩
          case round =>
            obtain ⟨i, hi, rfl, rfl, hb8⟩ := hrel
            have HB9 := Lib.hid hb8
            by_cases hlt : i < n
            · have hiu : i < u.length := by rw [← HNL.out]; exact hlt
              have hrw := HROW.out
              rw [HNL.out] at hrw
              obtain ⟨b, off, cap', hve, hcs⟩ := puts_cells hrw (by omega)
              injection hve with hx1 hx2 hx3
              subst hx1
              obtain ⟨p, hp⟩ : ∃ p, p = u[i]'hiu := ⟨_, rfl⟩
              have hcw := (hcs i hiu).kept (below_step B8.out hb8 B8.out.size)
              rw [← hp] at hcw
              have HIN := Lib.hid (show p.1 ∈ first u u.length from by rw [first_all, hp]; exact List.mem_map_of_mem (List.getElem_mem hiu))
              have HP := Lib.hid hp
              have d0 := hcw.c0
              have d1 := hcw.c1
              have d2 := hcw.c2
              have d3 := hcw.c3
              have q1 : (0 : Int) ≤ (i : Int) := by omega
              have q2 : (i : Int) < (n : Int) := by omega
              have q4 : IntKind.i64.wrap ((i : Int) + 1) = (i : Int) + 1 := by rw [IntKind.wrap_i64]; omega
              have HLT := Lib.hid hlt
              have HBA := Lib.hid (show Below w8.heap.size w8 (wr.alloc (boxE p.1)) from hb8.alloc hb8.size _)
              clear hx2 hx3 hcs hcw hp hlt hrw hb8 hi HROWN
              by_cases hkey : p.1.1 = key
              · have j1 : (p.1.1.toList == key.toList) = true := by rw [beq_toList]; simpa using hkey
                by_cases hseq : at_ < p.1.2.2.1
                · have i1 : (at_.toNat : Int) < (p.1.2.2.1.toNat : Int) := by rw [UInt64.lt_iff_toNat_lt] at hseq; omega
                  have i1b : decide (at_.toNat < p.1.2.2.1.toNat) = true := by simp; omega
                  have i1c : at_.toNat < p.1.2.2.1.toNat := by omega
                  clear hkey hseq
                  go_wp2_with fail
                  go_roundw
                  case rel => exact ⟨i + 1, HLT.out, by go_num, rfl, HBA.out⟩
                  case measure => have := HLT.out; simp [intOf]; omega
                · have i1 : ¬ (at_.toNat : Int) < (p.1.2.2.1.toNat : Int) := by rw [UInt64.lt_iff_toNat_lt] at hseq; omega
                  have i1b : decide (at_.toNat < p.1.2.2.1.toNat) = false := by simp; omega
                  have i1c : ¬ at_.toNat < p.1.2.2.1.toNat := by omega
                  exfalso
                  rcases HAX.out with ⟨_, _, h⟩ | ⟨h, _⟩
                  · exact hseq (h p.1 HIN.out hkey)
                  · cases h
              · have j1 : (p.1.1.toList == key.toList) = false := by rw [beq_toList]; simpa using hkey
                clear hkey
                go_wp2_with fail
                go_roundw
                case rel => exact ⟨i + 1, HLT.out, by go_num, rfl, HBA.out⟩
                case measure => have := HLT.out; simp [intOf]; omega
            · have hq : ¬ (i : Int) < (n : Int) := by omega
              have HBL := Lib.hid (below_step B2.out (below_step B8.out HB9.out B8.out.size) B2.out.size)
              clear hlt hb8
              go_wp2_with fail
              refine (HAW.out wr HBL.out).mono ?_
              rintro e w9 ⟨rfl, hb⟩
              have BF := Lib.hid hb
              clear hb
              go_wp2_with fail
              go_ret
              exact ⟨rfl, BF.out⟩
        | true =>
          have hbx5 : Below w5.heap.size w5 (w5.alloc (boxE x)) := (Below.refl _ _).alloc (Nat.le_refl _) _
          have B6 := Lib.hid (below_step B5.out hbx5 B5.out.size)
          have HGX := Lib.hid (heap_alloc_new w5 (boxE x))
          have HATB := Lib.hid (show Calls Tryd.prog 13 #[ptr pb, .string key, .int .u64 (at_.toNat : Int)] (w5.alloc (boxE x)) fun r w' => r = .returned (.tuple #[encV x, .bool true]) ∧ Below (w5.alloc (boxE x)).heap.size (w5.alloc (boxE x)) w' from
            (mAt key at_ m _ (HB5.out.kept hbx5) (max_kept HM2.out B6.out (max_lt HM2.out)) (by have := HKS.out; omega)).mono fun r w' ⟨y, is, h1, h2, h3⟩ => by
              obtain ⟨rfl, rfl⟩ := AtIs.one (HUQ.out.filter _) HAX.out.still h2
              exact ⟨h1, h3⟩)
          clear hbx5
          go_wp2_with fail
          refine HATB.out.mono ?_
          rintro e w7 ⟨rfl, hb⟩
          have hbx7 : Below w7.heap.size w7 (w7.alloc (boxE x)) := (Below.refl _ _).alloc (Nat.le_refl _) _
          have B8 := Lib.hid (below_step (below_step B6.out hb B6.out.size) hbx7 (below_step B6.out hb B6.out.size).size)
          have HGX8 := Lib.hid (blk_kept hbx7 (blk_kept hb HGX.out))
          have HGY8 := Lib.hid (heap_alloc_new w7 (boxE x))
          clear hb hbx7 HATB HGX HB5 B5 B6
          go_upto_region 14 with (fail)
          obtain ⟨bx, hbx⟩ : ∃ b, b = w5.heap.size := ⟨_, rfl⟩
          obtain ⟨by_, hby⟩ : ∃ b, b = w7.heap.size := ⟨_, rfl⟩
          rw [← hbx] at HGX8 ⊢
          rw [← hby] at HGY8 ⊢
          clear hbx hby
          generalize w7.alloc (boxE x) = w8 at *
          have x0 : w8.cell? ⟨bx, 0, none⟩ = some (.string x.1) := by rw [blk_cell HGX8.out]; rfl
          have x1 : w8.cell? ⟨bx, 1, none⟩ = some (.string x.2.1) := by rw [blk_cell HGX8.out]; rfl
          have x2 : w8.cell? ⟨bx, 2, none⟩ = some (.int .u64 (x.2.2.1.toNat : Int)) := by rw [blk_cell HGX8.out]; rfl
          have x3 : w8.cell? ⟨bx, 3, none⟩ = some (.bool x.2.2.2) := by rw [blk_cell HGX8.out]; rfl
          have y0 : w8.cell? ⟨by_, 0, none⟩ = some (.string x.1) := by rw [blk_cell HGY8.out]; rfl
          have y1 : w8.cell? ⟨by_, 1, none⟩ = some (.string x.2.1) := by rw [blk_cell HGY8.out]; rfl
          have y2 : w8.cell? ⟨by_, 2, none⟩ = some (.int .u64 (x.2.2.1.toNat : Int)) := by rw [blk_cell HGY8.out]; rfl
          have y3 : w8.cell? ⟨by_, 3, none⟩ = some (.bool x.2.2.2) := by rw [blk_cell HGY8.out]; rfl
          obtain ⟨hxk, hxs⟩ : x.1 = key ∧ x.2.2.1 ≤ at_ := by
            rcases HAX.out with ⟨h, _⟩ | ⟨_, _, h1, h2, _⟩
            · cases h
            · exact ⟨h1, h2⟩
          have HXK := Lib.hid hxk
          have HXS := Lib.hid hxs
          have hnz : ∀ W, (binOp .neq TE (encV x) (encV x)).run Tryd.prog W = .ok (.bool false) W := fun W => by
            have := run_neqE x x W
            rw [show (!decide (x = x)) = false from by simp] at this
            exact this
          have j1 : (x.1.toList == key.toList) = true := by rw [beq_toList]; simpa using hxk
          have j2 : ¬ (at_.toNat : Int) < (x.2.2.1.toNat : Int) := by have := UInt64.le_iff_toNat_le.1 hxs; omega
          have j2b : decide (at_.toNat < x.2.2.1.toNat) = false := by simp; omega
          have j2c : ¬ at_.toNat < x.2.2.1.toNat := by omega
          clear hxk hxs
          go_wp2_with fail
          clear x0 x1 x2 x3 y0 y1 y2 y3 hnz j1 j2 j2b j2c
          have HROWN := HNL.out
          clear HST
          go_loopw [15, 16] (fun vt vi W => ∃ i : Nat, i ≤ n ∧ vi = .int .i64 i ∧ vt = .bool (hits key at_ x (u.take i)) ∧ Below w8.heap.size w8 W) (fun _ vi _ => n - (intOf vi).toNat)
          case atStart => exact ⟨0, Nat.zero_le _, rfl, rfl, Below.refl _ _⟩
          case round =>
            obtain ⟨i, hi, rfl, rfl, hb8⟩ := hrel
            have HB9 := Lib.hid hb8
            by_cases hlt : i < n
            · have hiu : i < u.length := by rw [← HNL.out]; exact hlt
              have hrw := HROW.out
              rw [HNL.out] at hrw
              obtain ⟨b, off, cap', hve, hcs⟩ := puts_cells hrw (by omega)
              injection hve with hx1 hx2 hx3
              subst hx1
              obtain ⟨p, hp⟩ : ∃ p, p = u[i]'hiu := ⟨_, rfl⟩
              have hcw := (hcs i hiu).kept (below_step B8.out hb8 B8.out.size)
              rw [← hp] at hcw
              have HIN := Lib.hid (show p.1 ∈ first u u.length from by rw [first_all, hp]; exact List.mem_map_of_mem (List.getElem_mem hiu))
              have HP := Lib.hid hp
              have d0 := hcw.c0
              have d1 := hcw.c1
              have d2 := hcw.c2
              have d3 := hcw.c3
              have q1 : (0 : Int) ≤ (i : Int) := by omega
              have q2 : (i : Int) < (n : Int) := by omega
              have q4 : IntKind.i64.wrap ((i : Int) + 1) = (i : Int) + 1 := by rw [IntKind.wrap_i64]; omega
              have HLT := Lib.hid hlt
              have HBA := Lib.hid (show Below w8.heap.size w8 (wr.alloc (boxE p.1)) from hb8.alloc hb8.size _)
              have HGXR := Lib.hid (blk_alloc (blk_kept hb8 HGX8.out) (boxE p.1))
              have x0 : (wr.alloc (boxE p.1)).cell? ⟨bx, 0, none⟩ = some (.string x.1) := by rw [blk_cell HGXR.out]; rfl
              have x1 : (wr.alloc (boxE p.1)).cell? ⟨bx, 1, none⟩ = some (.string x.2.1) := by rw [blk_cell HGXR.out]; rfl
              have x2 : (wr.alloc (boxE p.1)).cell? ⟨bx, 2, none⟩ = some (.int .u64 (x.2.2.1.toNat : Int)) := by rw [blk_cell HGXR.out]; rfl
              have x3 : (wr.alloc (boxE p.1)).cell? ⟨bx, 3, none⟩ = some (.bool x.2.2.2) := by rw [blk_cell HGXR.out]; rfl
              obtain ⟨th, hth⟩ : ∃ th, th = hits key at_ x (u.take i) := ⟨_, rfl⟩
              have HTH := Lib.hid hth.symm
              rw [← hth]
              clear hth
              clear hx2 hx3 hcs hcw hp hlt hrw hb8 hi HROWN
              by_cases hkey : p.1.1 = key
              · have j1 : (p.1.1.toList == key.toList) = true := by rw [beq_toList]; simpa using hkey
                by_cases hseq : at_ < p.1.2.2.1
                · have i1 : (at_.toNat : Int) < (p.1.2.2.1.toNat : Int) := by rw [UInt64.lt_iff_toNat_lt] at hseq; omega
                  have i1b : decide (at_.toNat < p.1.2.2.1.toNat) = true := by simp; omega
                  have i1c : at_.toNat < p.1.2.2.1.toNat := by omega
                  have HNX := Lib.hid (show hits key at_ x (u.take (i + 1)) = th from by rw [hits_take _ _ _ hiu, ← HP.out, HTH.out]; unfold counts; rw [decide_eq_false (UInt64.not_le.2 hseq)]; simp)
                  clear hkey hseq
                  go_wp2_with fail
                  go_roundw
                  case rel => exact ⟨i + 1, HLT.out, by go_num, by rw [HNX.out], HBA.out⟩
                  case measure => have := HLT.out; simp [intOf]; omega
                · have i1 : ¬ (at_.toNat : Int) < (p.1.2.2.1.toNat : Int) := by rw [UInt64.lt_iff_toNat_lt] at hseq; omega
                  have i1b : decide (at_.toNat < p.1.2.2.1.toNat) = false := by simp; omega
                  have i1c : ¬ at_.toNat < p.1.2.2.1.toNat := by omega
                  have HLE := Lib.hid (show p.1.2.2.1 ≤ x.2.2.1 from by
                    rcases HAX.out with ⟨h, _⟩ | ⟨_, _, _, _, h⟩
                    · cases h
                    · exact h p.1 HIN.out hkey (UInt64.not_lt.1 hseq))
                  have i2 : ¬ (x.2.2.1.toNat : Int) < (p.1.2.2.1.toNat : Int) := by have := UInt64.le_iff_toNat_le.1 HLE.out; omega
                  have i2b : decide (x.2.2.1.toNat < p.1.2.2.1.toNat) = false := by simp; omega
                  have i2c : ¬ x.2.2.1.toNat < p.1.2.2.1.toNat := by omega
                  have HCN := Lib.hid (show counts key at_ p.1 = true from by unfold counts; rw [decide_eq_true hkey, decide_eq_true (UInt64.not_lt.1 hseq)]; rfl)
                  have heq := fun W => run_eqlE p.1 x W
                  by_cases hpx : p.1 = x
                  · have HPX := Lib.hid hpx
                    rw [show decide (p.1 = x) = true from by simpa using hpx] at heq
                    have HNX := Lib.hid (show hits key at_ x (u.take (i + 1)) = true from by rw [hits_take _ _ _ hiu, ← HP.out, HCN.out, HPX.out]; simp)
                    clear hkey hseq hpx
                    cases th with
                    | true =>
                      go_wp2_with fail
                      go_roundw
                      case rel => exact ⟨i + 1, HLT.out, by go_num, by rw [HNX.out], HBA.out⟩
                      case measure => have := HLT.out; simp [intOf]; omega
                    | false =>
                      go_wp2_with fail
                      go_roundw
                      case rel => exact ⟨i + 1, HLT.out, by go_num, by rw [HNX.out], HBA.out⟩
                      case measure => have := HLT.out; simp [intOf]; omega
                  · rw [show decide (p.1 = x) = false from by simpa using hpx] at heq
                    have HNX := Lib.hid (show hits key at_ x (u.take (i + 1)) = th from by rw [hits_take _ _ _ hiu, ← HP.out, HTH.out]; simp [hpx])
                    clear hkey hseq hpx
                    cases th with
                    | true =>
                      go_wp2_with fail
                      go_roundw
                      case rel => exact ⟨i + 1, HLT.out, by go_num, by rw [HNX.out], HBA.out⟩
                      case measure => have := HLT.out; simp [intOf]; omega
                    | false =>
                      go_wp2_with fail
                      go_roundw
                      case rel => exact ⟨i + 1, HLT.out, by go_num, by rw [HNX.out], HBA.out⟩
                      case measure => have := HLT.out; simp [intOf]; omega
              · have j1 : (p.1.1.toList == key.toList) = false := by rw [beq_toList]; simpa using hkey
                have HNX := Lib.hid (show hits key at_ x (u.take (i + 1)) = th from by rw [hits_take _ _ _ hiu, ← HP.out, HTH.out]; unfold counts; rw [decide_eq_false hkey]; simp)
                clear hkey
                go_wp2_with fail
                go_roundw
                case rel => exact ⟨i + 1, HLT.out, by go_num, by rw [HNX.out], HBA.out⟩
                case measure => have := HLT.out; simp [intOf]; omega
            · have hq : ¬ (i : Int) < (n : Int) := by omega
              have HTT := Lib.hid (show hits key at_ x (u.take i) = true from by
                rw [show i = u.length from by have := HNL.out; omega, List.take_of_length_le (Nat.le_refl _)]
                rcases HAX.out with ⟨h, _⟩ | ⟨_, h1, h2, h3, _⟩
                · cases h
                · rw [first_all] at h1
                  obtain ⟨p, hp, hpx⟩ := List.mem_map.1 h1
                  unfold hits
                  rw [List.any_eq_true]
                  refine ⟨p, hp, ?_⟩
                  unfold counts
                  rw [hpx]
                  simp [h2, h3])
              rw [HTT.out]
              have HBL := Lib.hid (below_step B2.out (below_step B8.out HB9.out B8.out.size) B2.out.size)
              clear hlt hb8
              go_wp2_with fail
              refine (HAW.out wr HBL.out).mono ?_
              rintro e w9 ⟨rfl, hb⟩
              have BF := Lib.hid hb
              clear hb
              go_wp2_with fail
              go_ret
              exact ⟨rfl, BF.out⟩
theorem still_law (v : Value) (l : List Pu) (key : ByteArray) (at_ : Int) (m : Int) (w : World) (h : PutsAt w v l) (hl : l.length ≤ 9223372036854775807) (ha : (Lit.int .u64 at_).wf = true) (hm : MaxAt m w) :
    Calls Tryd.prog 4 #[v, .string key, .int .u64 at_] w (AwPost w) := by
  obtain ⟨at_, rfl⟩ := mu64_of ha
  exact still_u v l key at_ m w h hl hm
end Go.Proofs.Tryd.Skm
