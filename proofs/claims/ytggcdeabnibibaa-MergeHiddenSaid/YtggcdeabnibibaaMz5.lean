/- MergeKeeps: the walk. -/
import Derived.Test.YtggcdeabnibibaaMr8
import Derived.Test.YtggcdeabnibibaaMz1
set_option linter.unusedVariables false
set_option linter.unusedSimpArgs false
namespace Go.Proofs.Try.Mg
open Go.RowKit Go.Cph Go.Cph.Skip Go.Cph.So

theorem infoU : (Try.prog.info? 30).map (fun i => (i.zero, i.size, i.bytes)) = some (some (.int .u64 0), 1, 8) := by kernel_rfl
theorem encN_one {l : List UInt64} : ∀ u ∈ l.flatMap encN, u.oneCell' = true := by
  intro u hu
  rw [List.mem_flatMap] at hu
  obtain ⟨p, _, hu⟩ := hu
  simp only [encN, List.mem_cons, List.not_mem_nil, or_false] at hu
  subst hu; rfl
set_option maxRecDepth 100000 in
set_option maxHeartbeats 16000000 in
theorem keeps_walk (ao : Option Addr) (cap : Nat) (l : List Ent) (at_ : UInt64) (bottom : Bool) (no : Option Addr) (ncap : Nat) (snaps : List UInt64) (w : World) (h : EntsAt w (.slice ao l.length cap) l) (hls : ∀ a ∈ l, SizesOK a) (hcap : l.length ≤ cap) (hcm : cap ≤ 9223372036854775807) (hnum : NumsAt w (.slice no snaps.length ncap) snaps) (hnl : snaps.length ≤ 9223372036854775807) :
    Calls Try.prog 4 #[.slice ao l.length cap, .int .u64 (at_.toNat : Int), .bool bottom, .slice no snaps.length ncap] w (AwPost w) := by
  have hb0 : Below w.heap.size w (w.alloc (.cells #[.slice ao l.length cap] TS)) := (Below.refl _ _).alloc (Nat.le_refl _) _
  have HG := Lib.hid (great_any 1 _ [l] _ (Lists.one (c := 1) (heap_alloc_new w (.cells #[.slice ao l.length cap] TS)) (h.kept hb0)) (by omega) (by simp) (fun k hk => by simp at hk; subst hk; unfold maxLen; omega) (fun k hk e he => by simp at hk; subst hk; exact hls e he))
  have HB0 := Lib.hid hb0
  have HV := Lib.hid h
  have HN := Lib.hid hnum
  clear h hls hb0 hnum
  go_enter Try.func4, Try.ntmps4
  go_wp2_with fail
  refine HG.out.mono ?_
  rintro e w1 ⟨r, rfl, hr, hb⟩
  have HB1 := Lib.hid (below_step HB0.out hb HB0.out.size)
  have HSM := Lib.hid hr
  clear hb hr HG
  cases r
  · by_cases hsn : snaps.length ≤ 10
    · have HSS := Lib.hid (HSM.out rfl)
      have hl60 : l.length ≤ 60 := HSS.out.each l (by simp)
      have HKS := Lib.hid (show KeysOK l by simpa using small_keys HSS.out)
      have HV1 := Lib.hid (HV.out.kept HB1.out)
      have HN1 := Lib.hid (HN.out.kept HB1.out)
      clear HSM HV HN
      have k0 : ¬ (10 : Int) < (snaps.length : Int) := by omega
      have HOE := Lib.hid (show (w1.alloc (.cells #[] TE)).ownsRow w1.heap.size TE 4 (.slice (some ⟨w1.heap.size, 0, none⟩) 0 0) 0 [] from owns_empty (heap_alloc_new w1 (.cells #[] TE)) (Nat.le_refl _) 4)
      have HBE0 := Lib.hid (show Below w1.heap.size w1 (w1.alloc (.cells #[] TE)) from (Below.refl _ _).alloc (Nat.le_refl _) _)
      have HZ0 := Lib.hid HBE0.out.size
      have HUE0 := Lib.hid (HV1.out.kept HBE0.out)
      have HL9 := Lib.hid (show 0 + l.length ≤ 1099511627776 by omega)
      have HL8 := Lib.hid (show 0 + snaps.length ≤ 1099511627776 by omega)
      go_wp2_with (first | (at_builtin; refine wpList_append_seg rfl (.tmp 23) (.tmp 24) 25 rfl w1.heap.size TE _ 4 48 Try.underlying25 infoE rfl (by decide) _ 0 [] rfl HOE.out _ l.length (l.flatMap encC) rfl HUE0.out encC_one HL9.out (by decide) HZ0.out ?_; intro v1 w2 ho hgr _; have HO2 := Lib.hid (show w2.ownsRow w1.heap.size TE 4 v1 l.length (l.flatMap encC) from (by simpa using ho)); have HB2 := Lib.hid (below_grown HBE0.out hgr HOE.out (Nat.le_refl _) HBE0.out.size); clear ho hgr; obtain ⟨o1, c1, hv1⟩ := owns_slice1 HO2.out; subst hv1; have HN2 := Lib.hid (HN1.out.kept HB2.out); have HOE2 := Lib.hid (show (w2.alloc (.cells #[] 30)).ownsRow w2.heap.size 30 1 (.slice (some ⟨w2.heap.size, 0, none⟩) 0 0) 0 [] from owns_empty (heap_alloc_new w2 (.cells #[] 30)) (Nat.le_refl _) 1); have HBE2 := Lib.hid (show Below w2.heap.size w2 (w2.alloc (.cells #[] 30)) from (Below.refl _ _).alloc (Nat.le_refl _) _); have HZ2 := Lib.hid HBE2.out.size; have HUE2 := Lib.hid (HN2.out.kept HBE2.out)) | (at_builtin; refine wpList_append_seg rfl (.tmp 26) (.tmp 27) 34 rfl w2.heap.size 30 _ 1 8 Try.underlying34 infoU rfl (by decide) _ 0 [] rfl HOE2.out _ snaps.length (snaps.flatMap encN) rfl HUE2.out encN_one HL8.out (by decide) HZ2.out ?_; intro v2 w3 ho hgr _; have HO3 := Lib.hid (show w3.ownsRow w2.heap.size 30 1 v2 snaps.length (snaps.flatMap encN) from (by simpa using ho)); have HB3 := Lib.hid (below_grown HBE2.out hgr HOE2.out (Nat.le_refl _) HBE2.out.size); clear ho hgr; obtain ⟨o2, c2, hv2⟩ := owns_slice1 HO3.out; subst hv2))
      have HV2 := Lib.hid (HV1.out.kept HB2.out)
      have HV3 := Lib.hid (HV2.out.kept HB3.out)
      have HN3 := Lib.hid (HN2.out.kept HB3.out)
      have HOW := Lib.hid ((show EntsAt w2 (.slice o1 l.length c1) l from Seg.of_owns HO2.out).kept HB3.out)
      have HNW := Lib.hid (show NumsAt w3 (.slice o2 snaps.length c2) snaps from Seg.of_owns HO3.out)
      have HBW := Lib.hid (below_step (below_step HB1.out HB2.out HB1.out.size) HB3.out (Nat.le_trans HB1.out.size HB2.out.size))
      refine (keep_any _ l bottom _ snaps w3 HOW.out (by omega) HNW.out (by omega)).mono ?_
      rintro e w4 ⟨v11, rfl, ho, hb⟩
      have hml := mergeL_length (lt := ltE) weakE l
      have hst := mergeL_strict (lt := ltE) weakE l
      have hkl : (keepL (mergeL ltE l) bottom snaps).length ≤ 60 := by
        rw [← docKeep_all hst]; have := docKeep_le (mergeL ltE l) bottom snaps (mergeL ltE l).length; omega
      have hsl : (seenL (mergeL ltE l) at_).length ≤ 60 := by
        rw [← docSeen_all hst]; have := docSeen_le (mergeL ltE l) at_ (mergeL ltE l).length; omega
      have HSE := Lib.hid (show ∀ W, EntsAt W (.slice o1 l.length c1) l → Calls Try.prog 18 #[.slice o1 l.length c1, .int .u64 (at_.toNat : Int)] W (OpsPost W (seenL (mergeL ltE l) at_)) from fun W hW => seen_any _ l at_ W hW (by omega))
      have HSD := Lib.hid (show ∀ W, EntsAt W (.slice ao l.length cap) l → Calls Try.prog 19 #[.slice ao l.length cap, .int .u64 (at_.toNat : Int)] W (OpsPost W (seenL (mergeL ltE l) at_)) from fun W hW => seen16 _ l at_ W hW (by omega) HKS.out)
      have HKD := Lib.hid (show ∀ W, EntsAt W (.slice ao l.length cap) l → NumsAt W (.slice no snaps.length ncap) snaps → Calls Try.prog 20 #[.slice ao l.length cap, .bool bottom, .slice no snaps.length ncap] W (NewRow W (keepL (mergeL ltE l) bottom snaps)) from fun W hW hN => keep16 _ _ l bottom snaps W hW hN (by omega) HKS.out (by omega))
      obtain ⟨kk, hkk⟩ : ∃ kk, kk = keepL (mergeL ltE l) bottom snaps := ⟨_, rfl⟩
      obtain ⟨ss, hss⟩ : ∃ ss, ss = seenL (mergeL ltE l) at_ := ⟨_, rfl⟩
      rw [← hkk] at ho hkl HKD
      rw [← hss] at hsl HSE HSD
      obtain ⟨o11, c11, hv11⟩ := owns_slice1 ho
      subst hv11
      have HK4 := Lib.hid ho
      have HB4 := Lib.hid hb
      clear ho hb hml hst hkk hss
      go_wp2_with fail
      refine (HSE.out w4 (HOW.out.kept HB4.out)).mono ?_
      rintro e w5 ⟨v35, rfl, hs5, hb⟩
      have HB5 := Lib.hid (below_step HB4.out hb HB4.out.size)
      have HK5 := Lib.hid (row_kept1 HK4.out fun q hq => hb.block q (HK4.out.lt q hq).2)
      obtain ⟨o35, c35, hv35⟩ := elems_slice hs5
      subst hv35
      have HS5 := Lib.hid hs5
      clear hb hs5
      go_wp2_with fail
      refine (HSD.out w5 (HV3.out.kept HB5.out)).mono ?_
      rintro e w6 ⟨v38, rfl, hs6, hb⟩
      have HB6 := Lib.hid (below_step HB5.out hb HB5.out.size)
      have HK6 := Lib.hid (row_kept1 HK5.out fun q hq => hb.block q (HK5.out.lt q hq).2)
      have HS6 := Lib.hid (HS5.out.kept hb)
      obtain ⟨o38, c38, hv38⟩ := elems_slice hs6
      subst hv38
      have HD6 := Lib.hid hs6
      clear hb hs6
      have HOP := Lib.hid (ops _ _ ss ss w6 HS6.out HD6.out (by omega) (by omega))
      simp only [decide_true] at HOP
      go_wp2_with fail
      refine HOP.out.mono ?_
      rintro e w7 ⟨rfl, hb⟩
      have HB7 := Lib.hid (below_step HB6.out hb HB6.out.size)
      have HK7 := Lib.hid (row_kept1 HK6.out fun q hq => hb.block q (HK6.out.lt q hq).2)
      clear hb HOP
      go_wp2_with fail
      refine (HKD.out w7 (HV3.out.kept HB7.out) (HN3.out.kept HB7.out)).mono ?_
      rintro e w8 ⟨v46, rfl, ho, hb⟩
      have HB8 := Lib.hid (below_step HB7.out hb HB7.out.size)
      have HK8 := Lib.hid (row_kept1 HK7.out fun q hq => hb.block q (HK7.out.lt q hq).2)
      obtain ⟨o46, c46, hv46⟩ := owns_slice1 ho
      subst hv46
      have HSA := Lib.hid (same _ _ kk kk w8 (Seg.of_owns HK8.out) (Seg.of_owns ho) (by omega) (by omega))
      simp only [decide_true] at HSA
      clear ho hb
      go_wp2_with fail
      refine HSA.out.mono ?_
      rintro e w9 ⟨rfl, hb⟩
      have HB9 := Lib.hid (below_step HB8.out hb HB8.out.size)
      have HK9 := Lib.hid (row_kept1 HK8.out fun q hq => hb.block q (HK8.out.lt q hq).2)
      clear hb HSA
      obtain ⟨kn, hkn⟩ : ∃ n, n = kk.length := ⟨_, rfl⟩
      rw [← hkn] at HK9 hkl ⊢
      go_wp2_with fail
      go_loopw [12] (fun vk W => ∃ k : Nat, k ≤ kn ∧ vk = .int .i64 k ∧ (∃ xs, W.ownsRow w3.heap.size TE 4 (.slice o11 kn c11) kn xs) ∧ Below w3.heap.size w3 W) (fun vk _ => kn - (intOf vk).toNat)
      case atStart => exact ⟨0, Nat.zero_le _, rfl, ⟨_, HK9.out⟩, HB9.out⟩
      case round =>
        obtain ⟨wo, rfl⟩ : ∃ wo : World, wo = wr := ⟨_, rfl⟩
        obtain ⟨k, hk, rfl, ⟨xs, hx⟩, hbk⟩ := hrel
        have HX := Lib.hid hx
        have HBK := Lib.hid hbk
        by_cases hkl2 : k < kn
        · obtain ⟨gi, gic, hgv, hgb, hgl', -, hcell2, hfz⟩ := owns_shape hx (by omega)
          injection hgv with hx1 hx2 hx3
          subst hx1
          obtain rfl : gic = c11 := hx3.symm
          have hxl := hx.1
          have c0 : wo.cell? ⟨gi, k * 4, none⟩ = some (xs[k * 4]'(by omega)) := by rw [hcell2 (k * 4) (by omega)]; exact List.getElem?_eq_getElem _
          obtain ⟨y, hy⟩ : ∃ y, y = xs[k * 4]'(by omega) := ⟨_, rfl⟩
          rw [← hy] at c0
          have f0 : wo.frozen? ⟨gi, k * 4, none⟩ = false := hfz _
          have j1 : (0 : Int) ≤ (k : Int) := by omega
          have j2 : (k : Int) < (kn : Int) := by omega
          have HGB := Lib.hid hgb
          clear hx hbk hcell2 hfz hy hx2 hx3 hxl
          go_wp2_with fail
          clear c0 f0
          go_roundw
          case rel => exact ⟨k + 1, hkl2, by go_num, ⟨_, (HX.out.stored _ _).1⟩, HBK.out.setCell (p := ⟨gi, k * 4, none⟩) HGB.out _⟩
          case measure => simp [intOf]; omega
        · clear hx hbk
          go_wp2_with fail
          go_loopw [13] (fun vk W => ∃ j : Nat, j ≤ snaps.length ∧ vk = .int .i64 j ∧ Below w3.heap.size w3 W) (fun vk _ => snaps.length - (intOf vk).toNat)
          case atStart => exact ⟨0, Nat.zero_le _, rfl, HBK.out⟩
          case round =>
            obtain ⟨j, hj, rfl, hbj⟩ := hrel
            have HBJ := Lib.hid hbj
            by_cases hjl : j < snaps.length
            · obtain ⟨nb, noff, ncap', hve, hns⟩ := nums_cells (HN3.out.kept hbj) (by omega)
              injection hve with hx1 hx2 hx3
              subst hx1
              clear hx2 hx3
              obtain ⟨mb, moff, mcap, hve, hms⟩ := nums_cells (HNW.out.kept hbj) (by omega)
              injection hve with hx1 hx2 hx3
              subst hx1
              clear hx2 hx3
              have d0 := hns j hjl
              have e0 := hms j hjl
              obtain ⟨a, ha⟩ : ∃ a, a = snaps[j] := ⟨_, rfl⟩
              rw [← ha] at d0 e0
              have j1 : (0 : Int) ≤ (j : Int) := by omega
              have j2 : (j : Int) < (snaps.length : Int) := by omega
              have HD := Lib.hid (show ∀ nq, Below w3.heap.size w3 (wr.drewN nq) from fun nq => below_step HBJ.out (show Below wr.heap.size wr (wr.drewN nq) from ⟨rfl, rfl, rfl, Nat.le_refl _, fun _ _ => rfl⟩) HBJ.out.size)
              clear hns hms hbj ha
              go_wp2_with fail
              go_quiet (fail)
              clear d0 e0
              have HBQ := Lib.hid (HD.out nq)
              generalize wr.drewN nq = wq at *
              go_wp2_with fail
              go_roundw
              case rel => exact ⟨j + 1, hjl, by go_num, HBQ.out⟩
              case measure => simp [intOf]; omega
            · have HS := Lib.hid (same _ _ l l wr (HOW.out.kept hbj) (HV3.out.kept hbj) (by omega) (by omega))
              simp only [decide_true] at HS
              have HBZ := Lib.hid (below_step HBW.out hbj HBW.out.size)
              clear hbj
              go_wp2_with fail
              refine HS.out.mono ?_
              rintro e w11 ⟨rfl, hb⟩
              have HBY := Lib.hid (below_step HBZ.out hb HBZ.out.size)
              clear hb
              go_wp2_with fail
              refine (awake_any _).mono ?_
              rintro e w12 ⟨rfl, hb⟩
              have HB12 := Lib.hid (below_step HBY.out hb HBY.out.size)
              clear hb
              go_wp2_with fail
              go_ret
              exact ⟨rfl, HB12.out⟩
    · have k0 : (10 : Int) < (snaps.length : Int) := by omega
      go_wp2_with fail
      refine (awake_any _).mono ?_
      rintro e w2 ⟨rfl, hb⟩
      have HB2 := Lib.hid (below_step HB1.out hb HB1.out.size)
      clear hb
      go_wp2_with fail
      go_ret
      exact ⟨rfl, HB2.out⟩
  · go_wp2_with fail
    refine (awake_any _).mono ?_
    rintro e w2 ⟨rfl, hb⟩
    have HB2 := Lib.hid (below_step HB1.out hb HB1.out.size)
    clear hb
    go_wp2_with fail
    go_ret
    exact ⟨rfl, HB2.out⟩
theorem keeps_law (ao : Option Addr) (cap : Nat) (l : List Ent) (a1 : Int) (ha : ∃ s : UInt64, a1 = (s.toNat : Int)) (bottom : Bool) (no : Option Addr) (ncap : Nat) (snaps : List UInt64) (w : World) (h : EntsAt w (.slice ao l.length cap) l) (hls : ∀ a ∈ l, SizesOK a) (hcap : l.length ≤ cap) (hcm : cap ≤ 9223372036854775807) (hnum : NumsAt w (.slice no snaps.length ncap) snaps) (hnl : snaps.length ≤ 9223372036854775807) :
    Calls Try.prog 4 #[.slice ao l.length cap, .int .u64 a1, .bool bottom, .slice no snaps.length ncap] w (AwPost w) := by
  obtain ⟨s, rfl⟩ := ha
  exact keeps_walk ao cap l s bottom no ncap snaps w h hls hcap hcm hnum hnl
end Go.Proofs.Try.Mg
