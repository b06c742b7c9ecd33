/- MergeParts: the walk. -/
import Derived.Test.YtggcdeabnibibabMp4
import Derived.Test.YtggcdeabnibibabMw1
import Derived.Test.YtggcdeabnibibabMwG
import Derived.Test.YtggcdeabnibibabMv1
set_option linter.unusedVariables false
set_option linter.unusedSimpArgs false
namespace Go.Proofs.Try.Mg
open Go.RowKit Go.Cph Go.Cph.Skip Go.Cph.So

set_option maxRecDepth 100000 in
set_option maxHeartbeats 16000000 in
theorem parts_walk (ao : Option Addr) (cap : Nat) (l : List Ent) (size : Int) (w : World) (h : EntsAt w (.slice ao l.length cap) l) (hls : ∀ a ∈ l, SizesOK a) (hcap : l.length ≤ cap) (hcm : cap ≤ 9223372036854775807) (hs1 : -9223372036854775808 ≤ size) (hs2 : size ≤ 9223372036854775807) :
    Calls Try.prog 3 #[.slice ao l.length cap, .int .i64 size] w (AwPost w) := by
  have hb0 : Below w.heap.size w (w.alloc (.cells #[.slice ao l.length cap] TS)) := (Below.refl _ _).alloc (Nat.le_refl _) _
  have HG := Lib.hid (great_any 1 _ [l] _ (Lists.one (c := 1) (heap_alloc_new w (.cells #[.slice ao l.length cap] TS)) (h.kept hb0)) (by omega) (by simp) (fun k hk => by simp at hk; subst hk; unfold maxLen; omega) (fun k hk e he => by simp at hk; subst hk; exact hls e he))
  have HB0 := Lib.hid hb0
  have HV := Lib.hid h
  clear h hls hb0
  go_enter Try.func3, Try.ntmps3
  go_wp2_with fail
  refine HG.out.mono ?_
  rintro e w1 ⟨r, rfl, hr, hb⟩
  have HB1 := Lib.hid (below_step HB0.out hb HB0.out.size)
  have HSM := Lib.hid hr
  clear hb hr HG
  cases r
  · have HSS := Lib.hid (HSM.out rfl)
    have hl60 : l.length ≤ 60 := HSS.out.each l (by simp)
    have hbl : bytesL l ≤ 20000 := by simpa using HSS.out.bytes
    have HV1 := Lib.hid (HV.out.kept HB1.out)
    clear HSM HV
    have hb1 : Below w1.heap.size w1 (w1.alloc (.cells #[.slice ao l.length cap] TS)) := (Below.refl _ _).alloc (Nat.le_refl _) _
    have HBA := Lib.hid (below_step HB1.out hb1 HB1.out.size)
    have HM := Lib.hid (merge_any _ [l] _ (Lists.one (c := 1) (heap_alloc_new w1 (.cells #[.slice ao l.length cap] TS)) (HV1.out.kept hb1)) (by simp) (by simp; omega))
    clear hb1
    go_wp2_with fail
    refine HM.out.mono ?_
    rintro e w2 ⟨v2, rfl, ho, hb⟩
    obtain ⟨R, hR⟩ : ∃ R, R = mergeL ltE [l].flatten := ⟨_, rfl⟩
    rw [← hR] at ho
    have hRl : R.length ≤ 60 := by
      have := mergeL_length (lt := ltE) weakE [l].flatten
      rw [hR]; simp at this ⊢; omega
    have hRb : bytesL R ≤ 20000 := by
      have := bytes_merge ltE [l].flatten
      rw [hR]; simp at this ⊢; omega
    obtain ⟨o2, c2, hv2⟩ := owns_slice1 ho
    subst hv2
    have HO2 := Lib.hid (show EntsAt w2 (.slice o2 R.length c2) R from Seg.of_owns ho)
    have HB2 := Lib.hid (below_step HBA.out hb HBA.out.size)
    have HSP := Lib.hid (split_any (.slice o2 R.length c2) R size w2 HO2.out (by omega) (by omega) hs1 hs2)
    clear hR ho hb HM
    go_wp2_with fail
    refine HSP.out.mono ?_
    rintro e w3 ⟨v6, vp, p, vs, rfl, hp⟩
    obtain ⟨gs, hgs⟩ : ∃ gs, gs = splitL size R := ⟨_, rfl⟩
    have HOK := Lib.hid (show PartsOK size gs from by rw [hgs]; exact parts_ok size R)
    have HFL := Lib.hid (show gs.flatten = R from by rw [hgs]; exact splitL_flat size R)
    rw [← hgs] at hp
    have HB3 := Lib.hid (below_step HB2.out hp.bel HB2.out.size)
    have HRR := Lib.hid (HO2.out.kept hp.bel)
    have HGS := Lib.hid (show EntsOf w3 v6 gs from hp.done)
    obtain ⟨o6, c6, hv6⟩ := owns_slice1 hp.out
    subst hv6
    have hgl : gs.length ≤ R.length := by
      have : ∀ (r p : List Ent) (b : Nat), (splitF size p b r).length ≤ r.length := by
        intro r
        induction r with
        | nil => intro p b; simp [splitF]
        | cons e r ih =>
          intro p b
          unfold splitF
          split
          · have := ih [] 0; simp; omega
          · have := ih (p ++ [e]) (b + szE e); simp; omega
      have := this R [] 0
      rw [hgs]; unfold splitL; omega
    clear hp hgs HSP HO2 HV1 HSS
    go_wp2_with fail
    go_loopw [7, 8] (fun vn vi W => ∃ (i n : Nat), i ≤ gs.length ∧ vi = .int .i64 i ∧ vn = .int .i64 n ∧ n = (gs.take i).flatten.length ∧ Below w3.heap.size w3 W) (fun _ vi _ => gs.length - (intOf vi).toNat)
    case atStart => exact ⟨0, 0, Nat.zero_le _, rfl, rfl, by simp, Below.refl _ _⟩
    case round =>
      obtain ⟨i, n, hi, rfl, rfl, hn, hbel⟩ := hrel
      have HBE := Lib.hid hbel
      have HN := Lib.hid hn
      by_cases hlt : i < gs.length
      · obtain ⟨b7, off7, cap7, hve, hcs7⟩ := (HGS.out.kept hbel).cell (by omega)
        injection hve with hx1 hx2 hx3
        subst hx1
        clear hx2 hx3
        obtain ⟨u7, hu7, hue7⟩ := hcs7 i hlt
        obtain ⟨ok1, ok2, ok3⟩ := HOK.out.at i hlt
        have HOK3 := Lib.hid ok3
        have hnx := flat_next gs i hlt
        have hfl := flat_le gs (i + 1)
        rw [HFL.out, hnx, ← hn] at hfl
        rw [← hn] at hnx
        have HNX := Lib.hid hnx
        obtain ⟨g, hg⟩ : ∃ g, g = gs[i] := ⟨_, rfl⟩
        have HGI := Lib.hid hg
        have HAT := Lib.hid (show ∀ k (hk : k < g.length), R[n + k]? = some g[k] from by
          intro k hk
          have := flat_at gs i k hlt (by rw [← hg]; exact hk)
          rw [HFL.out, ← hn] at this
          rw [this]
          simp only [hg])
        rw [← hg] at hue7 ok1 ok2 hfl
        have hg0 : 0 < g.length := List.length_pos_iff.2 ok1
        have hbg : bytesL g ≤ bytesL R := by
          have : ∀ (gs : List (List Ent)), ∀ g ∈ gs, bytesL g ≤ bytesL gs.flatten := by
            intro gs
            induction gs with
            | nil => intro g h; cases h
            | cons a gs ih =>
              intro g h
              rw [List.flatten_cons, bytesL_append]
              rcases List.mem_cons.1 h with rfl | h
              · omega
              · have := ih g h; omega
          have := this gs g (by rw [hg]; exact List.getElem_mem _)
          rwa [HFL.out] at this
        obtain ⟨p4, p5, p6⟩ := elems_slice hue7
        subst p6
        obtain ⟨gb, go, gc, hve, hcg⟩ := ents_cells hue7 hg0
        injection hve with hx1 hx2 hx3
        subst hx1
        clear hx2 hx3
        obtain ⟨z, hz⟩ : ∃ z, z = g[g.length - 1]'(by omega) := ⟨_, rfl⟩
        have hzl : g.getLast? = some z := by rw [List.getLast?_eq_getElem?, List.getElem?_eq_getElem (by omega), hz]
        have HZL := Lib.hid hzl
        have HAH := Lib.hid (ahead_ok ok2 hzl)
        have hcz := hcg (g.length - 1) (by omega)
        rw [← hz] at hcz
        have f0 := hcz.c0
        have HCG := Lib.hid hcg
        have k1 : (0 : Int) ≤ (i : Int) := by omega
        have k2 : (i : Int) < (gs.length : Int) := by omega
        have k3 : ((g.length : Int) == 0) = false := by simp; omega
        have k4 : IntKind.i64.wrap ((n : Int) + (g.length : Int)) = (n : Int) + (g.length : Int) := by rw [IntKind.wrap_i64]; omega
        have k5 : ¬ (R.length : Int) < (n : Int) + (g.length : Int) := by omega
        have k5b : decide ((R.length : Int) < (n : Int) + (g.length : Int)) = false := by simp; omega
        have k6 : IntKind.i64.wrap ((g.length : Int) - 1) = (g.length : Int) - 1 := by rw [IntKind.wrap_i64]; omega
        have k7 : (0 : Int) ≤ (g.length : Int) - 1 := by omega
        have k8 : (g.length : Int) - 1 < (g.length : Int) := by omega
        have k9 : ((g.length : Int) - 1).toNat = g.length - 1 := by omega
        have HHU := Lib.hid hu7
        clear hbel hn hcs7 hue7 ok1 ok2 ok3 hnx hg hcg hz hzl hcz
        go_wp2_with fail
        go_quiet (fail)
        clear f0 hu7
        have HBQ := Lib.hid (show Below wr.heap.size wr (wr.drewN nq) from ⟨rfl, rfl, rfl, Nat.le_refl _, fun _ _ => rfl⟩)
        have HBE2 := Lib.hid (below_step HBE.out HBQ.out HBE.out.size)
        have HCG2 := Lib.hid (show ∀ i (hi : i < g.length), CellsOf (wr.drewN nq) gb (go + i * 4) g[i] from fun i hi => (HCG.out i hi).kept HBQ.out)
        have HU2 := Lib.hid (show (wr.drewN nq).cell? ⟨b7, off7 + i, none⟩ = some (.slice (some ⟨gb, go, none⟩) g.length p5) from cell_kept HBQ.out HHU.out)
        clear HBQ HCG HHU
        generalize wr.drewN nq = wq at *
        go_wp2_with fail
        go_loopw [10, 11, 12] (fun va vh vk W => ∃ k a b : Nat, k ≤ g.length ∧ vk = .int .i64 k ∧ va = .int .i64 b ∧ vh = .int .i64 a ∧ b = bytesL (g.take k) ∧ a = aheadB g z.1 k ∧ Below wq.heap.size wq W) (fun _ _ vk _ => g.length - (intOf vk).toNat)
        case atStart => exact ⟨0, 0, 0, Nat.zero_le _, rfl, rfl, rfl, rfl, rfl, Below.refl _ _⟩
        case round =>
          obtain ⟨k, a, b, hk, rfl, rfl, rfl, hb, ha, hbk⟩ := hrel
          have HBK := Lib.hid hbk
          have HBW := Lib.hid (below_step HBE2.out hbk HBE2.out.size)
          have HBB := Lib.hid hb
          have HAA := Lib.hid ha
          have HU3 := Lib.hid (cell_kept hbk HU2.out)
          by_cases hkl : k < g.length
          · have hbn := bytes_take g k hkl
            have hble := bytes_take_le g (k + 1)
            have hat := HAT.out k hkl
            obtain ⟨rb, ro, rc, hve, hcr⟩ := ents_cells (HRR.out.kept HBW.out) (by omega)
            injection hve with hx1 hx2 hx3
            subst hx1
            clear hx2 hx3
            have hcx := (HCG2.out k hkl).kept hbk
            have hqr : n + k < R.length := by omega
            have hcy := hcr (n + k) hqr
            rw [List.getElem?_eq_getElem hqr] at hat
            injection hat with hat
            rw [hat] at hcy
            obtain ⟨x, hx⟩ : ∃ x, x = g[k] := ⟨_, rfl⟩
            rw [← hx] at hcx hcy hbn
            rw [← hb] at hbn
            obtain ⟨b', hb'⟩ : ∃ b', b' = bytesL (g.take (k + 1)) := ⟨_, rfl⟩
            rw [← hb'] at hbn hble
            obtain ⟨q, hq⟩ : ∃ q, q = n + k := ⟨_, rfl⟩
            rw [← hq] at hcy
            have hA : aheadB g z.1 (k + 1) = if x.1 = z.1 then a else b' := by
              rw [aheadB, List.getElem?_eq_getElem hkl, ← hx, ← ha, ← hb']
            have HA := Lib.hid hA
            have HB' := Lib.hid hb'
            have hbx := heap_alloc_new wr (.cells #[.string x.1, .string x.2.1, .int .u64 (x.2.2.1.toNat : Int), .bool x.2.2.2] TE)
            have hal : Below wr.heap.size wr (wr.alloc (.cells #[.string x.1, .string x.2.1, .int .u64 (x.2.2.1.toNat : Int), .bool x.2.2.2] TE)) := (Below.refl _ _).alloc (Nat.le_refl _) _
            have HBX := Lib.hid (boxP hbx)
            have hcy' := hcy.kept hal
            have hcb := boxP hbx
            have d0 := hcx.c0
            have d1 := hcx.c1
            have d2 := hcx.c2
            have d3 := hcx.c3
            have y0 := hcy'.c0
            have y1 := hcy'.c1
            have y2 := hcy'.c2
            have y3 := hcy'.c3
            have e0 := hcb.c0
            have e1 := hcb.c1
            have e2 := hcb.c2
            have e3 := hcb.c3
            have u3 := HU3.out
            have j1 : (0 : Int) ≤ (k : Int) := by omega
            have j2 : (k : Int) < (g.length : Int) := by omega
            have j3 : IntKind.i64.wrap ((n : Int) + (k : Int)) = (q : Int) := by rw [IntKind.wrap_i64]; omega
            have j4 : (0 : Int) ≤ (q : Int) := by omega
            have j5 : (q : Int) < (R.length : Int) := by omega
            have hb1' : b' = b + (x.1.size + x.2.1.size) := hbn
            obtain ⟨b1, hb1⟩ : ∃ b1, b1 = b + x.1.size := ⟨_, rfl⟩
            have j6 : IntKind.i64.wrap ((b : Int) + (x.1.size : Int)) = (b1 : Int) := by rw [IntKind.wrap_i64]; omega
            have j7 : IntKind.i64.wrap ((b1 : Int) + (x.2.1.size : Int)) = (b' : Int) := by rw [IntKind.wrap_i64]; omega
            have j8 : IntKind.i64.wrap ((k : Int) + 1) = (k : Int) + 1 := by rw [IntKind.wrap_i64]; omega
            have hne := fun W => run_neq_same x x W
            simp only [decide_true, Bool.not_true] at hne
            have HAL := Lib.hid hal
            clear hbn hble hcr hcx hcy hcy' hcb hat hx hb hb' ha hbk hA hq hb1' hb1 hqr hal
            go_wp2_with fail
            go_quiet (fail)
            clear hne d0 d1 d2 d3 y0 y1 y2 y3 e0 e1 e2 e3 hbx
            obtain ⟨wz, hwz⟩ : ∃ W : World, W = wr.alloc (.cells #[.string x.1, .string x.2.1, .int .u64 (x.2.2.1.toNat : Int), .bool x.2.2.2] TE) := ⟨_, rfl⟩
            rw [← hwz] at HAL HBX ⊢
            clear hwz
            have HDQ := Lib.hid (show Below wz.heap.size wz (wz.drewN nq) from ⟨rfl, rfl, rfl, Nat.le_refl _, fun _ _ => rfl⟩)
            have HBX2 := Lib.hid (HBX.out.kept HDQ.out)
            have HBK2 := Lib.hid (below_step (below_step HBK.out HAL.out HBK.out.size) HDQ.out (Nat.le_trans HBK.out.size HAL.out.size))
            have e0 := HBX2.out.c0
            have e1 := HBX2.out.c1
            have u4 := cell_kept HDQ.out (cell_kept HAL.out HU3.out)
            clear u3
            generalize wz.drewN nq = wy at *
            by_cases hkey : x.1 = z.1
            · have j9 : (x.1.toList == z.1.toList) = true := by rw [beq_toList]; simpa using hkey
              have HA2 := Lib.hid (show aheadB g z.1 (k + 1) = a by rw [HA.out, if_pos hkey])
              clear hkey
              go_wp2_with fail
              clear e0 e1 u4
              go_roundw
              case rel => exact ⟨k + 1, a, b', hkl, by go_num, rfl, rfl, HB'.out, HA2.out.symm, HBK2.out⟩
              case measure => simp [intOf]; omega
            · have j9 : (x.1.toList == z.1.toList) = false := by rw [beq_toList]; simpa using hkey
              have HA2 := Lib.hid (show aheadB g z.1 (k + 1) = b' by rw [HA.out, if_neg hkey])
              clear hkey
              go_wp2_with fail
              clear e0 e1 u4
              go_roundw
              case rel => exact ⟨k + 1, b', b', hkl, by go_num, rfl, rfl, HB'.out, HA2.out.symm, HBK2.out⟩
              case measure => simp [intOf]; omega
          · obtain rfl : k = g.length := by omega
            have hbB : b = bytesL g := by rw [hb, List.take_of_length_le (Nat.le_refl _)]
            have HBBB := Lib.hid hbB
            have u3 := HU3.out
            have m0 : ¬ (0 < a ∧ size ≤ (a : Int)) := by rw [ha]; exact HAH.out
            obtain ⟨n', hn'⟩ : ∃ n', n' = n + g.length := ⟨_, rfl⟩
            have m1 : IntKind.i64.wrap ((n : Int) + (g.length : Int)) = (n' : Int) := by rw [k4]; omega
            have HNN := Lib.hid (show n' = (gs.take (i + 1)).flatten.length from by rw [HNX.out, hn', HGI.out])
            have m2 : IntKind.i64.wrap ((i : Int) + 1) = (i : Int) + 1 := by rw [IntKind.wrap_i64]; omega
            clear k4 k5 k5b hb ha hbk hn' hbB
            have HREL := Lib.hid (show Below w3.heap.size w3 wr from HBW.out)
            by_cases hi1 : i + 1 < gs.length
            · have m3 : (i : Int) + 1 < (gs.length : Int) := by omega
              have m3b : (0 : Int) ≤ (i : Int) + 1 := by omega
              have m3c : ((i : Int) + 1).toNat = i + 1 := by omega
              obtain ⟨h1, h2⟩ := HOK3.out hi1
              rw [← HGI.out, ← HBBB.out] at h1
              have m4 : ¬ (b : Int) < size := by omega
              have m4b : decide ((b : Int) < size) = false := by simp; omega
              obtain ⟨b8, off8, cap8, hve, hcs8⟩ := (HGS.out.kept HBW.out).cell (by omega)
              injection hve with hx1 hx2 hx3
              injection hx1 with hx1
              injection hx1 with hx1 hx1b
              subst hx1 hx1b
              clear hx2 hx3
              obtain ⟨u8, hu8, hue8⟩ := hcs8 (i + 1) hi1
              obtain ⟨ok1, -, -⟩ := HOK.out.at (i + 1) hi1
              obtain ⟨g2, hg2⟩ : ∃ g2, g2 = gs[i + 1] := ⟨_, rfl⟩
              rw [← hg2] at hue8 ok1
              have hg20 : 0 < g2.length := List.length_pos_iff.2 ok1
              obtain ⟨gb2, go2, gc2, hve, hcg2⟩ := ents_cells hue8 hg20
              subst hve
              have hy := hcg2 0 hg20
              obtain ⟨y, hyy⟩ : ∃ y, y = g2[0] := ⟨_, rfl⟩
              rw [← hyy] at hy
              have hne : y.1 ≠ z.1 := h2 z y (by rw [← HGI.out]; exact HZL.out) (by rw [← hg2, List.head?_eq_getElem?, List.getElem?_eq_getElem hg20, hyy])
              have j9 : (y.1.toList == z.1.toList) = false := by rw [beq_toList]; simpa using hne
              have v0 := hy.c0
              rw [Nat.zero_mul, Nat.add_zero] at v0
              have m5 : (0 : Int) < (g2.length : Int) := by omega
              clear hcs8 hue8 ok1 hg2 hcg2 hy hyy hne h1 h2
              by_cases hA : 0 < a
              · have m6 : (0 : Int) < (a : Int) := by omega
                have m7 : ¬ size ≤ (a : Int) := fun e => m0 ⟨hA, e⟩
                have m7b : decide (size ≤ (a : Int)) = false := by simp; omega
                clear m0 hA
                go_wp2_with fail
                go_roundw
                case rel => exact ⟨i + 1, n', Nat.le_of_lt hi1, by go_num, rfl, HNN.out, HREL.out⟩
                case measure => simp [intOf]; omega
              · have m6 : ¬ (0 : Int) < (a : Int) := by omega
                have m6b : decide ((0 : Int) < (a : Int)) = false := by simp; omega
                clear m0 hA
                go_wp2_with fail
                go_roundw
                case rel => exact ⟨i + 1, n', Nat.le_of_lt hi1, by go_num, rfl, HNN.out, HREL.out⟩
                case measure => simp [intOf]; omega
            · have m3 : ¬ (i : Int) + 1 < (gs.length : Int) := by omega
              have m3b : decide ((i : Int) + 1 < (gs.length : Int)) = false := by simp; omega
              by_cases hA : 0 < a
              · have m6 : (0 : Int) < (a : Int) := by omega
                have m7 : ¬ size ≤ (a : Int) := fun e => m0 ⟨hA, e⟩
                have m7b : decide (size ≤ (a : Int)) = false := by simp; omega
                clear m0 hA
                go_wp2_with fail
                go_roundw
                case rel => exact ⟨i + 1, n', hlt, by go_num, rfl, HNN.out, HREL.out⟩
                case measure => simp [intOf]; omega
              · have m6 : ¬ (0 : Int) < (a : Int) := by omega
                have m6b : decide ((0 : Int) < (a : Int)) = false := by simp; omega
                clear m0 hA
                go_wp2_with fail
                go_roundw
                case rel => exact ⟨i + 1, n', hlt, by go_num, rfl, HNN.out, HREL.out⟩
                case measure => simp [intOf]; omega
      · have hnR : n = R.length := by rw [hn, List.take_of_length_le (by omega), HFL.out]
        subst hnR
        have HB9 := Lib.hid (below_step HB3.out hbel HB3.out.size)
        clear hbel
        go_wp2_with fail
        refine (awake_any _).mono ?_
        rintro e w10 ⟨rfl, hb⟩
        have HB10 := Lib.hid (below_step HB9.out hb HB9.out.size)
        clear hb
        go_wp2_with fail
        go_ret
        exact ⟨rfl, HB10.out⟩
  · go_wp2_with fail
    refine (awake_any _).mono ?_
    rintro e w2 ⟨rfl, hb⟩
    have HB2 := Lib.hid (below_step HB1.out hb HB1.out.size)
    clear hb
    go_wp2_with fail
    go_ret
    exact ⟨rfl, HB2.out⟩
end Go.Proofs.Try.Mg
