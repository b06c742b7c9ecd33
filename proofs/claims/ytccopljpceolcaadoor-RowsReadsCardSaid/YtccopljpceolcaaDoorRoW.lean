/- The document's rows: events' values read. -/
import Derived.Test.YtccopljpceolcaaDoorRoU
set_option linter.unusedVariables false
set_option linter.unusedSimpArgs false
set_option maxRecDepth 100000
namespace Go.Proofs.Tryd.Rows
open Go.RowKit Go.Cph Go.Cph.Ok Go.Proofs.Tryd.Nu Go.Proofs.Tryd.Ok
theorem how_u (h : UInt64) : howU (h.toNat : Int) = h := by
  unfold howU; rw [Int.toNat_natCast, UInt64.ofNat_toNat]
theorem ext_ext (s : ByteArray) (a k : Nat) (h : a ≤ s.size) (hk : a + k ≤ s.size) : (s.extract a s.size).extract k (s.extract a s.size).size = s.extract (a + k) s.size := by
  apply list_eq2
  rw [ext_list, ext_list, ext_list, List.drop_drop]
theorem event_bind {s r : ByteArray} {l : List UInt64} (h1 : readVarsS 3 s = some (l, r)) : readEventS s = ((rtextS r 32).bind fun y => if y.2 = r.size then some (l, y.1) else none).bind fun x => eventL x.2 x.1 := by
  unfold readEventS numsS
  rw [h1]; rfl
set_option maxHeartbeats 6400000 in
theorem rreadEvent (s : ByteArray) (w : World) (hs : s.size ≤ 1000000) : Calls Tryd.prog 50 #[.string s] w fun e w' => e = .returned (valE (readEventS s)) ∧ Below w.heap.size w w' := by
  have HS := Lib.hid hs
  have HB0 := Lib.hid (show Below w.heap.size w (w.alloc boxV0) from (Below.refl _ _).alloc (Nat.le_refl _) _)
  have HX := Lib.hid (heap_alloc_new w boxV0)
  obtain ⟨B, hB⟩ : ∃ B, B = (w.alloc boxV0).heap.size := ⟨_, rfl⟩
  have HBB := Lib.hid hB
  have HXK := Lib.hid (fun W (hb : Below B (w.alloc boxV0) W) => show W.heap[w.heap.size]? = some boxV0 from by rw [hB] at hb; exact blk_kept hb HX.out)
  have HBK := Lib.hid (fun W (hb : Below B (w.alloc boxV0) W) => show Below w.heap.size w W from by rw [hB] at hb; exact below_step HB0.out hb HB0.out.size)
  obtain ⟨L, hL⟩ : ∃ L, L = readVarsS 3 s := ⟨_, rfl⟩
  have HL := Lib.hid hL
  have HR0 := Lib.hid (show Below B (w.alloc boxV0) (w.alloc boxV0) from Below.refl _ _)
  have HON := Lib.hid (fun W => World.ownsRow_nil W B U64 1)
  clear hL hs hB
  go_enter Tryd.func50, Tryd.ntmps50
  go_wp2_with fail
  go_loopw [3, 4, 5] (fun vl va vi W => ∃ (i a : Nat) (out : List UInt64), va = .int .i64 a ∧ vi = .int .i64 i ∧ i ≤ 3 ∧ a ≤ s.size ∧ out.length = i ∧ L = (readVarsS (3 - i) (s.extract a s.size)).map (fun x => (out ++ x.1, x.2)) ∧ W.ownsRow B U64 1 vl i (out.flatMap encN) ∧ Below B (w.alloc boxV0) W) (fun _ _ vi _ => 3 - (intOf vi).toNat)
  case atStart => exact ⟨0, 0, [], rfl, rfl, by decide, Nat.zero_le _, rfl, by
    rw [HL.out, show s.extract 0 s.size = s from list_eq2 (by rw [ext_list]; rfl)]; cases readVarsS (3 - 0) s <;> rfl, HON.out _, HR0.out⟩
  case round =>
    obtain ⟨i, a, out, rfl, rfl, hi, ha, hol, hl, ho, hb⟩ := hrel
    have HOL := Lib.hid hol
    have HAS := Lib.hid ha
    have HR := Lib.hid hb
    have HRZ := Lib.hid (show B ≤ wr.heap.size from by rw [HBB.out]; exact hb.size)
    obtain ⟨oo, oc, hov⟩ := owns_slice1 ho
    subst hov
    have HO := Lib.hid ho
    obtain ⟨c, hc⟩ : ∃ c, c = s.extract a s.size := ⟨_, rfl⟩
    have HCZ := Lib.hid (show c.size + a = s.size from by rw [hc, ByteArray.size_extract]; omega)
    have HCE := Lib.hid hc
    rw [← hc] at hl
    have HLL := Lib.hid hl
    have p1 : (0 : Int) ≤ (a : Int) := by omega
    have p2 : (a : Int) ≤ (s.size : Int) := by omega
    by_cases hlt : i < 3
    · have HLT := Lib.hid hlt
      have k2 : (i : Int) < 3 := by omega
      have k4 : IntKind.i64.wrap ((i : Int) + 1) = (i : Int) + 1 := by rw [IntKind.wrap_i64]; omega
      have HRV := Lib.hid (fun (W : World) => show Calls Tryd.prog 84 #[.string (s.extract a s.size)] W (fun e w' => e = .returned (encRV (readRow c.data.toList)) ∧ Below W.heap.size W w') from by rw [← hc]; exact rreadVar_any c W (by have := HCZ.out; have := HS.out; omega))
      cases hr : readRow c.data.toList with
      | none =>
        rw [hr] at HRV
        have HQ := Lib.hid (show readEventS s = none from by
          have h3 : readVarsS 3 s = none := by
            rw [← HL.out, hl, show 3 - i = (3 - i - 1) + 1 by omega]
            unfold readVarsS
            rw [hr]; rfl
          unfold readEventS numsS
          rw [h3]; rfl)
        clear hr hl ho hb hlt hi hol ha hc
        unfold encRV at HRV
        have HB := Lib.hid (HBK.out _ HR.out)
        have HXA := Lib.hid (HXK.out _ HR.out)
        go_wp2_with fail
        refine (HRV.out _).mono ?_
        rintro e w1 ⟨rfl, hb⟩
        replace HB := Lib.hid (below_step HB.out hb HB.out.size)
        replace HXA := Lib.hid (blk_kept hb HXA.out)
        clear hb
        have Z0 := (zeroV_of HXA.out).c0
        have G0 := (zeroV_of HXA.out).f0
        have Z1 := (zeroV_of HXA.out).c1
        have G1 := (zeroV_of HXA.out).f1
        have Z2 := (zeroV_of HXA.out).c2
        have G2 := (zeroV_of HXA.out).f2
        have Z3 := (zeroV_of HXA.out).c3
        have G3 := (zeroV_of HXA.out).f3
        have Z4 := (zeroV_of HXA.out).c4
        have G4 := (zeroV_of HXA.out).f4
        go_wp2_with fail
        exact bodyPost_ret (v := .agg #[.int .i64 0, .string ⟨#[]⟩, .int .u64 0, .int .u64 0, .bool false]) (by simp (maxDischargeDepth := 10) [results, Tryd.results50, go_sem, Z0, Z1, Z2, Z3, Z4]) rfl ⟨(by rw [HQ.out]; rfl), by first | exact HB.out | exact below_set5 HB.out _ _ _ _ _ | exact HB.out.drew | exact (below_set5 HB.out _ _ _ _ _).drew⟩
      | some x =>
        obtain ⟨num, k⟩ := x
        rw [hr] at HRV
        obtain ⟨hk1, hk2, hk3, hk4⟩ := row_read hr
        rw [← Go.Lib.size_eq] at hk2
        obtain ⟨u, hu⟩ : ∃ u : UInt64, u.toNat = num := ⟨UInt64.ofNat num, by rw [UInt64.toNat_ofNat', Nat.mod_eq_of_lt hk4]⟩
        subst hu
        have hak : a + k ≤ s.size := by have := HCZ.out; omega
        have HAK := Lib.hid hak
        have HQ := Lib.hid (show L = (readVarsS (3 - (i + 1)) (s.extract (a + k) s.size)).map (fun x => ((out ++ [u]) ++ x.1, x.2)) from by
          rw [hl, show 3 - i = (3 - (i + 1)) + 1 by omega]
          conv => lhs; unfold readVarsS
          rw [hr]
          show ((readVarsS (3 - (i + 1)) (c.extract k c.size)).map _).map _ = _
          rw [Option.map_map, UInt64.ofNat_toNat, hc, ext_ext s a k ha hak]
          congr 1
          funext y
          simp)
        have k5 : IntKind.i64.wrap ((a : Int) + (k : Int)) = ((a + k : Nat) : Int) := by rw [IntKind.wrap_i64]; have := HS.out; omega
        clear hr hl ho hb hlt hi hol hk1 hk2 hk3 hk4 ha hc hak
        unfold encRV at HRV
        go_wp2_with fail
        refine (HRV.out _).mono ?_
        rintro e w1 ⟨rfl, hb⟩
        have HR1 := Lib.hid (below_step HR.out hb HRZ.out)
        have HO1 := Lib.hid (row_keptB HO.out hb)
        have HZ1 := Lib.hid (show B ≤ w1.heap.size from Nat.le_trans HRZ.out hb.size)
        clear hb
        go_wp2_with (at_builtin; refine wpList_append1 rfl (.tmp 29) (.tmp 31) U64s rfl B U64 _ 1 8 Tryd.underlying104 infoU rfl (by decide) _ i _ (encN u) rfl HO1.out _ 1 rfl rfl rfl (fun x hx => encN_one (l := [u]) x (by simpa using hx)) (by have := HLT.out; omega) (by decide) HZ1.out B (w.alloc boxV0) HR1.out (Nat.le_refl _) ?_; intro v6 w6 ho hgr hb6 hsz6; have HO6 := Lib.hid ho; have HR6 := Lib.hid hb6; clear ho hgr hb6 hsz6)
        go_roundw
        case rel => exact ⟨i + 1, a + k, out ++ [u], by go_num, by go_num, HLT.out, HAK.out, by rw [List.length_append, HOL.out]; rfl, HQ.out, by rw [List.flatMap_append]; simpa using HO6.out, HR6.out⟩
        case measure => have := HLT.out; simp [intOf]; omega
    · obtain rfl : i = 3 := by omega
      obtain ⟨h, a1, u1, rfl⟩ := list3 hol
      have hv : readVarsS 3 s = some ([h, a1, u1], c) := by
        rw [← HL.out, hl]
        show (readVarsS 0 c).map _ = _
        simp [readVarsS]
      have HT := Lib.hid (fun (W : World) => show Calls Tryd.prog 85 #[.string (s.extract a s.size), .int .i64 32] W (fun e w' => e = .returned (encRT2 (rtextS c 32)) ∧ Below W.heap.size W w') from by rw [← hc]; exact rrdText c 32 W (by have := HCZ.out; have := HS.out; omega) (by decide))
      have HEV := Lib.hid (event_bind hv)
      obtain ⟨hn, hhn⟩ : ∃ hn, hn = h.toNat := ⟨_, rfl⟩
      have HHN := Lib.hid hhn
      obtain ⟨g, cap, hgs, _, hg, _, hcs, _⟩ := owns_shape ho (by decide)
      injection hgs with hx1 hx2 hx3
      subst hx1 hx3
      clear hx2
      have HC := Lib.hid (show wr.cell? ⟨g, 0, none⟩ = some (.int .u64 (hn : Int)) ∧ wr.cell? ⟨g, 1, none⟩ = some (.int .u64 (a1.toNat : Int)) ∧ wr.cell? ⟨g, 2, none⟩ = some (.int .u64 (u1.toNat : Int)) from ⟨by rw [hcs 0 (by decide), hhn]; rfl, by rw [hcs 1 (by decide)]; rfl, by rw [hcs 2 (by decide)]; rfl⟩)
      have HB := Lib.hid (HBK.out _ HR.out)
      have HXA := Lib.hid (HXK.out _ HR.out)
      cases ht : rtextS c 32 with
      | none =>
        rw [ht] at HT HEV
        have HQ := Lib.hid (show readEventS s = none from HEV.out)
        unfold encRT2 at HT
        clear ht hv hl ho hb hlt hi hol ha hc hg hcs hhn HEV
        go_wp2_with fail
        refine (HT.out _).mono ?_
        rintro e w1 ⟨rfl, hb⟩
        replace HB := Lib.hid (below_step HB.out hb HB.out.size)
        replace HXA := Lib.hid (blk_kept hb HXA.out)
        clear hb
        have Z0 := (zeroV_of HXA.out).c0
        have G0 := (zeroV_of HXA.out).f0
        have Z1 := (zeroV_of HXA.out).c1
        have G1 := (zeroV_of HXA.out).f1
        have Z2 := (zeroV_of HXA.out).c2
        have G2 := (zeroV_of HXA.out).f2
        have Z3 := (zeroV_of HXA.out).c3
        have G3 := (zeroV_of HXA.out).f3
        have Z4 := (zeroV_of HXA.out).c4
        have G4 := (zeroV_of HXA.out).f4
        go_wp2_with fail
        exact bodyPost_ret (v := .agg #[.int .i64 0, .string ⟨#[]⟩, .int .u64 0, .int .u64 0, .bool false]) (by simp (maxDischargeDepth := 10) [results, Tryd.results50, go_sem, Z0, Z1, Z2, Z3, Z4]) rfl ⟨(by rw [HQ.out]; rfl), by first | exact HB.out | exact below_set5 HB.out _ _ _ _ _ | exact HB.out.drew | exact (below_set5 HB.out _ _ _ _ _).drew⟩
      | some y =>
        obtain ⟨t, z⟩ := y
        rw [ht] at HT HEV
        have hag := again_iff hv ht
        have h32 := (rtext_row ht).2.2.1
        have HE2 := Lib.hid (show readEventS s = if z = c.size then eventL t [h, a1, u1] else none from by
          rw [HEV.out]
          show (if z = c.size then some ([h, a1, u1], t) else none).bind _ = _
          by_cases hzz : z = c.size
          · rw [if_pos hzz, if_pos hzz]; rfl
          · rw [if_neg hzz, if_neg hzz]; rfl)
        have HEL := Lib.hid (show eventL t [h, a1, u1] = if t.size = 0 then none else if 1 ≤ hn ∧ hn ≤ 4 then some (h, t, a1, u1) else none from by rw [hhn]; rfl)
        unfold encRT2 at HT
        by_cases h4 : hn ≤ 4
        · have k3 : ¬ (4 : Int) < (hn : Int) := by omega
          have k4 : IntKind.i64.wrap (hn : Int) = (hn : Int) := by rw [IntKind.wrap_i64]; omega
          have k5 : decide (4 < hn) = false := decide_eq_false (by omega)
          have hev := fun (W : World) => rhappened (hn : Int) t a1 u1 W (by omega)
          by_cases hok : howOk (hn : Int) t = true
          · obtain ⟨K, hK⟩ : ∃ K, K = eventV (hn : Int) t a1 u1 := ⟨_, rfl⟩
            rw [if_pos hok, ← hK] at hev
            have hag2 : K = s ↔ z = c.size := by
              rw [hK]
              unfold eventV
              rw [hhn, how_u]
              exact hag
            have HEV2 := Lib.hid hev
            have HEL2 := Lib.hid (show eventL t [h, a1, u1] = some (h, t, a1, u1) from by
              unfold howOk ownerB at hok
              simp only [Bool.and_eq_true, decide_eq_true_eq] at hok
              rw [HEL.out, if_neg (by omega), if_pos ⟨by omega, by omega⟩])
            by_cases hzz : z = c.size
            · have e1 := ba_eq2 (hag2.2 hzz)
              have HQ := Lib.hid (show readEventS s = some (h, t, a1, u1) from by rw [HE2.out, if_pos hzz, HEL2.out])
              clear ht hv hl ho hb hlt hi hol ha hc hg hcs hhn HEV HEL HE2 HEL2 hev hok hag2 hag hzz hK h32 h4
              have HC0 := HC.out.1
              go_wp2_with fail
              refine (HT.out _).mono ?_
              rintro e w1 ⟨rfl, hb⟩
              replace HB := Lib.hid (below_step HB.out hb HB.out.size)
              replace HXA := Lib.hid (blk_kept hb HXA.out)
              have HC1 := Lib.hid (show w1.cell? ⟨g, 0, none⟩ = some (.int .u64 (hn : Int)) ∧ w1.cell? ⟨g, 1, none⟩ = some (.int .u64 (a1.toNat : Int)) ∧ w1.cell? ⟨g, 2, none⟩ = some (.int .u64 (u1.toNat : Int)) from ⟨cell_kept hb HC.out.1, cell_kept hb HC.out.2.1, cell_kept hb HC.out.2.2⟩)
              clear hb HC0
              have y0 := HC1.out.1
              have y1 := HC1.out.2.1
              have y2 := HC1.out.2.2
              have q0 : ∀ zz : Later w1.heap.size w1, zz.val.cell? ⟨g, 0, none⟩ = some (.int .u64 (hn : Int)) := fun zz => Later.cell y0 (World.block_lt_of_cell? w1 ⟨g, 0, none⟩ y0) zz
              have q1 : ∀ zz : Later w1.heap.size w1, zz.val.cell? ⟨g, 1, none⟩ = some (.int .u64 (a1.toNat : Int)) := fun zz => Later.cell y1 (World.block_lt_of_cell? w1 ⟨g, 1, none⟩ y1) zz
              have q2 : ∀ zz : Later w1.heap.size w1, zz.val.cell? ⟨g, 2, none⟩ = some (.int .u64 (u1.toNat : Int)) := fun zz => Later.cell y2 (World.block_lt_of_cell? w1 ⟨g, 2, none⟩ y2) zz
              go_wp2_with fail
              refine wp_region_later w1.heap.size (by kernel_rfl) (by kernel_rfl) ?_
              repeat (go_big_quiet_step (first | (go_at_call 27; exact Later.calls (Nat.le_refl _) (HEV2.out _))))
              refine wpQuiet_nil ?_
              rintro wq ⟨zz, rfl⟩
              replace HB := Lib.hid (below_step HB.out zz.prop HB.out.size)
              replace HXA := Lib.hid (blk_kept zz.prop HXA.out)
              clear y0 y1 y2 q0 q1 q2
              have y0 := cell_kept zz.prop HC1.out.1
              have y1 := cell_kept zz.prop HC1.out.2.1
              have y2 := cell_kept zz.prop HC1.out.2.2
              obtain ⟨w3, hV⟩ : ∃ V, V = zz.val := ⟨_, rfl⟩
              rw [← hV] at HB HXA y0 y1 y2 ⊢
              clear hV zz
              have Z0 := (zeroV_of HXA.out).c0
              have G0 := (zeroV_of HXA.out).f0
              have Z1 := (zeroV_of HXA.out).c1
              have G1 := (zeroV_of HXA.out).f1
              have Z2 := (zeroV_of HXA.out).c2
              have G2 := (zeroV_of HXA.out).f2
              have Z3 := (zeroV_of HXA.out).c3
              have G3 := (zeroV_of HXA.out).f3
              have Z4 := (zeroV_of HXA.out).c4
              have G4 := (zeroV_of HXA.out).f4
              go_wp2_with fail
              go_region
              all_goals
                go_wp2_with fail
                exact bodyPost_ret (v := .agg #[.int .i64 (hn : Int), .string t, .int .u64 (a1.toNat : Int), .int .u64 (u1.toNat : Int), .bool true]) (by simp (maxDischargeDepth := 10) [results, Tryd.results50, go_sem, Z0, Z1, Z2, Z3, Z4]) rfl ⟨(by rw [HQ.out, HHN.out]; rfl), by first | exact HB.out | exact below_set5 HB.out _ _ _ _ _ | exact HB.out.drew | exact (below_set5 HB.out _ _ _ _ _).drew⟩
            · have e1 := ba_ne2 (fun e => hzz (hag2.1 e))
              have HQ := Lib.hid (show readEventS s = none from by rw [HE2.out, if_neg hzz])
              clear ht hv hl ho hb hlt hi hol ha hc hg hcs hhn HEV HEL HE2 HEL2 hev hok hag2 hag hzz hK h32 h4
              have HC0 := HC.out.1
              go_wp2_with fail
              refine (HT.out _).mono ?_
              rintro e w1 ⟨rfl, hb⟩
              replace HB := Lib.hid (below_step HB.out hb HB.out.size)
              replace HXA := Lib.hid (blk_kept hb HXA.out)
              have HC1 := Lib.hid (show w1.cell? ⟨g, 0, none⟩ = some (.int .u64 (hn : Int)) ∧ w1.cell? ⟨g, 1, none⟩ = some (.int .u64 (a1.toNat : Int)) ∧ w1.cell? ⟨g, 2, none⟩ = some (.int .u64 (u1.toNat : Int)) from ⟨cell_kept hb HC.out.1, cell_kept hb HC.out.2.1, cell_kept hb HC.out.2.2⟩)
              clear hb HC0
              have y0 := HC1.out.1
              have y1 := HC1.out.2.1
              have y2 := HC1.out.2.2
              have q0 : ∀ zz : Later w1.heap.size w1, zz.val.cell? ⟨g, 0, none⟩ = some (.int .u64 (hn : Int)) := fun zz => Later.cell y0 (World.block_lt_of_cell? w1 ⟨g, 0, none⟩ y0) zz
              have q1 : ∀ zz : Later w1.heap.size w1, zz.val.cell? ⟨g, 1, none⟩ = some (.int .u64 (a1.toNat : Int)) := fun zz => Later.cell y1 (World.block_lt_of_cell? w1 ⟨g, 1, none⟩ y1) zz
              have q2 : ∀ zz : Later w1.heap.size w1, zz.val.cell? ⟨g, 2, none⟩ = some (.int .u64 (u1.toNat : Int)) := fun zz => Later.cell y2 (World.block_lt_of_cell? w1 ⟨g, 2, none⟩ y2) zz
              go_wp2_with fail
              refine wp_region_later w1.heap.size (by kernel_rfl) (by kernel_rfl) ?_
              repeat (go_big_quiet_step (first | (go_at_call 27; exact Later.calls (Nat.le_refl _) (HEV2.out _))))
              refine wpQuiet_nil ?_
              rintro wq ⟨zz, rfl⟩
              replace HB := Lib.hid (below_step HB.out zz.prop HB.out.size)
              replace HXA := Lib.hid (blk_kept zz.prop HXA.out)
              clear y0 y1 y2 q0 q1 q2
              have y0 := cell_kept zz.prop HC1.out.1
              have y1 := cell_kept zz.prop HC1.out.2.1
              have y2 := cell_kept zz.prop HC1.out.2.2
              obtain ⟨w3, hV⟩ : ∃ V, V = zz.val := ⟨_, rfl⟩
              rw [← hV] at HB HXA y0 y1 y2 ⊢
              clear hV zz
              have Z0 := (zeroV_of HXA.out).c0
              have G0 := (zeroV_of HXA.out).f0
              have Z1 := (zeroV_of HXA.out).c1
              have G1 := (zeroV_of HXA.out).f1
              have Z2 := (zeroV_of HXA.out).c2
              have G2 := (zeroV_of HXA.out).f2
              have Z3 := (zeroV_of HXA.out).c3
              have G3 := (zeroV_of HXA.out).f3
              have Z4 := (zeroV_of HXA.out).c4
              have G4 := (zeroV_of HXA.out).f4
              go_wp2_with fail
              exact bodyPost_ret (v := .agg #[.int .i64 0, .string ⟨#[]⟩, .int .u64 0, .int .u64 0, .bool false]) (by simp (maxDischargeDepth := 10) [results, Tryd.results50, go_sem, Z0, Z1, Z2, Z3, Z4]) rfl ⟨(by rw [HQ.out]; rfl), by first | exact HB.out | exact below_set5 HB.out _ _ _ _ _ | exact HB.out.drew | exact (below_set5 HB.out _ _ _ _ _).drew⟩
          · rw [if_neg hok] at hev
            have HEV2 := Lib.hid hev
            have HQ := Lib.hid (show readEventS s = none from by
              rw [HE2.out]
              split
              · rw [HEL.out]
                by_cases h0 : t.size = 0
                · rw [if_pos h0]
                · rw [if_neg h0, if_neg]
                  rintro ⟨g1, g2⟩
                  apply hok
                  unfold howOk ownerB
                  rw [decide_eq_true (show 0 < t.size by omega), decide_eq_true h32, decide_eq_true (show (1 : Int) ≤ hn by omega), decide_eq_true (show (hn : Int) ≤ 4 by omega)]; rfl
              · rfl)
            clear ht hv hl ho hb hlt hi hol ha hc hg hcs hhn HEV HEL HE2 hev hok hag h32 h4
            have HC0 := HC.out.1
            go_wp2_with fail
            refine (HT.out _).mono ?_
            rintro e w1 ⟨rfl, hb⟩
            replace HB := Lib.hid (below_step HB.out hb HB.out.size)
            replace HXA := Lib.hid (blk_kept hb HXA.out)
            have HC1 := Lib.hid (show w1.cell? ⟨g, 0, none⟩ = some (.int .u64 (hn : Int)) ∧ w1.cell? ⟨g, 1, none⟩ = some (.int .u64 (a1.toNat : Int)) ∧ w1.cell? ⟨g, 2, none⟩ = some (.int .u64 (u1.toNat : Int)) from ⟨cell_kept hb HC.out.1, cell_kept hb HC.out.2.1, cell_kept hb HC.out.2.2⟩)
            clear hb HC0
            have y0 := HC1.out.1
            have y1 := HC1.out.2.1
            have y2 := HC1.out.2.2
            have q0 : ∀ zz : Later w1.heap.size w1, zz.val.cell? ⟨g, 0, none⟩ = some (.int .u64 (hn : Int)) := fun zz => Later.cell y0 (World.block_lt_of_cell? w1 ⟨g, 0, none⟩ y0) zz
            have q1 : ∀ zz : Later w1.heap.size w1, zz.val.cell? ⟨g, 1, none⟩ = some (.int .u64 (a1.toNat : Int)) := fun zz => Later.cell y1 (World.block_lt_of_cell? w1 ⟨g, 1, none⟩ y1) zz
            have q2 : ∀ zz : Later w1.heap.size w1, zz.val.cell? ⟨g, 2, none⟩ = some (.int .u64 (u1.toNat : Int)) := fun zz => Later.cell y2 (World.block_lt_of_cell? w1 ⟨g, 2, none⟩ y2) zz
            go_wp2_with fail
            refine wp_region_later w1.heap.size (by kernel_rfl) (by kernel_rfl) ?_
            repeat (go_big_quiet_step (first | (go_at_call 27; exact Later.calls (Nat.le_refl _) (HEV2.out _))))
            refine wpQuiet_nil ?_
            rintro wq ⟨zz, rfl⟩
            replace HB := Lib.hid (below_step HB.out zz.prop HB.out.size)
            replace HXA := Lib.hid (blk_kept zz.prop HXA.out)
            clear y0 y1 y2 q0 q1 q2
            have y0 := cell_kept zz.prop HC1.out.1
            have y1 := cell_kept zz.prop HC1.out.2.1
            have y2 := cell_kept zz.prop HC1.out.2.2
            obtain ⟨w3, hV⟩ : ∃ V, V = zz.val := ⟨_, rfl⟩
            rw [← hV] at HB HXA y0 y1 y2 ⊢
            clear hV zz
            have Z0 := (zeroV_of HXA.out).c0
            have G0 := (zeroV_of HXA.out).f0
            have Z1 := (zeroV_of HXA.out).c1
            have G1 := (zeroV_of HXA.out).f1
            have Z2 := (zeroV_of HXA.out).c2
            have G2 := (zeroV_of HXA.out).f2
            have Z3 := (zeroV_of HXA.out).c3
            have G3 := (zeroV_of HXA.out).f3
            have Z4 := (zeroV_of HXA.out).c4
            have G4 := (zeroV_of HXA.out).f4
            go_wp2_with fail
            exact bodyPost_ret (v := .agg #[.int .i64 0, .string ⟨#[]⟩, .int .u64 0, .int .u64 0, .bool false]) (by simp (maxDischargeDepth := 10) [results, Tryd.results50, go_sem, Z0, Z1, Z2, Z3, Z4]) rfl ⟨(by rw [HQ.out]; rfl), by first | exact HB.out | exact below_set5 HB.out _ _ _ _ _ | exact HB.out.drew | exact (below_set5 HB.out _ _ _ _ _).drew⟩
        · have k3 : (4 : Int) < (hn : Int) := by omega
          have k5 : decide (4 < hn) = true := decide_eq_true (by omega)
          have HQ := Lib.hid (show readEventS s = none from by
            rw [HE2.out]
            split
            · rw [HEL.out]
              by_cases h0 : t.size = 0
              · rw [if_pos h0]
              · rw [if_neg h0, if_neg (fun g => h4 g.2)]
            · rfl)
          clear ht hv hl ho hb hlt hi hol ha hc hg hcs hhn HEV HEL HE2 hag h32 h4
          have HC0 := HC.out.1
          go_wp2_with fail
          refine (HT.out _).mono ?_
          rintro e w1 ⟨rfl, hb⟩
          replace HB := Lib.hid (below_step HB.out hb HB.out.size)
          replace HXA := Lib.hid (blk_kept hb HXA.out)
          have HC1 := Lib.hid (show w1.cell? ⟨g, 0, none⟩ = some (.int .u64 (hn : Int)) ∧ w1.cell? ⟨g, 1, none⟩ = some (.int .u64 (a1.toNat : Int)) ∧ w1.cell? ⟨g, 2, none⟩ = some (.int .u64 (u1.toNat : Int)) from ⟨cell_kept hb HC.out.1, cell_kept hb HC.out.2.1, cell_kept hb HC.out.2.2⟩)
          clear hb HC0
          have y0 := HC1.out.1
          have Z0 := (zeroV_of HXA.out).c0
          have G0 := (zeroV_of HXA.out).f0
          have Z1 := (zeroV_of HXA.out).c1
          have G1 := (zeroV_of HXA.out).f1
          have Z2 := (zeroV_of HXA.out).c2
          have G2 := (zeroV_of HXA.out).f2
          have Z3 := (zeroV_of HXA.out).c3
          have G3 := (zeroV_of HXA.out).f3
          have Z4 := (zeroV_of HXA.out).c4
          have G4 := (zeroV_of HXA.out).f4
          go_wp2_with fail
          exact bodyPost_ret (v := .agg #[.int .i64 0, .string ⟨#[]⟩, .int .u64 0, .int .u64 0, .bool false]) (by simp (maxDischargeDepth := 10) [results, Tryd.results50, go_sem, Z0, Z1, Z2, Z3, Z4]) rfl ⟨(by rw [HQ.out]; rfl), by first | exact HB.out | exact below_set5 HB.out _ _ _ _ _ | exact HB.out.drew | exact (below_set5 HB.out _ _ _ _ _).drew⟩
end Go.Proofs.Tryd.Rows
