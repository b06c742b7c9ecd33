/- PoolsChange: the walk. -/
import Derived.Test.YtbhnpndkdhhpfaaRc4
import Derived.Test.YtbhnpndkdhhpfaaPr2
set_option linter.unusedVariables false
set_option linter.unusedSimpArgs false
namespace Go.Proofs.Try.Pfx
open Go.RowKit Go.Cph Go.Cph.Px
set_option maxRecDepth 100000 in
set_option maxHeartbeats 4000000 in
theorem change_small (ao : Option Addr) (cap : Nat) (l : List Pf) (p : Pf) (w : World) (h : PfsAt w (.slice ao l.length cap) l) (hn : l.length ≤ 60) :
    Calls Try.prog 7 #[.slice ao l.length cap, encP p] w (AwPost w) := by
  have HV := Lib.hid h
  have HNG := Lib.hid (show decide (60 < l.length) = false by simp; omega)
  have HGR := Lib.hid (great_any ao l.length cap)
  have hpo : (outP l p).length ≤ 61 := by
    unfold outP; split
    · rw [putL_length]; omega
    · simp
  have hdo : (outD l p).length ≤ 61 := by
    unfold outD; split
    · unfold dropL; simp; omega
    · simp
  have HP1 := Lib.hid (fun v w h => put_any v l p w h (by omega))
  have HP2 := Lib.hid (fun (B : Nat) v w (h : w.ownsRow B TR 4 v l.length (l.flatMap encC)) => put22 v l p w h (by omega))
  have HD1 := Lib.hid (fun v w h => drop_any v l p w h (by omega))
  have HD2 := Lib.hid (fun (B : Nat) v w (h : w.ownsRow B TR 4 v l.length (l.flatMap encC)) => drop22 v l p w h (by omega))
  unfold PutPost at HP1
  unfold RefPutPost at HP2
  unfold DropPost at HD1
  unfold RefDropPost at HD2
  have HR1 := Lib.hid (fun v w h => rightL_any v l w h (by omega))
  have HR2 := Lib.hid (fun v w h => right22 v l w h (by omega))
  obtain ⟨op, hop⟩ : ∃ x, x = outP l p := ⟨_, rfl⟩
  obtain ⟨od, hod⟩ : ∃ x, x = outD l p := ⟨_, rfl⟩
  obtain ⟨ep, hep⟩ : ∃ x, x = putE l p := ⟨_, rfl⟩
  obtain ⟨ed, hed⟩ : ∃ x, x = dropE l p := ⟨_, rfl⟩
  obtain ⟨rl, hrl⟩ : ∃ x, x = rightL l := ⟨_, rfl⟩
  rw [← hop] at HP1 HP2 hpo
  rw [← hod] at HD1 HD2 hdo
  rw [← hep] at HP1 HP2
  rw [← hed] at HD1 HD2
  rw [← hrl] at HR1 HR2
  have HSM := Lib.hid (fun (c : List Pf) v u w (h : PfsAt w v c) (k : PfsAt w u c) (hc : c.length ≤ 1000000) => (show Calls Try.prog 18 #[v, u] w fun e w' => e = .returned (.bool true) ∧ Below w.heap.size w w' from (same22 v u c c w h k hc hc).mono fun e w' ⟨h1, h2⟩ => ⟨by rw [h1]; simp, h2⟩))
  clear h hop hod hep hed hrl
  have hb0 : Below w.heap.size w (w.alloc (.cells #[.int .u8 (p.1.1.toNat : Int), .int .u64 (p.1.2.1.toNat : Int), .int .u64 (p.1.2.2.toNat : Int), .int .i64 p.2] 27)) := ((Below.refl _ _).alloc (Nat.le_refl _) _)
  have h1 : (w.alloc (.cells #[.int .u8 (p.1.1.toNat : Int), .int .u64 (p.1.2.1.toNat : Int), .int .u64 (p.1.2.2.toNat : Int), .int .i64 p.2] 27)).heap[w.heap.size]? = some (.cells #[.int .u8 (p.1.1.toNat : Int), .int .u64 (p.1.2.1.toNat : Int), .int .u64 (p.1.2.2.toNat : Int), .int .i64 p.2] 27 (0, 0)) := (heap_alloc_new w (.cells #[.int .u8 (p.1.1.toNat : Int), .int .u64 (p.1.2.1.toNat : Int), .int .u64 (p.1.2.2.toNat : Int), .int .i64 p.2] 27))
  have H1 := Lib.hid h1
  have HB0 := Lib.hid hb0
  clear hb0 h1
  go_enter Try.func7, Try.ntmps7
  go_wp2_with fail
  generalize (w.alloc (.cells #[.int .u8 (p.1.1.toNat : Int), .int .u64 (p.1.2.1.toNat : Int), .int .u64 (p.1.2.2.toNat : Int), .int .i64 p.2] 27)) = w0 at *
  refine (HGR.out _ (by omega)).mono ?_
  rintro e w0' ⟨rfl, rfl⟩
  rw [HNG.out]
  have L_0 := Lib.hid (HV.out.kept HB0.out)
  go_wp2_with fail
  refine (given22 _ l _ L_0.out (by omega)).mono ?_
  rintro e w1 ⟨gv, rfl, hg, hb⟩
  have L_1 := Lib.hid (L_0.out.kept hb)
  have P_1 := Lib.hid (blk_kept hb H1.out)
  have HB_1 := Lib.hid (below_step HB0.out hb HB0.out.size)
  obtain ⟨go, gc, hgv⟩ := owns_slice1 hg
  subst hgv
  have G_1 := Lib.hid hg
  clear hb hg
  have p0 : w1.cell? ⟨w.heap.size, 0, none⟩ = some (.int .u8 (p.1.1.toNat : Int)) := (by rw [blk_cell P_1.out]; rfl)
  have p1 : w1.cell? ⟨w.heap.size, 1, none⟩ = some (.int .u64 (p.1.2.1.toNat : Int)) := (by rw [blk_cell P_1.out]; rfl)
  have p2 : w1.cell? ⟨w.heap.size, 2, none⟩ = some (.int .u64 (p.1.2.2.toNat : Int)) := (by rw [blk_cell P_1.out]; rfl)
  have p3 : w1.cell? ⟨w.heap.size, 3, none⟩ = some (.int .i64 p.2) := (by rw [blk_cell P_1.out]; rfl)
  go_wp2_with fail
  clear p0 p1 p2 p3
  refine (HP1.out _ _ L_1.out).mono ?_
  rintro e w2 ⟨v_Ra, rfl, ho, hb⟩
  have BX_p := Lib.hid hb
  have L_2 := Lib.hid (L_1.out.kept hb)
  have P_2 := Lib.hid (blk_kept hb P_1.out)
  have G_2 := Lib.hid (row_kept1 G_1.out fun k hk => hb.block k (G_1.out.lt k hk).2)
  have HB_2 := Lib.hid (below_step HB_1.out hb HB_1.out.size)
  obtain ⟨Rao, Rac, hv⟩ := owns_slice1 ho
  subst hv
  have Ra_2 := Lib.hid ho
  clear ho hb
  have p0 : w2.cell? ⟨w.heap.size, 0, none⟩ = some (.int .u8 (p.1.1.toNat : Int)) := (by rw [blk_cell P_2.out]; rfl)
  have p1 : w2.cell? ⟨w.heap.size, 1, none⟩ = some (.int .u64 (p.1.2.1.toNat : Int)) := (by rw [blk_cell P_2.out]; rfl)
  have p2 : w2.cell? ⟨w.heap.size, 2, none⟩ = some (.int .u64 (p.1.2.2.toNat : Int)) := (by rw [blk_cell P_2.out]; rfl)
  have p3 : w2.cell? ⟨w.heap.size, 3, none⟩ = some (.int .i64 p.2) := (by rw [blk_cell P_2.out]; rfl)
  go_wp2_with fail
  clear p0 p1 p2 p3
  refine (given20 p _).mono ?_
  rintro e w3 ⟨rfl, hb⟩
  have L_3 := Lib.hid (L_2.out.kept hb)
  have P_3 := Lib.hid (blk_kept hb P_2.out)
  have G_3 := Lib.hid (row_kept1 G_2.out fun k hk => hb.block k (G_2.out.lt k hk).2)
  have Ra_3 := Lib.hid (row_kept1 Ra_2.out fun k hk => hb.block k (Ra_2.out.lt k hk).2)
  have BX_3 := Lib.hid (below_step BX_p.out hb BX_p.out.size)
  have HB_3 := Lib.hid (below_step HB_2.out hb HB_2.out.size)
  clear hb
  go_wp2_with fail
  refine (HP2.out _ _ _ G_3.out).mono ?_
  rintro e w4 ⟨v_Rb, rfl, ho, hb⟩
  have L_4 := Lib.hid (L_3.out.kept hb)
  have P_4 := Lib.hid (blk_kept hb P_3.out)
  have G_4 := Lib.hid (row_kept1 G_3.out fun k hk => hb.block k (G_3.out.lt k hk).2)
  have Ra_4 := Lib.hid (row_kept1 Ra_3.out fun k hk => hb.block k (Ra_3.out.lt k hk).2)
  have BX_4 := Lib.hid (below_step BX_3.out hb BX_3.out.size)
  have HB_4 := Lib.hid (below_step HB_3.out hb HB_3.out.size)
  obtain ⟨Rbo, Rbc, hv⟩ := owns_slice1 ho
  subst hv
  have Rb_4 := Lib.hid ho
  clear ho hb
  have p0 : w4.cell? ⟨w.heap.size, 0, none⟩ = some (.int .u8 (p.1.1.toNat : Int)) := (by rw [blk_cell P_4.out]; rfl)
  have p1 : w4.cell? ⟨w.heap.size, 1, none⟩ = some (.int .u64 (p.1.2.1.toNat : Int)) := (by rw [blk_cell P_4.out]; rfl)
  have p2 : w4.cell? ⟨w.heap.size, 2, none⟩ = some (.int .u64 (p.1.2.2.toNat : Int)) := (by rw [blk_cell P_4.out]; rfl)
  have p3 : w4.cell? ⟨w.heap.size, 3, none⟩ = some (.int .i64 p.2) := (by rw [blk_cell P_4.out]; rfl)
  go_wp2_with fail
  clear p0 p1 p2 p3
  refine (HD1.out _ _ L_4.out).mono ?_
  rintro e w5 ⟨v_Rc, rfl, ho, hb⟩
  have L_5 := Lib.hid (L_4.out.kept hb)
  have P_5 := Lib.hid (blk_kept hb P_4.out)
  have G_5 := Lib.hid (row_kept1 G_4.out fun k hk => hb.block k (G_4.out.lt k hk).2)
  have Ra_5 := Lib.hid (row_kept1 Ra_4.out fun k hk => hb.block k (Ra_4.out.lt k hk).2)
  have BX_5 := Lib.hid (below_step BX_4.out hb BX_4.out.size)
  have Rb_5 := Lib.hid (row_kept1 Rb_4.out fun k hk => hb.block k (Rb_4.out.lt k hk).2)
  have HB_5 := Lib.hid (below_step HB_4.out hb HB_4.out.size)
  obtain ⟨Rco, Rcc, hv⟩ := owns_slice1 ho
  subst hv
  have Rc_5 := Lib.hid ho
  clear ho hb
  have p0 : w5.cell? ⟨w.heap.size, 0, none⟩ = some (.int .u8 (p.1.1.toNat : Int)) := (by rw [blk_cell P_5.out]; rfl)
  have p1 : w5.cell? ⟨w.heap.size, 1, none⟩ = some (.int .u64 (p.1.2.1.toNat : Int)) := (by rw [blk_cell P_5.out]; rfl)
  have p2 : w5.cell? ⟨w.heap.size, 2, none⟩ = some (.int .u64 (p.1.2.2.toNat : Int)) := (by rw [blk_cell P_5.out]; rfl)
  have p3 : w5.cell? ⟨w.heap.size, 3, none⟩ = some (.int .i64 p.2) := (by rw [blk_cell P_5.out]; rfl)
  go_wp2_with fail
  clear p0 p1 p2 p3
  refine (given20 p _).mono ?_
  rintro e w6 ⟨rfl, hb⟩
  have L_6 := Lib.hid (L_5.out.kept hb)
  have P_6 := Lib.hid (blk_kept hb P_5.out)
  have G_6 := Lib.hid (row_kept1 G_5.out fun k hk => hb.block k (G_5.out.lt k hk).2)
  have Ra_6 := Lib.hid (row_kept1 Ra_5.out fun k hk => hb.block k (Ra_5.out.lt k hk).2)
  have BX_6 := Lib.hid (below_step BX_5.out hb BX_5.out.size)
  have Rb_6 := Lib.hid (row_kept1 Rb_5.out fun k hk => hb.block k (Rb_5.out.lt k hk).2)
  have Rc_6 := Lib.hid (row_kept1 Rc_5.out fun k hk => hb.block k (Rc_5.out.lt k hk).2)
  have HB_6 := Lib.hid (below_step HB_5.out hb HB_5.out.size)
  clear hb
  go_wp2_with fail
  refine (HD2.out _ _ _ G_6.out).mono ?_
  rintro e w7 ⟨v_Rd, rfl, ho, hb⟩
  have L_7 := Lib.hid (L_6.out.kept hb)
  have P_7 := Lib.hid (blk_kept hb P_6.out)
  have G_7 := Lib.hid (row_kept1 G_6.out fun k hk => hb.block k (G_6.out.lt k hk).2)
  have Ra_7 := Lib.hid (row_kept1 Ra_6.out fun k hk => hb.block k (Ra_6.out.lt k hk).2)
  have BX_7 := Lib.hid (below_step BX_6.out hb BX_6.out.size)
  have Rb_7 := Lib.hid (row_kept1 Rb_6.out fun k hk => hb.block k (Rb_6.out.lt k hk).2)
  have Rc_7 := Lib.hid (row_kept1 Rc_6.out fun k hk => hb.block k (Rc_6.out.lt k hk).2)
  have HB_7 := Lib.hid (below_step HB_6.out hb HB_6.out.size)
  obtain ⟨Rdo, Rdc, hv⟩ := owns_slice1 ho
  subst hv
  have Rd_7 := Lib.hid ho
  clear ho hb
  go_wp2_with fail
  refine (HSM.out op _ _ _ (Seg.of_owns Ra_7.out) (Seg.of_owns Rb_7.out) (by omega)).mono ?_
  rintro e w8 ⟨rfl, hb⟩
  have L_8 := Lib.hid (L_7.out.kept hb)
  have P_8 := Lib.hid (blk_kept hb P_7.out)
  have G_8 := Lib.hid (row_kept1 G_7.out fun k hk => hb.block k (G_7.out.lt k hk).2)
  have Ra_8 := Lib.hid (row_kept1 Ra_7.out fun k hk => hb.block k (Ra_7.out.lt k hk).2)
  have BX_8 := Lib.hid (below_step BX_7.out hb BX_7.out.size)
  have Rb_8 := Lib.hid (row_kept1 Rb_7.out fun k hk => hb.block k (Rb_7.out.lt k hk).2)
  have Rc_8 := Lib.hid (row_kept1 Rc_7.out fun k hk => hb.block k (Rc_7.out.lt k hk).2)
  have Rd_8 := Lib.hid (row_kept1 Rd_7.out fun k hk => hb.block k (Rd_7.out.lt k hk).2)
  have HB_8 := Lib.hid (below_step HB_7.out hb HB_7.out.size)
  clear hb
  go_wp2_with fail
  refine (HSM.out od _ _ _ (Seg.of_owns Rc_8.out) (Seg.of_owns Rd_8.out) (by omega)).mono ?_
  rintro e w9 ⟨rfl, hb⟩
  have L_9 := Lib.hid (L_8.out.kept hb)
  have P_9 := Lib.hid (blk_kept hb P_8.out)
  have G_9 := Lib.hid (row_kept1 G_8.out fun k hk => hb.block k (G_8.out.lt k hk).2)
  have Ra_9 := Lib.hid (row_kept1 Ra_8.out fun k hk => hb.block k (Ra_8.out.lt k hk).2)
  have BX_9 := Lib.hid (below_step BX_8.out hb BX_8.out.size)
  have Rb_9 := Lib.hid (row_kept1 Rb_8.out fun k hk => hb.block k (Rb_8.out.lt k hk).2)
  have Rc_9 := Lib.hid (row_kept1 Rc_8.out fun k hk => hb.block k (Rc_8.out.lt k hk).2)
  have Rd_9 := Lib.hid (row_kept1 Rd_8.out fun k hk => hb.block k (Rd_8.out.lt k hk).2)
  have HB_9 := Lib.hid (below_step HB_8.out hb HB_8.out.size)
  clear hb
  go_wp2_with fail
  refine (HR1.out _ _ L_9.out).mono ?_
  rintro e w10 ⟨rfl, hb⟩
  have L_10 := Lib.hid (L_9.out.kept hb)
  have P_10 := Lib.hid (blk_kept hb P_9.out)
  have G_10 := Lib.hid (row_kept1 G_9.out fun k hk => hb.block k (G_9.out.lt k hk).2)
  have Ra_10 := Lib.hid (row_kept1 Ra_9.out fun k hk => hb.block k (Ra_9.out.lt k hk).2)
  have BX_10 := Lib.hid (below_step BX_9.out hb BX_9.out.size)
  have Rb_10 := Lib.hid (row_kept1 Rb_9.out fun k hk => hb.block k (Rb_9.out.lt k hk).2)
  have Rc_10 := Lib.hid (row_kept1 Rc_9.out fun k hk => hb.block k (Rc_9.out.lt k hk).2)
  have Rd_10 := Lib.hid (row_kept1 Rd_9.out fun k hk => hb.block k (Rd_9.out.lt k hk).2)
  have HB_10 := Lib.hid (below_step HB_9.out hb HB_9.out.size)
  clear hb
  go_wp2_with fail
  refine (HR2.out _ _ (Seg.of_owns G_10.out)).mono ?_
  rintro e w11 ⟨rfl, hb⟩
  have L_11 := Lib.hid (L_10.out.kept hb)
  have P_11 := Lib.hid (blk_kept hb P_10.out)
  have G_11 := Lib.hid (row_kept1 G_10.out fun k hk => hb.block k (G_10.out.lt k hk).2)
  have Ra_11 := Lib.hid (row_kept1 Ra_10.out fun k hk => hb.block k (Ra_10.out.lt k hk).2)
  have BX_11 := Lib.hid (below_step BX_10.out hb BX_10.out.size)
  have Rb_11 := Lib.hid (row_kept1 Rb_10.out fun k hk => hb.block k (Rb_10.out.lt k hk).2)
  have Rc_11 := Lib.hid (row_kept1 Rc_10.out fun k hk => hb.block k (Rc_10.out.lt k hk).2)
  have Rd_11 := Lib.hid (row_kept1 Rd_10.out fun k hk => hb.block k (Rd_10.out.lt k hk).2)
  have HB_11 := Lib.hid (below_step HB_10.out hb HB_10.out.size)
  clear hb
  have hra := (fun g hg => (Ra_11.out.lt g hg).1)
  have hrc := (fun g hg => (Rc_11.out.lt g hg).1)
  have hrd := (fun g hg => (Ra_4.out.lt g hg).2)
  have HRA := Lib.hid hra
  have HRC := Lib.hid hrc
  have HRD := Lib.hid hrd
  clear hra hrc hrd
  have HSX := Lib.hid (show w1.heap.size ≤ w4.heap.size from BX_4.out.size)
  go_wp2_with fail
  go_loopw [14] (fun v14 wr => ∃ i : Nat, i ≤ op.length ∧ v14 = .int .i64 i ∧ (∃ xs : List Pf, xs.length = op.length ∧ wr.ownsRow w1.heap.size TP 4 (.slice Rao op.length Rac) op.length (xs.flatMap encC)) ∧ wr.ownsRow w4.heap.size TP 4 (.slice Rco od.length Rcc) od.length (od.flatMap encC) ∧ Below w1.heap.size w1 wr) (fun v14 _ => op.length - (intOf v14).toNat)
  case atStart => exact ⟨0, Nat.zero_le _, rfl, ⟨op, rfl, Ra_11.out⟩, Rc_11.out, BX_11.out⟩
  case round =>
    obtain ⟨i, hi, rfl, ⟨xs, hxl, ho⟩, hoc, hbel⟩ := hrel
    have HO := Lib.hid ho
    have HOC := Lib.hid hoc
    have HBE := Lib.hid hbel
    have HXL := Lib.hid hxl
    clear ho hoc hbel hxl
    by_cases hlt : i < op.length
    · obtain ⟨g, gc2, hgv, hgb, hgl, hgc, hcell, hfz⟩ := owns_shape HO.out (by omega)
      cases hgv
      have hil : i < xs.length := by rw [HXL.out]; exact hlt
      have hcj : CellsOf wr g (i * 4) xs[i] := by
        refine ⟨(hcell (i * 4 + 0) (by omega)).trans ?_, (hcell (i * 4 + 1) (by omega)).trans ?_, (hcell (i * 4 + 2) (by omega)).trans ?_, (hcell (i * 4 + 3) (by omega)).trans ?_⟩ <;> exact flat_at encC_len xs i hil _ (by decide)
      have f0 := hfz
      have m0 : (0 : Int) ≤ (i : Int) := by omega
      have m1 : (i : Int) < (op.length : Int) := by omega
      have HO3 := Lib.hid (show (((((wr.setCell ⟨g, i * 4, none⟩ (.int .u8 0)).setCell ⟨g, i * 4 + 1, none⟩ (.int .u64 0)).setCell ⟨g, i * 4 + 2, none⟩ (.int .u64 0)).setCell ⟨g, i * 4 + 3, none⟩ (.int .i64 0)).ownsRow w1.heap.size TP 4 (.slice (some ⟨g, 0, none⟩) op.length Rac) op.length ((xs.set i zeroP).flatMap encC)) from owns_put HO.out i hil zeroP)
      have HB3 := Lib.hid (show Below w1.heap.size w1 ((((wr.setCell ⟨g, i * 4, none⟩ (.int .u8 0)).setCell ⟨g, i * 4 + 1, none⟩ (.int .u64 0)).setCell ⟨g, i * 4 + 2, none⟩ (.int .u64 0)).setCell ⟨g, i * 4 + 3, none⟩ (.int .i64 0)) from below_put HBE.out hgb (i * 4) zeroP)
      have hne : (Value.slice Rco od.length Rcc).ownBlock ≠ some g := fun e => by
        have h1 := HRD.out g rfl
        have h2 := HRC.out g e
        omega
      have HC3 := Lib.hid (ownsRow_setCell_other (ownsRow_setCell_other (ownsRow_setCell_other (ownsRow_setCell_other HOC.out (a := ⟨g, i * 4, none⟩) hne (.int .u8 0)) (a := ⟨g, i * 4 + 1, none⟩) hne (.int .u64 0)) (a := ⟨g, i * 4 + 2, none⟩) hne (.int .u64 0)) (a := ⟨g, i * 4 + 3, none⟩) hne (.int .i64 0))
      have c0 := hcj.c0
      have c1 := hcj.c1
      have c2 := hcj.c2
      have c3 := hcj.c3
      clear hcell hfz hcj hne
      go_wp2_with fail
      go_roundw
      case rel => exact ⟨i + 1, by omega, by go_num, ⟨xs.set i zeroP, by simp [HXL.out], HO3.out⟩, HC3.out, HB3.out⟩
      case measure => simp [intOf]; omega
    · obtain rfl : i = op.length := by omega
      clear hlt
      go_wp2_with fail
      go_loopw [15] (fun v15 wr => ∃ i : Nat, i ≤ od.length ∧ v15 = .int .i64 i ∧ (∃ xs : List Pf, xs.length = od.length ∧ wr.ownsRow w4.heap.size TP 4 (.slice Rco od.length Rcc) od.length (xs.flatMap encC)) ∧ Below w1.heap.size w1 wr) (fun v15 _ => od.length - (intOf v15).toNat)
      case atStart => exact ⟨0, Nat.zero_le _, rfl, ⟨od, rfl, HOC.out⟩, HBE.out⟩
      case round =>
        obtain ⟨i, hi2, rfl, ⟨ys, hyl, ho⟩, hbel⟩ := hrel
        have HO2 := Lib.hid ho
        have HBE2 := Lib.hid hbel
        have HYL := Lib.hid hyl
        clear ho hbel hyl
        by_cases hlt : i < od.length
        · obtain ⟨g, gc2, hgv, hgb, hgl, hgc, hcell, hfz⟩ := owns_shape HO2.out (by omega)
          cases hgv
          have hil : i < ys.length := by rw [HYL.out]; exact hlt
          have hcj : CellsOf wr g (i * 4) ys[i] := by
            refine ⟨(hcell (i * 4 + 0) (by omega)).trans ?_, (hcell (i * 4 + 1) (by omega)).trans ?_, (hcell (i * 4 + 2) (by omega)).trans ?_, (hcell (i * 4 + 3) (by omega)).trans ?_⟩ <;> exact flat_at encC_len ys i hil _ (by decide)
          have f0 := hfz
          have m0 : (0 : Int) ≤ (i : Int) := by omega
          have m1 : (i : Int) < (od.length : Int) := by omega
          have HO3 := Lib.hid (show (((((wr.setCell ⟨g, i * 4, none⟩ (.int .u8 0)).setCell ⟨g, i * 4 + 1, none⟩ (.int .u64 0)).setCell ⟨g, i * 4 + 2, none⟩ (.int .u64 0)).setCell ⟨g, i * 4 + 3, none⟩ (.int .i64 0)).ownsRow w4.heap.size TP 4 (.slice (some ⟨g, 0, none⟩) od.length Rcc) od.length ((ys.set i zeroP).flatMap encC)) from owns_put HO2.out i hil zeroP)
          have HB3 := Lib.hid (show Below w1.heap.size w1 ((((wr.setCell ⟨g, i * 4, none⟩ (.int .u8 0)).setCell ⟨g, i * 4 + 1, none⟩ (.int .u64 0)).setCell ⟨g, i * 4 + 2, none⟩ (.int .u64 0)).setCell ⟨g, i * 4 + 3, none⟩ (.int .i64 0)) from below_put HBE2.out (Nat.le_trans HSX.out hgb) (i * 4) zeroP)
          have c0 := hcj.c0
          have c1 := hcj.c1
          have c2 := hcj.c2
          have c3 := hcj.c3
          clear hcell hfz hcj
          go_wp2_with fail
          go_roundw
          case rel => exact ⟨i + 1, by omega, by go_num, ⟨ys.set i zeroP, by simp [HYL.out], HO3.out⟩, HB3.out⟩
          case measure => simp [intOf]; omega
        · obtain rfl : i = od.length := by omega
          clear hlt
          have HLE := Lib.hid (L_1.out.kept HBE2.out)
          have HGE := Lib.hid ((show PfsAt w1 (.slice go l.length gc) l from Seg.of_owns G_1.out).kept HBE2.out)
          go_wp2_with fail
          refine (HSM.out l _ _ _ HLE.out HGE.out (by omega)).mono ?_
          rintro e w20 ⟨rfl, hb⟩
          have HB20 := Lib.hid (below_step HBE2.out hb HBE2.out.size)
          clear hb
          go_wp2_with fail
          refine (awake _).mono ?_
          rintro e w21 ⟨rfl, hb⟩
          have HB21 := Lib.hid (below_step HB20.out hb HB20.out.size)
          clear hb
          go_wp2_with fail
          go_ret
          exact ⟨rfl, below_step HB_1.out HB21.out HB_1.out.size⟩
end Go.Proofs.Try.Pfx
