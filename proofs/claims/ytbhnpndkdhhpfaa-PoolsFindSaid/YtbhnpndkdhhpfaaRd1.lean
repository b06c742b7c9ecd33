/- PoolsFind: the walk. -/
import Derived.Test.YtbhnpndkdhhpfaaRc5
import Derived.Test.YtbhnpndkdhhpfaaRc6
import Derived.Test.YtbhnpndkdhhpfaaPsS
import Derived.Deep.RegionHeld3
set_option linter.unusedVariables false
set_option linter.unusedSimpArgs false
namespace Go.Proofs.Try.Pfx
open Go.RowKit Go.Cph Go.Cph.Px
set_option maxRecDepth 100000 in
set_option maxHeartbeats 4000000 in
theorem find_small (ao : Option Addr) (cap : Nat) (l : List Pf) (p : Pf) (a : Ad) (w : World) (h : PfsAt w (.slice ao l.length cap) l) (hn : l.length ≤ 60) :
    Calls Try.prog 3 #[.slice ao l.length cap, encP p, encA a] w (AwPost w) := by
  have HV := Lib.hid h
  have HNG := Lib.hid (show decide (60 < l.length) = false by simp; omega)
  have HGR := Lib.hid (great_any ao l.length cap)
  obtain ⟨x, hx⟩ : ∃ x, x = (mostL (fun q => hasP q a) l).getD zeroP := ⟨_, rfl⟩
  obtain ⟨ox, hox⟩ : ∃ x, x = (mostL (fun q => hasP q a) l).isSome := ⟨_, rfl⟩
  obtain ⟨u, hu⟩ : ∃ x, x = (mostL (fun q => within p q) l).getD zeroP := ⟨_, rfl⟩
  obtain ⟨ou, hou⟩ : ∃ x, x = (mostL (fun q => within p q) l).isSome := ⟨_, rfl⟩
  have HIP := Lib.hid (fun v w h => (show Calls Try.prog 12 #[v, encA a] w fun e w' => e = .returned (.tuple #[encP x, .bool ox]) ∧ Below w.heap.size w w' by rw [hx, hox]; exact innermost v l a w h (by omega)))
  have HIR := Lib.hid (fun v w h => (show Calls Try.prog 13 #[v, encA a] w fun e w' => e = .returned (.tuple #[encP x, .bool ox]) ∧ Below w.heap.size w w' by rw [hx, hox]; exact innermost22 v l a w h (by omega)))
  have HWP := Lib.hid (fun v w h => (show Calls Try.prog 15 #[v, encP p] w fun e w' => e = .returned (.tuple #[encP u, .bool ou]) ∧ Below w.heap.size w w' by rw [hu, hou]; exact whole v l p w h (by omega)))
  have HWR := Lib.hid (fun v w h => (show Calls Try.prog 16 #[v, encP p] w fun e w' => e = .returned (.tuple #[encP u, .bool ou]) ∧ Below w.heap.size w w' by rw [hu, hou]; exact whole22 v l p w h (by omega)))
  obtain ⟨c, hc⟩ : ∃ c, c = childrenL l p := ⟨_, rfl⟩
  have hcl : c.length ≤ 60 := by rw [hc]; exact Nat.le_trans (List.length_filter_le _ _) hn
  have HCP := Lib.hid (fun v w h => (show Calls Try.prog 19 #[v, encP p] w fun e w' => ∃ v', e = .returned v' ∧ PfsAt w' v' c ∧ Below w.heap.size w w' from (children v l p w h (by omega)).mono fun e w' ⟨v', h1, h2, h3⟩ => ⟨v', h1, by rw [hc]; exact Seg.of_owns h2, h3⟩))
  have HCR := Lib.hid (fun v w h => (show Calls Try.prog 20 #[v, encP p] w fun e w' => ∃ v', e = .returned v' ∧ PfsAt w' v' c ∧ Below w.heap.size w w' from (children22 v l p w h (by omega)).mono fun e w' ⟨v', h1, h2, h3⟩ => ⟨v', h1, by rw [hc]; exact Seg.of_owns h2, h3⟩))
  have HSM := Lib.hid (fun v u w (h : PfsAt w v c) (k : PfsAt w u c) => (show Calls Try.prog 18 #[v, u] w fun e w' => e = .returned (.bool true) ∧ Below w.heap.size w w' from (same22 v u c c w h k (by omega) (by omega)).mono fun e w' ⟨h1, h2⟩ => ⟨by rw [h1]; simp, h2⟩))
  have hex := fun w => (show (binOp .eql 36 (encP x) (encP x)).run Try.prog w = .ok (.bool true) w by have := run_eqlPR x x w; simpa using this)
  have heu := fun w => (show (binOp .eql 36 (encP u) (encP u)).run Try.prog w = .ok (.bool true) w by have := run_eqlPR u u w; simpa using this)
  have HEX := Lib.hid hex
  have HEU := Lib.hid heu
  clear h hx hox hu hou hc hex heu
  have hb0 : Below w.heap.size w ((w.alloc (.cells #[.int .u8 (p.1.1.toNat : Int), .int .u64 (p.1.2.1.toNat : Int), .int .u64 (p.1.2.2.toNat : Int), .int .i64 p.2] 27)).alloc (.cells #[.int .u8 (a.1.toNat : Int), .int .u64 (a.2.1.toNat : Int), .int .u64 (a.2.2.toNat : Int)] 25)) := (((Below.refl _ _).alloc (Nat.le_refl _) _).alloc (by simp) _)
  have h1 : ((w.alloc (.cells #[.int .u8 (p.1.1.toNat : Int), .int .u64 (p.1.2.1.toNat : Int), .int .u64 (p.1.2.2.toNat : Int), .int .i64 p.2] 27)).alloc (.cells #[.int .u8 (a.1.toNat : Int), .int .u64 (a.2.1.toNat : Int), .int .u64 (a.2.2.toNat : Int)] 25)).heap[w.heap.size]? = some (.cells #[.int .u8 (p.1.1.toNat : Int), .int .u64 (p.1.2.1.toNat : Int), .int .u64 (p.1.2.2.toNat : Int), .int .i64 p.2] 27 (0, 0)) := (blk_alloc (heap_alloc_new w (.cells #[.int .u8 (p.1.1.toNat : Int), .int .u64 (p.1.2.1.toNat : Int), .int .u64 (p.1.2.2.toNat : Int), .int .i64 p.2] 27)) _)
  have h2 : ((w.alloc (.cells #[.int .u8 (p.1.1.toNat : Int), .int .u64 (p.1.2.1.toNat : Int), .int .u64 (p.1.2.2.toNat : Int), .int .i64 p.2] 27)).alloc (.cells #[.int .u8 (a.1.toNat : Int), .int .u64 (a.2.1.toNat : Int), .int .u64 (a.2.2.toNat : Int)] 25)).heap[w.heap.size + 1]? = some (.cells #[.int .u8 (a.1.toNat : Int), .int .u64 (a.2.1.toNat : Int), .int .u64 (a.2.2.toNat : Int)] 25 (0, 0)) := by have h := (heap_alloc_new (w.alloc (.cells #[.int .u8 (p.1.1.toNat : Int), .int .u64 (p.1.2.1.toNat : Int), .int .u64 (p.1.2.2.toNat : Int), .int .i64 p.2] 27)) (.cells #[.int .u8 (a.1.toNat : Int), .int .u64 (a.2.1.toNat : Int), .int .u64 (a.2.2.toNat : Int)] 25)); simpa [World.size_alloc] using h
  have H1 := Lib.hid h1
  have H2 := Lib.hid h2
  have HB0 := Lib.hid hb0
  clear hb0 h1 h2
  go_enter Try.func3, Try.ntmps3
  go_wp2_with fail
  generalize ((w.alloc (.cells #[.int .u8 (p.1.1.toNat : Int), .int .u64 (p.1.2.1.toNat : Int), .int .u64 (p.1.2.2.toNat : Int), .int .i64 p.2] 27)).alloc (.cells #[.int .u8 (a.1.toNat : Int), .int .u64 (a.2.1.toNat : Int), .int .u64 (a.2.2.toNat : Int)] 25)) = w0 at *
  refine (HGR.out _ (by omega)).mono ?_
  rintro e w0' ⟨rfl, rfl⟩
  rw [HNG.out]
  have L_0 := Lib.hid (HV.out.kept HB0.out)
  go_wp2_with fail
  refine (given22 _ l _ L_0.out (by omega)).mono ?_
  rintro e w1 ⟨gv, rfl, hg, hb⟩
  have L_1 := Lib.hid (L_0.out.kept hb)
  have P_1 := Lib.hid (blk_kept hb H1.out)
  have A_1 := Lib.hid (blk_kept hb H2.out)
  have HB_1 := Lib.hid (below_step HB0.out hb HB0.out.size)
  obtain ⟨go, gc, hgv⟩ := owns_slice1 hg
  subst hgv
  have G_1 := Lib.hid (show PfsAt w1 (.slice go l.length gc) l from Seg.of_owns hg)
  clear hb hg
  have a0 : w1.cell? ⟨w.heap.size + 1, 0, none⟩ = some (.int .u8 (a.1.toNat : Int)) := (by rw [blk_cell A_1.out]; rfl)
  have a1 : w1.cell? ⟨w.heap.size + 1, 1, none⟩ = some (.int .u64 (a.2.1.toNat : Int)) := (by rw [blk_cell A_1.out]; rfl)
  have a2 : w1.cell? ⟨w.heap.size + 1, 2, none⟩ = some (.int .u64 (a.2.2.toNat : Int)) := (by rw [blk_cell A_1.out]; rfl)
  have hlt : w.heap.size + 1 < w1.heap.size := blk_lt A_1.out
  go_wp2_with fail
  clear hlt a0 a1 a2
  refine (HIP.out _ _ L_1.out).mono ?_
  rintro e w2 ⟨rfl, hb⟩
  have L_2 := Lib.hid (L_1.out.kept hb)
  have P_2 := Lib.hid (blk_kept hb P_1.out)
  have A_2 := Lib.hid (blk_kept hb A_1.out)
  have G_2 := Lib.hid (G_1.out.kept hb)
  have HB_2 := Lib.hid (below_step HB_1.out hb HB_1.out.size)
  clear hb
  have a0 : w2.cell? ⟨w.heap.size + 1, 0, none⟩ = some (.int .u8 (a.1.toNat : Int)) := (by rw [blk_cell A_2.out]; rfl)
  have a1 : w2.cell? ⟨w.heap.size + 1, 1, none⟩ = some (.int .u64 (a.2.1.toNat : Int)) := (by rw [blk_cell A_2.out]; rfl)
  have a2 : w2.cell? ⟨w.heap.size + 1, 2, none⟩ = some (.int .u64 (a.2.2.toNat : Int)) := (by rw [blk_cell A_2.out]; rfl)
  have hlt : w.heap.size + 1 < w2.heap.size := blk_lt A_2.out
  go_wp2_with fail
  clear hlt a0 a1 a2
  have hbx : Below w2.heap.size w2 (w2.alloc (.cells #[.int .u8 (x.1.1.toNat : Int), .int .u64 (x.1.2.1.toNat : Int), .int .u64 (x.1.2.2.toNat : Int), .int .i64 x.2] 27)) := (Below.refl _ _).alloc (Nat.le_refl _) _
  have L_3 := Lib.hid (L_2.out.kept hbx)
  have P_3 := Lib.hid (blk_kept hbx P_2.out)
  have A_3 := Lib.hid (blk_kept hbx A_2.out)
  have G_3 := Lib.hid (G_2.out.kept hbx)
  have HB_3 := Lib.hid (below_step HB_2.out hbx HB_2.out.size)
  have X_3 := Lib.hid (heap_alloc_new w2 (.cells #[.int .u8 (x.1.1.toNat : Int), .int .u64 (x.1.2.1.toNat : Int), .int .u64 (x.1.2.2.toNat : Int), .int .i64 x.2] 27))
  clear hbx
  obtain ⟨Xb, hXb⟩ : ∃ b, b = w2.heap.size := ⟨_, rfl⟩
  rw [← hXb] at X_3 ⊢
  clear hXb
  generalize w2.alloc (.cells #[.int .u8 (x.1.1.toNat : Int), .int .u64 (x.1.2.1.toNat : Int), .int .u64 (x.1.2.2.toNat : Int), .int .i64 x.2] 27) = w3 at *
  refine (given19 a _).mono ?_
  rintro e w4 ⟨rfl, hb⟩
  have L_4 := Lib.hid (L_3.out.kept hb)
  have P_4 := Lib.hid (blk_kept hb P_3.out)
  have A_4 := Lib.hid (blk_kept hb A_3.out)
  have G_4 := Lib.hid (G_3.out.kept hb)
  have X_4 := Lib.hid (blk_kept hb X_3.out)
  have HB_4 := Lib.hid (below_step HB_3.out hb HB_3.out.size)
  clear hb
  go_wp2_with fail
  refine (HIR.out _ _ G_4.out).mono ?_
  rintro e w5 ⟨rfl, hb⟩
  have L_5 := Lib.hid (L_4.out.kept hb)
  have P_5 := Lib.hid (blk_kept hb P_4.out)
  have A_5 := Lib.hid (blk_kept hb A_4.out)
  have G_5 := Lib.hid (G_4.out.kept hb)
  have X_5 := Lib.hid (blk_kept hb X_4.out)
  have HB_5 := Lib.hid (below_step HB_4.out hb HB_4.out.size)
  clear hb
  have p0 : w5.cell? ⟨w.heap.size, 0, none⟩ = some (.int .u8 (p.1.1.toNat : Int)) := (by rw [blk_cell P_5.out]; rfl)
  have p1 : w5.cell? ⟨w.heap.size, 1, none⟩ = some (.int .u64 (p.1.2.1.toNat : Int)) := (by rw [blk_cell P_5.out]; rfl)
  have p2 : w5.cell? ⟨w.heap.size, 2, none⟩ = some (.int .u64 (p.1.2.2.toNat : Int)) := (by rw [blk_cell P_5.out]; rfl)
  have p3 : w5.cell? ⟨w.heap.size, 3, none⟩ = some (.int .i64 p.2) := (by rw [blk_cell P_5.out]; rfl)
  have hlt : w.heap.size < w5.heap.size := blk_lt P_5.out
  go_wp2_with fail
  clear hlt p0 p1 p2 p3
  have hbx : Below w5.heap.size w5 (w5.alloc (.cells #[.int .u8 (x.1.1.toNat : Int), .int .u64 (x.1.2.1.toNat : Int), .int .u64 (x.1.2.2.toNat : Int), .int .i64 x.2] 36)) := (Below.refl _ _).alloc (Nat.le_refl _) _
  have L_6 := Lib.hid (L_5.out.kept hbx)
  have P_6 := Lib.hid (blk_kept hbx P_5.out)
  have A_6 := Lib.hid (blk_kept hbx A_5.out)
  have G_6 := Lib.hid (G_5.out.kept hbx)
  have X_6 := Lib.hid (blk_kept hbx X_5.out)
  have HB_6 := Lib.hid (below_step HB_5.out hbx HB_5.out.size)
  have Y_6 := Lib.hid (heap_alloc_new w5 (.cells #[.int .u8 (x.1.1.toNat : Int), .int .u64 (x.1.2.1.toNat : Int), .int .u64 (x.1.2.2.toNat : Int), .int .i64 x.2] 36))
  clear hbx
  obtain ⟨Yb, hYb⟩ : ∃ b, b = w5.heap.size := ⟨_, rfl⟩
  rw [← hYb] at Y_6 ⊢
  clear hYb
  generalize w5.alloc (.cells #[.int .u8 (x.1.1.toNat : Int), .int .u64 (x.1.2.1.toNat : Int), .int .u64 (x.1.2.2.toNat : Int), .int .i64 x.2] 36) = w6 at *
  refine (HWP.out _ _ L_6.out).mono ?_
  rintro e w7 ⟨rfl, hb⟩
  have L_7 := Lib.hid (L_6.out.kept hb)
  have P_7 := Lib.hid (blk_kept hb P_6.out)
  have A_7 := Lib.hid (blk_kept hb A_6.out)
  have G_7 := Lib.hid (G_6.out.kept hb)
  have X_7 := Lib.hid (blk_kept hb X_6.out)
  have Y_7 := Lib.hid (blk_kept hb Y_6.out)
  have HB_7 := Lib.hid (below_step HB_6.out hb HB_6.out.size)
  clear hb
  have p0 : w7.cell? ⟨w.heap.size, 0, none⟩ = some (.int .u8 (p.1.1.toNat : Int)) := (by rw [blk_cell P_7.out]; rfl)
  have p1 : w7.cell? ⟨w.heap.size, 1, none⟩ = some (.int .u64 (p.1.2.1.toNat : Int)) := (by rw [blk_cell P_7.out]; rfl)
  have p2 : w7.cell? ⟨w.heap.size, 2, none⟩ = some (.int .u64 (p.1.2.2.toNat : Int)) := (by rw [blk_cell P_7.out]; rfl)
  have p3 : w7.cell? ⟨w.heap.size, 3, none⟩ = some (.int .i64 p.2) := (by rw [blk_cell P_7.out]; rfl)
  have hlt : w.heap.size < w7.heap.size := blk_lt P_7.out
  go_wp2_with fail
  clear hlt p0 p1 p2 p3
  have hbx : Below w7.heap.size w7 (w7.alloc (.cells #[.int .u8 (u.1.1.toNat : Int), .int .u64 (u.1.2.1.toNat : Int), .int .u64 (u.1.2.2.toNat : Int), .int .i64 u.2] 27)) := (Below.refl _ _).alloc (Nat.le_refl _) _
  have L_8 := Lib.hid (L_7.out.kept hbx)
  have P_8 := Lib.hid (blk_kept hbx P_7.out)
  have A_8 := Lib.hid (blk_kept hbx A_7.out)
  have G_8 := Lib.hid (G_7.out.kept hbx)
  have X_8 := Lib.hid (blk_kept hbx X_7.out)
  have Y_8 := Lib.hid (blk_kept hbx Y_7.out)
  have HB_8 := Lib.hid (below_step HB_7.out hbx HB_7.out.size)
  have U_8 := Lib.hid (heap_alloc_new w7 (.cells #[.int .u8 (u.1.1.toNat : Int), .int .u64 (u.1.2.1.toNat : Int), .int .u64 (u.1.2.2.toNat : Int), .int .i64 u.2] 27))
  clear hbx
  obtain ⟨Ub, hUb⟩ : ∃ b, b = w7.heap.size := ⟨_, rfl⟩
  rw [← hUb] at U_8 ⊢
  clear hUb
  generalize w7.alloc (.cells #[.int .u8 (u.1.1.toNat : Int), .int .u64 (u.1.2.1.toNat : Int), .int .u64 (u.1.2.2.toNat : Int), .int .i64 u.2] 27) = w8 at *
  refine (given20 p _).mono ?_
  rintro e w9 ⟨rfl, hb⟩
  have L_9 := Lib.hid (L_8.out.kept hb)
  have P_9 := Lib.hid (blk_kept hb P_8.out)
  have A_9 := Lib.hid (blk_kept hb A_8.out)
  have G_9 := Lib.hid (G_8.out.kept hb)
  have X_9 := Lib.hid (blk_kept hb X_8.out)
  have Y_9 := Lib.hid (blk_kept hb Y_8.out)
  have U_9 := Lib.hid (blk_kept hb U_8.out)
  have HB_9 := Lib.hid (below_step HB_8.out hb HB_8.out.size)
  clear hb
  go_wp2_with fail
  refine (HWR.out _ _ G_9.out).mono ?_
  rintro e w10 ⟨rfl, hb⟩
  have L_10 := Lib.hid (L_9.out.kept hb)
  have P_10 := Lib.hid (blk_kept hb P_9.out)
  have A_10 := Lib.hid (blk_kept hb A_9.out)
  have G_10 := Lib.hid (G_9.out.kept hb)
  have X_10 := Lib.hid (blk_kept hb X_9.out)
  have Y_10 := Lib.hid (blk_kept hb Y_9.out)
  have U_10 := Lib.hid (blk_kept hb U_9.out)
  have HB_10 := Lib.hid (below_step HB_9.out hb HB_9.out.size)
  clear hb
  go_wp2_with fail
  have hbx : Below w10.heap.size w10 (w10.alloc (.cells #[.int .u8 (u.1.1.toNat : Int), .int .u64 (u.1.2.1.toNat : Int), .int .u64 (u.1.2.2.toNat : Int), .int .i64 u.2] 36)) := (Below.refl _ _).alloc (Nat.le_refl _) _
  have L_11 := Lib.hid (L_10.out.kept hbx)
  have P_11 := Lib.hid (blk_kept hbx P_10.out)
  have A_11 := Lib.hid (blk_kept hbx A_10.out)
  have G_11 := Lib.hid (G_10.out.kept hbx)
  have X_11 := Lib.hid (blk_kept hbx X_10.out)
  have Y_11 := Lib.hid (blk_kept hbx Y_10.out)
  have U_11 := Lib.hid (blk_kept hbx U_10.out)
  have HB_11 := Lib.hid (below_step HB_10.out hbx HB_10.out.size)
  have V_11 := Lib.hid (heap_alloc_new w10 (.cells #[.int .u8 (u.1.1.toNat : Int), .int .u64 (u.1.2.1.toNat : Int), .int .u64 (u.1.2.2.toNat : Int), .int .i64 u.2] 36))
  clear hbx
  obtain ⟨Vb, hVb⟩ : ∃ b, b = w10.heap.size := ⟨_, rfl⟩
  rw [← hVb] at V_11 ⊢
  clear hVb
  generalize w10.alloc (.cells #[.int .u8 (u.1.1.toNat : Int), .int .u64 (u.1.2.1.toNat : Int), .int .u64 (u.1.2.2.toNat : Int), .int .i64 u.2] 36) = w11 at *
  have DX := Lib.hid (blk_kept (Below.refl _ _).drew X_11.out)
  have DY := Lib.hid (blk_kept (Below.refl _ _).drew Y_11.out)
  have DU := Lib.hid (blk_kept (Below.refl _ _).drew U_11.out)
  have DV := Lib.hid (blk_kept (Below.refl _ _).drew V_11.out)
  have DP := Lib.hid (blk_kept (Below.refl _ _).drew P_11.out)
  have DL := Lib.hid (L_11.out.kept (Below.refl _ _).drew)
  have DG := Lib.hid (G_11.out.kept (Below.refl _ _).drew)
  have DB := Lib.hid (below_step HB_11.out (Below.refl _ _).drew HB_11.out.size)
  have d0 : w11.drew.cell? ⟨Xb, 0, none⟩ = some (.int .u8 (x.1.1.toNat : Int)) := (by rw [blk_cell DX.out]; rfl)
  have d1 : w11.drew.cell? ⟨Xb, 1, none⟩ = some (.int .u64 (x.1.2.1.toNat : Int)) := (by rw [blk_cell DX.out]; rfl)
  have d2 : w11.drew.cell? ⟨Xb, 2, none⟩ = some (.int .u64 (x.1.2.2.toNat : Int)) := (by rw [blk_cell DX.out]; rfl)
  have d3 : w11.drew.cell? ⟨Xb, 3, none⟩ = some (.int .i64 x.2) := (by rw [blk_cell DX.out]; rfl)
  have d4 : w11.drew.cell? ⟨Yb, 0, none⟩ = some (.int .u8 (x.1.1.toNat : Int)) := (by rw [blk_cell DY.out]; rfl)
  have d5 : w11.drew.cell? ⟨Yb, 1, none⟩ = some (.int .u64 (x.1.2.1.toNat : Int)) := (by rw [blk_cell DY.out]; rfl)
  have d6 : w11.drew.cell? ⟨Yb, 2, none⟩ = some (.int .u64 (x.1.2.2.toNat : Int)) := (by rw [blk_cell DY.out]; rfl)
  have d7 : w11.drew.cell? ⟨Yb, 3, none⟩ = some (.int .i64 x.2) := (by rw [blk_cell DY.out]; rfl)
  have d8 : w11.drew.cell? ⟨Ub, 0, none⟩ = some (.int .u8 (u.1.1.toNat : Int)) := (by rw [blk_cell DU.out]; rfl)
  have d9 : w11.drew.cell? ⟨Ub, 1, none⟩ = some (.int .u64 (u.1.2.1.toNat : Int)) := (by rw [blk_cell DU.out]; rfl)
  have d10 : w11.drew.cell? ⟨Ub, 2, none⟩ = some (.int .u64 (u.1.2.2.toNat : Int)) := (by rw [blk_cell DU.out]; rfl)
  have d11 : w11.drew.cell? ⟨Ub, 3, none⟩ = some (.int .i64 u.2) := (by rw [blk_cell DU.out]; rfl)
  have d12 : w11.drew.cell? ⟨Vb, 0, none⟩ = some (.int .u8 (u.1.1.toNat : Int)) := (by rw [blk_cell DV.out]; rfl)
  have d13 : w11.drew.cell? ⟨Vb, 1, none⟩ = some (.int .u64 (u.1.2.1.toNat : Int)) := (by rw [blk_cell DV.out]; rfl)
  have d14 : w11.drew.cell? ⟨Vb, 2, none⟩ = some (.int .u64 (u.1.2.2.toNat : Int)) := (by rw [blk_cell DV.out]; rfl)
  have d15 : w11.drew.cell? ⟨Vb, 3, none⟩ = some (.int .i64 u.2) := (by rw [blk_cell DV.out]; rfl)
  have d16 : w11.drew.cell? ⟨w.heap.size, 0, none⟩ = some (.int .u8 (p.1.1.toNat : Int)) := (by rw [blk_cell DP.out]; rfl)
  have d17 : w11.drew.cell? ⟨w.heap.size, 1, none⟩ = some (.int .u64 (p.1.2.1.toNat : Int)) := (by rw [blk_cell DP.out]; rfl)
  have d18 : w11.drew.cell? ⟨w.heap.size, 2, none⟩ = some (.int .u64 (p.1.2.2.toNat : Int)) := (by rw [blk_cell DP.out]; rfl)
  have d19 : w11.drew.cell? ⟨w.heap.size, 3, none⟩ = some (.int .i64 p.2) := (by rw [blk_cell DP.out]; rfl)
  have hex := HEX.out
  have heu := HEU.out
  go_region_held3 (fun W => W.cell? ⟨Xb, 0, none⟩ = some (.int .u8 (x.1.1.toNat : Int)) ∧ W.cell? ⟨Xb, 1, none⟩ = some (.int .u64 (x.1.2.1.toNat : Int)) ∧ W.cell? ⟨Xb, 2, none⟩ = some (.int .u64 (x.1.2.2.toNat : Int)) ∧ W.cell? ⟨Xb, 3, none⟩ = some (.int .i64 x.2) ∧ W.cell? ⟨Yb, 0, none⟩ = some (.int .u8 (x.1.1.toNat : Int)) ∧ W.cell? ⟨Yb, 1, none⟩ = some (.int .u64 (x.1.2.1.toNat : Int)) ∧ W.cell? ⟨Yb, 2, none⟩ = some (.int .u64 (x.1.2.2.toNat : Int)) ∧ W.cell? ⟨Yb, 3, none⟩ = some (.int .i64 x.2) ∧ W.cell? ⟨Ub, 0, none⟩ = some (.int .u8 (u.1.1.toNat : Int)) ∧ W.cell? ⟨Ub, 1, none⟩ = some (.int .u64 (u.1.2.1.toNat : Int)) ∧ W.cell? ⟨Ub, 2, none⟩ = some (.int .u64 (u.1.2.2.toNat : Int)) ∧ W.cell? ⟨Ub, 3, none⟩ = some (.int .i64 u.2) ∧ W.cell? ⟨Vb, 0, none⟩ = some (.int .u8 (u.1.1.toNat : Int)) ∧ W.cell? ⟨Vb, 1, none⟩ = some (.int .u64 (u.1.2.1.toNat : Int)) ∧ W.cell? ⟨Vb, 2, none⟩ = some (.int .u64 (u.1.2.2.toNat : Int)) ∧ W.cell? ⟨Vb, 3, none⟩ = some (.int .i64 u.2) ∧ W.cell? ⟨w.heap.size, 0, none⟩ = some (.int .u8 (p.1.1.toNat : Int)) ∧ W.cell? ⟨w.heap.size, 1, none⟩ = some (.int .u64 (p.1.2.1.toNat : Int)) ∧ W.cell? ⟨w.heap.size, 2, none⟩ = some (.int .u64 (p.1.2.2.toNat : Int)) ∧ W.cell? ⟨w.heap.size, 3, none⟩ = some (.int .i64 p.2)) (go_keep)
    (first
      | ((go_at_call 17; (with_reducible refine (given20 x _).mono ?_); rintro e ew ⟨rfl, hb⟩; have EX := Lib.hid (blk_kept hb DX.out); have EY := Lib.hid (blk_kept hb DY.out); have EU := Lib.hid (blk_kept hb DU.out); have EV := Lib.hid (blk_kept hb DV.out); have EP := Lib.hid (blk_kept hb DP.out); have EL := Lib.hid (DL.out.kept hb); have EG := Lib.hid (DG.out.kept hb); have EB := Lib.hid (below_step DB.out hb DB.out.size); have e0 : ew.cell? ⟨Xb, 0, none⟩ = some (.int .u8 (x.1.1.toNat : Int)) := (by rw [blk_cell EX.out]; rfl); have e1 : ew.cell? ⟨Xb, 1, none⟩ = some (.int .u64 (x.1.2.1.toNat : Int)) := (by rw [blk_cell EX.out]; rfl); have e2 : ew.cell? ⟨Xb, 2, none⟩ = some (.int .u64 (x.1.2.2.toNat : Int)) := (by rw [blk_cell EX.out]; rfl); have e3 : ew.cell? ⟨Xb, 3, none⟩ = some (.int .i64 x.2) := (by rw [blk_cell EX.out]; rfl); have e4 : ew.cell? ⟨Yb, 0, none⟩ = some (.int .u8 (x.1.1.toNat : Int)) := (by rw [blk_cell EY.out]; rfl); have e5 : ew.cell? ⟨Yb, 1, none⟩ = some (.int .u64 (x.1.2.1.toNat : Int)) := (by rw [blk_cell EY.out]; rfl); have e6 : ew.cell? ⟨Yb, 2, none⟩ = some (.int .u64 (x.1.2.2.toNat : Int)) := (by rw [blk_cell EY.out]; rfl); have e7 : ew.cell? ⟨Yb, 3, none⟩ = some (.int .i64 x.2) := (by rw [blk_cell EY.out]; rfl); have e8 : ew.cell? ⟨Ub, 0, none⟩ = some (.int .u8 (u.1.1.toNat : Int)) := (by rw [blk_cell EU.out]; rfl); have e9 : ew.cell? ⟨Ub, 1, none⟩ = some (.int .u64 (u.1.2.1.toNat : Int)) := (by rw [blk_cell EU.out]; rfl); have e10 : ew.cell? ⟨Ub, 2, none⟩ = some (.int .u64 (u.1.2.2.toNat : Int)) := (by rw [blk_cell EU.out]; rfl); have e11 : ew.cell? ⟨Ub, 3, none⟩ = some (.int .i64 u.2) := (by rw [blk_cell EU.out]; rfl); have e12 : ew.cell? ⟨Vb, 0, none⟩ = some (.int .u8 (u.1.1.toNat : Int)) := (by rw [blk_cell EV.out]; rfl); have e13 : ew.cell? ⟨Vb, 1, none⟩ = some (.int .u64 (u.1.2.1.toNat : Int)) := (by rw [blk_cell EV.out]; rfl); have e14 : ew.cell? ⟨Vb, 2, none⟩ = some (.int .u64 (u.1.2.2.toNat : Int)) := (by rw [blk_cell EV.out]; rfl); have e15 : ew.cell? ⟨Vb, 3, none⟩ = some (.int .i64 u.2) := (by rw [blk_cell EV.out]; rfl); have e16 : ew.cell? ⟨w.heap.size, 0, none⟩ = some (.int .u8 (p.1.1.toNat : Int)) := (by rw [blk_cell EP.out]; rfl); have e17 : ew.cell? ⟨w.heap.size, 1, none⟩ = some (.int .u64 (p.1.2.1.toNat : Int)) := (by rw [blk_cell EP.out]; rfl); have e18 : ew.cell? ⟨w.heap.size, 2, none⟩ = some (.int .u64 (p.1.2.2.toNat : Int)) := (by rw [blk_cell EP.out]; rfl); have e19 : ew.cell? ⟨w.heap.size, 3, none⟩ = some (.int .i64 p.2) := (by rw [blk_cell EP.out]; rfl); clear hb))
      | ((go_at_call 17; (with_reducible refine (given20 u _).mono ?_); rintro e fw ⟨rfl, hb⟩; have FX := Lib.hid (blk_kept hb EX.out); have FY := Lib.hid (blk_kept hb EY.out); have FU := Lib.hid (blk_kept hb EU.out); have FV := Lib.hid (blk_kept hb EV.out); have FP := Lib.hid (blk_kept hb EP.out); have FL := Lib.hid (EL.out.kept hb); have FG := Lib.hid (EG.out.kept hb); have FB := Lib.hid (below_step EB.out hb EB.out.size); have f0 : fw.cell? ⟨Xb, 0, none⟩ = some (.int .u8 (x.1.1.toNat : Int)) := (by rw [blk_cell FX.out]; rfl); have f1 : fw.cell? ⟨Xb, 1, none⟩ = some (.int .u64 (x.1.2.1.toNat : Int)) := (by rw [blk_cell FX.out]; rfl); have f2 : fw.cell? ⟨Xb, 2, none⟩ = some (.int .u64 (x.1.2.2.toNat : Int)) := (by rw [blk_cell FX.out]; rfl); have f3 : fw.cell? ⟨Xb, 3, none⟩ = some (.int .i64 x.2) := (by rw [blk_cell FX.out]; rfl); have f4 : fw.cell? ⟨Yb, 0, none⟩ = some (.int .u8 (x.1.1.toNat : Int)) := (by rw [blk_cell FY.out]; rfl); have f5 : fw.cell? ⟨Yb, 1, none⟩ = some (.int .u64 (x.1.2.1.toNat : Int)) := (by rw [blk_cell FY.out]; rfl); have f6 : fw.cell? ⟨Yb, 2, none⟩ = some (.int .u64 (x.1.2.2.toNat : Int)) := (by rw [blk_cell FY.out]; rfl); have f7 : fw.cell? ⟨Yb, 3, none⟩ = some (.int .i64 x.2) := (by rw [blk_cell FY.out]; rfl); have f8 : fw.cell? ⟨Ub, 0, none⟩ = some (.int .u8 (u.1.1.toNat : Int)) := (by rw [blk_cell FU.out]; rfl); have f9 : fw.cell? ⟨Ub, 1, none⟩ = some (.int .u64 (u.1.2.1.toNat : Int)) := (by rw [blk_cell FU.out]; rfl); have f10 : fw.cell? ⟨Ub, 2, none⟩ = some (.int .u64 (u.1.2.2.toNat : Int)) := (by rw [blk_cell FU.out]; rfl); have f11 : fw.cell? ⟨Ub, 3, none⟩ = some (.int .i64 u.2) := (by rw [blk_cell FU.out]; rfl); have f12 : fw.cell? ⟨Vb, 0, none⟩ = some (.int .u8 (u.1.1.toNat : Int)) := (by rw [blk_cell FV.out]; rfl); have f13 : fw.cell? ⟨Vb, 1, none⟩ = some (.int .u64 (u.1.2.1.toNat : Int)) := (by rw [blk_cell FV.out]; rfl); have f14 : fw.cell? ⟨Vb, 2, none⟩ = some (.int .u64 (u.1.2.2.toNat : Int)) := (by rw [blk_cell FV.out]; rfl); have f15 : fw.cell? ⟨Vb, 3, none⟩ = some (.int .i64 u.2) := (by rw [blk_cell FV.out]; rfl); have f16 : fw.cell? ⟨w.heap.size, 0, none⟩ = some (.int .u8 (p.1.1.toNat : Int)) := (by rw [blk_cell FP.out]; rfl); have f17 : fw.cell? ⟨w.heap.size, 1, none⟩ = some (.int .u64 (p.1.2.1.toNat : Int)) := (by rw [blk_cell FP.out]; rfl); have f18 : fw.cell? ⟨w.heap.size, 2, none⟩ = some (.int .u64 (p.1.2.2.toNat : Int)) := (by rw [blk_cell FP.out]; rfl); have f19 : fw.cell? ⟨w.heap.size, 3, none⟩ = some (.int .i64 p.2) := (by rw [blk_cell FP.out]; rfl); clear hb))
      | ((go_at_call 19; (with_reducible refine (HCP.out _ _ FL.out).mono ?_); rintro e hw ⟨v1, rfl, hc, hb⟩; have HX := Lib.hid (blk_kept hb FX.out); have HY := Lib.hid (blk_kept hb FY.out); have HU := Lib.hid (blk_kept hb FU.out); have HV := Lib.hid (blk_kept hb FV.out); have HP := Lib.hid (blk_kept hb FP.out); have HL := Lib.hid (FL.out.kept hb); have HG := Lib.hid (FG.out.kept hb); have HB := Lib.hid (below_step FB.out hb FB.out.size); have HC1 := Lib.hid hc; clear hc; have h0 : hw.cell? ⟨Xb, 0, none⟩ = some (.int .u8 (x.1.1.toNat : Int)) := (by rw [blk_cell HX.out]; rfl); have h1 : hw.cell? ⟨Xb, 1, none⟩ = some (.int .u64 (x.1.2.1.toNat : Int)) := (by rw [blk_cell HX.out]; rfl); have h2 : hw.cell? ⟨Xb, 2, none⟩ = some (.int .u64 (x.1.2.2.toNat : Int)) := (by rw [blk_cell HX.out]; rfl); have h3 : hw.cell? ⟨Xb, 3, none⟩ = some (.int .i64 x.2) := (by rw [blk_cell HX.out]; rfl); have h4 : hw.cell? ⟨Yb, 0, none⟩ = some (.int .u8 (x.1.1.toNat : Int)) := (by rw [blk_cell HY.out]; rfl); have h5 : hw.cell? ⟨Yb, 1, none⟩ = some (.int .u64 (x.1.2.1.toNat : Int)) := (by rw [blk_cell HY.out]; rfl); have h6 : hw.cell? ⟨Yb, 2, none⟩ = some (.int .u64 (x.1.2.2.toNat : Int)) := (by rw [blk_cell HY.out]; rfl); have h7 : hw.cell? ⟨Yb, 3, none⟩ = some (.int .i64 x.2) := (by rw [blk_cell HY.out]; rfl); have h8 : hw.cell? ⟨Ub, 0, none⟩ = some (.int .u8 (u.1.1.toNat : Int)) := (by rw [blk_cell HU.out]; rfl); have h9 : hw.cell? ⟨Ub, 1, none⟩ = some (.int .u64 (u.1.2.1.toNat : Int)) := (by rw [blk_cell HU.out]; rfl); have h10 : hw.cell? ⟨Ub, 2, none⟩ = some (.int .u64 (u.1.2.2.toNat : Int)) := (by rw [blk_cell HU.out]; rfl); have h11 : hw.cell? ⟨Ub, 3, none⟩ = some (.int .i64 u.2) := (by rw [blk_cell HU.out]; rfl); have h12 : hw.cell? ⟨Vb, 0, none⟩ = some (.int .u8 (u.1.1.toNat : Int)) := (by rw [blk_cell HV.out]; rfl); have h13 : hw.cell? ⟨Vb, 1, none⟩ = some (.int .u64 (u.1.2.1.toNat : Int)) := (by rw [blk_cell HV.out]; rfl); have h14 : hw.cell? ⟨Vb, 2, none⟩ = some (.int .u64 (u.1.2.2.toNat : Int)) := (by rw [blk_cell HV.out]; rfl); have h15 : hw.cell? ⟨Vb, 3, none⟩ = some (.int .i64 u.2) := (by rw [blk_cell HV.out]; rfl); have h16 : hw.cell? ⟨w.heap.size, 0, none⟩ = some (.int .u8 (p.1.1.toNat : Int)) := (by rw [blk_cell HP.out]; rfl); have h17 : hw.cell? ⟨w.heap.size, 1, none⟩ = some (.int .u64 (p.1.2.1.toNat : Int)) := (by rw [blk_cell HP.out]; rfl); have h18 : hw.cell? ⟨w.heap.size, 2, none⟩ = some (.int .u64 (p.1.2.2.toNat : Int)) := (by rw [blk_cell HP.out]; rfl); have h19 : hw.cell? ⟨w.heap.size, 3, none⟩ = some (.int .i64 p.2) := (by rw [blk_cell HP.out]; rfl); clear hb))
      | ((go_at_call 17; (with_reducible refine (given20 p _).mono ?_); rintro e jw ⟨rfl, hb⟩; have JX := Lib.hid (blk_kept hb HX.out); have JY := Lib.hid (blk_kept hb HY.out); have JU := Lib.hid (blk_kept hb HU.out); have JV := Lib.hid (blk_kept hb HV.out); have JP := Lib.hid (blk_kept hb HP.out); have JL := Lib.hid (HL.out.kept hb); have JG := Lib.hid (HG.out.kept hb); have JB := Lib.hid (below_step HB.out hb HB.out.size); have HC2 := Lib.hid (HC1.out.kept hb); have j0 : jw.cell? ⟨Xb, 0, none⟩ = some (.int .u8 (x.1.1.toNat : Int)) := (by rw [blk_cell JX.out]; rfl); have j1 : jw.cell? ⟨Xb, 1, none⟩ = some (.int .u64 (x.1.2.1.toNat : Int)) := (by rw [blk_cell JX.out]; rfl); have j2 : jw.cell? ⟨Xb, 2, none⟩ = some (.int .u64 (x.1.2.2.toNat : Int)) := (by rw [blk_cell JX.out]; rfl); have j3 : jw.cell? ⟨Xb, 3, none⟩ = some (.int .i64 x.2) := (by rw [blk_cell JX.out]; rfl); have j4 : jw.cell? ⟨Yb, 0, none⟩ = some (.int .u8 (x.1.1.toNat : Int)) := (by rw [blk_cell JY.out]; rfl); have j5 : jw.cell? ⟨Yb, 1, none⟩ = some (.int .u64 (x.1.2.1.toNat : Int)) := (by rw [blk_cell JY.out]; rfl); have j6 : jw.cell? ⟨Yb, 2, none⟩ = some (.int .u64 (x.1.2.2.toNat : Int)) := (by rw [blk_cell JY.out]; rfl); have j7 : jw.cell? ⟨Yb, 3, none⟩ = some (.int .i64 x.2) := (by rw [blk_cell JY.out]; rfl); have j8 : jw.cell? ⟨Ub, 0, none⟩ = some (.int .u8 (u.1.1.toNat : Int)) := (by rw [blk_cell JU.out]; rfl); have j9 : jw.cell? ⟨Ub, 1, none⟩ = some (.int .u64 (u.1.2.1.toNat : Int)) := (by rw [blk_cell JU.out]; rfl); have j10 : jw.cell? ⟨Ub, 2, none⟩ = some (.int .u64 (u.1.2.2.toNat : Int)) := (by rw [blk_cell JU.out]; rfl); have j11 : jw.cell? ⟨Ub, 3, none⟩ = some (.int .i64 u.2) := (by rw [blk_cell JU.out]; rfl); have j12 : jw.cell? ⟨Vb, 0, none⟩ = some (.int .u8 (u.1.1.toNat : Int)) := (by rw [blk_cell JV.out]; rfl); have j13 : jw.cell? ⟨Vb, 1, none⟩ = some (.int .u64 (u.1.2.1.toNat : Int)) := (by rw [blk_cell JV.out]; rfl); have j14 : jw.cell? ⟨Vb, 2, none⟩ = some (.int .u64 (u.1.2.2.toNat : Int)) := (by rw [blk_cell JV.out]; rfl); have j15 : jw.cell? ⟨Vb, 3, none⟩ = some (.int .i64 u.2) := (by rw [blk_cell JV.out]; rfl); have j16 : jw.cell? ⟨w.heap.size, 0, none⟩ = some (.int .u8 (p.1.1.toNat : Int)) := (by rw [blk_cell JP.out]; rfl); have j17 : jw.cell? ⟨w.heap.size, 1, none⟩ = some (.int .u64 (p.1.2.1.toNat : Int)) := (by rw [blk_cell JP.out]; rfl); have j18 : jw.cell? ⟨w.heap.size, 2, none⟩ = some (.int .u64 (p.1.2.2.toNat : Int)) := (by rw [blk_cell JP.out]; rfl); have j19 : jw.cell? ⟨w.heap.size, 3, none⟩ = some (.int .i64 p.2) := (by rw [blk_cell JP.out]; rfl); clear hb))
      | ((go_at_call 20; (with_reducible refine (HCR.out _ _ JG.out).mono ?_); rintro e mw ⟨v2, rfl, hc, hb⟩; have MX := Lib.hid (blk_kept hb JX.out); have MY := Lib.hid (blk_kept hb JY.out); have MU := Lib.hid (blk_kept hb JU.out); have MV := Lib.hid (blk_kept hb JV.out); have MP := Lib.hid (blk_kept hb JP.out); have ML := Lib.hid (JL.out.kept hb); have MG := Lib.hid (JG.out.kept hb); have MB := Lib.hid (below_step JB.out hb JB.out.size); have HC3 := Lib.hid (HC2.out.kept hb); have HD3 := Lib.hid hc; clear hc; have m0 : mw.cell? ⟨Xb, 0, none⟩ = some (.int .u8 (x.1.1.toNat : Int)) := (by rw [blk_cell MX.out]; rfl); have m1 : mw.cell? ⟨Xb, 1, none⟩ = some (.int .u64 (x.1.2.1.toNat : Int)) := (by rw [blk_cell MX.out]; rfl); have m2 : mw.cell? ⟨Xb, 2, none⟩ = some (.int .u64 (x.1.2.2.toNat : Int)) := (by rw [blk_cell MX.out]; rfl); have m3 : mw.cell? ⟨Xb, 3, none⟩ = some (.int .i64 x.2) := (by rw [blk_cell MX.out]; rfl); have m4 : mw.cell? ⟨Yb, 0, none⟩ = some (.int .u8 (x.1.1.toNat : Int)) := (by rw [blk_cell MY.out]; rfl); have m5 : mw.cell? ⟨Yb, 1, none⟩ = some (.int .u64 (x.1.2.1.toNat : Int)) := (by rw [blk_cell MY.out]; rfl); have m6 : mw.cell? ⟨Yb, 2, none⟩ = some (.int .u64 (x.1.2.2.toNat : Int)) := (by rw [blk_cell MY.out]; rfl); have m7 : mw.cell? ⟨Yb, 3, none⟩ = some (.int .i64 x.2) := (by rw [blk_cell MY.out]; rfl); have m8 : mw.cell? ⟨Ub, 0, none⟩ = some (.int .u8 (u.1.1.toNat : Int)) := (by rw [blk_cell MU.out]; rfl); have m9 : mw.cell? ⟨Ub, 1, none⟩ = some (.int .u64 (u.1.2.1.toNat : Int)) := (by rw [blk_cell MU.out]; rfl); have m10 : mw.cell? ⟨Ub, 2, none⟩ = some (.int .u64 (u.1.2.2.toNat : Int)) := (by rw [blk_cell MU.out]; rfl); have m11 : mw.cell? ⟨Ub, 3, none⟩ = some (.int .i64 u.2) := (by rw [blk_cell MU.out]; rfl); have m12 : mw.cell? ⟨Vb, 0, none⟩ = some (.int .u8 (u.1.1.toNat : Int)) := (by rw [blk_cell MV.out]; rfl); have m13 : mw.cell? ⟨Vb, 1, none⟩ = some (.int .u64 (u.1.2.1.toNat : Int)) := (by rw [blk_cell MV.out]; rfl); have m14 : mw.cell? ⟨Vb, 2, none⟩ = some (.int .u64 (u.1.2.2.toNat : Int)) := (by rw [blk_cell MV.out]; rfl); have m15 : mw.cell? ⟨Vb, 3, none⟩ = some (.int .i64 u.2) := (by rw [blk_cell MV.out]; rfl); have m16 : mw.cell? ⟨w.heap.size, 0, none⟩ = some (.int .u8 (p.1.1.toNat : Int)) := (by rw [blk_cell MP.out]; rfl); have m17 : mw.cell? ⟨w.heap.size, 1, none⟩ = some (.int .u64 (p.1.2.1.toNat : Int)) := (by rw [blk_cell MP.out]; rfl); have m18 : mw.cell? ⟨w.heap.size, 2, none⟩ = some (.int .u64 (p.1.2.2.toNat : Int)) := (by rw [blk_cell MP.out]; rfl); have m19 : mw.cell? ⟨w.heap.size, 3, none⟩ = some (.int .i64 p.2) := (by rw [blk_cell MP.out]; rfl); clear hb))
      | ((go_at_call 18; (with_reducible refine (HSM.out _ _ _ HC3.out HD3.out).mono ?_); rintro e nw ⟨rfl, hb⟩; have NX := Lib.hid (blk_kept hb MX.out); have NY := Lib.hid (blk_kept hb MY.out); have NU := Lib.hid (blk_kept hb MU.out); have NV := Lib.hid (blk_kept hb MV.out); have NP := Lib.hid (blk_kept hb MP.out); have NL := Lib.hid (ML.out.kept hb); have NG := Lib.hid (MG.out.kept hb); have NB := Lib.hid (below_step MB.out hb MB.out.size); have n0 : nw.cell? ⟨Xb, 0, none⟩ = some (.int .u8 (x.1.1.toNat : Int)) := (by rw [blk_cell NX.out]; rfl); have n1 : nw.cell? ⟨Xb, 1, none⟩ = some (.int .u64 (x.1.2.1.toNat : Int)) := (by rw [blk_cell NX.out]; rfl); have n2 : nw.cell? ⟨Xb, 2, none⟩ = some (.int .u64 (x.1.2.2.toNat : Int)) := (by rw [blk_cell NX.out]; rfl); have n3 : nw.cell? ⟨Xb, 3, none⟩ = some (.int .i64 x.2) := (by rw [blk_cell NX.out]; rfl); have n4 : nw.cell? ⟨Yb, 0, none⟩ = some (.int .u8 (x.1.1.toNat : Int)) := (by rw [blk_cell NY.out]; rfl); have n5 : nw.cell? ⟨Yb, 1, none⟩ = some (.int .u64 (x.1.2.1.toNat : Int)) := (by rw [blk_cell NY.out]; rfl); have n6 : nw.cell? ⟨Yb, 2, none⟩ = some (.int .u64 (x.1.2.2.toNat : Int)) := (by rw [blk_cell NY.out]; rfl); have n7 : nw.cell? ⟨Yb, 3, none⟩ = some (.int .i64 x.2) := (by rw [blk_cell NY.out]; rfl); have n8 : nw.cell? ⟨Ub, 0, none⟩ = some (.int .u8 (u.1.1.toNat : Int)) := (by rw [blk_cell NU.out]; rfl); have n9 : nw.cell? ⟨Ub, 1, none⟩ = some (.int .u64 (u.1.2.1.toNat : Int)) := (by rw [blk_cell NU.out]; rfl); have n10 : nw.cell? ⟨Ub, 2, none⟩ = some (.int .u64 (u.1.2.2.toNat : Int)) := (by rw [blk_cell NU.out]; rfl); have n11 : nw.cell? ⟨Ub, 3, none⟩ = some (.int .i64 u.2) := (by rw [blk_cell NU.out]; rfl); have n12 : nw.cell? ⟨Vb, 0, none⟩ = some (.int .u8 (u.1.1.toNat : Int)) := (by rw [blk_cell NV.out]; rfl); have n13 : nw.cell? ⟨Vb, 1, none⟩ = some (.int .u64 (u.1.2.1.toNat : Int)) := (by rw [blk_cell NV.out]; rfl); have n14 : nw.cell? ⟨Vb, 2, none⟩ = some (.int .u64 (u.1.2.2.toNat : Int)) := (by rw [blk_cell NV.out]; rfl); have n15 : nw.cell? ⟨Vb, 3, none⟩ = some (.int .i64 u.2) := (by rw [blk_cell NV.out]; rfl); have n16 : nw.cell? ⟨w.heap.size, 0, none⟩ = some (.int .u8 (p.1.1.toNat : Int)) := (by rw [blk_cell NP.out]; rfl); have n17 : nw.cell? ⟨w.heap.size, 1, none⟩ = some (.int .u64 (p.1.2.1.toNat : Int)) := (by rw [blk_cell NP.out]; rfl); have n18 : nw.cell? ⟨w.heap.size, 2, none⟩ = some (.int .u64 (p.1.2.2.toNat : Int)) := (by rw [blk_cell NP.out]; rfl); have n19 : nw.cell? ⟨w.heap.size, 3, none⟩ = some (.int .i64 p.2) := (by rw [blk_cell NP.out]; rfl); clear hb))
      | ((go_at_call 10; (with_reducible refine (awake _).mono ?_); rintro e rw ⟨rfl, hb⟩; have RX := Lib.hid (blk_kept hb NX.out); have RY := Lib.hid (blk_kept hb NY.out); have RU := Lib.hid (blk_kept hb NU.out); have RV := Lib.hid (blk_kept hb NV.out); have RP := Lib.hid (blk_kept hb NP.out); have RL := Lib.hid (NL.out.kept hb); have RG := Lib.hid (NG.out.kept hb); have RB := Lib.hid (below_step NB.out hb NB.out.size); have r0 : rw.cell? ⟨Xb, 0, none⟩ = some (.int .u8 (x.1.1.toNat : Int)) := (by rw [blk_cell RX.out]; rfl); have r1 : rw.cell? ⟨Xb, 1, none⟩ = some (.int .u64 (x.1.2.1.toNat : Int)) := (by rw [blk_cell RX.out]; rfl); have r2 : rw.cell? ⟨Xb, 2, none⟩ = some (.int .u64 (x.1.2.2.toNat : Int)) := (by rw [blk_cell RX.out]; rfl); have r3 : rw.cell? ⟨Xb, 3, none⟩ = some (.int .i64 x.2) := (by rw [blk_cell RX.out]; rfl); have r4 : rw.cell? ⟨Yb, 0, none⟩ = some (.int .u8 (x.1.1.toNat : Int)) := (by rw [blk_cell RY.out]; rfl); have r5 : rw.cell? ⟨Yb, 1, none⟩ = some (.int .u64 (x.1.2.1.toNat : Int)) := (by rw [blk_cell RY.out]; rfl); have r6 : rw.cell? ⟨Yb, 2, none⟩ = some (.int .u64 (x.1.2.2.toNat : Int)) := (by rw [blk_cell RY.out]; rfl); have r7 : rw.cell? ⟨Yb, 3, none⟩ = some (.int .i64 x.2) := (by rw [blk_cell RY.out]; rfl); have r8 : rw.cell? ⟨Ub, 0, none⟩ = some (.int .u8 (u.1.1.toNat : Int)) := (by rw [blk_cell RU.out]; rfl); have r9 : rw.cell? ⟨Ub, 1, none⟩ = some (.int .u64 (u.1.2.1.toNat : Int)) := (by rw [blk_cell RU.out]; rfl); have r10 : rw.cell? ⟨Ub, 2, none⟩ = some (.int .u64 (u.1.2.2.toNat : Int)) := (by rw [blk_cell RU.out]; rfl); have r11 : rw.cell? ⟨Ub, 3, none⟩ = some (.int .i64 u.2) := (by rw [blk_cell RU.out]; rfl); have r12 : rw.cell? ⟨Vb, 0, none⟩ = some (.int .u8 (u.1.1.toNat : Int)) := (by rw [blk_cell RV.out]; rfl); have r13 : rw.cell? ⟨Vb, 1, none⟩ = some (.int .u64 (u.1.2.1.toNat : Int)) := (by rw [blk_cell RV.out]; rfl); have r14 : rw.cell? ⟨Vb, 2, none⟩ = some (.int .u64 (u.1.2.2.toNat : Int)) := (by rw [blk_cell RV.out]; rfl); have r15 : rw.cell? ⟨Vb, 3, none⟩ = some (.int .i64 u.2) := (by rw [blk_cell RV.out]; rfl); have r16 : rw.cell? ⟨w.heap.size, 0, none⟩ = some (.int .u8 (p.1.1.toNat : Int)) := (by rw [blk_cell RP.out]; rfl); have r17 : rw.cell? ⟨w.heap.size, 1, none⟩ = some (.int .u64 (p.1.2.1.toNat : Int)) := (by rw [blk_cell RP.out]; rfl); have r18 : rw.cell? ⟨w.heap.size, 2, none⟩ = some (.int .u64 (p.1.2.2.toNat : Int)) := (by rw [blk_cell RP.out]; rfl); have r19 : rw.cell? ⟨w.heap.size, 3, none⟩ = some (.int .i64 p.2) := (by rw [blk_cell RP.out]; rfl); clear hb))
    )
  go_wp2_with fail
  go_ret
  exact ⟨rfl, RB.out⟩
end Go.Proofs.Try.Pfx
