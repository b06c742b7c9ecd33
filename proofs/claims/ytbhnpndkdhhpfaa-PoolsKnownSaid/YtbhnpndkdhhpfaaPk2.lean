/- PoolsKnown: the walk. -/
import Derived.Test.YtbhnpndkdhhpfaaPk1
set_option linter.unusedVariables false
set_option linter.unusedSimpArgs false
namespace Go.Proofs.Try.Pfx
open Go.RowKit Go.Cph Go.Cph.Px

theorem seg_cells {w : World} {g n cap : Nat} {l : List Pf} (h : Seg w 4 (.slice (some ⟨g, 0, none⟩) n cap) n (l.flatMap encC)) (i : Nat) (hi : i < l.length) (hn : n = l.length := by rfl) : CellsOf w g (i * 4) l[i] := by
  subst hn
  obtain ⟨b, off, cap', hv, hc⟩ := pfs_cells h (by omega)
  cases hv
  have := hc i hi
  rwa [Nat.zero_add] at this
theorem two_own (z : World) : PfsAt (z.alloc (.cells #[.int .u8 4, .int .u64 0, .int .u64 167772160, .int .i64 8, .int .u8 4, .int .u64 0, .int .u64 167772160, .int .i64 8] 27)) (.slice (some ⟨z.heap.size, 0, none⟩) 2 2) [((4, 0, 167772160), 8), ((4, 0, 167772160), 8)] :=
  Seg.of_owns (base := 0) (e := TP) ⟨rfl, .inr ⟨z.heap.size, 2, _, rfl, Nat.zero_le _, heap_alloc_new z _, Nat.le_refl _, by unfold maxLen; omega, rfl, rfl⟩⟩
set_option maxRecDepth 100000 in
set_option maxHeartbeats 8000000 in
theorem pools_known (w : World) : Calls Try.prog 6 #[] w (AwPost w) := by
  go_enter Try.func6, Try.ntmps6
  go_wp2_with fail
  refine (some_any _).mono ?_
  rintro e w1 ⟨v1, rfl, ho, hb⟩
  obtain ⟨g1, cap1, rfl, -, -, -, -, -⟩ := owns_shape (show w1.ownsRow w.heap.size TP 4 v1 4 (someL.flatMap encC) from ho) (by decide)
  have A_1 := Lib.hid (show PfsAt w1 (.slice (some ⟨g1, 0, none⟩) 4 cap1) someL from Seg.of_owns ho)
  have HB_1 := Lib.hid hb
  have hl0 := seg_cells A_1.out 0 (by decide)
  have m00 : w1.drew.cell? ⟨g1, 0, none⟩ = some (.int .u8 4) := hl0.c0
  have m01 : w1.drew.cell? ⟨g1, 1, none⟩ = some (.int .u64 0) := hl0.c1
  have m02 : w1.drew.cell? ⟨g1, 2, none⟩ = some (.int .u64 167772160) := hl0.c2
  have m03 : w1.drew.cell? ⟨g1, 3, none⟩ = some (.int .i64 8) := hl0.c3
  have hl1 := seg_cells A_1.out 1 (by decide)
  have m10 : w1.drew.cell? ⟨g1, 4, none⟩ = some (.int .u8 4) := hl1.c0
  have m11 : w1.drew.cell? ⟨g1, 5, none⟩ = some (.int .u64 0) := hl1.c1
  have m12 : w1.drew.cell? ⟨g1, 6, none⟩ = some (.int .u64 167772160) := hl1.c2
  have m13 : w1.drew.cell? ⟨g1, 7, none⟩ = some (.int .i64 16) := hl1.c3
  have hl2 := seg_cells A_1.out 2 (by decide)
  have m20 : w1.drew.cell? ⟨g1, 8, none⟩ = some (.int .u8 4) := hl2.c0
  have m21 : w1.drew.cell? ⟨g1, 9, none⟩ = some (.int .u64 0) := hl2.c1
  have m22 : w1.drew.cell? ⟨g1, 10, none⟩ = some (.int .u64 167772416) := hl2.c2
  have m23 : w1.drew.cell? ⟨g1, 11, none⟩ = some (.int .i64 24) := hl2.c3
  have hl3 := seg_cells A_1.out 3 (by decide)
  have m30 : w1.drew.cell? ⟨g1, 12, none⟩ = some (.int .u8 4) := hl3.c0
  have m31 : w1.drew.cell? ⟨g1, 13, none⟩ = some (.int .u64 0) := hl3.c1
  have m32 : w1.drew.cell? ⟨g1, 14, none⟩ = some (.int .u64 167903232) := hl3.c2
  have m33 : w1.drew.cell? ⟨g1, 15, none⟩ = some (.int .i64 16) := hl3.c3
  clear hb ho hl0 hl1 hl2 hl3
  go_wp2_with fail
  refine wp_region_still_tail 12 (by kernel_rfl) (by kernel_rfl) ?_
  simp only [List.take_succ_cons, List.take_zero, List.drop_succ_cons, List.drop_zero]
  change wpStill _ _ (World.drew w1) _ _ _
  still_step
  still_step
  still_step
  still_step
  still_step
  still_step
  still_step
  still_step
  still_step
  still_step
  still_step
  still_step
  refine wpStill_nil ?_
  change wpList _ _ _ _ _ (World.drew w1)
  have A_2 := Lib.hid (show PfsAt w1.drew (.slice (some ⟨g1, 0, none⟩) 4 cap1) someL from A_1.out.kept ((Below.refl _ _).drew))
  have HB_2 := Lib.hid HB_1.out.drew
  generalize w1.drew = w2 at *
  clear m00 m01 m02 m03 m10 m11 m12 m13 m20 m21 m22 m23 m30 m31 m32 m33
  have hbx : Below w2.heap.size w2 (w2.alloc (.cells #[.int .u8 4, .int .u64 0, .int .u64 167903232, .int .i64 16, .int .u8 4, .int .u64 0, .int .u64 167772416, .int .i64 24, .int .u8 4, .int .u64 0, .int .u64 167772160, .int .i64 16, .int .u8 4, .int .u64 0, .int .u64 167772160, .int .i64 8] 27)) := (Below.refl _ _).alloc (Nat.le_refl _) _
  have A_3 := Lib.hid (A_2.out.kept hbx)
  have HB_3 := Lib.hid (below_step HB_2.out hbx HB_2.out.size)
  have B_3 := Lib.hid (show PfsAt (w2.alloc (.cells #[.int .u8 4, .int .u64 0, .int .u64 167903232, .int .i64 16, .int .u8 4, .int .u64 0, .int .u64 167772416, .int .i64 24, .int .u8 4, .int .u64 0, .int .u64 167772160, .int .i64 16, .int .u8 4, .int .u64 0, .int .u64 167772160, .int .i64 8] 27)) (.slice (some ⟨w2.heap.size, 0, none⟩) 4 4) turnedL from Seg.of_owns (base := 0) (e := TP) ⟨rfl, .inr ⟨w2.heap.size, 4, _, rfl, Nat.zero_le _, heap_alloc_new w2 _, Nat.le_refl _, by unfold maxLen; omega, rfl, rfl⟩⟩)
  have hl := seg_cells A_2.out 2 (by decide)
  have l0 : w2.cell? ⟨g1, 8, none⟩ = some (.int .u8 4) := hl.c0
  have l1 : w2.cell? ⟨g1, 9, none⟩ = some (.int .u64 0) := hl.c1
  have l2 : w2.cell? ⟨g1, 10, none⟩ = some (.int .u64 167772416) := hl.c2
  have l3 : w2.cell? ⟨g1, 11, none⟩ = some (.int .i64 24) := hl.c3
  have hlt : g1 < w2.heap.size := World.block_lt_of_cell? _ _ hl.c0
  clear hbx hl
  go_wp2_with fail
  clear l0 l1 l2 l3 hlt
  obtain ⟨g2, hg2⟩ : ∃ b, b = w2.heap.size := ⟨_, rfl⟩
  rw [← hg2] at B_3 ⊢
  clear hg2
  generalize w2.alloc (.cells #[.int .u8 4, .int .u64 0, .int .u64 167903232, .int .i64 16, .int .u8 4, .int .u64 0, .int .u64 167772416, .int .i64 24, .int .u8 4, .int .u64 0, .int .u64 167772160, .int .i64 16, .int .u8 4, .int .u64 0, .int .u64 167772160, .int .i64 8] 27) = w3 at *
  refine (kn1 _ _ A_3.out).mono ?_
  rintro e w4 ⟨v_kn1, rfl, ho, hb⟩
  have A_4 := Lib.hid (A_3.out.kept hb)
  have B_4 := Lib.hid (B_3.out.kept hb)
  have HB_4 := Lib.hid (below_step HB_3.out hb HB_3.out.size)
  clear ho hb
  go_wp2_with fail
  refine (p4_any _ _ _).mono ?_
  rintro e w5 ⟨rfl, hb⟩
  have A_5 := Lib.hid (A_4.out.kept hb)
  have B_5 := Lib.hid (B_4.out.kept hb)
  have HB_5 := Lib.hid (below_step HB_4.out hb HB_4.out.size)
  clear hb
  go_wp2_with fail
  refine (kn2 _ _ A_5.out).mono ?_
  rintro e w6 ⟨v_kn2, rfl, ho, hb⟩
  have A_6 := Lib.hid (A_5.out.kept hb)
  have B_6 := Lib.hid (B_5.out.kept hb)
  have HB_6 := Lib.hid (below_step HB_5.out hb HB_5.out.size)
  clear ho hb
  have hl := seg_cells A_6.out 1 (by decide)
  have l0 : w6.cell? ⟨g1, 4, none⟩ = some (.int .u8 4) := hl.c0
  have l1 : w6.cell? ⟨g1, 5, none⟩ = some (.int .u64 0) := hl.c1
  have l2 : w6.cell? ⟨g1, 6, none⟩ = some (.int .u64 167772160) := hl.c2
  have l3 : w6.cell? ⟨g1, 7, none⟩ = some (.int .i64 16) := hl.c3
  clear hl
  go_wp2_with fail
  clear l0 l1 l2 l3
  refine (kn3 _ _ A_6.out).mono ?_
  rintro e w7 ⟨v_kn3, rfl, ho, hb⟩
  have A_7 := Lib.hid (A_6.out.kept hb)
  have B_7 := Lib.hid (B_6.out.kept hb)
  have HB_7 := Lib.hid (below_step HB_6.out hb HB_6.out.size)
  obtain ⟨g3, cap3, hv3, -, -, -, hc3, -⟩ := owns_shape ho (by decide)
  subst hv3
  have M_7 := Lib.hid (show CellsOf w7 g3 4 ((4, 0, 167772416), 24) from ⟨hc3 4 (by decide), hc3 5 (by decide), hc3 6 (by decide), hc3 7 (by decide)⟩)
  clear ho hb hc3
  go_wp2_with fail
  refine (p4_any _ _ _).mono ?_
  rintro e w8 ⟨rfl, hb⟩
  have A_8 := Lib.hid (A_7.out.kept hb)
  have B_8 := Lib.hid (B_7.out.kept hb)
  have M_8 := Lib.hid (M_7.out.kept hb)
  have HB_8 := Lib.hid (below_step HB_7.out hb HB_7.out.size)
  clear hb
  go_wp2_with fail
  refine (kn4 _ _ B_8.out).mono ?_
  rintro e w9 ⟨v_kn4, rfl, ho, hb⟩
  have A_9 := Lib.hid (A_8.out.kept hb)
  have B_9 := Lib.hid (B_8.out.kept hb)
  have M_9 := Lib.hid (M_8.out.kept hb)
  have HB_9 := Lib.hid (below_step HB_8.out hb HB_8.out.size)
  clear ho hb
  go_wp2_with fail
  refine (p4_any _ _ _).mono ?_
  rintro e w10 ⟨rfl, hb⟩
  have A_10 := Lib.hid (A_9.out.kept hb)
  have B_10 := Lib.hid (B_9.out.kept hb)
  have M_10 := Lib.hid (M_9.out.kept hb)
  have HB_10 := Lib.hid (below_step HB_9.out hb HB_9.out.size)
  clear hb
  go_wp2_with fail
  refine (kn5 _ _ A_10.out).mono ?_
  rintro e w11 ⟨v_kn5, rfl, ho, hb⟩
  have A_11 := Lib.hid (A_10.out.kept hb)
  have B_11 := Lib.hid (B_10.out.kept hb)
  have M_11 := Lib.hid (M_10.out.kept hb)
  have HB_11 := Lib.hid (below_step HB_10.out hb HB_10.out.size)
  clear ho hb
  go_wp2_with fail
  refine (kn6 _ _ A_11.out).mono ?_
  rintro e w12 ⟨rfl, hb⟩
  have A_12 := Lib.hid (A_11.out.kept hb)
  have B_12 := Lib.hid (B_11.out.kept hb)
  have M_12 := Lib.hid (M_11.out.kept hb)
  have HB_12 := Lib.hid (below_step HB_11.out hb HB_11.out.size)
  clear hb
  go_wp2_with fail
  have hbx : Below w12.heap.size w12 (w12.alloc (.cells #[.int .u8 0, .int .u64 0, .int .u64 0, .int .i64 0] 27)) := (Below.refl _ _).alloc (Nat.le_refl _) _
  have A_13 := Lib.hid (A_12.out.kept hbx)
  have B_13 := Lib.hid (B_12.out.kept hbx)
  have M_13 := Lib.hid (M_12.out.kept hbx)
  have HB_13 := Lib.hid (below_step HB_12.out hbx HB_12.out.size)
  have X_13 := Lib.hid (heap_alloc_new w12 (.cells #[.int .u8 0, .int .u64 0, .int .u64 0, .int .i64 0] 27))
  clear hbx
  obtain ⟨Xb, hXb⟩ : ∃ b, b = w12.heap.size := ⟨_, rfl⟩
  rw [← hXb] at X_13 ⊢
  clear hXb
  generalize w12.alloc (.cells #[.int .u8 0, .int .u64 0, .int .u64 0, .int .i64 0] 27) = w13 at *
  refine (kn7 _ _ A_13.out).mono ?_
  rintro e w14 ⟨rfl, hb⟩
  have A_14 := Lib.hid (A_13.out.kept hb)
  have B_14 := Lib.hid (B_13.out.kept hb)
  have M_14 := Lib.hid (M_13.out.kept hb)
  have X_14 := Lib.hid (blk_kept hb X_13.out)
  have HB_14 := Lib.hid (below_step HB_13.out hb HB_13.out.size)
  clear hb
  have hl := seg_cells A_14.out 3 (by decide)
  have l0 : w14.cell? ⟨g1, 12, none⟩ = some (.int .u8 4) := hl.c0
  have l1 : w14.cell? ⟨g1, 13, none⟩ = some (.int .u64 0) := hl.c1
  have l2 : w14.cell? ⟨g1, 14, none⟩ = some (.int .u64 167903232) := hl.c2
  have l3 : w14.cell? ⟨g1, 15, none⟩ = some (.int .i64 16) := hl.c3
  have hlt : g1 < w14.heap.size := World.block_lt_of_cell? _ _ hl.c0
  clear hl
  go_wp2_with fail
  clear l0 l1 l2 l3 hlt
  have hbx : Below w14.heap.size w14 (w14.alloc (.cells #[.int .u8 4, .int .u64 0, .int .u64 167772160, .int .i64 8] 27)) := (Below.refl _ _).alloc (Nat.le_refl _) _
  have A_15 := Lib.hid (A_14.out.kept hbx)
  have B_15 := Lib.hid (B_14.out.kept hbx)
  have M_15 := Lib.hid (M_14.out.kept hbx)
  have X_15 := Lib.hid (blk_kept hbx X_14.out)
  have HB_15 := Lib.hid (below_step HB_14.out hbx HB_14.out.size)
  have Y_15 := Lib.hid (heap_alloc_new w14 (.cells #[.int .u8 4, .int .u64 0, .int .u64 167772160, .int .i64 8] 27))
  clear hbx
  obtain ⟨Yb, hYb⟩ : ∃ b, b = w14.heap.size := ⟨_, rfl⟩
  rw [← hYb] at Y_15 ⊢
  clear hYb
  generalize w14.alloc (.cells #[.int .u8 4, .int .u64 0, .int .u64 167772160, .int .i64 8] 27) = w15 at *
  refine (kn8 _ _ A_15.out).mono ?_
  rintro e w16 ⟨rfl, hb⟩
  have A_16 := Lib.hid (A_15.out.kept hb)
  have B_16 := Lib.hid (B_15.out.kept hb)
  have M_16 := Lib.hid (M_15.out.kept hb)
  have X_16 := Lib.hid (blk_kept hb X_15.out)
  have Y_16 := Lib.hid (blk_kept hb Y_15.out)
  have HB_16 := Lib.hid (below_step HB_15.out hb HB_15.out.size)
  clear hb
  go_wp2_with fail
  have hbx : Below w16.heap.size w16 (w16.alloc (.cells #[.int .u8 4, .int .u64 0, .int .u64 167903232, .int .i64 16] 27)) := (Below.refl _ _).alloc (Nat.le_refl _) _
  have A_17 := Lib.hid (A_16.out.kept hbx)
  have B_17 := Lib.hid (B_16.out.kept hbx)
  have M_17 := Lib.hid (M_16.out.kept hbx)
  have X_17 := Lib.hid (blk_kept hbx X_16.out)
  have Y_17 := Lib.hid (blk_kept hbx Y_16.out)
  have HB_17 := Lib.hid (below_step HB_16.out hbx HB_16.out.size)
  have Z_17 := Lib.hid (heap_alloc_new w16 (.cells #[.int .u8 4, .int .u64 0, .int .u64 167903232, .int .i64 16] 27))
  clear hbx
  obtain ⟨Zb, hZb⟩ : ∃ b, b = w16.heap.size := ⟨_, rfl⟩
  rw [← hZb] at Z_17 ⊢
  clear hZb
  generalize w16.alloc (.cells #[.int .u8 4, .int .u64 0, .int .u64 167903232, .int .i64 16] 27) = w17 at *
  refine (p4_any _ _ _).mono ?_
  rintro e w18 ⟨rfl, hb⟩
  have A_18 := Lib.hid (A_17.out.kept hb)
  have B_18 := Lib.hid (B_17.out.kept hb)
  have M_18 := Lib.hid (M_17.out.kept hb)
  have X_18 := Lib.hid (blk_kept hb X_17.out)
  have Y_18 := Lib.hid (blk_kept hb Y_17.out)
  have Z_18 := Lib.hid (blk_kept hb Z_17.out)
  have HB_18 := Lib.hid (below_step HB_17.out hb HB_17.out.size)
  clear hb
  go_wp2_with fail
  refine (kn9 _ _ A_18.out).mono ?_
  rintro e w19 ⟨rfl, hb⟩
  have A_19 := Lib.hid (A_18.out.kept hb)
  have B_19 := Lib.hid (B_18.out.kept hb)
  have M_19 := Lib.hid (M_18.out.kept hb)
  have X_19 := Lib.hid (blk_kept hb X_18.out)
  have Y_19 := Lib.hid (blk_kept hb Y_18.out)
  have Z_19 := Lib.hid (blk_kept hb Z_18.out)
  have HB_19 := Lib.hid (below_step HB_18.out hb HB_18.out.size)
  clear hb
  go_wp2_with fail
  have hbx : Below w19.heap.size w19 (w19.alloc (.cells #[.int .u8 0, .int .u64 0, .int .u64 0, .int .i64 0] 27)) := (Below.refl _ _).alloc (Nat.le_refl _) _
  have A_20 := Lib.hid (A_19.out.kept hbx)
  have B_20 := Lib.hid (B_19.out.kept hbx)
  have M_20 := Lib.hid (M_19.out.kept hbx)
  have X_20 := Lib.hid (blk_kept hbx X_19.out)
  have Y_20 := Lib.hid (blk_kept hbx Y_19.out)
  have Z_20 := Lib.hid (blk_kept hbx Z_19.out)
  have HB_20 := Lib.hid (below_step HB_19.out hbx HB_19.out.size)
  have V_20 := Lib.hid (heap_alloc_new w19 (.cells #[.int .u8 0, .int .u64 0, .int .u64 0, .int .i64 0] 27))
  clear hbx
  obtain ⟨Vb, hVb⟩ : ∃ b, b = w19.heap.size := ⟨_, rfl⟩
  rw [← hVb] at V_20 ⊢
  clear hVb
  generalize w19.alloc (.cells #[.int .u8 0, .int .u64 0, .int .u64 0, .int .i64 0] 27) = w20 at *
  refine (p4_any _ _ _).mono ?_
  rintro e w21 ⟨rfl, hb⟩
  have A_21 := Lib.hid (A_20.out.kept hb)
  have B_21 := Lib.hid (B_20.out.kept hb)
  have M_21 := Lib.hid (M_20.out.kept hb)
  have X_21 := Lib.hid (blk_kept hb X_20.out)
  have Y_21 := Lib.hid (blk_kept hb Y_20.out)
  have Z_21 := Lib.hid (blk_kept hb Z_20.out)
  have V_21 := Lib.hid (blk_kept hb V_20.out)
  have HB_21 := Lib.hid (below_step HB_20.out hb HB_20.out.size)
  clear hb
  go_wp2_with fail
  refine (kn10 _ _ A_21.out).mono ?_
  rintro e w22 ⟨v_kn10, rfl, ho, hb⟩
  have A_22 := Lib.hid (A_21.out.kept hb)
  have B_22 := Lib.hid (B_21.out.kept hb)
  have M_22 := Lib.hid (M_21.out.kept hb)
  have X_22 := Lib.hid (blk_kept hb X_21.out)
  have Y_22 := Lib.hid (blk_kept hb Y_21.out)
  have Z_22 := Lib.hid (blk_kept hb Z_21.out)
  have V_22 := Lib.hid (blk_kept hb V_21.out)
  have HB_22 := Lib.hid (below_step HB_21.out hb HB_21.out.size)
  obtain ⟨gK, capK, hv, -, -, -, hc, -⟩ := owns_shape (show w22.ownsRow _ TP 4 v_kn10 1 ([((4, 0, 167772160), 8)].flatMap encC) from ho) (by decide)
  subst hv
  have K_22 := Lib.hid (show CellsOf w22 gK 0 ((4, 0, 167772160), 8) from ⟨hc 0 (by decide), hc 1 (by decide), hc 2 (by decide), hc 3 (by decide)⟩)
  clear ho hb hc
  have hl := seg_cells A_22.out 1 (by decide)
  have l0 : w22.cell? ⟨g1, 4, none⟩ = some (.int .u8 4) := hl.c0
  have l1 : w22.cell? ⟨g1, 5, none⟩ = some (.int .u64 0) := hl.c1
  have l2 : w22.cell? ⟨g1, 6, none⟩ = some (.int .u64 167772160) := hl.c2
  have l3 : w22.cell? ⟨g1, 7, none⟩ = some (.int .i64 16) := hl.c3
  clear hl
  go_wp2_with fail
  clear l0 l1 l2 l3
  refine (kn11 _ _ A_22.out).mono ?_
  rintro e w23 ⟨v_kn11, rfl, ho, hb⟩
  have A_23 := Lib.hid (A_22.out.kept hb)
  have B_23 := Lib.hid (B_22.out.kept hb)
  have M_23 := Lib.hid (M_22.out.kept hb)
  have X_23 := Lib.hid (blk_kept hb X_22.out)
  have Y_23 := Lib.hid (blk_kept hb Y_22.out)
  have Z_23 := Lib.hid (blk_kept hb Z_22.out)
  have V_23 := Lib.hid (blk_kept hb V_22.out)
  have K_23 := Lib.hid (K_22.out.kept hb)
  have HB_23 := Lib.hid (below_step HB_22.out hb HB_22.out.size)
  obtain ⟨gN, capN, hv, -, -, -, hc, -⟩ := owns_shape (show w23.ownsRow _ TP 4 v_kn11 1 ([((4, 0, 167772416), 24)].flatMap encC) from ho) (by decide)
  subst hv
  have N_23 := Lib.hid (show CellsOf w23 gN 0 ((4, 0, 167772416), 24) from ⟨hc 0 (by decide), hc 1 (by decide), hc 2 (by decide), hc 3 (by decide)⟩)
  clear ho hb hc
  have hl := seg_cells A_23.out 2 (by decide)
  have l0 : w23.cell? ⟨g1, 8, none⟩ = some (.int .u8 4) := hl.c0
  have l1 : w23.cell? ⟨g1, 9, none⟩ = some (.int .u64 0) := hl.c1
  have l2 : w23.cell? ⟨g1, 10, none⟩ = some (.int .u64 167772416) := hl.c2
  have l3 : w23.cell? ⟨g1, 11, none⟩ = some (.int .i64 24) := hl.c3
  clear hl
  go_wp2_with fail
  clear l0 l1 l2 l3
  refine (kn12 _ _ A_23.out).mono ?_
  rintro e w24 ⟨v_kn12, rfl, ho, hb⟩
  have A_24 := Lib.hid (A_23.out.kept hb)
  have B_24 := Lib.hid (B_23.out.kept hb)
  have M_24 := Lib.hid (M_23.out.kept hb)
  have X_24 := Lib.hid (blk_kept hb X_23.out)
  have Y_24 := Lib.hid (blk_kept hb Y_23.out)
  have Z_24 := Lib.hid (blk_kept hb Z_23.out)
  have V_24 := Lib.hid (blk_kept hb V_23.out)
  have K_24 := Lib.hid (K_23.out.kept hb)
  have N_24 := Lib.hid (N_23.out.kept hb)
  have HB_24 := Lib.hid (below_step HB_23.out hb HB_23.out.size)
  obtain ⟨aoO, capO, hv⟩ := owns_slice1 (show w24.ownsRow _ TP 4 v_kn12 0 [] from ho)
  subst hv
  clear ho hb
  go_wp2_with fail
  clear A_1 HB_1 A_2 HB_2 A_3 HB_3 B_3 A_4 B_4 HB_4 A_5 B_5 HB_5 A_6 B_6 HB_6 A_7 B_7 HB_7 M_7 A_8 B_8 M_8 HB_8 A_9 B_9 M_9 HB_9 A_10 B_10 M_10 HB_10 A_11 B_11 M_11 HB_11 A_12 B_12 M_12 HB_12 A_13 B_13 M_13 HB_13 X_13 A_14 B_14 M_14 X_14 HB_14 A_15 B_15 M_15 X_15 HB_15 Y_15 A_16 B_16 M_16 X_16 Y_16 HB_16 A_17 B_17 M_17 X_17 Y_17 HB_17 Z_17 A_18 B_18 M_18 X_18 Y_18 Z_18 HB_18 A_19 B_19 M_19 X_19 Y_19 Z_19 HB_19 A_20 B_20 M_20 X_20 Y_20 Z_20 HB_20 V_20 A_21 B_21 M_21 X_21 Y_21 Z_21 V_21 HB_21 A_22 B_22 M_22 X_22 Y_22 Z_22 V_22 HB_22 K_22 A_23 B_23 M_23 X_23 Y_23 Z_23 V_23 K_23 HB_23 N_23
  go_region_with (first | (go_at_call_of 30 g1; refine (kn15 _ _ ?_).mono ?_; exact A_24.out.kept ((Below.refl _ _).drew); rintro e z1 ⟨rfl, hb⟩; have HZ1 := Lib.hid (show Below w24.heap.size w24 z1 from ((Below.refl _ _).drew).trans hb); clear hb) | (go_at_call_of 30 g2; refine (kn13 _ _ ?_).mono ?_; exact B_24.out.kept HZ1.out; rintro e z2 ⟨rfl, hb⟩; have HZ2 := Lib.hid (show Below w24.heap.size w24 z2 from below_step HZ1.out hb HZ1.out.size); have hl := seg_cells (show PfsAt z2 (.slice (some ⟨g1, 0, none⟩) 4 cap1) someL from A_24.out.kept HZ2.out) 0 (by decide); have l0 : z2.cell? ⟨g1, 0, none⟩ = some (.int .u8 4) := hl.c0; have l1 : z2.cell? ⟨g1, 1, none⟩ = some (.int .u64 0) := hl.c1; have l2 : z2.cell? ⟨g1, 2, none⟩ = some (.int .u64 167772160) := hl.c2; have l3 : z2.cell? ⟨g1, 3, none⟩ = some (.int .i64 8) := hl.c3; clear hl hb) | (go_at_call_of 30 z2.heap.size; refine (kn14 _ _ ?_).mono ?_; exact two_own z2; rintro e z3 ⟨rfl, hb⟩; have HZ3 := Lib.hid (show Below w24.heap.size w24 z3 from below_step (HZ2.out.alloc HZ2.out.size _) hb (HZ2.out.alloc HZ2.out.size _).size); clear hb l0 l1 l2 l3; generalize z2.heap.size = gB at *) | (go_at_call 30; refine (kn16 _).mono ?_; rintro e z4 ⟨rfl, hb⟩; have HZ4 := Lib.hid (show Below w24.heap.size w24 z4 from below_step HZ3.out hb HZ3.out.size); clear hb))
  all_goals
    change Exit.then _ _ Exit.normal (Act.put (Act.put _ (some 133) _) (some 24) _) _
    simp only [Act.put, List.setIfInBounds_toArray, List.set_cons_succ, List.set_cons_zero]
    have hl := M_24.out.kept HZ4.out
    have a0 : ∀ x : Later z4.heap.size z4, x.val.cell? ⟨g3, 4, none⟩ = some (.int .u8 4) := fun x => Later.cell (show z4.cell? ⟨g3, 4, none⟩ = some (.int .u8 4) from hl.c0) (World.block_lt_of_cell? _ _ hl.c0) x
    have a1 : ∀ x : Later z4.heap.size z4, x.val.cell? ⟨g3, 5, none⟩ = some (.int .u64 0) := fun x => Later.cell (show z4.cell? ⟨g3, 5, none⟩ = some (.int .u64 0) from hl.c1) (World.block_lt_of_cell? _ _ hl.c1) x
    have a2 : ∀ x : Later z4.heap.size z4, x.val.cell? ⟨g3, 6, none⟩ = some (.int .u64 167772416) := fun x => Later.cell (show z4.cell? ⟨g3, 6, none⟩ = some (.int .u64 167772416) from hl.c2) (World.block_lt_of_cell? _ _ hl.c2) x
    have a3 : ∀ x : Later z4.heap.size z4, x.val.cell? ⟨g3, 7, none⟩ = some (.int .i64 24) := fun x => Later.cell (show z4.cell? ⟨g3, 7, none⟩ = some (.int .i64 24) from hl.c3) (World.block_lt_of_cell? _ _ hl.c3) x
    clear hl
    have hl := seg_cells (show PfsAt z4 (.slice (some ⟨g1, 0, none⟩) 4 cap1) someL from A_24.out.kept HZ4.out) 2 (by decide)
    have b0 : ∀ x : Later z4.heap.size z4, x.val.cell? ⟨g1, 8, none⟩ = some (.int .u8 4) := fun x => Later.cell (show z4.cell? ⟨g1, 8, none⟩ = some (.int .u8 4) from hl.c0) (World.block_lt_of_cell? _ _ hl.c0) x
    have b1 : ∀ x : Later z4.heap.size z4, x.val.cell? ⟨g1, 9, none⟩ = some (.int .u64 0) := fun x => Later.cell (show z4.cell? ⟨g1, 9, none⟩ = some (.int .u64 0) from hl.c1) (World.block_lt_of_cell? _ _ hl.c1) x
    have b2 : ∀ x : Later z4.heap.size z4, x.val.cell? ⟨g1, 10, none⟩ = some (.int .u64 167772416) := fun x => Later.cell (show z4.cell? ⟨g1, 10, none⟩ = some (.int .u64 167772416) from hl.c2) (World.block_lt_of_cell? _ _ hl.c2) x
    have b3 : ∀ x : Later z4.heap.size z4, x.val.cell? ⟨g1, 11, none⟩ = some (.int .i64 24) := fun x => Later.cell (show z4.cell? ⟨g1, 11, none⟩ = some (.int .i64 24) from hl.c3) (World.block_lt_of_cell? _ _ hl.c3) x
    clear hl
    go_wp2_with fail
    refine wp_region_later z4.heap.size (by kernel_rfl) (by kernel_rfl) ?_
    repeat (go_big_quiet_step ((fail)))
    refine wpQuiet_nil ?_
    rintro z5 ⟨x, rfl⟩
    have HZ5 := Lib.hid (below_step HZ4.out x.prop HZ4.out.size)
    clear a0 a1 a2 a3 b0 b1 b2 b3
    generalize x.val = z5 at *
    have hl := blk_kept HZ5.out Y_24.out
    have a0 : ∀ x : Later z5.heap.size z5, x.val.cell? ⟨Yb, 0, none⟩ = some (.int .u8 4) := fun x => Later.cell (show z5.cell? ⟨Yb, 0, none⟩ = some (.int .u8 4) from (blk_cell hl 0).trans rfl) (blk_lt hl) x
    have a1 : ∀ x : Later z5.heap.size z5, x.val.cell? ⟨Yb, 1, none⟩ = some (.int .u64 0) := fun x => Later.cell (show z5.cell? ⟨Yb, 1, none⟩ = some (.int .u64 0) from (blk_cell hl 1).trans rfl) (blk_lt hl) x
    have a2 : ∀ x : Later z5.heap.size z5, x.val.cell? ⟨Yb, 2, none⟩ = some (.int .u64 167772160) := fun x => Later.cell (show z5.cell? ⟨Yb, 2, none⟩ = some (.int .u64 167772160) from (blk_cell hl 2).trans rfl) (blk_lt hl) x
    have a3 : ∀ x : Later z5.heap.size z5, x.val.cell? ⟨Yb, 3, none⟩ = some (.int .i64 8) := fun x => Later.cell (show z5.cell? ⟨Yb, 3, none⟩ = some (.int .i64 8) from (blk_cell hl 3).trans rfl) (blk_lt hl) x
    clear hl
    have hl := blk_kept HZ5.out Z_24.out
    have b0 : ∀ x : Later z5.heap.size z5, x.val.cell? ⟨Zb, 0, none⟩ = some (.int .u8 4) := fun x => Later.cell (show z5.cell? ⟨Zb, 0, none⟩ = some (.int .u8 4) from (blk_cell hl 0).trans rfl) (blk_lt hl) x
    have b1 : ∀ x : Later z5.heap.size z5, x.val.cell? ⟨Zb, 1, none⟩ = some (.int .u64 0) := fun x => Later.cell (show z5.cell? ⟨Zb, 1, none⟩ = some (.int .u64 0) from (blk_cell hl 1).trans rfl) (blk_lt hl) x
    have b2 : ∀ x : Later z5.heap.size z5, x.val.cell? ⟨Zb, 2, none⟩ = some (.int .u64 167903232) := fun x => Later.cell (show z5.cell? ⟨Zb, 2, none⟩ = some (.int .u64 167903232) from (blk_cell hl 2).trans rfl) (blk_lt hl) x
    have b3 : ∀ x : Later z5.heap.size z5, x.val.cell? ⟨Zb, 3, none⟩ = some (.int .i64 16) := fun x => Later.cell (show z5.cell? ⟨Zb, 3, none⟩ = some (.int .i64 16) from (blk_cell hl 3).trans rfl) (blk_lt hl) x
    clear hl
    have hl := K_24.out.kept HZ5.out
    have c0 : ∀ x : Later z5.heap.size z5, x.val.cell? ⟨gK, 0, none⟩ = some (.int .u8 4) := fun x => Later.cell (show z5.cell? ⟨gK, 0, none⟩ = some (.int .u8 4) from hl.c0) (World.block_lt_of_cell? _ _ hl.c0) x
    have c1 : ∀ x : Later z5.heap.size z5, x.val.cell? ⟨gK, 1, none⟩ = some (.int .u64 0) := fun x => Later.cell (show z5.cell? ⟨gK, 1, none⟩ = some (.int .u64 0) from hl.c1) (World.block_lt_of_cell? _ _ hl.c1) x
    have c2 : ∀ x : Later z5.heap.size z5, x.val.cell? ⟨gK, 2, none⟩ = some (.int .u64 167772160) := fun x => Later.cell (show z5.cell? ⟨gK, 2, none⟩ = some (.int .u64 167772160) from hl.c2) (World.block_lt_of_cell? _ _ hl.c2) x
    have c3 : ∀ x : Later z5.heap.size z5, x.val.cell? ⟨gK, 3, none⟩ = some (.int .i64 8) := fun x => Later.cell (show z5.cell? ⟨gK, 3, none⟩ = some (.int .i64 8) from hl.c3) (World.block_lt_of_cell? _ _ hl.c3) x
    clear hl
    have hl := N_24.out.kept HZ5.out
    have d0 : ∀ x : Later z5.heap.size z5, x.val.cell? ⟨gN, 0, none⟩ = some (.int .u8 4) := fun x => Later.cell (show z5.cell? ⟨gN, 0, none⟩ = some (.int .u8 4) from hl.c0) (World.block_lt_of_cell? _ _ hl.c0) x
    have d1 : ∀ x : Later z5.heap.size z5, x.val.cell? ⟨gN, 1, none⟩ = some (.int .u64 0) := fun x => Later.cell (show z5.cell? ⟨gN, 1, none⟩ = some (.int .u64 0) from hl.c1) (World.block_lt_of_cell? _ _ hl.c1) x
    have d2 : ∀ x : Later z5.heap.size z5, x.val.cell? ⟨gN, 2, none⟩ = some (.int .u64 167772416) := fun x => Later.cell (show z5.cell? ⟨gN, 2, none⟩ = some (.int .u64 167772416) from hl.c2) (World.block_lt_of_cell? _ _ hl.c2) x
    have d3 : ∀ x : Later z5.heap.size z5, x.val.cell? ⟨gN, 3, none⟩ = some (.int .i64 24) := fun x => Later.cell (show z5.cell? ⟨gN, 3, none⟩ = some (.int .i64 24) from hl.c3) (World.block_lt_of_cell? _ _ hl.c3) x
    clear hl
    have hl := seg_cells (show PfsAt z5 (.slice (some ⟨g1, 0, none⟩) 4 cap1) someL from A_24.out.kept HZ5.out) 0 (by decide)
    have p0 : ∀ x : Later z5.heap.size z5, x.val.cell? ⟨g1, 0, none⟩ = some (.int .u8 4) := fun x => Later.cell (show z5.cell? ⟨g1, 0, none⟩ = some (.int .u8 4) from hl.c0) (World.block_lt_of_cell? _ _ hl.c0) x
    have p1 : ∀ x : Later z5.heap.size z5, x.val.cell? ⟨g1, 1, none⟩ = some (.int .u64 0) := fun x => Later.cell (show z5.cell? ⟨g1, 1, none⟩ = some (.int .u64 0) from hl.c1) (World.block_lt_of_cell? _ _ hl.c1) x
    have p2 : ∀ x : Later z5.heap.size z5, x.val.cell? ⟨g1, 2, none⟩ = some (.int .u64 167772160) := fun x => Later.cell (show z5.cell? ⟨g1, 2, none⟩ = some (.int .u64 167772160) from hl.c2) (World.block_lt_of_cell? _ _ hl.c2) x
    have p3 : ∀ x : Later z5.heap.size z5, x.val.cell? ⟨g1, 3, none⟩ = some (.int .i64 8) := fun x => Later.cell (show z5.cell? ⟨g1, 3, none⟩ = some (.int .i64 8) from hl.c3) (World.block_lt_of_cell? _ _ hl.c3) x
    clear hl
    have hl := seg_cells (show PfsAt z5 (.slice (some ⟨g1, 0, none⟩) 4 cap1) someL from A_24.out.kept HZ5.out) 3 (by decide)
    have q0 : ∀ x : Later z5.heap.size z5, x.val.cell? ⟨g1, 12, none⟩ = some (.int .u8 4) := fun x => Later.cell (show z5.cell? ⟨g1, 12, none⟩ = some (.int .u8 4) from hl.c0) (World.block_lt_of_cell? _ _ hl.c0) x
    have q1 : ∀ x : Later z5.heap.size z5, x.val.cell? ⟨g1, 13, none⟩ = some (.int .u64 0) := fun x => Later.cell (show z5.cell? ⟨g1, 13, none⟩ = some (.int .u64 0) from hl.c1) (World.block_lt_of_cell? _ _ hl.c1) x
    have q2 : ∀ x : Later z5.heap.size z5, x.val.cell? ⟨g1, 14, none⟩ = some (.int .u64 167903232) := fun x => Later.cell (show z5.cell? ⟨g1, 14, none⟩ = some (.int .u64 167903232) from hl.c2) (World.block_lt_of_cell? _ _ hl.c2) x
    have q3 : ∀ x : Later z5.heap.size z5, x.val.cell? ⟨g1, 15, none⟩ = some (.int .i64 16) := fun x => Later.cell (show z5.cell? ⟨g1, 15, none⟩ = some (.int .i64 16) from hl.c3) (World.block_lt_of_cell? _ _ hl.c3) x
    clear hl
    have hl := seg_cells (show PfsAt z5 (.slice (some ⟨g1, 0, none⟩) 4 cap1) someL from A_24.out.kept HZ5.out) 2 (by decide)
    have r0 : ∀ x : Later z5.heap.size z5, x.val.cell? ⟨g1, 8, none⟩ = some (.int .u8 4) := fun x => Later.cell (show z5.cell? ⟨g1, 8, none⟩ = some (.int .u8 4) from hl.c0) (World.block_lt_of_cell? _ _ hl.c0) x
    have r1 : ∀ x : Later z5.heap.size z5, x.val.cell? ⟨g1, 9, none⟩ = some (.int .u64 0) := fun x => Later.cell (show z5.cell? ⟨g1, 9, none⟩ = some (.int .u64 0) from hl.c1) (World.block_lt_of_cell? _ _ hl.c1) x
    have r2 : ∀ x : Later z5.heap.size z5, x.val.cell? ⟨g1, 10, none⟩ = some (.int .u64 167772416) := fun x => Later.cell (show z5.cell? ⟨g1, 10, none⟩ = some (.int .u64 167772416) from hl.c2) (World.block_lt_of_cell? _ _ hl.c2) x
    have r3 : ∀ x : Later z5.heap.size z5, x.val.cell? ⟨g1, 11, none⟩ = some (.int .i64 24) := fun x => Later.cell (show z5.cell? ⟨g1, 11, none⟩ = some (.int .i64 24) from hl.c3) (World.block_lt_of_cell? _ _ hl.c3) x
    clear hl
    go_wp2_with fail
    refine wp_region_later z5.heap.size (by kernel_rfl) (by kernel_rfl) ?_
    repeat (go_big_quiet_step ((go_at_call 10; exact Later.calls (Nat.le_refl _) (awake _))))
    refine wpQuiet_nil ?_
    rintro z6 ⟨y, rfl⟩
    have HZ6 := Lib.hid (below_step HB_24.out (below_step HZ5.out y.prop HZ5.out.size) HB_24.out.size)
    clear a0 a1 a2 a3 b0 b1 b2 b3 c0 c1 c2 c3 d0 d1 d2 d3 p0 p1 p2 p3 q0 q1 q2 q3 r0 r1 r2 r3
    go_wp2_with fail
    go_ret
    exact ⟨rfl, HZ6.out⟩
end Go.Proofs.Try.Pfx
