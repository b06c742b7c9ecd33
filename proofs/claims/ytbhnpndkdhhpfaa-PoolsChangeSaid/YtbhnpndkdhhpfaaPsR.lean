/- awake: the chapter's example. -/
import Derived.Test.YtbhnpndkdhhpfaaPsQ
set_option linter.unusedVariables false
set_option linter.unusedSimpArgs false
namespace Go.Proofs.Try.Pfx
open Go.RowKit Go.Cph Go.Cph.Px

theorem aw_in (v : Value) (w : World) (h : PfsAt w v someL) : Calls Try.prog 12 #[v, .agg #[.int .u8 4, .int .u64 0, .int .u64 167772421]] w fun e w' => e = .returned (.tuple #[.agg #[.int .u8 4, .int .u64 0, .int .u64 167772416, .int .i64 24], .bool true]) ∧ Below w.heap.size w w' := by
  have hm : mostL (fun p => hasP p (4, 0, 167772421)) someL = some ((4, 0, 167772416), 24) := by decide +kernel
  exact (innermost v someL (4, 0, 167772421) w h (by decide)).mono fun e w' ⟨he, hb⟩ => ⟨by rw [he, hm]; rfl, hb⟩
theorem aw_wh (v : Value) (w : World) (h : PfsAt w v someL) : Calls Try.prog 15 #[v, .agg #[.int .u8 4, .int .u64 0, .int .u64 167772160, .int .i64 15]] w fun e w' => e = .returned (.tuple #[.agg #[.int .u8 4, .int .u64 0, .int .u64 167772160, .int .i64 8], .bool true]) ∧ Below w.heap.size w w' := by
  have hm : mostL (fun q => within ((4, 0, 167772160), 15) q) someL = some ((4, 0, 167772160), 8) := by decide +kernel
  exact (whole v someL ((4, 0, 167772160), 15) w h (by decide)).mono fun e w' ⟨he, hb⟩ => ⟨by rw [he, hm]; rfl, hb⟩
theorem aw_ch (v : Value) (w : World) (h : PfsAt w v someL) : Calls Try.prog 19 #[v, .agg #[.int .u8 4, .int .u64 0, .int .u64 167772160, .int .i64 8]] w (ListPost [((4, 0, 167772160), 16), ((4, 0, 167903232), 16)] w) := by
  have hm : childrenL someL ((4, 0, 167772160), 8) = [((4, 0, 167772160), 16), ((4, 0, 167903232), 16)] := by decide +kernel
  rw [← hm]
  exact children v someL ((4, 0, 167772160), 8) w h (by decide)
theorem aw_put (v : Value) (w : World) (h : PfsAt w v someL) : Calls Try.prog 27 #[v, .agg #[.int .u8 4, .int .u64 0, .int .u64 150994944, .int .i64 8]] w fun e w' => ∃ v', e = .returned (.tuple #[v', .int .i64 0]) ∧ w'.ownsRow w.heap.size TP 4 v' 5 ([((4, 0, 150994944), 8), ((4, 0, 167772160), 8), ((4, 0, 167772160), 16), ((4, 0, 167772416), 24), ((4, 0, 167903232), 16)].flatMap encC) ∧ Below w.heap.size w w' := by
  have hm : putE someL ((4, 0, 150994944), 8) = 0 := by decide +kernel
  have ho : outP someL ((4, 0, 150994944), 8) = [((4, 0, 150994944), 8), ((4, 0, 167772160), 8), ((4, 0, 167772160), 16), ((4, 0, 167772416), 24), ((4, 0, 167903232), 16)] := by decide +kernel
  refine (put_any v someL ((4, 0, 150994944), 8) w h (by decide)).mono fun e w' ⟨v', he, hr, hb⟩ => ⟨v', by rw [he, hm]; rfl, ?_, hb⟩
  rw [ho] at hr
  exact hr
theorem aw_right (v : Value) (w : World) (h : PfsAt w v [((4, 0, 150994944), 8), ((4, 0, 167772160), 8), ((4, 0, 167772160), 16), ((4, 0, 167772416), 24), ((4, 0, 167903232), 16)]) : Calls Try.prog 30 #[v] w fun e w' => e = .returned (.bool true) ∧ Below w.heap.size w w' := by
  have hm : rightL [((4, 0, 150994944), 8), ((4, 0, 167772160), 8), ((4, 0, 167772160), 16), ((4, 0, 167772416), 24), ((4, 0, 167903232), 16)] = true := by decide +kernel
  rw [← hm]
  exact rightL_any v [((4, 0, 150994944), 8), ((4, 0, 167772160), 8), ((4, 0, 167772160), 16), ((4, 0, 167772416), 24), ((4, 0, 167903232), 16)] w h (by decide)

def AwPost (w : World) (e : Ending) (w' : World) : Prop := e = .returned (.bool true) ∧ Below w.heap.size w w'
set_option maxRecDepth 100000 in
set_option maxHeartbeats 8000000 in
theorem awake (w : World) : Calls Try.prog 10 #[] w (AwPost w) := by
  go_enter Try.func10, Try.ntmps10
  go_wp2_with fail
  refine (some_any _).mono ?_
  rintro e w1 ⟨v1, rfl, ho, hb⟩
  have HO1 := Lib.hid (Seg.of_owns ho)
  have HB1 := Lib.hid hb
  clear ho hb
  go_wp2_with fail
  refine (aw_in _ _ HO1.out).mono ?_
  rintro e w2 ⟨rfl, hb⟩
  have HB2 := Lib.hid (below_step HB1.out hb HB1.out.size)
  clear hb
  go_wp2_with fail
  have HX1 := Lib.hid (heap_alloc_new w2 (.cells #[.int .u8 4, .int .u64 0, .int .u64 167772416, .int .i64 24] 27))
  have HB2' := Lib.hid (HB2.out.alloc HB2.out.size (.cells #[.int .u8 4, .int .u64 0, .int .u64 167772416, .int .i64 24] 27))
  obtain ⟨b1, hb1⟩ : ∃ b, b = w2.heap.size := ⟨_, rfl⟩
  rw [← hb1] at HX1 ⊢
  clear hb1
  generalize w2.alloc (.cells #[.int .u8 4, .int .u64 0, .int .u64 167772416, .int .i64 24] 27) = w2a at *
  refine (some_any _).mono ?_
  rintro e w3 ⟨v3, rfl, ho, hb⟩
  have HO3 := Lib.hid (Seg.of_owns ho)
  have HB3 := Lib.hid (below_step HB2'.out hb HB2'.out.size)
  have HX1b := Lib.hid (blk_kept hb HX1.out)
  clear ho hb
  go_wp2_with fail
  refine (p4_any _ _ _).mono ?_
  rintro e w4 ⟨rfl, hb⟩
  have HO4 := Lib.hid (HO3.out.kept hb)
  have HB4 := Lib.hid (below_step HB3.out hb HB3.out.size)
  have HX1c := Lib.hid (blk_kept hb HX1b.out)
  clear hb
  go_wp2_with fail
  refine (aw_wh _ _ HO4.out).mono ?_
  rintro e w5 ⟨rfl, hb⟩
  have HB5 := Lib.hid (below_step HB4.out hb HB4.out.size)
  have HX1d := Lib.hid (blk_alloc (blk_kept hb HX1c.out) (.cells #[.int .u8 4, .int .u64 0, .int .u64 167772160, .int .i64 8] 27))
  clear hb
  go_wp2_with fail
  have HX2 := Lib.hid (heap_alloc_new w5 (.cells #[.int .u8 4, .int .u64 0, .int .u64 167772160, .int .i64 8] 27))
  have HB5' := Lib.hid (HB5.out.alloc HB5.out.size (.cells #[.int .u8 4, .int .u64 0, .int .u64 167772160, .int .i64 8] 27))
  obtain ⟨b2, hb2⟩ : ∃ b, b = w5.heap.size := ⟨_, rfl⟩
  rw [← hb2] at HX2 ⊢
  clear hb2
  generalize w5.alloc (.cells #[.int .u8 4, .int .u64 0, .int .u64 167772160, .int .i64 8] 27) = w5a at *
  refine (some_any _).mono ?_
  rintro e w6 ⟨v6, rfl, ho, hb⟩
  have HO6 := Lib.hid (Seg.of_owns ho)
  have HB6 := Lib.hid (below_step HB5'.out hb HB5'.out.size)
  have HX1e := Lib.hid (blk_kept hb HX1d.out)
  have HX2e := Lib.hid (blk_kept hb HX2.out)
  clear ho hb
  go_wp2_with fail
  refine (p4_any _ _ _).mono ?_
  rintro e w7 ⟨rfl, hb⟩
  have HO7 := Lib.hid (HO6.out.kept hb)
  have HB7 := Lib.hid (below_step HB6.out hb HB6.out.size)
  have HX1f := Lib.hid (blk_kept hb HX1e.out)
  have HX2f := Lib.hid (blk_kept hb HX2e.out)
  clear hb
  go_wp2_with fail
  refine (aw_ch _ _ HO7.out).mono ?_
  rintro e w8 ⟨v8, rfl, ho, hb⟩
  obtain ⟨g8, cap8, rfl, _, hg8, _, hc8, _⟩ := owns_shape ho (by decide)
  have HC8 := Lib.hid (show CellsOf w8 g8 4 ((4, 0, 167903232), 16) from ⟨hc8 4 (by decide), hc8 5 (by decide), hc8 6 (by decide), hc8 7 (by decide)⟩)
  have HB8 := Lib.hid (below_step HB7.out hb HB7.out.size)
  have HX1g := Lib.hid (blk_kept hb HX1f.out)
  have HX2g := Lib.hid (blk_kept hb HX2f.out)
  clear hb ho hc8
  go_wp2_with fail
  refine (some_any _).mono ?_
  rintro e w9 ⟨v9, rfl, ho, hb⟩
  have HO9 := Lib.hid (Seg.of_owns ho)
  have HB9 := Lib.hid (below_step HB8.out hb HB8.out.size)
  have HX1h := Lib.hid (blk_kept hb HX1g.out)
  have HX2h := Lib.hid (blk_kept hb HX2g.out)
  have HC9 := Lib.hid (HC8.out.kept hb)
  clear ho hb
  go_wp2_with fail
  refine (p4_any _ _ _).mono ?_
  rintro e w10 ⟨rfl, hb⟩
  have HO10 := Lib.hid (HO9.out.kept hb)
  have HB10 := Lib.hid (below_step HB9.out hb HB9.out.size)
  have HX1i := Lib.hid (blk_kept hb HX1h.out)
  have HX2i := Lib.hid (blk_kept hb HX2h.out)
  have HC10 := Lib.hid (HC9.out.kept hb)
  clear hb
  go_wp2_with fail
  refine (aw_put _ _ HO10.out).mono ?_
  rintro e w11 ⟨v11, rfl, ho, hb⟩
  obtain ⟨g11, cap11, rfl, _, hg11, _, hc11, _⟩ := owns_shape ho (by decide)
  have hx11 : CellsOf w11 g11 0 ((4, 0, 150994944), 8) := ⟨hc11 0 (by decide), hc11 1 (by decide), hc11 2 (by decide), hc11 3 (by decide)⟩
  have HO11 := Lib.hid (Seg.of_owns ho)
  have HB11 := Lib.hid (below_step HB10.out hb HB10.out.size)
  have hx1 := boxP (p := ((4, 0, 167772416), 24)) (blk_kept hb HX1i.out)
  have hx2 := boxP (p := ((4, 0, 167772160), 8)) (blk_kept hb HX2i.out)
  have hx8 := HC10.out.kept hb
  clear hb ho hc11
  have c0 : ∀ x : Later w11.heap.size w11, x.val.cell? ⟨b1, 0, none⟩ = some (.int .u8 4) := fun x => Later.cell (show w11.cell? ⟨b1, 0, none⟩ = some (.int .u8 4) from hx1.c0) (World.block_lt_of_cell? _ _ hx1.c0) x
  have c1 : ∀ x : Later w11.heap.size w11, x.val.cell? ⟨b1, 1, none⟩ = some (.int .u64 0) := fun x => Later.cell (show w11.cell? ⟨b1, 1, none⟩ = some (.int .u64 0) from hx1.c1) (World.block_lt_of_cell? _ _ hx1.c1) x
  have c2 : ∀ x : Later w11.heap.size w11, x.val.cell? ⟨b1, 2, none⟩ = some (.int .u64 167772416) := fun x => Later.cell (show w11.cell? ⟨b1, 2, none⟩ = some (.int .u64 167772416) from hx1.c2) (World.block_lt_of_cell? _ _ hx1.c2) x
  have c3 : ∀ x : Later w11.heap.size w11, x.val.cell? ⟨b1, 3, none⟩ = some (.int .i64 24) := fun x => Later.cell (show w11.cell? ⟨b1, 3, none⟩ = some (.int .i64 24) from hx1.c3) (World.block_lt_of_cell? _ _ hx1.c3) x
  have d0 : ∀ x : Later w11.heap.size w11, x.val.cell? ⟨b2, 0, none⟩ = some (.int .u8 4) := fun x => Later.cell (show w11.cell? ⟨b2, 0, none⟩ = some (.int .u8 4) from hx2.c0) (World.block_lt_of_cell? _ _ hx2.c0) x
  have d1 : ∀ x : Later w11.heap.size w11, x.val.cell? ⟨b2, 1, none⟩ = some (.int .u64 0) := fun x => Later.cell (show w11.cell? ⟨b2, 1, none⟩ = some (.int .u64 0) from hx2.c1) (World.block_lt_of_cell? _ _ hx2.c1) x
  have d2 : ∀ x : Later w11.heap.size w11, x.val.cell? ⟨b2, 2, none⟩ = some (.int .u64 167772160) := fun x => Later.cell (show w11.cell? ⟨b2, 2, none⟩ = some (.int .u64 167772160) from hx2.c2) (World.block_lt_of_cell? _ _ hx2.c2) x
  have d3 : ∀ x : Later w11.heap.size w11, x.val.cell? ⟨b2, 3, none⟩ = some (.int .i64 8) := fun x => Later.cell (show w11.cell? ⟨b2, 3, none⟩ = some (.int .i64 8) from hx2.c3) (World.block_lt_of_cell? _ _ hx2.c3) x
  have g0 : ∀ x : Later w11.heap.size w11, x.val.cell? ⟨g8, 4, none⟩ = some (.int .u8 4) := fun x => Later.cell (show w11.cell? ⟨g8, 4, none⟩ = some (.int .u8 4) from hx8.c0) (World.block_lt_of_cell? _ _ hx8.c0) x
  have g1 : ∀ x : Later w11.heap.size w11, x.val.cell? ⟨g8, 5, none⟩ = some (.int .u64 0) := fun x => Later.cell (show w11.cell? ⟨g8, 5, none⟩ = some (.int .u64 0) from hx8.c1) (World.block_lt_of_cell? _ _ hx8.c1) x
  have g2 : ∀ x : Later w11.heap.size w11, x.val.cell? ⟨g8, 6, none⟩ = some (.int .u64 167903232) := fun x => Later.cell (show w11.cell? ⟨g8, 6, none⟩ = some (.int .u64 167903232) from hx8.c2) (World.block_lt_of_cell? _ _ hx8.c2) x
  have g3 : ∀ x : Later w11.heap.size w11, x.val.cell? ⟨g8, 7, none⟩ = some (.int .i64 16) := fun x => Later.cell (show w11.cell? ⟨g8, 7, none⟩ = some (.int .i64 16) from hx8.c3) (World.block_lt_of_cell? _ _ hx8.c3) x
  have k0 : ∀ x : Later w11.heap.size w11, x.val.cell? ⟨g11, 0, none⟩ = some (.int .u8 4) := fun x => Later.cell (show w11.cell? ⟨g11, 0, none⟩ = some (.int .u8 4) from hx11.c0) (World.block_lt_of_cell? _ _ hx11.c0) x
  have k1 : ∀ x : Later w11.heap.size w11, x.val.cell? ⟨g11, 1, none⟩ = some (.int .u64 0) := fun x => Later.cell (show w11.cell? ⟨g11, 1, none⟩ = some (.int .u64 0) from hx11.c1) (World.block_lt_of_cell? _ _ hx11.c1) x
  have k2 : ∀ x : Later w11.heap.size w11, x.val.cell? ⟨g11, 2, none⟩ = some (.int .u64 150994944) := fun x => Later.cell (show w11.cell? ⟨g11, 2, none⟩ = some (.int .u64 150994944) from hx11.c2) (World.block_lt_of_cell? _ _ hx11.c2) x
  have k3 : ∀ x : Later w11.heap.size w11, x.val.cell? ⟨g11, 3, none⟩ = some (.int .i64 8) := fun x => Later.cell (show w11.cell? ⟨g11, 3, none⟩ = some (.int .i64 8) from hx11.c3) (World.block_lt_of_cell? _ _ hx11.c3) x
  have HPU := Lib.hid (fun x : Later w11.heap.size w11 => (show PfsAt x.val (.slice (some ⟨g11, 0, none⟩) 5 cap11) [((4, 0, 150994944), 8), ((4, 0, 167772160), 8), ((4, 0, 167772160), 16), ((4, 0, 167772416), 24), ((4, 0, 167903232), 16)] from HO11.out.kept x.prop))
  clear hx1 hx2 hx8 hx11
  go_wp2_with fail
  refine wp_region_later w11.heap.size (by kernel_rfl) (by kernel_rfl) ?_
  repeat (go_big_quiet_step ((first | (go_at_call 29; exact Later.calls (Nat.le_refl _) (p4_any _ _ _)) | (go_at_call 30; exact Later.calls (Nat.le_refl _) (aw_right _ _ (HPU.out _))))))
  refine wpQuiet_nil ?_
  rintro w12 ⟨x, rfl⟩
  have HB12 := Lib.hid (below_step HB11.out x.prop HB11.out.size)
  clear c0 c1 c2 c3 d0 d1 d2 d3 g0 g1 g2 g3 k0 k1 k2 k3
  go_wp2_with fail
  go_ret
  exact ⟨rfl, HB12.out⟩
end Go.Proofs.Try.Pfx
