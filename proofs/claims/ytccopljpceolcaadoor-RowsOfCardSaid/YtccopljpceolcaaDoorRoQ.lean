/- The laws of rows: RowsKeys' walk. -/
import Derived.Test.YtccopljpceolcaaDoorRoI
set_option linter.unusedVariables false
set_option linter.unusedSimpArgs false
set_option maxRecDepth 100000
namespace Go.Proofs.Tryd.Rows
open Go.RowKit Go.Cph Go.Cph.Ok Go.Proofs.Tryd.Nu Go.Proofs.Tryd.Ok
open Go.Cph.Px (Ad Pf rightA bytesA rightP fromB fromOk)
open Go.Proofs.Tryd.Pfx (encA bcell)
set_option maxHeartbeats 6400000 in
theorem keys_law (p : Pf) (a : Ad) (n : UInt64) (c : UInt8) (m : Int) (w : World) (hm : MaxAt m w) :
    Calls Tryd.prog 3 #[Pfx.encP p, encA a, .int .u64 (n.toNat : Int), .int .u8 (c.toNat : Int)] w fun e w' => e = .returned (.bool true) ∧ Below w.heap.size w w' := by
  have HM := Lib.hid hm
  have HX1 := Lib.hid (blk_alloc (heap_alloc_new w (boxF p)) (boxA a))
  have HX2 := Lib.hid (heap_alloc_new (w.alloc (boxF p)) (boxA a))
  rw [World.size_alloc] at HX2
  have HB := Lib.hid (show Below w.heap.size w ((w.alloc (boxF p)).alloc (boxA a)) from below_alloc2 (Below.refl _ _) (Nat.le_refl _) _ _)
  obtain ⟨⟨f, hi, lo⟩, bits⟩ := p
  obtain ⟨g, ah, al⟩ := a
  obtain ⟨K2, hK2⟩ : ∃ K, K = keyP 2 ((f, hi, lo), bits) := ⟨_, rfl⟩
  obtain ⟨K3, hK3⟩ : ∃ K, K = keyP 3 ((f, hi, lo), bits) := ⟨_, rfl⟩
  obtain ⟨K4, hK4⟩ : ∃ K, K = keyA 4 (g, ah, al) [] := ⟨_, rfl⟩
  obtain ⟨K5, hK5⟩ : ∃ K, K = keyA 5 (g, ah, al) [] := ⟨_, rfl⟩
  obtain ⟨K6, hK6⟩ : ∃ K, K = keyA 6 (g, ah, al) [n] := ⟨_, rfl⟩
  obtain ⟨K7, hK7⟩ : ∃ K, K = clientK c := ⟨_, rfl⟩
  obtain ⟨K1, hK1⟩ : ∃ K, K = clockK := ⟨_, rfl⟩
  have HG20 := Lib.hid (fun (W : World) => show Calls Tryd.prog 9 #[.agg #[.int .u8 (f.toNat : Int), .int .u64 (hi.toNat : Int), .int .u64 (lo.toNat : Int), .int .i64 bits]] W (fun e w' => e = .returned (.agg #[.int .u8 (f.toNat : Int), .int .u64 (hi.toNat : Int), .int .u64 (lo.toNat : Int), .int .i64 bits]) ∧ Below W.heap.size W w') from Pfx.given20 ((f, hi, lo), bits) W)
  have HG19 := Lib.hid (fun (W : World) => show Calls Tryd.prog 10 #[.agg #[.int .u8 (g.toNat : Int), .int .u64 (ah.toNat : Int), .int .u64 (al.toNat : Int)]] W (fun e w' => e = .returned (.agg #[.int .u8 (g.toNat : Int), .int .u64 (ah.toNat : Int), .int .u64 (al.toNat : Int)]) ∧ Below W.heap.size W w') from Pfx.given19 (g, ah, al) W)
  have H11 := Lib.hid (fun (W : World) (h : MaxAt m W) => show Calls Tryd.prog 11 #[.agg #[.int .u8 (f.toNat : Int), .int .u64 (hi.toNat : Int), .int .u64 (lo.toNat : Int), .int .i64 bits]] W (fun e w' => e = .returned (.string K2) ∧ Below W.heap.size W w') from by rw [hK2]; exact poolKey ((f, hi, lo), bits) m W h)
  have H12 := Lib.hid (fun (W : World) => show Calls Tryd.prog 12 #[.int .u64 2, .agg #[.int .u8 (f.toNat : Int), .int .u64 (hi.toNat : Int), .int .u64 (lo.toNat : Int), .int .i64 bits]] W (fun e w' => e = .returned (.string K2) ∧ Below W.heap.size W w') from by rw [hK2]; exact rprefix 2 ((f, hi, lo), bits) W)
  have H13 := Lib.hid (fun (W : World) (h : MaxAt m W) => show Calls Tryd.prog 13 #[.agg #[.int .u8 (f.toNat : Int), .int .u64 (hi.toNat : Int), .int .u64 (lo.toNat : Int), .int .i64 bits]] W (fun e w' => e = .returned (.string K3) ∧ Below W.heap.size W w') from by rw [hK3]; exact holdKey ((f, hi, lo), bits) m W h)
  have H12b := Lib.hid (fun (W : World) => show Calls Tryd.prog 12 #[.int .u64 3, .agg #[.int .u8 (f.toNat : Int), .int .u64 (hi.toNat : Int), .int .u64 (lo.toNat : Int), .int .i64 bits]] W (fun e w' => e = .returned (.string K3) ∧ Below W.heap.size W w') from by rw [hK3]; exact rprefix 3 ((f, hi, lo), bits) W)
  have H14 := Lib.hid (fun (W : World) (h : MaxAt m W) => show Calls Tryd.prog 14 #[.agg #[.int .u8 (g.toNat : Int), .int .u64 (ah.toNat : Int), .int .u64 (al.toNat : Int)]] W (fun e w' => e = .returned (.string K4) ∧ Below W.heap.size W w') from by rw [hK4]; exact leaseKey (g, ah, al) m W h)
  have H15 := Lib.hid (fun (W : World) => show Calls Tryd.prog 15 #[.int .u64 4, .agg #[.int .u8 (g.toNat : Int), .int .u64 (ah.toNat : Int), .int .u64 (al.toNat : Int)]] W (fun e w' => e = .returned (.string K4) ∧ Below W.heap.size W w') from by rw [hK4]; exact raddr 4 (g, ah, al) W)
  have H16 := Lib.hid (fun (W : World) (h : MaxAt m W) => show Calls Tryd.prog 16 #[.agg #[.int .u8 (g.toNat : Int), .int .u64 (ah.toNat : Int), .int .u64 (al.toNat : Int)]] W (fun e w' => e = .returned (.string K5) ∧ Below W.heap.size W w') from by rw [hK5]; exact countKey (g, ah, al) m W h)
  have H15b := Lib.hid (fun (W : World) => show Calls Tryd.prog 15 #[.int .u64 5, .agg #[.int .u8 (g.toNat : Int), .int .u64 (ah.toNat : Int), .int .u64 (al.toNat : Int)]] W (fun e w' => e = .returned (.string K5) ∧ Below W.heap.size W w') from by rw [hK5]; exact raddr 5 (g, ah, al) W)
  have H17 := Lib.hid (fun (W : World) (h : MaxAt m W) => show Calls Tryd.prog 17 #[.agg #[.int .u8 (g.toNat : Int), .int .u64 (ah.toNat : Int), .int .u64 (al.toNat : Int)], .int .u64 (n.toNat : Int)] W (fun e w' => e = .returned (.string K6) ∧ Below W.heap.size W w') from by rw [hK6]; exact eventKey (g, ah, al) n m W h)
  have H18 := Lib.hid (fun (W : World) => show Calls Tryd.prog 18 #[.agg #[.int .u8 (g.toNat : Int), .int .u64 (ah.toNat : Int), .int .u64 (al.toNat : Int)], .int .u64 (n.toNat : Int)] W (fun e w' => e = .returned (.string K6) ∧ Below W.heap.size W w') from by rw [hK6]; exact revent (g, ah, al) n W)
  have H19 := Lib.hid (fun (W : World) (h : MaxAt m W) => show Calls Tryd.prog 19 #[.int .u8 (c.toNat : Int)] W (fun e w' => e = .returned (.string K7) ∧ Below W.heap.size W w') from by rw [hK7]; exact clientKey c m W h)
  have H20 := Lib.hid (fun (W : World) => show Calls Tryd.prog 20 #[.int .u8 (c.toNat : Int)] W (fun e w' => e = .returned (.string K7) ∧ Below W.heap.size W w') from by rw [hK7]; exact rclient c W)
  have H21 := Lib.hid (fun (W : World) (h : MaxAt m W) => show Calls Tryd.prog 21 #[] W (fun e w' => e = .returned (.string K1) ∧ Below W.heap.size W w') from by rw [hK1]; exact clockKey m W h)
  have H22 := Lib.hid (fun (W : World) => show Calls Tryd.prog 22 #[] W (fun e w' => e = .returned (.string K1) ∧ Below W.heap.size W w') from by rw [hK1]; exact rclock W)
  have HAW := Lib.hid (fun (W : World) (h : MaxAt m W) => awake_any m W h)
  have eK2 : (K2.toList == K2.toList) = true := by simp
  have eK3 : (K3.toList == K3.toList) = true := by simp
  have eK4 : (K4.toList == K4.toList) = true := by simp
  have eK5 : (K5.toList == K5.toList) = true := by simp
  have eK6 : (K6.toList == K6.toList) = true := by simp
  have eK7 : (K7.toList == K7.toList) = true := by simp
  have eK1 : (K1.toList == K1.toList) = true := by simp
  clear hm hK2 hK3 hK4 hK5 hK6 hK7 hK1
  have a0 : ((w.alloc (boxF ((f, hi, lo), bits))).alloc (boxA (g, ah, al))).cell? ⟨w.heap.size, 0, none⟩ = some (.int .u8 (f.toNat : Int)) := by rw [blk_cell HX1.out]; rfl
  have a1 : ((w.alloc (boxF ((f, hi, lo), bits))).alloc (boxA (g, ah, al))).cell? ⟨w.heap.size, 1, none⟩ = some (.int .u64 (hi.toNat : Int)) := by rw [blk_cell HX1.out]; rfl
  have a2 : ((w.alloc (boxF ((f, hi, lo), bits))).alloc (boxA (g, ah, al))).cell? ⟨w.heap.size, 2, none⟩ = some (.int .u64 (lo.toNat : Int)) := by rw [blk_cell HX1.out]; rfl
  have a3 : ((w.alloc (boxF ((f, hi, lo), bits))).alloc (boxA (g, ah, al))).cell? ⟨w.heap.size, 3, none⟩ = some (.int .i64 bits) := by rw [blk_cell HX1.out]; rfl
  go_enter Tryd.func3, Tryd.ntmps3
  go_wp2_with fail
  refine (HG20.out _).mono ?_
  rintro e w1 ⟨rfl, hb⟩
  clear a0 a1 a2 a3
  replace HX1 := Lib.hid (blk_kept hb HX1.out)
  replace HX2 := Lib.hid (blk_kept hb HX2.out)
  replace HB := Lib.hid (below_step HB.out hb HB.out.size)
  have HX3 := Lib.hid (heap_alloc_new w1 (boxRP ((f, hi, lo), bits)))
  replace HX1 := Lib.hid (blk_alloc HX1.out (boxRP ((f, hi, lo), bits)))
  replace HX2 := Lib.hid (blk_alloc HX2.out (boxRP ((f, hi, lo), bits)))
  replace HB := Lib.hid (below_alloc1 HB.out HB.out.size (boxRP ((f, hi, lo), bits)))
  clear hb
  have b0 : (w1.alloc (boxRP ((f, hi, lo), bits))).cell? ⟨w.heap.size + 1, 0, none⟩ = some (.int .u8 (g.toNat : Int)) := by rw [blk_cell HX2.out]; rfl
  have b1 : (w1.alloc (boxRP ((f, hi, lo), bits))).cell? ⟨w.heap.size + 1, 1, none⟩ = some (.int .u64 (ah.toNat : Int)) := by rw [blk_cell HX2.out]; rfl
  have b2 : (w1.alloc (boxRP ((f, hi, lo), bits))).cell? ⟨w.heap.size + 1, 2, none⟩ = some (.int .u64 (al.toNat : Int)) := by rw [blk_cell HX2.out]; rfl
  go_wp2_with fail
  refine (HG19.out _).mono ?_
  rintro e w2 ⟨rfl, hb⟩
  clear b0 b1 b2
  replace HX1 := Lib.hid (blk_alloc (blk_kept hb HX1.out) (boxRA (g, ah, al)))
  replace HX2 := Lib.hid (blk_alloc (blk_kept hb HX2.out) (boxRA (g, ah, al)))
  replace HX3 := Lib.hid (blk_alloc (blk_kept hb HX3.out) (boxRA (g, ah, al)))
  replace HB := Lib.hid (below_step HB.out hb HB.out.size)
  have HX4 := Lib.hid (heap_alloc_new w2 (boxRA (g, ah, al)))
  replace HB := Lib.hid (below_alloc1 HB.out HB.out.size (boxRA (g, ah, al)))
  clear hb
  obtain ⟨W, hW⟩ : ∃ W, W = w2.alloc (boxRA (g, ah, al)) := ⟨_, rfl⟩
  rw [← hW] at HX1 HX2 HX3 HX4 HB
  have x1 := HX1.out
  have x2 := HX2.out
  have x3 := HX3.out
  have x4 := HX4.out
  have qx10 : ∀ zz : Later W.heap.size W, zz.val.cell? ⟨w.heap.size, 0, none⟩ = some (.int .u8 (f.toNat : Int)) := fun zz => Later.cell (by rw [blk_cell x1]; rfl) (blk_lt x1) zz
  have qx11 : ∀ zz : Later W.heap.size W, zz.val.cell? ⟨w.heap.size, 1, none⟩ = some (.int .u64 (hi.toNat : Int)) := fun zz => Later.cell (by rw [blk_cell x1]; rfl) (blk_lt x1) zz
  have qx12 : ∀ zz : Later W.heap.size W, zz.val.cell? ⟨w.heap.size, 2, none⟩ = some (.int .u64 (lo.toNat : Int)) := fun zz => Later.cell (by rw [blk_cell x1]; rfl) (blk_lt x1) zz
  have qx13 : ∀ zz : Later W.heap.size W, zz.val.cell? ⟨w.heap.size, 3, none⟩ = some (.int .i64 bits) := fun zz => Later.cell (by rw [blk_cell x1]; rfl) (blk_lt x1) zz
  have qx20 : ∀ zz : Later W.heap.size W, zz.val.cell? ⟨w.heap.size + 1, 0, none⟩ = some (.int .u8 (g.toNat : Int)) := fun zz => Later.cell (by rw [blk_cell x2]; rfl) (blk_lt x2) zz
  have qx21 : ∀ zz : Later W.heap.size W, zz.val.cell? ⟨w.heap.size + 1, 1, none⟩ = some (.int .u64 (ah.toNat : Int)) := fun zz => Later.cell (by rw [blk_cell x2]; rfl) (blk_lt x2) zz
  have qx22 : ∀ zz : Later W.heap.size W, zz.val.cell? ⟨w.heap.size + 1, 2, none⟩ = some (.int .u64 (al.toNat : Int)) := fun zz => Later.cell (by rw [blk_cell x2]; rfl) (blk_lt x2) zz
  have qx30 : ∀ zz : Later W.heap.size W, zz.val.cell? ⟨w1.heap.size, 0, none⟩ = some (.int .u8 (f.toNat : Int)) := fun zz => Later.cell (by rw [blk_cell x3]; rfl) (blk_lt x3) zz
  have qx31 : ∀ zz : Later W.heap.size W, zz.val.cell? ⟨w1.heap.size, 1, none⟩ = some (.int .u64 (hi.toNat : Int)) := fun zz => Later.cell (by rw [blk_cell x3]; rfl) (blk_lt x3) zz
  have qx32 : ∀ zz : Later W.heap.size W, zz.val.cell? ⟨w1.heap.size, 2, none⟩ = some (.int .u64 (lo.toNat : Int)) := fun zz => Later.cell (by rw [blk_cell x3]; rfl) (blk_lt x3) zz
  have qx33 : ∀ zz : Later W.heap.size W, zz.val.cell? ⟨w1.heap.size, 3, none⟩ = some (.int .i64 bits) := fun zz => Later.cell (by rw [blk_cell x3]; rfl) (blk_lt x3) zz
  have qx40 : ∀ zz : Later W.heap.size W, zz.val.cell? ⟨w2.heap.size, 0, none⟩ = some (.int .u8 (g.toNat : Int)) := fun zz => Later.cell (by rw [blk_cell x4]; rfl) (blk_lt x4) zz
  have qx41 : ∀ zz : Later W.heap.size W, zz.val.cell? ⟨w2.heap.size, 1, none⟩ = some (.int .u64 (ah.toNat : Int)) := fun zz => Later.cell (by rw [blk_cell x4]; rfl) (blk_lt x4) zz
  have qx42 : ∀ zz : Later W.heap.size W, zz.val.cell? ⟨w2.heap.size, 2, none⟩ = some (.int .u64 (al.toNat : Int)) := fun zz => Later.cell (by rw [blk_cell x4]; rfl) (blk_lt x4) zz
  have qM := Lib.hid (fun (zz : Later W.heap.size W) => max_kept HM.out (below_step HB.out zz.prop HB.out.size))
  clear x1 x2 x3 x4
  go_wp2_with fail
  try rw [← hW]
  refine wp_region_later W.heap.size (by kernel_rfl) (by kernel_rfl) ?_
  repeat (go_big_quiet_step (first
    | (go_at_call 11; (with_reducible exact Later.calls (Nat.le_refl _) (H11.out _ (qM.out _))))
    | (go_at_call 12; (with_reducible exact Later.calls (Nat.le_refl _) (H12.out _)))
    | (go_at_call 13; (with_reducible exact Later.calls (Nat.le_refl _) (H13.out _ (qM.out _))))
    | (go_at_call 12; (with_reducible exact Later.calls (Nat.le_refl _) (H12b.out _)))
    | (go_at_call 14; (with_reducible exact Later.calls (Nat.le_refl _) (H14.out _ (qM.out _))))
    | (go_at_call 15; (with_reducible exact Later.calls (Nat.le_refl _) (H15.out _)))
    | (go_at_call 16; (with_reducible exact Later.calls (Nat.le_refl _) (H16.out _ (qM.out _))))
    | (go_at_call 15; (with_reducible exact Later.calls (Nat.le_refl _) (H15b.out _)))))
  refine wpQuiet_nil ?_
  rintro wq ⟨zz, rfl⟩
  have HBQ := Lib.hid (below_step HB.out zz.prop HB.out.size)
  have x2 := blk_below zz.prop HX2.out (blk_lt HX2.out)
  have x4 := blk_below zz.prop HX4.out (blk_lt HX4.out)
  clear qx10 qx11 qx12 qx13 qx20 qx21 qx22 qx30 qx31 qx32 qx33 qx40 qx41 qx42 qM
  obtain ⟨V, hV⟩ : ∃ V, V = zz.val := ⟨_, rfl⟩
  rw [← hV] at HBQ x2 x4
  rw [← hV]
  clear hV zz HB HX1 HX2 HX3 HX4 hW
  have rx20 : ∀ zz : Later V.heap.size V, zz.val.cell? ⟨w.heap.size + 1, 0, none⟩ = some (.int .u8 (g.toNat : Int)) := fun zz => Later.cell (by rw [blk_cell x2]; rfl) (blk_lt x2) zz
  have rx21 : ∀ zz : Later V.heap.size V, zz.val.cell? ⟨w.heap.size + 1, 1, none⟩ = some (.int .u64 (ah.toNat : Int)) := fun zz => Later.cell (by rw [blk_cell x2]; rfl) (blk_lt x2) zz
  have rx22 : ∀ zz : Later V.heap.size V, zz.val.cell? ⟨w.heap.size + 1, 2, none⟩ = some (.int .u64 (al.toNat : Int)) := fun zz => Later.cell (by rw [blk_cell x2]; rfl) (blk_lt x2) zz
  have rx40 : ∀ zz : Later V.heap.size V, zz.val.cell? ⟨w2.heap.size, 0, none⟩ = some (.int .u8 (g.toNat : Int)) := fun zz => Later.cell (by rw [blk_cell x4]; rfl) (blk_lt x4) zz
  have rx41 : ∀ zz : Later V.heap.size V, zz.val.cell? ⟨w2.heap.size, 1, none⟩ = some (.int .u64 (ah.toNat : Int)) := fun zz => Later.cell (by rw [blk_cell x4]; rfl) (blk_lt x4) zz
  have rx42 : ∀ zz : Later V.heap.size V, zz.val.cell? ⟨w2.heap.size, 2, none⟩ = some (.int .u64 (al.toNat : Int)) := fun zz => Later.cell (by rw [blk_cell x4]; rfl) (blk_lt x4) zz
  have rM := Lib.hid (fun (zz : Later V.heap.size V) => max_kept HM.out (below_step HBQ.out zz.prop HBQ.out.size))
  clear x2 x4
  go_wp2_with fail
  refine wp_region_later V.heap.size (by kernel_rfl) (by kernel_rfl) ?_
  repeat (go_big_quiet_step (first
    | (go_at_call 17; (with_reducible exact Later.calls (Nat.le_refl _) (H17.out _ (rM.out _))))
    | (go_at_call 18; (with_reducible exact Later.calls (Nat.le_refl _) (H18.out _)))
    | (go_at_call 19; (with_reducible exact Later.calls (Nat.le_refl _) (H19.out _ (rM.out _))))
    | (go_at_call 20; (with_reducible exact Later.calls (Nat.le_refl _) (H20.out _)))
    | (go_at_call 21; (with_reducible exact Later.calls (Nat.le_refl _) (H21.out _ (rM.out _))))
    | (go_at_call 22; (with_reducible exact Later.calls (Nat.le_refl _) (H22.out _)))
    | (go_at_call 23; (with_reducible exact Later.calls (Nat.le_refl _) (HAW.out _ (rM.out _))))))
  refine wpQuiet_nil ?_
  rintro wq ⟨zz, rfl⟩
  have HBZ := Lib.hid (below_step HBQ.out zz.prop HBQ.out.size)
  go_wp2_with fail
  go_ret
  exact ⟨rfl, HBZ.out⟩
theorem keys_law_i (p : Pf) (a : Ad) (n c : Int) (m : Int) (w : World) (hn : ∃ x : UInt64, n = (x.toNat : Int)) (hc : ∃ x : UInt8, c = (x.toNat : Int)) (hm : MaxAt m w) :
    Calls Tryd.prog 3 #[Pfx.encP p, encA a, .int .u64 n, .int .u8 c] w fun e w' => e = .returned (.bool true) ∧ Below w.heap.size w w' := by
  obtain ⟨n, rfl⟩ := hn
  obtain ⟨c, rfl⟩ := hc
  exact keys_law p a n c m w hm
end Go.Proofs.Tryd.Rows
