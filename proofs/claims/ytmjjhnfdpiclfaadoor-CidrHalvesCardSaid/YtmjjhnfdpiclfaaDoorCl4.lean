/- CidrHalves' walk. -/
import Derived.Test.YtmjjhnfdpiclfaaDoorCq7
import Derived.Test.YtmjjhnfdpiclfaaDoorCl3
set_option linter.unusedVariables false
set_option linter.unusedSimpArgs false
set_option maxRecDepth 100000
namespace Go.Proofs.Tryd.Cd
open Go.RowKit Go.Cph Go.Cph.Tx Go.Cph.Px Go.Cph.Cv Go.Proofs.Tryd.Tx Go.Proofs.Tryd.Pfx
open Go.Cph.Ok (ofBs)
open Go.Proofs.Tryd.Rows (boxZ)
set_option maxHeartbeats 8000000 in
theorem halves_law_no (p : Pf) (a : Ad) (w : World) (henv : Env w) (hc : rightP p = false ∨ (rightP p = true ∧ p.2 = width p.1.1)) : Calls Tryd.prog 7 #[encP p, encA a] w fun e w' => e = .returned (.bool true) ∧ Below w.heap.size w w' := by
  have HE := Lib.hid henv
  have HAW := Lib.hid (fun W he => awake_any W he)
  have HHA := Lib.hid (show ∀ W, Calls Tryd.prog 22 #[encP p] W fun e w' => e = .returned (.tuple #[.agg #[.int .u8 0, .int .u64 0, .int .u64 0, .int .i64 0], .agg #[.int .u8 0, .int .u64 0, .int .u64 0, .int .i64 0], .bool false]) ∧ Below W.heap.size W w' from fun W => by
    have := halves_any p W
    rw [halves_none (hc.imp id (fun h => h.2))] at this
    exact this)
  have HRP := Lib.hid (fun W => rightP_any p W)
  have HLA := Lib.hid (fun W => last_any p W)
  have HF := Lib.hid (show rightP p = false ∨ (rightP p = true ∧ lastR p = p.1) from hc.imp id (fun h => ⟨h.1, last_whole (rightP_iff.1 h.1) h.2⟩))
  obtain ⟨rp, h1⟩ : ∃ b, b = rightP p := ⟨_, rfl⟩
  rw [← h1] at HRP HF
  obtain ⟨L, h2⟩ : ∃ b, b = lastR p := ⟨_, rfl⟩
  rw [← h2] at HLA HF
  clear henv hc h1 h2
  obtain ⟨⟨fp, xp, yp⟩, bp⟩ := p
  obtain ⟨fa, xa, ya⟩ := a
  obtain ⟨fl, xl, yl⟩ := L
  have HQ := Lib.hid (show ∀ W, (binOp .eql 24 (encA (fp, xp, yp)) (encA (fp, xp, yp))).run Tryd.prog W = .ok (.bool true) W from fun W => by rw [run_eqlA]; simp)
  have HXp1 := Lib.hid (heap_alloc_new w (boxP ((fp, xp, yp), bp)))
  have HW1 := Lib.hid (show Below w.heap.size w (w.alloc (boxP ((fp, xp, yp), bp))) from (Below.refl _ _).alloc (Nat.le_refl _) _)
  have HXp2 := Lib.hid (blk_alloc HXp1.out (boxA (fa, xa, ya)))
  have hxa := heap_alloc_new (w.alloc (boxP ((fp, xp, yp), bp))) (boxA (fa, xa, ya))
  simp only [World.size_alloc] at hxa
  have HXa2 := Lib.hid hxa
  clear hxa
  have HW2 := Lib.hid (show Below w.heap.size w ((w.alloc (boxP ((fp, xp, yp), bp))).alloc (boxA (fa, xa, ya))) from HW1.out.alloc HW1.out.size _)
  go_enter Tryd.func7, Tryd.ntmps7
  obtain ⟨p0, p1, p2, p3⟩ := boxP_at HXp2.out
  go_wp2_with fail
  refine (HHA.out _).mono ?_
  rintro e v3 ⟨rfl, hb⟩
  clear p0 p1 p2 p3
  have HXp4 := Lib.hid (blk_kept hb HXp2.out)
  have HXa4 := Lib.hid (blk_kept hb HXa2.out)
  have HW4 := Lib.hid (below_step HW2.out hb HW2.out.size)
  clear hb
  have HXp5 := Lib.hid (blk_alloc HXp4.out boxPZ)
  have HXa5 := Lib.hid (blk_alloc HXa4.out boxPZ)
  have HXx5 := Lib.hid (heap_alloc_new v3 boxPZ)
  have HW5 := Lib.hid (show Below w.heap.size w (v3.alloc boxPZ) from HW4.out.alloc HW4.out.size _)
  have HXp6 := Lib.hid (blk_alloc HXp5.out boxPZ)
  have HXa6 := Lib.hid (blk_alloc HXa5.out boxPZ)
  have HXx6 := Lib.hid (blk_alloc HXx5.out boxPZ)
  have hxy := heap_alloc_new (v3.alloc boxPZ) boxPZ
  simp only [World.size_alloc] at hxy
  have HXy6 := Lib.hid hxy
  clear hxy
  have HW6 := Lib.hid (show Below w.heap.size w ((v3.alloc boxPZ).alloc boxPZ) from HW5.out.alloc HW5.out.size _)
  go_wp2_with fail
  obtain ⟨p0, p1, p2, p3⟩ := later_boxP HXp6.out
  obtain ⟨x0, x1, x2, x3⟩ := later_boxPZ HXx6.out
  obtain ⟨y0, y1, y2, y3⟩ := later_boxPZ HXy6.out
  have hq := HQ.out
  rcases HF.out with rfl | ⟨rfl, he⟩
  · refine wp_region_later ((v3.alloc boxPZ).alloc boxPZ).heap.size (by kernel_rfl) (by kernel_rfl) ?_
    repeat (go_big_quiet_step (first | (go_at_call 12; exact Later.calls (Nat.le_refl _) (HRP.out _)) | (go_at_call 14; exact Later.calls (Nat.le_refl _) (HAW.out _ (HE.out.kept (below_step HW6.out (Later.prop _) HW6.out.size))))))
    refine wpQuiet_nil ?_
    rintro v7 ⟨zz, rfl⟩
    have hb := zz.prop
    have HZ0 := Lib.hid hb
    clear p0 p1 p2 p3 x0 x1 x2 x3 y0 y1 y2 y3
    generalize zz.val = v7 at *
    have HXp8 := Lib.hid (blk_kept hb HXp6.out)
    have HXa8 := Lib.hid (blk_kept hb HXa6.out)
    have HXx8 := Lib.hid (blk_kept hb HXx6.out)
    have HXy8 := Lib.hid (blk_kept hb HXy6.out)
    have HW8 := Lib.hid (below_step HW6.out hb HW6.out.size)
    clear hb
    go_wp2_with fail
    go_ret
    exact ⟨rfl, HW8.out⟩
  · simp only [Prod.mk.injEq] at he
    obtain rfl : fp = fl := he.1.symm
    obtain rfl : xp = xl := he.2.1.symm
    obtain rfl : yp = yl := he.2.2.symm
    clear he
    refine wp_region_later ((v3.alloc boxPZ).alloc boxPZ).heap.size (by kernel_rfl) (by kernel_rfl) ?_
    repeat (go_big_quiet_step (first | (go_at_call 12; exact Later.calls (Nat.le_refl _) (HRP.out _)) | (go_at_call 11; exact Later.calls (Nat.le_refl _) (HLA.out _)) | (go_at_call 14; exact Later.calls (Nat.le_refl _) (HAW.out _ (HE.out.kept (below_step HW6.out (Later.prop _) HW6.out.size))))))
    refine wpQuiet_nil ?_
    rintro v9 ⟨zz, rfl⟩
    have hb := zz.prop
    have HZ0 := Lib.hid hb
    clear p0 p1 p2 p3 x0 x1 x2 x3 y0 y1 y2 y3
    generalize zz.val = v9 at *
    have HXp10 := Lib.hid (blk_kept hb HXp6.out)
    have HXa10 := Lib.hid (blk_kept hb HXa6.out)
    have HXx10 := Lib.hid (blk_kept hb HXx6.out)
    have HXy10 := Lib.hid (blk_kept hb HXy6.out)
    have HW10 := Lib.hid (below_step HW6.out hb HW6.out.size)
    clear hb
    go_wp2_with fail
    go_ret
    exact ⟨rfl, HW10.out⟩
set_option maxHeartbeats 8000000 in
theorem halves_law_ok (p : Pf) (a : Ad) (w : World) (henv : Env w) (hr : rightP p = true) (hb : p.2 ≠ width p.1.1) : Calls Tryd.prog 7 #[encP p, encA a] w fun e w' => e = .returned (.bool true) ∧ Below w.heap.size w w' := by
  have HE := Lib.hid henv
  have HAW := Lib.hid (fun W he => awake_any W he)
  obtain ⟨A, hA, hF⟩ := halves_facts (rightP_iff.1 hr) hb a
  have HHA := Lib.hid (show ∀ W, Calls Tryd.prog 22 #[encP p] W fun e w' => e = .returned (.tuple #[encP (p.1, p.2 + 1), encP (A, p.2 + 1), .bool true]) ∧ Below W.heap.size W w' from fun W => by
    have := halves_any p W
    rw [hA] at this
    exact this)
  have HLX := Lib.hid (fun W => last_any (p.1, p.2 + 1) W)
  have HNX := Lib.hid (fun W => nextB (lastR (p.1, p.2 + 1)) _ hF.next W)
  have HLY := Lib.hid (fun W => last_any (A, p.2 + 1) W)
  rw [hF.last] at HLY
  have HLP := Lib.hid (fun W => last_any p W)
  have C1 := Lib.hid (fun W => meets_any (p.1, p.2 + 1) (A, p.2 + 1) W)
  rw [hF.mt] at C1
  have C2 := Lib.hid (fun W => within_any (p.1, p.2 + 1) p W)
  rw [hF.wx] at C2
  have C3 := Lib.hid (fun W => within_any (A, p.2 + 1) p W)
  rw [hF.wy] at C3
  have C4 := Lib.hid (fun W => before_any (p.1, p.2 + 1) (A, p.2 + 1) W)
  rw [hF.bx] at C4
  have C5 := Lib.hid (fun W => before_any p (p.1, p.2 + 1) W)
  rw [hF.bp] at C5
  have C6 := Lib.hid (fun W => hasP_any p a W)
  have C7 := Lib.hid (fun W => hasP_any (p.1, p.2 + 1) a W)
  have C8 := Lib.hid (fun W => hasP_any (A, p.2 + 1) a W)
  have HH := Lib.hid hF.has
  obtain ⟨hb0, hb1⟩ := hF.bits
  obtain ⟨LX, h1⟩ : ∃ b, b = lastR (p.1, p.2 + 1) := ⟨_, rfl⟩
  rw [← h1] at HLX HNX
  obtain ⟨LP, h2⟩ : ∃ b, b = lastR p := ⟨_, rfl⟩
  rw [← h2] at HLY HLP
  obtain ⟨e1, h3⟩ : ∃ b, b = hasP p a := ⟨_, rfl⟩
  rw [← h3] at HH C6
  obtain ⟨e2, h4⟩ : ∃ b, b = hasP (p.1, p.2 + 1) a := ⟨_, rfl⟩
  rw [← h4] at HH C7
  obtain ⟨e3, h5⟩ : ∃ b, b = hasP (A, p.2 + 1) a := ⟨_, rfl⟩
  rw [← h5] at HH C8
  have k1 : IntKind.i64.wrap (p.2 + 1) = p.2 + 1 := by rw [IntKind.wrap_i64]; omega
  obtain ⟨⟨fp, xp, yp⟩, bp⟩ := p
  obtain ⟨bx, hbx⟩ : ∃ b, b = bp + 1 := ⟨_, rfl⟩
  rw [show ((((fp, xp, yp), bp) : Pf).2 + 1) = bx from hbx.symm] at HHA HLX HLY C1 C2 C3 C4 C5 C7 C8 k1
  have k2 : IntKind.i64.wrap (bp + 1) = bx := by rw [← hbx]; exact k1
  clear henv hr hb hA hF hb0 hb1 h1 h2 h3 h4 h5 k1 hbx
  obtain ⟨fa, xa, ya⟩ := a
  obtain ⟨fy, xy, yy⟩ := A
  obtain ⟨fl, xl, yl⟩ := LX
  obtain ⟨fm, xm, ym⟩ := LP
  have HQ1 := Lib.hid (show ∀ W, (binOp .neq 24 (encA (fy, xy, yy)) (encA (fy, xy, yy))).run Tryd.prog W = .ok (.bool false) W from fun W => by rw [run_neqA]; simp)
  have HQ2 := Lib.hid (show ∀ W, (binOp .neq 24 (encA (fp, xp, yp)) (encA (fp, xp, yp))).run Tryd.prog W = .ok (.bool false) W from fun W => by rw [run_neqA]; simp)
  have HQ3 := Lib.hid (show ∀ W, (binOp .neq 24 (encA (fm, xm, ym)) (encA (fm, xm, ym))).run Tryd.prog W = .ok (.bool false) W from fun W => by rw [run_neqA]; simp)
  have HXp1 := Lib.hid (heap_alloc_new w (boxP ((fp, xp, yp), bp)))
  have HW1 := Lib.hid (show Below w.heap.size w (w.alloc (boxP ((fp, xp, yp), bp))) from (Below.refl _ _).alloc (Nat.le_refl _) _)
  have HXp2 := Lib.hid (blk_alloc HXp1.out (boxA (fa, xa, ya)))
  have hxa := heap_alloc_new (w.alloc (boxP ((fp, xp, yp), bp))) (boxA (fa, xa, ya))
  simp only [World.size_alloc] at hxa
  have HXa2 := Lib.hid hxa
  clear hxa
  have HW2 := Lib.hid (show Below w.heap.size w ((w.alloc (boxP ((fp, xp, yp), bp))).alloc (boxA (fa, xa, ya))) from HW1.out.alloc HW1.out.size _)
  go_enter Tryd.func7, Tryd.ntmps7
  obtain ⟨p0, p1, p2, p3⟩ := boxP_at HXp2.out
  go_wp2_with fail
  refine (HHA.out _).mono ?_
  rintro e v3 ⟨rfl, hb⟩
  clear p0 p1 p2 p3
  have HXp4 := Lib.hid (blk_kept hb HXp2.out)
  have HXa4 := Lib.hid (blk_kept hb HXa2.out)
  have HW4 := Lib.hid (below_step HW2.out hb HW2.out.size)
  clear hb
  have HXp5 := Lib.hid (blk_alloc HXp4.out (boxP ((fp, xp, yp), bx)))
  have HXa5 := Lib.hid (blk_alloc HXa4.out (boxP ((fp, xp, yp), bx)))
  have HXx5 := Lib.hid (heap_alloc_new v3 (boxP ((fp, xp, yp), bx)))
  have HW5 := Lib.hid (show Below w.heap.size w (v3.alloc (boxP ((fp, xp, yp), bx))) from HW4.out.alloc HW4.out.size _)
  have HXp6 := Lib.hid (blk_alloc HXp5.out (boxP ((fy, xy, yy), bx)))
  have HXa6 := Lib.hid (blk_alloc HXa5.out (boxP ((fy, xy, yy), bx)))
  have HXx6 := Lib.hid (blk_alloc HXx5.out (boxP ((fy, xy, yy), bx)))
  have hxy := heap_alloc_new (v3.alloc (boxP ((fp, xp, yp), bx))) (boxP ((fy, xy, yy), bx))
  simp only [World.size_alloc] at hxy
  have HXy6 := Lib.hid hxy
  clear hxy
  have HW6 := Lib.hid (show Below w.heap.size w ((v3.alloc (boxP ((fp, xp, yp), bx))).alloc (boxP ((fy, xy, yy), bx))) from HW5.out.alloc HW5.out.size _)
  obtain ⟨x0, x1, x2, x3⟩ := boxP_at HXx6.out
  go_wp2_with fail
  refine (HLX.out _).mono ?_
  rintro e v7 ⟨rfl, hb⟩
  clear x0 x1 x2 x3
  have HXp8 := Lib.hid (blk_kept hb HXp6.out)
  have HXa8 := Lib.hid (blk_kept hb HXa6.out)
  have HXx8 := Lib.hid (blk_kept hb HXx6.out)
  have HXy8 := Lib.hid (blk_kept hb HXy6.out)
  have HW8 := Lib.hid (below_step HW6.out hb HW6.out.size)
  clear hb
  go_wp2_with fail
  refine (HNX.out _).mono ?_
  rintro e v9 ⟨rfl, hb⟩
  have HXp10 := Lib.hid (blk_kept hb HXp8.out)
  have HXa10 := Lib.hid (blk_kept hb HXa8.out)
  have HXx10 := Lib.hid (blk_kept hb HXx8.out)
  have HXy10 := Lib.hid (blk_kept hb HXy8.out)
  have HW10 := Lib.hid (below_step HW8.out hb HW8.out.size)
  clear hb
  have HXp11 := Lib.hid (blk_alloc HXp10.out (boxA (fy, xy, yy)))
  have HXa11 := Lib.hid (blk_alloc HXa10.out (boxA (fy, xy, yy)))
  have HXx11 := Lib.hid (blk_alloc HXx10.out (boxA (fy, xy, yy)))
  have HXy11 := Lib.hid (blk_alloc HXy10.out (boxA (fy, xy, yy)))
  have HXn11 := Lib.hid (heap_alloc_new v9 (boxA (fy, xy, yy)))
  have HW11 := Lib.hid (show Below w.heap.size w (v9.alloc (boxA (fy, xy, yy))) from HW10.out.alloc HW10.out.size _)
  go_wp2_with fail
  obtain ⟨v12, hv12⟩ : ∃ v12, v12 = (v9.alloc (boxA (fy, xy, yy))) := ⟨_, rfl⟩
  rw [← hv12] at HXp11 HXa11 HXx11 HXy11 HXn11 HW11 ⊢
  clear hv12
  have hq1 := HQ1.out
  have hq2 := HQ2.out
  have hq3 := HQ3.out
  have HT := Lib.hid (show True ∨ False from .inl trivial)
  go_cut [83] (fun s9 wx => s9 = .bool false ∧ Below v12.heap.size v12 wx)
  case first =>
    rcases HT.out with - | h
    · skip
      obtain ⟨p0, p1, p2, p3⟩ := boxP_at HXp11.out
      obtain ⟨x0, x1, x2, x3⟩ := boxP_at HXx11.out
      obtain ⟨y0, y1, y2, y3⟩ := boxP_at HXy11.out
      obtain ⟨n0, n1, n2⟩ := box_at HXn11.out
      go_wp2_with fail
      clear p0 p1 p2 p3 x0 x1 x2 x3 y0 y1 y2 y3 n0 n1 n2
      obtain ⟨p0, p1, p2, p3⟩ := later_boxP HXp11.out
      obtain ⟨x0, x1, x2, x3⟩ := later_boxP HXx11.out
      obtain ⟨y0, y1, y2, y3⟩ := later_boxP HXy11.out
      obtain ⟨n0, n1, n2⟩ := later_box HXn11.out
      refine wp_region_later v12.heap.size (by kernel_rfl) (by kernel_rfl) ?_
      repeat (go_big_quiet_step ((go_at_call 11; first | with_reducible exact Later.calls (Nat.le_refl _) (HLY.out _) | with_reducible exact Later.calls (Nat.le_refl _) (HLP.out _))))
      refine wpQuiet_nil ?_
      rintro v13 ⟨zz, rfl⟩
      have hb := zz.prop
      have HZ0 := Lib.hid hb
      clear p0 p1 p2 p3 x0 x1 x2 x3 y0 y1 y2 y3 n0 n1 n2
      generalize zz.val = v13 at *
      have HXp14 := Lib.hid (blk_kept hb HXp11.out)
      have HXa14 := Lib.hid (blk_kept hb HXa11.out)
      have HXx14 := Lib.hid (blk_kept hb HXx11.out)
      have HXy14 := Lib.hid (blk_kept hb HXy11.out)
      have HXn14 := Lib.hid (blk_kept hb HXn11.out)
      have HW14 := Lib.hid (below_step HW11.out hb HW11.out.size)
      clear hb
      go_wp2_with fail
      go_meet
      case rel => exact ⟨rfl, HZ0.out⟩
    · exact h.elim
  case rest =>
    obtain ⟨w17, hw17⟩ : ∃ w17, w17 = wc := ⟨_, rfl⟩
    subst hw17
    obtain ⟨rfl, hb⟩ := hcut
    have HXp18 := Lib.hid (blk_kept hb HXp11.out)
    have HXa18 := Lib.hid (blk_kept hb HXa11.out)
    have HXx18 := Lib.hid (blk_kept hb HXx11.out)
    have HXy18 := Lib.hid (blk_kept hb HXy11.out)
    have HXn18 := Lib.hid (blk_kept hb HXn11.out)
    have HW18 := Lib.hid (below_step HW11.out hb HW11.out.size)
    clear hb
    clear hq1 hq2 hq3 k2
    obtain ⟨x0, x1, x2, x3⟩ := boxP_at HXx18.out
    obtain ⟨y0, y1, y2, y3⟩ := boxP_at HXy18.out
    obtain ⟨p0, p1, p2, p3⟩ := boxP_at HXp18.out
    go_wp2_with fail
    refine (C1.out _).mono ?_
    rintro e v19 ⟨rfl, hb⟩
    clear x0 x1 x2 x3 y0 y1 y2 y3 p0 p1 p2 p3
    have HXp20 := Lib.hid (blk_kept hb HXp18.out)
    have HXa20 := Lib.hid (blk_kept hb HXa18.out)
    have HXx20 := Lib.hid (blk_kept hb HXx18.out)
    have HXy20 := Lib.hid (blk_kept hb HXy18.out)
    have HXn20 := Lib.hid (blk_kept hb HXn18.out)
    have HW20 := Lib.hid (below_step HW18.out hb HW18.out.size)
    clear hb
    obtain ⟨x0, x1, x2, x3⟩ := boxP_at HXx20.out
    obtain ⟨y0, y1, y2, y3⟩ := boxP_at HXy20.out
    obtain ⟨p0, p1, p2, p3⟩ := boxP_at HXp20.out
    go_wp2_with fail
    refine (C2.out _).mono ?_
    rintro e v21 ⟨rfl, hb⟩
    clear x0 x1 x2 x3 y0 y1 y2 y3 p0 p1 p2 p3
    have HXp22 := Lib.hid (blk_kept hb HXp20.out)
    have HXa22 := Lib.hid (blk_kept hb HXa20.out)
    have HXx22 := Lib.hid (blk_kept hb HXx20.out)
    have HXy22 := Lib.hid (blk_kept hb HXy20.out)
    have HXn22 := Lib.hid (blk_kept hb HXn20.out)
    have HW22 := Lib.hid (below_step HW20.out hb HW20.out.size)
    clear hb
    obtain ⟨x0, x1, x2, x3⟩ := boxP_at HXx22.out
    obtain ⟨y0, y1, y2, y3⟩ := boxP_at HXy22.out
    obtain ⟨p0, p1, p2, p3⟩ := boxP_at HXp22.out
    go_wp2_with fail
    refine (C3.out _).mono ?_
    rintro e v23 ⟨rfl, hb⟩
    clear x0 x1 x2 x3 y0 y1 y2 y3 p0 p1 p2 p3
    have HXp24 := Lib.hid (blk_kept hb HXp22.out)
    have HXa24 := Lib.hid (blk_kept hb HXa22.out)
    have HXx24 := Lib.hid (blk_kept hb HXx22.out)
    have HXy24 := Lib.hid (blk_kept hb HXy22.out)
    have HXn24 := Lib.hid (blk_kept hb HXn22.out)
    have HW24 := Lib.hid (below_step HW22.out hb HW22.out.size)
    clear hb
    obtain ⟨x0, x1, x2, x3⟩ := boxP_at HXx24.out
    obtain ⟨y0, y1, y2, y3⟩ := boxP_at HXy24.out
    obtain ⟨p0, p1, p2, p3⟩ := boxP_at HXp24.out
    go_wp2_with fail
    refine (C4.out _).mono ?_
    rintro e v25 ⟨rfl, hb⟩
    clear x0 x1 x2 x3 y0 y1 y2 y3 p0 p1 p2 p3
    have HXp26 := Lib.hid (blk_kept hb HXp24.out)
    have HXa26 := Lib.hid (blk_kept hb HXa24.out)
    have HXx26 := Lib.hid (blk_kept hb HXx24.out)
    have HXy26 := Lib.hid (blk_kept hb HXy24.out)
    have HXn26 := Lib.hid (blk_kept hb HXn24.out)
    have HW26 := Lib.hid (below_step HW24.out hb HW24.out.size)
    clear hb
    obtain ⟨x0, x1, x2, x3⟩ := boxP_at HXx26.out
    obtain ⟨y0, y1, y2, y3⟩ := boxP_at HXy26.out
    obtain ⟨p0, p1, p2, p3⟩ := boxP_at HXp26.out
    go_wp2_with fail
    refine (C5.out _).mono ?_
    rintro e v27 ⟨rfl, hb⟩
    clear x0 x1 x2 x3 y0 y1 y2 y3 p0 p1 p2 p3
    have HXp28 := Lib.hid (blk_kept hb HXp26.out)
    have HXa28 := Lib.hid (blk_kept hb HXa26.out)
    have HXx28 := Lib.hid (blk_kept hb HXx26.out)
    have HXy28 := Lib.hid (blk_kept hb HXy26.out)
    have HXn28 := Lib.hid (blk_kept hb HXn26.out)
    have HW28 := Lib.hid (below_step HW26.out hb HW26.out.size)
    clear hb
    obtain ⟨x0, x1, x2, x3⟩ := boxP_at HXx28.out
    obtain ⟨y0, y1, y2, y3⟩ := boxP_at HXy28.out
    obtain ⟨p0, p1, p2, p3⟩ := boxP_at HXp28.out
    go_wp2_with fail
    clear x0 x1 x2 x3 y0 y1 y2 y3 p0 p1 p2 p3
    obtain ⟨p0, p1, p2, p3⟩ := later_boxP HXp28.out
    obtain ⟨a0, a1, a2⟩ := later_box HXa28.out
    obtain ⟨x0, x1, x2, x3⟩ := later_boxP HXx28.out
    obtain ⟨y0, y1, y2, y3⟩ := later_boxP HXy28.out
    rcases HH.out with ⟨rfl, rfl, rfl⟩ | ⟨rfl, rfl, rfl⟩ | ⟨rfl, rfl, rfl⟩
    all_goals
      refine wp_region_later v27.heap.size (by kernel_rfl) (by kernel_rfl) ?_
      repeat (go_big_quiet_step (first | (go_at_call 10; first | with_reducible exact Later.calls (Nat.le_refl _) (C6.out _) | with_reducible exact Later.calls (Nat.le_refl _) (C7.out _) | with_reducible exact Later.calls (Nat.le_refl _) (C8.out _)) | (go_at_call 14; exact Later.calls (Nat.le_refl _) (HAW.out _ (HE.out.kept (below_step HW28.out (Later.prop _) HW28.out.size))))))
      refine wpQuiet_nil ?_
      rintro v29 ⟨zz, rfl⟩
      have hb := zz.prop
      have HZ0 := Lib.hid hb
      clear p0 p1 p2 p3 a0 a1 a2 x0 x1 x2 x3 y0 y1 y2 y3
      generalize zz.val = v29 at *
      have HXp30 := Lib.hid (blk_kept hb HXp28.out)
      have HXa30 := Lib.hid (blk_kept hb HXa28.out)
      have HXx30 := Lib.hid (blk_kept hb HXx28.out)
      have HXy30 := Lib.hid (blk_kept hb HXy28.out)
      have HXn30 := Lib.hid (blk_kept hb HXn28.out)
      have HW30 := Lib.hid (below_step HW28.out hb HW28.out.size)
      clear hb
      go_wp2_with fail
      go_ret
      exact ⟨rfl, HW30.out⟩
theorem halves_law (p : Pf) (a : Ad) (w : World) (henv : Env w) : Calls Tryd.prog 7 #[encP p, encA a] w fun e w' => e = .returned (.bool true) ∧ Below w.heap.size w w' := by
  cases hr : rightP p with
  | false => exact halves_law_no p a w henv (.inl hr)
  | true =>
    by_cases hb : p.2 = width p.1.1
    · exact halves_law_no p a w henv (.inr ⟨hr, hb⟩)
    · exact halves_law_ok p a w henv hr hb
end Go.Proofs.Tryd.Cd
