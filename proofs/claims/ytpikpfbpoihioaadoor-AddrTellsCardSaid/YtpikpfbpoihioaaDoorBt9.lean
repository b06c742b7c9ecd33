/- AddrTells' walk. -/
import Derived.Test.YtpikpfbpoihioaaDoorBk2
import Derived.Test.YtpikpfbpoihioaaDoorBt5
import Derived.Test.YtpikpfbpoihioaaDoorBt8
import Derived.Deep.RegionHeldLaw
set_option linter.unusedVariables false
set_option linter.unusedSimpArgs false
set_option maxRecDepth 100000
namespace Go.Proofs.Tryd.Tx
open Go.RowKit Go.Cph Go.Cph.Tx
open Go.Cph.Ok (ofBs)
open Go.Cph.Px (Ad rightA bytesA zeroA lessA fromB fromOk)
open Go.Proofs.Tryd.Pfx (encA bcell ad_eq BsAt rbytes BytesPost encB_len)
open Go.Proofs.Tryd.Rows (boxZ boxZR)
open Go.Proofs.Tryd.Gp (nextA backA nearA NearPost)
theorem rbytesT (a : Ad) (W : World) : Calls Tryd.prog 24 #[encA a] W fun e w' => ∃ ao cap n, e = .returned (.slice ao n cap) ∧ (∀ W', Below w'.heap.size w' W' → (convert 45 9 (.slice ao n cap)).run Tryd.prog W' = .ok (.string (ofBs (bytesA a))) W') ∧ Below W.heap.size W w' := by
  refine (Pfx.rbytes a W).mono ?_
  rintro e w' ⟨v, rfl, ho, hb⟩
  rcases Nat.eq_zero_or_pos (bytesA a).length with h0 | h0
  · have hown := ho
    obtain ⟨_, h2⟩ := ho
    have hl : bytesA a = [] := List.length_eq_zero_iff.1 h0
    rcases h2 with ⟨rfl, -⟩ | ⟨g, cap, cur, rfl, -, -, -, -, -⟩
    · refine ⟨_, _, _, rfl, fun W' _ => ?_, hb⟩
      rw [hl]
      exact Nu.str_nil W'
    · refine ⟨_, _, _, rfl, fun W' _ => ?_, hb⟩
      exact run_string_of_bytes W' _ _ 5 Tryd.underlying45 Tryd.underlying5 Tryd.underlying9 g cap (bytesA a) fun j hj => by omega
  · obtain ⟨g, cap, rfl, h1, h2, h3, h4, h5⟩ := owns_shape ho h0
    refine ⟨_, cap, _, rfl, fun W' hW => ?_, hb⟩
    refine run_string_of_bytes W' _ _ 5 Tryd.underlying45 Tryd.underlying5 Tryd.underlying9 g cap (bytesA a) fun j hj => ?_
    have hj1 : j < (bytesA a).length * 1 := by omega
    refine cell_kept hW ?_
    rw [h4 j hj1]
    have := Cph.flat_at encB_len (bytesA a) j hj 0 (by decide)
    rw [Nat.mul_one, Nat.add_zero] at this
    rw [this, List.getD_eq_getElem?_getD, List.getElem?_eq_getElem hj]; rfl
set_option maxHeartbeats 16000000 in
theorem tells_law (a b : Ad) (w : World) (henv : Env w) : Calls Tryd.prog 5 #[encA a, encA b] w fun e w' => e = .returned (.bool true) ∧ Below w.heap.size w w' := by
  have HE := Lib.hid henv
  have HAW := Lib.hid (fun W he => awake_any W he)
  have HRa := Lib.hid (fun W => Pfx.right a W)
  have HRR := Lib.hid (fun W => Pfx.rright a W)
  have HLL := Lib.hid (fun W => Pfx.less a b W)
  have HRL := Lib.hid (fun W => rless a b W)
  have HYa := Lib.hid (fun W => Rows.abytes a W)
  have HRY := Lib.hid (fun W => rbytesT a W)
  have HTa := Lib.hid (fun W he => text_any a W he)
  have HRT := Lib.hid (fun W => rtext_any a W)
  have HGa := Lib.hid (fun W => given19 a W)
  have HGb := Lib.hid (fun W => given19 b W)
  obtain ⟨ra, hra⟩ : ∃ r, r = rightA a := ⟨_, rfl⟩
  obtain ⟨la, hla⟩ : ∃ r, r = lessA a b := ⟨_, rfl⟩
  obtain ⟨ta, hta⟩ : ∃ r, r = textA a := ⟨_, rfl⟩
  obtain ⟨ba, hba⟩ : ∃ r, r = bytesA a := ⟨_, rfl⟩
  rw [← hra] at HRa HRR
  rw [← hla] at HLL HRL
  rw [← hta] at HTa HRT
  rw [← hba] at HYa HRY
  obtain ⟨⟨⟨fn, xn, yn⟩, ok⟩, hrn⟩ : ∃ r, nextA a = r := ⟨_, rfl⟩
  obtain ⟨⟨⟨fp, xp, yp⟩, is⟩, hrp⟩ : ∃ r, backA a = r := ⟨_, rfl⟩
  have HN := Lib.hid (fun W => next_pair a _ hrn W)
  have HP := Lib.hid (fun W => back_pair a _ hrp W)
  have HRN := Lib.hid (fun W => show Calls Tryd.prog 19 #[encA a] W fun e w' => e = .returned (.tuple #[encA (fn, xn, yn), .bool ok]) ∧ Below W.heap.size W w' from by have := rnext_any a W; rw [hrn] at this; exact this)
  have HRP := Lib.hid (fun W => show Calls Tryd.prog 21 #[encA a] W fun e w' => e = .returned (.tuple #[encA (fp, xp, yp), .bool is]) ∧ Below W.heap.size W w' from by have := rback_any a W; rw [hrp] at this; exact this)
  have HGn := Lib.hid (fun W => given19 (fn, xn, yn) W)
  have HGp := Lib.hid (fun W => given19 (fp, xp, yp) W)
  have HQN := Lib.hid (show ∀ W, (binOp .neq 39 (encA (fn, xn, yn)) (encA (fn, xn, yn))).run Tryd.prog W = .ok (.bool false) W from fun W => by rw [run_neqR]; simp)
  have HQP := Lib.hid (show ∀ W, (binOp .neq 39 (encA (fp, xp, yp)) (encA (fp, xp, yp))).run Tryd.prog W = .ok (.bool false) W from fun W => by rw [run_neqR]; simp)
  clear hra hla hta hba hrn hrp henv
  obtain ⟨fa, xa, ya⟩ := a
  obtain ⟨fb, xb, yb⟩ := b
  have HXa1 := Lib.hid (heap_alloc_new w (boxA (fa, xa, ya)))
  have HW1 := Lib.hid (show Below w.heap.size w (w.alloc (boxA (fa, xa, ya))) from (Below.refl _ _).alloc (Nat.le_refl _) _)
  have HXa2 := Lib.hid (blk_alloc HXa1.out (boxA (fb, xb, yb)))
  have hxb := heap_alloc_new (w.alloc (boxA (fa, xa, ya))) (boxA (fb, xb, yb))
  simp only [World.size_alloc] at hxb
  have HXb2 := Lib.hid hxb
  clear hxb
  have HW2 := Lib.hid (show Below w.heap.size w ((w.alloc (boxA (fa, xa, ya))).alloc (boxA (fb, xb, yb))) from HW1.out.alloc HW1.out.size _)
  obtain ⟨a0, a1, a2⟩ := box_at HXa2.out
  obtain ⟨b0, b1, b2⟩ := box_at HXb2.out
  go_enter Tryd.func5, Tryd.ntmps5
  go_wp2_with fail
  refine (HN.out _).mono ?_
  rintro e v3 ⟨rfl, hb⟩
  clear a0 a1 a2 b0 b1 b2
  have HXa4 := Lib.hid (blk_kept hb HXa2.out)
  have HXb4 := Lib.hid (blk_kept hb HXb2.out)
  have HW4 := Lib.hid (below_step HW2.out hb HW2.out.size)
  clear hb
  have HXa5 := Lib.hid (blk_alloc HXa4.out (boxA (fn, xn, yn)))
  have HXb5 := Lib.hid (blk_alloc HXb4.out (boxA (fn, xn, yn)))
  have HXc5 := Lib.hid (heap_alloc_new v3 (boxA (fn, xn, yn)))
  have HW5 := Lib.hid (show Below w.heap.size w (v3.alloc (boxA (fn, xn, yn))) from HW4.out.alloc HW4.out.size _)
  obtain ⟨a0, a1, a2⟩ := box_at HXa5.out
  obtain ⟨b0, b1, b2⟩ := box_at HXb5.out
  obtain ⟨c0, c1, c2⟩ := box_at HXc5.out
  go_wp2_with fail
  obtain ⟨v6, hv6⟩ : ∃ v6, v6 = (v3.alloc (boxA (fn, xn, yn))) := ⟨_, rfl⟩
  rw [← hv6] at HXa5 HXb5 HXc5 HW5 ⊢
  clear hv6
  clear a0 a1 a2 b0 b1 b2 c0 c1 c2
  obtain ⟨a0, a1, a2⟩ := box_at HXa5.out
  obtain ⟨b0, b1, b2⟩ := box_at HXb5.out
  obtain ⟨c0, c1, c2⟩ := box_at HXc5.out
  go_wp2_with fail
  refine (HGa.out _).mono ?_
  rintro e v7 ⟨rfl, hb⟩
  clear a0 a1 a2 b0 b1 b2 c0 c1 c2
  have HXa8 := Lib.hid (blk_kept hb HXa5.out)
  have HXb8 := Lib.hid (blk_kept hb HXb5.out)
  have HXc8 := Lib.hid (blk_kept hb HXc5.out)
  have HW8 := Lib.hid (below_step HW5.out hb HW5.out.size)
  clear hb
  go_wp2_with fail
  refine (HRN.out _).mono ?_
  rintro e v9 ⟨rfl, hb⟩
  have HXa10 := Lib.hid (blk_kept hb HXa8.out)
  have HXb10 := Lib.hid (blk_kept hb HXb8.out)
  have HXc10 := Lib.hid (blk_kept hb HXc8.out)
  have HW10 := Lib.hid (below_step HW8.out hb HW8.out.size)
  clear hb
  have HXa11 := Lib.hid (blk_alloc HXa10.out (.cells #[.int .u8 (fn.toNat : Int), .int .u64 (xn.toNat : Int), .int .u64 (yn.toNat : Int)] 39))
  have HXb11 := Lib.hid (blk_alloc HXb10.out (.cells #[.int .u8 (fn.toNat : Int), .int .u64 (xn.toNat : Int), .int .u64 (yn.toNat : Int)] 39))
  have HXc11 := Lib.hid (blk_alloc HXc10.out (.cells #[.int .u8 (fn.toNat : Int), .int .u64 (xn.toNat : Int), .int .u64 (yn.toNat : Int)] 39))
  have HXx11 := Lib.hid (heap_alloc_new v9 (.cells #[.int .u8 (fn.toNat : Int), .int .u64 (xn.toNat : Int), .int .u64 (yn.toNat : Int)] 39))
  have HW11 := Lib.hid (show Below w.heap.size w (v9.alloc (.cells #[.int .u8 (fn.toNat : Int), .int .u64 (xn.toNat : Int), .int .u64 (yn.toNat : Int)] 39)) from HW10.out.alloc HW10.out.size _)
  obtain ⟨a0, a1, a2⟩ := box_at HXa11.out
  obtain ⟨b0, b1, b2⟩ := box_at HXb11.out
  obtain ⟨c0, c1, c2⟩ := box_at HXc11.out
  obtain ⟨x0, x1, x2⟩ := cells3_at HXx11.out
  go_wp2_with fail
  obtain ⟨v12, hv12⟩ : ∃ v12, v12 = (v9.alloc (.cells #[.int .u8 (fn.toNat : Int), .int .u64 (xn.toNat : Int), .int .u64 (yn.toNat : Int)] 39)) := ⟨_, rfl⟩
  rw [← hv12] at HXa11 HXb11 HXc11 HXx11 HW11 ⊢
  clear hv12
  clear a0 a1 a2 b0 b1 b2 c0 c1 c2 x0 x1 x2
  obtain ⟨a0, a1, a2⟩ := box_at HXa11.out
  obtain ⟨b0, b1, b2⟩ := box_at HXb11.out
  obtain ⟨c0, c1, c2⟩ := box_at HXc11.out
  obtain ⟨x0, x1, x2⟩ := cells3_at HXx11.out
  go_wp2_with fail
  refine (HP.out _).mono ?_
  rintro e v13 ⟨rfl, hb⟩
  clear a0 a1 a2 b0 b1 b2 c0 c1 c2 x0 x1 x2
  have HXa14 := Lib.hid (blk_kept hb HXa11.out)
  have HXb14 := Lib.hid (blk_kept hb HXb11.out)
  have HXc14 := Lib.hid (blk_kept hb HXc11.out)
  have HXx14 := Lib.hid (blk_kept hb HXx11.out)
  have HW14 := Lib.hid (below_step HW11.out hb HW11.out.size)
  clear hb
  have HXa15 := Lib.hid (blk_alloc HXa14.out (boxA (fp, xp, yp)))
  have HXb15 := Lib.hid (blk_alloc HXb14.out (boxA (fp, xp, yp)))
  have HXc15 := Lib.hid (blk_alloc HXc14.out (boxA (fp, xp, yp)))
  have HXx15 := Lib.hid (blk_alloc HXx14.out (boxA (fp, xp, yp)))
  have HXd15 := Lib.hid (heap_alloc_new v13 (boxA (fp, xp, yp)))
  have HW15 := Lib.hid (show Below w.heap.size w (v13.alloc (boxA (fp, xp, yp))) from HW14.out.alloc HW14.out.size _)
  obtain ⟨a0, a1, a2⟩ := box_at HXa15.out
  obtain ⟨b0, b1, b2⟩ := box_at HXb15.out
  obtain ⟨c0, c1, c2⟩ := box_at HXc15.out
  obtain ⟨x0, x1, x2⟩ := cells3_at HXx15.out
  obtain ⟨d0, d1, d2⟩ := box_at HXd15.out
  go_wp2_with fail
  obtain ⟨v16, hv16⟩ : ∃ v16, v16 = (v13.alloc (boxA (fp, xp, yp))) := ⟨_, rfl⟩
  rw [← hv16] at HXa15 HXb15 HXc15 HXx15 HXd15 HW15 ⊢
  clear hv16
  clear a0 a1 a2 b0 b1 b2 c0 c1 c2 x0 x1 x2 d0 d1 d2
  obtain ⟨a0, a1, a2⟩ := box_at HXa15.out
  obtain ⟨b0, b1, b2⟩ := box_at HXb15.out
  obtain ⟨c0, c1, c2⟩ := box_at HXc15.out
  obtain ⟨x0, x1, x2⟩ := cells3_at HXx15.out
  obtain ⟨d0, d1, d2⟩ := box_at HXd15.out
  go_wp2_with fail
  refine (HGa.out _).mono ?_
  rintro e v17 ⟨rfl, hb⟩
  clear a0 a1 a2 b0 b1 b2 c0 c1 c2 x0 x1 x2 d0 d1 d2
  have HXa18 := Lib.hid (blk_kept hb HXa15.out)
  have HXb18 := Lib.hid (blk_kept hb HXb15.out)
  have HXc18 := Lib.hid (blk_kept hb HXc15.out)
  have HXx18 := Lib.hid (blk_kept hb HXx15.out)
  have HXd18 := Lib.hid (blk_kept hb HXd15.out)
  have HW18 := Lib.hid (below_step HW15.out hb HW15.out.size)
  clear hb
  go_wp2_with fail
  refine (HRP.out _).mono ?_
  rintro e v19 ⟨rfl, hb⟩
  have HXa20 := Lib.hid (blk_kept hb HXa18.out)
  have HXb20 := Lib.hid (blk_kept hb HXb18.out)
  have HXc20 := Lib.hid (blk_kept hb HXc18.out)
  have HXx20 := Lib.hid (blk_kept hb HXx18.out)
  have HXd20 := Lib.hid (blk_kept hb HXd18.out)
  have HW20 := Lib.hid (below_step HW18.out hb HW18.out.size)
  clear hb
  have HXa21 := Lib.hid (blk_alloc HXa20.out (.cells #[.int .u8 (fp.toNat : Int), .int .u64 (xp.toNat : Int), .int .u64 (yp.toNat : Int)] 39))
  have HXb21 := Lib.hid (blk_alloc HXb20.out (.cells #[.int .u8 (fp.toNat : Int), .int .u64 (xp.toNat : Int), .int .u64 (yp.toNat : Int)] 39))
  have HXc21 := Lib.hid (blk_alloc HXc20.out (.cells #[.int .u8 (fp.toNat : Int), .int .u64 (xp.toNat : Int), .int .u64 (yp.toNat : Int)] 39))
  have HXx21 := Lib.hid (blk_alloc HXx20.out (.cells #[.int .u8 (fp.toNat : Int), .int .u64 (xp.toNat : Int), .int .u64 (yp.toNat : Int)] 39))
  have HXd21 := Lib.hid (blk_alloc HXd20.out (.cells #[.int .u8 (fp.toNat : Int), .int .u64 (xp.toNat : Int), .int .u64 (yp.toNat : Int)] 39))
  have HXy21 := Lib.hid (heap_alloc_new v19 (.cells #[.int .u8 (fp.toNat : Int), .int .u64 (xp.toNat : Int), .int .u64 (yp.toNat : Int)] 39))
  have HW21 := Lib.hid (show Below w.heap.size w (v19.alloc (.cells #[.int .u8 (fp.toNat : Int), .int .u64 (xp.toNat : Int), .int .u64 (yp.toNat : Int)] 39)) from HW20.out.alloc HW20.out.size _)
  obtain ⟨a0, a1, a2⟩ := box_at HXa21.out
  obtain ⟨b0, b1, b2⟩ := box_at HXb21.out
  obtain ⟨c0, c1, c2⟩ := box_at HXc21.out
  obtain ⟨x0, x1, x2⟩ := cells3_at HXx21.out
  obtain ⟨d0, d1, d2⟩ := box_at HXd21.out
  obtain ⟨y0, y1, y2⟩ := cells3_at HXy21.out
  go_wp2_with fail
  obtain ⟨v22, hv22⟩ : ∃ v22, v22 = (v19.alloc (.cells #[.int .u8 (fp.toNat : Int), .int .u64 (xp.toNat : Int), .int .u64 (yp.toNat : Int)] 39)) := ⟨_, rfl⟩
  rw [← hv22] at HXa21 HXb21 HXc21 HXx21 HXd21 HXy21 HW21 ⊢
  clear hv22
  clear a0 a1 a2 b0 b1 b2 c0 c1 c2 x0 x1 x2 d0 d1 d2 y0 y1 y2
  obtain ⟨a0, a1, a2⟩ := later_box HXa21.out
  obtain ⟨b0, b1, b2⟩ := later_box HXb21.out
  obtain ⟨c0, c1, c2⟩ := later_box HXc21.out
  obtain ⟨x0, x1, x2⟩ := later_cells3 HXx21.out
  obtain ⟨d0, d1, d2⟩ := later_box HXd21.out
  obtain ⟨y0, y1, y2⟩ := later_cells3 HXy21.out
  have hqn := HQN.out
  have hqp := HQP.out
  have ho1 : (ok != ok) = false := by simp
  have ho2 : (is != is) = false := by simp
  refine wp_region_later v22.heap.size (by kernel_rfl) (by kernel_rfl) ?_
  repeat (go_big_quiet_step ((go_at_call 20; first | with_reducible exact Later.calls (Nat.le_refl _) (HGn.out _) | with_reducible exact Later.calls (Nat.le_refl _) (HGp.out _))))
  refine wpQuiet_nil ?_
  rintro v23 ⟨zz, rfl⟩
  have hb := zz.prop
  have HZ0 := Lib.hid hb
  clear a0 a1 a2 b0 b1 b2 c0 c1 c2 x0 x1 x2 d0 d1 d2 y0 y1 y2
  generalize zz.val = v23 at *
  have HXa24 := Lib.hid (blk_kept hb HXa21.out)
  have HXb24 := Lib.hid (blk_kept hb HXb21.out)
  have HXc24 := Lib.hid (blk_kept hb HXc21.out)
  have HXx24 := Lib.hid (blk_kept hb HXx21.out)
  have HXd24 := Lib.hid (blk_kept hb HXd21.out)
  have HXy24 := Lib.hid (blk_kept hb HXy21.out)
  have HW24 := Lib.hid (below_step HW21.out hb HW21.out.size)
  clear hb
  clear hqn hqp ho1 ho2
  have hra2 : (ra == ra) = true := by simp
  have hla2 : (la == la) = true := by simp
  have HBc := Lib.hid (show Below v23.heap.size v23 v23 from Below.refl _ _)
  have HKA := Lib.hid (fun W (h : Below v23.heap.size v23 W) => blk_kept h HXa24.out)
  have HKB := Lib.hid (fun W (h : Below v23.heap.size v23 W) => blk_kept h HXb24.out)
  have HC6 := Lib.hid (show ∀ W, Below v23.heap.size v23 W → W.cell? ⟨w.heap.size, 0, none⟩ = some (.int .u8 (fa.toNat : Int)) ∧ W.cell? ⟨w.heap.size, 1, none⟩ = some (.int .u64 (xa.toNat : Int)) ∧ W.cell? ⟨w.heap.size, 2, none⟩ = some (.int .u64 (ya.toNat : Int)) ∧ W.cell? ⟨w.heap.size + 1, 0, none⟩ = some (.int .u8 (fb.toNat : Int)) ∧ W.cell? ⟨w.heap.size + 1, 1, none⟩ = some (.int .u64 (xb.toNat : Int)) ∧ W.cell? ⟨w.heap.size + 1, 2, none⟩ = some (.int .u64 (yb.toNat : Int)) from fun W h => by
    obtain ⟨p0, p1, p2⟩ := box_at (HKA.out W h)
    obtain ⟨p3, p4, p5⟩ := box_at (HKB.out W h)
    exact ⟨p0, p1, p2, p3, p4, p5⟩)
  have hts : ((ofBs ta).toList == (ofBs ta).toList) = true := by simp
  have hbs : ((ofBs ba).toList == (ofBs ba).toList) = true := by simp
  go_wp2_with fail
  go_region_held_law (fun W => W.cell? ⟨w.heap.size, 0, none⟩ = some (.int .u8 (fa.toNat : Int)) ∧ W.cell? ⟨w.heap.size, 1, none⟩ = some (.int .u64 (xa.toNat : Int)) ∧ W.cell? ⟨w.heap.size, 2, none⟩ = some (.int .u64 (ya.toNat : Int)) ∧ W.cell? ⟨w.heap.size + 1, 0, none⟩ = some (.int .u8 (fb.toNat : Int)) ∧ W.cell? ⟨w.heap.size + 1, 1, none⟩ = some (.int .u64 (xb.toNat : Int)) ∧ W.cell? ⟨w.heap.size + 1, 2, none⟩ = some (.int .u64 (yb.toNat : Int))) ((refine HC6.out _ ?_; first | exact HBc.out | exact HBc.out.drew))
    (first
      | (go_at_call 10; (with_reducible refine (HRa.out _).mono ?_); rintro e W0 ⟨rfl, hb⟩; (replace HBc := Lib.hid (show Below v23.heap.size v23 W0 from by first | exact below_step HBc.out hb HBc.out.size | exact below_step HBc.out.drew hb HBc.out.drew.size)); clear hb; obtain ⟨p0, p1, p2, p3, p4, p5⟩ := HC6.out _ HBc.out)
      | (go_at_call 20; (first | with_reducible refine (HGa.out _).mono ?_ | with_reducible refine (HGb.out _).mono ?_); rintro e W0 ⟨rfl, hb⟩; (replace HBc := Lib.hid (show Below v23.heap.size v23 W0 from by first | exact below_step HBc.out hb HBc.out.size | exact below_step HBc.out.drew hb HBc.out.drew.size)); clear hb; obtain ⟨p0, p1, p2, p3, p4, p5⟩ := HC6.out _ HBc.out)
      | (go_at_call 22; (with_reducible refine (HRR.out _).mono ?_); rintro e W0 ⟨rfl, hb⟩; (replace HBc := Lib.hid (show Below v23.heap.size v23 W0 from by first | exact below_step HBc.out hb HBc.out.size | exact below_step HBc.out.drew hb HBc.out.drew.size)); clear hb; obtain ⟨p0, p1, p2, p3, p4, p5⟩ := HC6.out _ HBc.out)
      | (go_at_call 9; (with_reducible refine (HLL.out _).mono ?_); rintro e W0 ⟨rfl, hb⟩; (replace HBc := Lib.hid (show Below v23.heap.size v23 W0 from by first | exact below_step HBc.out hb HBc.out.size | exact below_step HBc.out.drew hb HBc.out.drew.size)); clear hb; obtain ⟨p0, p1, p2, p3, p4, p5⟩ := HC6.out _ HBc.out)
      | (go_at_call 23; (with_reducible refine (HRL.out _).mono ?_); rintro e W0 ⟨rfl, hb⟩; (replace HBc := Lib.hid (show Below v23.heap.size v23 W0 from by first | exact below_step HBc.out hb HBc.out.size | exact below_step HBc.out.drew hb HBc.out.drew.size)); clear hb; obtain ⟨p0, p1, p2, p3, p4, p5⟩ := HC6.out _ HBc.out)
      | (go_at_call 12; (with_reducible refine (HYa.out _).mono ?_); rintro e W0 ⟨rfl, hb⟩; (replace HBc := Lib.hid (show Below v23.heap.size v23 W0 from by first | exact below_step HBc.out hb HBc.out.size | exact below_step HBc.out.drew hb HBc.out.drew.size)); clear hb; obtain ⟨p0, p1, p2, p3, p4, p5⟩ := HC6.out _ HBc.out)
      | (go_at_call 24; (with_reducible refine (HRY.out _).mono ?_); rintro e W0 ⟨ao, cap, n, rfl, hcv, hb⟩; (have hcv0 := hcv _ (Below.refl _ _)); clear hcv; (replace HBc := Lib.hid (show Below v23.heap.size v23 W0 from by first | exact below_step HBc.out hb HBc.out.size | exact below_step HBc.out.drew hb HBc.out.drew.size)); clear hb; obtain ⟨p0, p1, p2, p3, p4, p5⟩ := HC6.out _ HBc.out)
      | (go_at_call 15; (with_reducible refine (HTa.out _ (HE.out.kept (below_step HW24.out (by first | exact HBc.out | exact HBc.out.drew) HW24.out.size))).mono ?_); rintro e W0 ⟨rfl, hb⟩; (replace HBc := Lib.hid (show Below v23.heap.size v23 W0 from by first | exact below_step HBc.out hb HBc.out.size | exact below_step HBc.out.drew hb HBc.out.drew.size)); clear hb; obtain ⟨p0, p1, p2, p3, p4, p5⟩ := HC6.out _ HBc.out)
      | (go_at_call 25; (with_reducible refine (HRT.out _).mono ?_); rintro e W0 ⟨rfl, hb⟩; (replace HBc := Lib.hid (show Below v23.heap.size v23 W0 from by first | exact below_step HBc.out hb HBc.out.size | exact below_step HBc.out.drew hb HBc.out.drew.size)); clear hb; obtain ⟨p0, p1, p2, p3, p4, p5⟩ := HC6.out _ HBc.out)
      | (go_at_call 11; (with_reducible refine (HAW.out _ (HE.out.kept (below_step HW24.out (by first | exact HBc.out | exact HBc.out.drew) HW24.out.size))).mono ?_); rintro e W0 ⟨rfl, hb⟩; (replace HBc := Lib.hid (show Below v23.heap.size v23 W0 from by first | exact below_step HBc.out hb HBc.out.size | exact below_step HBc.out.drew hb HBc.out.drew.size)); clear hb; obtain ⟨p0, p1, p2, p3, p4, p5⟩ := HC6.out _ HBc.out))
  all_goals go_wp2_with fail
  all_goals go_ret
  all_goals exact ⟨rfl, below_step HW24.out (by first | exact HBc.out | exact HBc.out.drew) HW24.out.size⟩
end Go.Proofs.Tryd.Tx
