/- CidrNested's walk. -/
import Derived.Test.YtmjjhnfdpiclfaaDoorCq7
import Derived.Test.YtmjjhnfdpiclfaaDoorCl1
set_option linter.unusedVariables false
set_option linter.unusedSimpArgs false
set_option maxRecDepth 100000
namespace Go.Proofs.Tryd.Cd
open Go.RowKit Go.Cph Go.Cph.Tx Go.Cph.Px Go.Cph.Cv Go.Proofs.Tryd.Tx Go.Proofs.Tryd.Pfx
open Go.Cph.Ok (ofBs)
open Go.Proofs.Tryd.Rows (boxZ)
set_option maxHeartbeats 16000000 in
theorem nested_law (p q r : Pf) (a : Ad) (w : World) (henv : Env w) : Calls Tryd.prog 3 #[encP p, encP q, encP r, encA a] w fun e w' => e = .returned (.bool true) ∧ Below w.heap.size w w' := by
  have HE := Lib.hid henv
  have HAW := Lib.hid (fun W he => awake_any W he)
  have F1 := Lib.hid (nested1 p q r)
  have F3 := Lib.hid (nested3 p q a)
  have F5 := Lib.hid (nested5 p q a)
  have F9 := Lib.hid (@nested9 p)
  have FL := Lib.hid (@last_no p)
  have FT := Lib.hid (@textP_wrong p)
  have FH := Lib.hid (fun h => @last_has p (rightP_iff.1 h))
  have C1 := Lib.hid (fun W => meets_any p q W)
  have C2 := Lib.hid (fun W => meets_any q p W)
  have C3 := Lib.hid (fun W => within_any p q W)
  have C4 := Lib.hid (fun W => within_any q p W)
  have C5 := Lib.hid (fun W => within_any q r W)
  have C6 := Lib.hid (fun W => within_any p r W)
  have C7 := Lib.hid (fun W => within_any p p W)
  have C8 := Lib.hid (fun W => hasP_any p a W)
  have C9 := Lib.hid (fun W => hasP_any q a W)
  have C10 := Lib.hid (fun W => hasP_any q p.1 W)
  have C11 := Lib.hid (fun W => hasP_any q (lastR p) W)
  have C12 := Lib.hid (fun W => hasP_any p p.1 W)
  have C13 := Lib.hid (fun W => hasP_any p (lastR p) W)
  have C14 := Lib.hid (fun W => rightP_any p W)
  have C15 := Lib.hid (fun W => last_any p W)
  have C16 := Lib.hid (fun W he => ptext_any p W he)
  have C17 := Lib.hid (fun W => Pfx.right a W)
  have C18 := Lib.hid (fun W => Pfx.less a p.1 W)
  have C19 := Lib.hid (fun W => Pfx.less (lastR p) a W)
  have hfe : ((a.1.toNat : Int) == (p.1.1.toNat : Int)) = (a.1 == p.1.1) := Pfx.u8_eq _ _
  have F9a := Lib.hid (fun h => F9.out h a)
  clear F9
  obtain ⟨m1, h1⟩ : ∃ b, b = meets p q := ⟨_, rfl⟩
  rw [← h1] at F1 F5 C1
  obtain ⟨m2, h2⟩ : ∃ b, b = meets q p := ⟨_, rfl⟩
  rw [← h2] at F1 C2
  obtain ⟨i1, h3⟩ : ∃ b, b = within p q := ⟨_, rfl⟩
  rw [← h3] at F1 F3 C3
  obtain ⟨i2, h4⟩ : ∃ b, b = within q p := ⟨_, rfl⟩
  rw [← h4] at F1 C4
  obtain ⟨i3, h5⟩ : ∃ b, b = within q r := ⟨_, rfl⟩
  rw [← h5] at F1 C5
  obtain ⟨i4, h6⟩ : ∃ b, b = within p r := ⟨_, rfl⟩
  rw [← h6] at F1 C6
  obtain ⟨i5, h7⟩ : ∃ b, b = within p p := ⟨_, rfl⟩
  rw [← h7] at F5 C7
  obtain ⟨e1, h8⟩ : ∃ b, b = hasP p a := ⟨_, rfl⟩
  rw [← h8] at F3 F5 F9a C8
  obtain ⟨e2, h9⟩ : ∃ b, b = hasP q a := ⟨_, rfl⟩
  rw [← h9] at F3 F5 C9
  obtain ⟨e3, h10⟩ : ∃ b, b = hasP q p.1 := ⟨_, rfl⟩
  rw [← h10] at F3 C10
  obtain ⟨e4, h11⟩ : ∃ b, b = hasP q (lastR p) := ⟨_, rfl⟩
  rw [← h11] at F3 C11
  obtain ⟨e5, h12⟩ : ∃ b, b = hasP p p.1 := ⟨_, rfl⟩
  rw [← h12] at FH C12
  obtain ⟨e6, h13⟩ : ∃ b, b = hasP p (lastR p) := ⟨_, rfl⟩
  rw [← h13] at FH C13
  obtain ⟨rp, h14⟩ : ∃ b, b = rightP p := ⟨_, rfl⟩
  rw [← h14] at F5 F9a FL FT FH C14
  obtain ⟨ra, h15⟩ : ∃ b, b = rightA a := ⟨_, rfl⟩
  rw [← h15] at F9a C17
  obtain ⟨l1, h16⟩ : ∃ b, b = lessA a p.1 := ⟨_, rfl⟩
  rw [← h16] at F9a C18
  obtain ⟨l2, h17⟩ : ∃ b, b = lessA (lastR p) a := ⟨_, rfl⟩
  rw [← h17] at F9a C19
  obtain ⟨fe, h18⟩ : ∃ b, b = (a.1 == p.1.1) := ⟨_, rfl⟩
  rw [← h18] at F9a hfe
  have HFE := Lib.hid hfe
  obtain ⟨L, h19⟩ : ∃ L, L = lastR p := ⟨_, rfl⟩
  rw [← h19] at FL C11 C13 C15 C19
  obtain ⟨tp, h20⟩ : ∃ t, t = textP p := ⟨_, rfl⟩
  rw [← h20] at FT C16
  clear henv hfe h1 h2 h3 h4 h5 h6 h7 h8 h9 h10 h11 h12 h13 h14 h15 h16 h17 h18 h19 h20
  obtain ⟨⟨fp, xp, yp⟩, bp⟩ := p
  obtain ⟨⟨fq, xq, yq⟩, bq⟩ := q
  obtain ⟨⟨fr, xr, yr⟩, br⟩ := r
  obtain ⟨fa, xa, ya⟩ := a
  obtain ⟨fl, xl, yl⟩ := L
  have HXp1 := Lib.hid (heap_alloc_new w (boxP ((fp, xp, yp), bp)))
  have HW1 := Lib.hid (show Below w.heap.size w (w.alloc (boxP ((fp, xp, yp), bp))) from (Below.refl _ _).alloc (Nat.le_refl _) _)
  have HXp2 := Lib.hid (blk_alloc HXp1.out (boxP ((fq, xq, yq), bq)))
  have hxq := heap_alloc_new (w.alloc (boxP ((fp, xp, yp), bp))) (boxP ((fq, xq, yq), bq))
  simp only [World.size_alloc] at hxq
  have HXq2 := Lib.hid hxq
  clear hxq
  have HW2 := Lib.hid (show Below w.heap.size w ((w.alloc (boxP ((fp, xp, yp), bp))).alloc (boxP ((fq, xq, yq), bq))) from HW1.out.alloc HW1.out.size _)
  have HXp3 := Lib.hid (blk_alloc HXp2.out (boxP ((fr, xr, yr), br)))
  have HXq3 := Lib.hid (blk_alloc HXq2.out (boxP ((fr, xr, yr), br)))
  have hxr := heap_alloc_new ((w.alloc (boxP ((fp, xp, yp), bp))).alloc (boxP ((fq, xq, yq), bq))) (boxP ((fr, xr, yr), br))
  simp only [World.size_alloc] at hxr
  have HXr3 := Lib.hid hxr
  clear hxr
  have HW3 := Lib.hid (show Below w.heap.size w (((w.alloc (boxP ((fp, xp, yp), bp))).alloc (boxP ((fq, xq, yq), bq))).alloc (boxP ((fr, xr, yr), br))) from HW2.out.alloc HW2.out.size _)
  have HXp4 := Lib.hid (blk_alloc HXp3.out (boxA (fa, xa, ya)))
  have HXq4 := Lib.hid (blk_alloc HXq3.out (boxA (fa, xa, ya)))
  have HXr4 := Lib.hid (blk_alloc HXr3.out (boxA (fa, xa, ya)))
  have hxa := heap_alloc_new (((w.alloc (boxP ((fp, xp, yp), bp))).alloc (boxP ((fq, xq, yq), bq))).alloc (boxP ((fr, xr, yr), br))) (boxA (fa, xa, ya))
  simp only [World.size_alloc] at hxa
  have HXa4 := Lib.hid hxa
  clear hxa
  have HW4 := Lib.hid (show Below w.heap.size w ((((w.alloc (boxP ((fp, xp, yp), bp))).alloc (boxP ((fq, xq, yq), bq))).alloc (boxP ((fr, xr, yr), br))).alloc (boxA (fa, xa, ya))) from HW3.out.alloc HW3.out.size _)
  go_enter Tryd.func3, Tryd.ntmps3
  go_wp2_with fail
  obtain ⟨v5, hv5⟩ : ∃ v5, v5 = ((((w.alloc (boxP ((fp, xp, yp), bp))).alloc (boxP ((fq, xq, yq), bq))).alloc (boxP ((fr, xr, yr), br))).alloc (boxA (fa, xa, ya))) := ⟨_, rfl⟩
  rw [← hv5] at HXp4 HXq4 HXr4 HXa4 HW4 ⊢
  clear hv5
  go_cut [45] (fun s9 wx => s9 = .bool false ∧ Below v5.heap.size v5 wx)
  case first => as_aux_lemma =>
    rcases F1.out with ⟨rfl, rfl, rfl, rfl, rfl⟩ | ⟨rfl, rfl, rfl, rfl⟩ | ⟨rfl, rfl, rfl, rfl⟩ | ⟨rfl, rfl, rfl, rfl⟩
    · skip
      obtain ⟨p0, p1, p2, p3⟩ := boxP_at HXp4.out
      obtain ⟨q0, q1, q2, q3⟩ := boxP_at HXq4.out
      obtain ⟨r0, r1, r2, r3⟩ := boxP_at HXr4.out
      go_wp2_with fail
      clear p0 p1 p2 p3 q0 q1 q2 q3 r0 r1 r2 r3
      obtain ⟨p0, p1, p2, p3⟩ := later_boxP HXp4.out
      obtain ⟨q0, q1, q2, q3⟩ := later_boxP HXq4.out
      obtain ⟨r0, r1, r2, r3⟩ := later_boxP HXr4.out
      refine wp_region_later v5.heap.size (by kernel_rfl) (by kernel_rfl) ?_
      repeat (go_big_quiet_step (first | (go_at_call 8; first | with_reducible exact Later.calls (Nat.le_refl _) (C1.out _) | with_reducible exact Later.calls (Nat.le_refl _) (C2.out _)) | (go_at_call 9; first | with_reducible exact Later.calls (Nat.le_refl _) (C3.out _) | with_reducible exact Later.calls (Nat.le_refl _) (C4.out _) | with_reducible exact Later.calls (Nat.le_refl _) (C5.out _) | with_reducible exact Later.calls (Nat.le_refl _) (C6.out _))))
      refine wpQuiet_nil ?_
      rintro v6 ⟨zz, rfl⟩
      have hb := zz.prop
      have HZ0 := Lib.hid hb
      clear p0 p1 p2 p3 q0 q1 q2 q3 r0 r1 r2 r3
      generalize zz.val = v6 at *
      have HXp7 := Lib.hid (blk_kept hb HXp4.out)
      have HXq7 := Lib.hid (blk_kept hb HXq4.out)
      have HXr7 := Lib.hid (blk_kept hb HXr4.out)
      have HXa7 := Lib.hid (blk_kept hb HXa4.out)
      have HW7 := Lib.hid (below_step HW4.out hb HW4.out.size)
      clear hb
      go_wp2_with fail
      go_meet
      case rel => exact ⟨rfl, HZ0.out⟩
    · skip
      obtain ⟨p0, p1, p2, p3⟩ := boxP_at HXp4.out
      obtain ⟨q0, q1, q2, q3⟩ := boxP_at HXq4.out
      obtain ⟨r0, r1, r2, r3⟩ := boxP_at HXr4.out
      go_wp2_with fail
      clear p0 p1 p2 p3 q0 q1 q2 q3 r0 r1 r2 r3
      obtain ⟨p0, p1, p2, p3⟩ := later_boxP HXp4.out
      obtain ⟨q0, q1, q2, q3⟩ := later_boxP HXq4.out
      obtain ⟨r0, r1, r2, r3⟩ := later_boxP HXr4.out
      refine wp_region_later v5.heap.size (by kernel_rfl) (by kernel_rfl) ?_
      repeat (go_big_quiet_step (first | (go_at_call 8; first | with_reducible exact Later.calls (Nat.le_refl _) (C1.out _) | with_reducible exact Later.calls (Nat.le_refl _) (C2.out _)) | (go_at_call 9; first | with_reducible exact Later.calls (Nat.le_refl _) (C3.out _) | with_reducible exact Later.calls (Nat.le_refl _) (C4.out _) | with_reducible exact Later.calls (Nat.le_refl _) (C5.out _) | with_reducible exact Later.calls (Nat.le_refl _) (C6.out _))))
      refine wpQuiet_nil ?_
      rintro v8 ⟨zz, rfl⟩
      have hb := zz.prop
      have HZ0 := Lib.hid hb
      clear p0 p1 p2 p3 q0 q1 q2 q3 r0 r1 r2 r3
      generalize zz.val = v8 at *
      have HXp9 := Lib.hid (blk_kept hb HXp4.out)
      have HXq9 := Lib.hid (blk_kept hb HXq4.out)
      have HXr9 := Lib.hid (blk_kept hb HXr4.out)
      have HXa9 := Lib.hid (blk_kept hb HXa4.out)
      have HW9 := Lib.hid (below_step HW4.out hb HW4.out.size)
      clear hb
      go_wp2_with fail
      go_meet
      case rel => exact ⟨rfl, HZ0.out⟩
    · skip
      obtain ⟨p0, p1, p2, p3⟩ := boxP_at HXp4.out
      obtain ⟨q0, q1, q2, q3⟩ := boxP_at HXq4.out
      obtain ⟨r0, r1, r2, r3⟩ := boxP_at HXr4.out
      go_wp2_with fail
      clear p0 p1 p2 p3 q0 q1 q2 q3 r0 r1 r2 r3
      obtain ⟨p0, p1, p2, p3⟩ := later_boxP HXp4.out
      obtain ⟨q0, q1, q2, q3⟩ := later_boxP HXq4.out
      obtain ⟨r0, r1, r2, r3⟩ := later_boxP HXr4.out
      refine wp_region_later v5.heap.size (by kernel_rfl) (by kernel_rfl) ?_
      repeat (go_big_quiet_step (first | (go_at_call 8; first | with_reducible exact Later.calls (Nat.le_refl _) (C1.out _) | with_reducible exact Later.calls (Nat.le_refl _) (C2.out _)) | (go_at_call 9; first | with_reducible exact Later.calls (Nat.le_refl _) (C3.out _) | with_reducible exact Later.calls (Nat.le_refl _) (C4.out _) | with_reducible exact Later.calls (Nat.le_refl _) (C5.out _) | with_reducible exact Later.calls (Nat.le_refl _) (C6.out _))))
      refine wpQuiet_nil ?_
      rintro v10 ⟨zz, rfl⟩
      have hb := zz.prop
      have HZ0 := Lib.hid hb
      clear p0 p1 p2 p3 q0 q1 q2 q3 r0 r1 r2 r3
      generalize zz.val = v10 at *
      have HXp11 := Lib.hid (blk_kept hb HXp4.out)
      have HXq11 := Lib.hid (blk_kept hb HXq4.out)
      have HXr11 := Lib.hid (blk_kept hb HXr4.out)
      have HXa11 := Lib.hid (blk_kept hb HXa4.out)
      have HW11 := Lib.hid (below_step HW4.out hb HW4.out.size)
      clear hb
      go_wp2_with fail
      go_meet
      case rel => exact ⟨rfl, HZ0.out⟩
    · skip
      obtain ⟨p0, p1, p2, p3⟩ := boxP_at HXp4.out
      obtain ⟨q0, q1, q2, q3⟩ := boxP_at HXq4.out
      obtain ⟨r0, r1, r2, r3⟩ := boxP_at HXr4.out
      go_wp2_with fail
      clear p0 p1 p2 p3 q0 q1 q2 q3 r0 r1 r2 r3
      obtain ⟨p0, p1, p2, p3⟩ := later_boxP HXp4.out
      obtain ⟨q0, q1, q2, q3⟩ := later_boxP HXq4.out
      obtain ⟨r0, r1, r2, r3⟩ := later_boxP HXr4.out
      refine wp_region_later v5.heap.size (by kernel_rfl) (by kernel_rfl) ?_
      repeat (go_big_quiet_step (first | (go_at_call 8; first | with_reducible exact Later.calls (Nat.le_refl _) (C1.out _) | with_reducible exact Later.calls (Nat.le_refl _) (C2.out _)) | (go_at_call 9; first | with_reducible exact Later.calls (Nat.le_refl _) (C3.out _) | with_reducible exact Later.calls (Nat.le_refl _) (C4.out _) | with_reducible exact Later.calls (Nat.le_refl _) (C5.out _) | with_reducible exact Later.calls (Nat.le_refl _) (C6.out _))))
      refine wpQuiet_nil ?_
      rintro v12 ⟨zz, rfl⟩
      have hb := zz.prop
      have HZ0 := Lib.hid hb
      clear p0 p1 p2 p3 q0 q1 q2 q3 r0 r1 r2 r3
      generalize zz.val = v12 at *
      have HXp13 := Lib.hid (blk_kept hb HXp4.out)
      have HXq13 := Lib.hid (blk_kept hb HXq4.out)
      have HXr13 := Lib.hid (blk_kept hb HXr4.out)
      have HXa13 := Lib.hid (blk_kept hb HXa4.out)
      have HW13 := Lib.hid (below_step HW4.out hb HW4.out.size)
      clear hb
      go_wp2_with fail
      go_meet
      case rel => exact ⟨rfl, HZ0.out⟩
  case rest =>
    obtain ⟨w14, hw14⟩ : ∃ w14, w14 = wc := ⟨_, rfl⟩
    subst hw14
    obtain ⟨rfl, hb⟩ := hcut
    have HXp15 := Lib.hid (blk_kept hb HXp4.out)
    have HXq15 := Lib.hid (blk_kept hb HXq4.out)
    have HXr15 := Lib.hid (blk_kept hb HXr4.out)
    have HXa15 := Lib.hid (blk_kept hb HXa4.out)
    have HW15 := Lib.hid (below_step HW4.out hb HW4.out.size)
    clear hb
    go_wp2_with fail
    go_cut [80] (fun s9 wx => s9 = .bool false ∧ Below w14.heap.size w14 wx)
    case first => as_aux_lemma =>
      rcases F3.out with rfl | ⟨rfl, rfl, rfl, hlt, rfl, rfl⟩ | ⟨rfl, rfl, hlt, rfl, rfl⟩
      · skip
        obtain ⟨p0, p1, p2, p3⟩ := boxP_at HXp15.out
        obtain ⟨q0, q1, q2, q3⟩ := boxP_at HXq15.out
        obtain ⟨a0, a1, a2⟩ := box_at HXa15.out
        go_wp2_with fail
        clear p0 p1 p2 p3 q0 q1 q2 q3 a0 a1 a2
        obtain ⟨p0, p1, p2, p3⟩ := later_boxP HXp15.out
        obtain ⟨q0, q1, q2, q3⟩ := later_boxP HXq15.out
        obtain ⟨a0, a1, a2⟩ := later_box HXa15.out
        refine wp_region_later w14.heap.size (by kernel_rfl) (by kernel_rfl) ?_
        repeat (go_big_quiet_step (first | (go_at_call 9; exact Later.calls (Nat.le_refl _) (C3.out _)) | (go_at_call 10; first | with_reducible exact Later.calls (Nat.le_refl _) (C8.out _) | with_reducible exact Later.calls (Nat.le_refl _) (C9.out _) | with_reducible exact Later.calls (Nat.le_refl _) (C10.out _) | with_reducible exact Later.calls (Nat.le_refl _) (C11.out _)) | (go_at_call 11; exact Later.calls (Nat.le_refl _) (C15.out _))))
        refine wpQuiet_nil ?_
        rintro v16 ⟨zz, rfl⟩
        have hb := zz.prop
        have HZ0 := Lib.hid hb
        clear p0 p1 p2 p3 q0 q1 q2 q3 a0 a1 a2
        generalize zz.val = v16 at *
        have HXp17 := Lib.hid (blk_kept hb HXp15.out)
        have HXq17 := Lib.hid (blk_kept hb HXq15.out)
        have HXr17 := Lib.hid (blk_kept hb HXr15.out)
        have HXa17 := Lib.hid (blk_kept hb HXa15.out)
        have HW17 := Lib.hid (below_step HW15.out hb HW15.out.size)
        clear hb
        go_wp2_with fail
        go_meet
        case rel => exact ⟨rfl, HZ0.out⟩
      · skip
        obtain ⟨p0, p1, p2, p3⟩ := boxP_at HXp15.out
        obtain ⟨q0, q1, q2, q3⟩ := boxP_at HXq15.out
        obtain ⟨a0, a1, a2⟩ := box_at HXa15.out
        go_wp2_with fail
        clear p0 p1 p2 p3 q0 q1 q2 q3 a0 a1 a2
        obtain ⟨p0, p1, p2, p3⟩ := later_boxP HXp15.out
        obtain ⟨q0, q1, q2, q3⟩ := later_boxP HXq15.out
        obtain ⟨a0, a1, a2⟩ := later_box HXa15.out
        have hd : decide (bp < bq) = false := decide_eq_false (by omega)
        refine wp_region_later w14.heap.size (by kernel_rfl) (by kernel_rfl) ?_
        repeat (go_big_quiet_step (first | (go_at_call 9; exact Later.calls (Nat.le_refl _) (C3.out _)) | (go_at_call 10; first | with_reducible exact Later.calls (Nat.le_refl _) (C8.out _) | with_reducible exact Later.calls (Nat.le_refl _) (C9.out _) | with_reducible exact Later.calls (Nat.le_refl _) (C10.out _) | with_reducible exact Later.calls (Nat.le_refl _) (C11.out _)) | (go_at_call 11; exact Later.calls (Nat.le_refl _) (C15.out _))))
        refine wpQuiet_nil ?_
        rintro v18 ⟨zz, rfl⟩
        have hb := zz.prop
        have HZ0 := Lib.hid hb
        clear p0 p1 p2 p3 q0 q1 q2 q3 a0 a1 a2
        generalize zz.val = v18 at *
        have HXp19 := Lib.hid (blk_kept hb HXp15.out)
        have HXq19 := Lib.hid (blk_kept hb HXq15.out)
        have HXr19 := Lib.hid (blk_kept hb HXr15.out)
        have HXa19 := Lib.hid (blk_kept hb HXa15.out)
        have HW19 := Lib.hid (below_step HW15.out hb HW15.out.size)
        clear hb
        go_wp2_with fail
        go_meet
        case rel => exact ⟨rfl, HZ0.out⟩
      · skip
        obtain ⟨p0, p1, p2, p3⟩ := boxP_at HXp15.out
        obtain ⟨q0, q1, q2, q3⟩ := boxP_at HXq15.out
        obtain ⟨a0, a1, a2⟩ := box_at HXa15.out
        go_wp2_with fail
        clear p0 p1 p2 p3 q0 q1 q2 q3 a0 a1 a2
        obtain ⟨p0, p1, p2, p3⟩ := later_boxP HXp15.out
        obtain ⟨q0, q1, q2, q3⟩ := later_boxP HXq15.out
        obtain ⟨a0, a1, a2⟩ := later_box HXa15.out
        have hd : decide (bp < bq) = false := decide_eq_false (by omega)
        refine wp_region_later w14.heap.size (by kernel_rfl) (by kernel_rfl) ?_
        repeat (go_big_quiet_step (first | (go_at_call 9; exact Later.calls (Nat.le_refl _) (C3.out _)) | (go_at_call 10; first | with_reducible exact Later.calls (Nat.le_refl _) (C8.out _) | with_reducible exact Later.calls (Nat.le_refl _) (C9.out _) | with_reducible exact Later.calls (Nat.le_refl _) (C10.out _) | with_reducible exact Later.calls (Nat.le_refl _) (C11.out _)) | (go_at_call 11; exact Later.calls (Nat.le_refl _) (C15.out _))))
        refine wpQuiet_nil ?_
        rintro v20 ⟨zz, rfl⟩
        have hb := zz.prop
        have HZ0 := Lib.hid hb
        clear p0 p1 p2 p3 q0 q1 q2 q3 a0 a1 a2
        generalize zz.val = v20 at *
        have HXp21 := Lib.hid (blk_kept hb HXp15.out)
        have HXq21 := Lib.hid (blk_kept hb HXq15.out)
        have HXr21 := Lib.hid (blk_kept hb HXr15.out)
        have HXa21 := Lib.hid (blk_kept hb HXa15.out)
        have HW21 := Lib.hid (below_step HW15.out hb HW15.out.size)
        clear hb
        go_wp2_with fail
        go_meet
        case rel => exact ⟨rfl, HZ0.out⟩
    case rest =>
      obtain ⟨w22, hw22⟩ : ∃ w22, w22 = wc := ⟨_, rfl⟩
      subst hw22
      obtain ⟨rfl, hb⟩ := hcut
      have HXp23 := Lib.hid (blk_kept hb HXp15.out)
      have HXq23 := Lib.hid (blk_kept hb HXq15.out)
      have HXr23 := Lib.hid (blk_kept hb HXr15.out)
      have HXa23 := Lib.hid (blk_kept hb HXa15.out)
      have HW23 := Lib.hid (below_step HW15.out hb HW15.out.size)
      clear hb
      go_wp2_with fail
      go_cut [102] (fun s9 wx => s9 = .bool false ∧ Below w22.heap.size w22 wx)
      case first => as_aux_lemma =>
        rcases F5.out with ⟨rfl, rfl, rfl, rfl⟩ | ⟨rfl, rfl, rfl⟩ | ⟨rfl, rfl, rfl, rfl⟩ | ⟨rfl, rfl, rfl, rfl, rfl⟩
        · skip
          obtain ⟨p0, p1, p2, p3⟩ := boxP_at HXp23.out
          obtain ⟨q0, q1, q2, q3⟩ := boxP_at HXq23.out
          obtain ⟨a0, a1, a2⟩ := box_at HXa23.out
          go_wp2_with fail
          clear p0 p1 p2 p3 q0 q1 q2 q3 a0 a1 a2
          obtain ⟨p0, p1, p2, p3⟩ := later_boxP HXp23.out
          obtain ⟨q0, q1, q2, q3⟩ := later_boxP HXq23.out
          obtain ⟨a0, a1, a2⟩ := later_box HXa23.out
          refine wp_region_later w22.heap.size (by kernel_rfl) (by kernel_rfl) ?_
          repeat (go_big_quiet_step (first | (go_at_call 12; exact Later.calls (Nat.le_refl _) (C14.out _)) | (go_at_call 9; exact Later.calls (Nat.le_refl _) (C7.out _)) | (go_at_call 10; first | with_reducible exact Later.calls (Nat.le_refl _) (C8.out _) | with_reducible exact Later.calls (Nat.le_refl _) (C9.out _)) | (go_at_call 8; exact Later.calls (Nat.le_refl _) (C1.out _))))
          refine wpQuiet_nil ?_
          rintro v24 ⟨zz, rfl⟩
          have hb := zz.prop
          have HZ0 := Lib.hid hb
          clear p0 p1 p2 p3 q0 q1 q2 q3 a0 a1 a2
          generalize zz.val = v24 at *
          have HXp25 := Lib.hid (blk_kept hb HXp23.out)
          have HXq25 := Lib.hid (blk_kept hb HXq23.out)
          have HXr25 := Lib.hid (blk_kept hb HXr23.out)
          have HXa25 := Lib.hid (blk_kept hb HXa23.out)
          have HW25 := Lib.hid (below_step HW23.out hb HW23.out.size)
          clear hb
          go_wp2_with fail
          go_meet
          case rel => exact ⟨rfl, HZ0.out⟩
        · skip
          obtain ⟨p0, p1, p2, p3⟩ := boxP_at HXp23.out
          obtain ⟨q0, q1, q2, q3⟩ := boxP_at HXq23.out
          obtain ⟨a0, a1, a2⟩ := box_at HXa23.out
          go_wp2_with fail
          clear p0 p1 p2 p3 q0 q1 q2 q3 a0 a1 a2
          obtain ⟨p0, p1, p2, p3⟩ := later_boxP HXp23.out
          obtain ⟨q0, q1, q2, q3⟩ := later_boxP HXq23.out
          obtain ⟨a0, a1, a2⟩ := later_box HXa23.out
          refine wp_region_later w22.heap.size (by kernel_rfl) (by kernel_rfl) ?_
          repeat (go_big_quiet_step (first | (go_at_call 12; exact Later.calls (Nat.le_refl _) (C14.out _)) | (go_at_call 9; exact Later.calls (Nat.le_refl _) (C7.out _)) | (go_at_call 10; first | with_reducible exact Later.calls (Nat.le_refl _) (C8.out _) | with_reducible exact Later.calls (Nat.le_refl _) (C9.out _)) | (go_at_call 8; exact Later.calls (Nat.le_refl _) (C1.out _))))
          refine wpQuiet_nil ?_
          rintro v26 ⟨zz, rfl⟩
          have hb := zz.prop
          have HZ0 := Lib.hid hb
          clear p0 p1 p2 p3 q0 q1 q2 q3 a0 a1 a2
          generalize zz.val = v26 at *
          have HXp27 := Lib.hid (blk_kept hb HXp23.out)
          have HXq27 := Lib.hid (blk_kept hb HXq23.out)
          have HXr27 := Lib.hid (blk_kept hb HXr23.out)
          have HXa27 := Lib.hid (blk_kept hb HXa23.out)
          have HW27 := Lib.hid (below_step HW23.out hb HW23.out.size)
          clear hb
          go_wp2_with fail
          go_meet
          case rel => exact ⟨rfl, HZ0.out⟩
        · skip
          obtain ⟨p0, p1, p2, p3⟩ := boxP_at HXp23.out
          obtain ⟨q0, q1, q2, q3⟩ := boxP_at HXq23.out
          obtain ⟨a0, a1, a2⟩ := box_at HXa23.out
          go_wp2_with fail
          clear p0 p1 p2 p3 q0 q1 q2 q3 a0 a1 a2
          obtain ⟨p0, p1, p2, p3⟩ := later_boxP HXp23.out
          obtain ⟨q0, q1, q2, q3⟩ := later_boxP HXq23.out
          obtain ⟨a0, a1, a2⟩ := later_box HXa23.out
          refine wp_region_later w22.heap.size (by kernel_rfl) (by kernel_rfl) ?_
          repeat (go_big_quiet_step (first | (go_at_call 12; exact Later.calls (Nat.le_refl _) (C14.out _)) | (go_at_call 9; exact Later.calls (Nat.le_refl _) (C7.out _)) | (go_at_call 10; first | with_reducible exact Later.calls (Nat.le_refl _) (C8.out _) | with_reducible exact Later.calls (Nat.le_refl _) (C9.out _)) | (go_at_call 8; exact Later.calls (Nat.le_refl _) (C1.out _))))
          refine wpQuiet_nil ?_
          rintro v28 ⟨zz, rfl⟩
          have hb := zz.prop
          have HZ0 := Lib.hid hb
          clear p0 p1 p2 p3 q0 q1 q2 q3 a0 a1 a2
          generalize zz.val = v28 at *
          have HXp29 := Lib.hid (blk_kept hb HXp23.out)
          have HXq29 := Lib.hid (blk_kept hb HXq23.out)
          have HXr29 := Lib.hid (blk_kept hb HXr23.out)
          have HXa29 := Lib.hid (blk_kept hb HXa23.out)
          have HW29 := Lib.hid (below_step HW23.out hb HW23.out.size)
          clear hb
          go_wp2_with fail
          go_meet
          case rel => exact ⟨rfl, HZ0.out⟩
        · skip
          obtain ⟨p0, p1, p2, p3⟩ := boxP_at HXp23.out
          obtain ⟨q0, q1, q2, q3⟩ := boxP_at HXq23.out
          obtain ⟨a0, a1, a2⟩ := box_at HXa23.out
          go_wp2_with fail
          clear p0 p1 p2 p3 q0 q1 q2 q3 a0 a1 a2
          obtain ⟨p0, p1, p2, p3⟩ := later_boxP HXp23.out
          obtain ⟨q0, q1, q2, q3⟩ := later_boxP HXq23.out
          obtain ⟨a0, a1, a2⟩ := later_box HXa23.out
          refine wp_region_later w22.heap.size (by kernel_rfl) (by kernel_rfl) ?_
          repeat (go_big_quiet_step (first | (go_at_call 12; exact Later.calls (Nat.le_refl _) (C14.out _)) | (go_at_call 9; exact Later.calls (Nat.le_refl _) (C7.out _)) | (go_at_call 10; first | with_reducible exact Later.calls (Nat.le_refl _) (C8.out _) | with_reducible exact Later.calls (Nat.le_refl _) (C9.out _)) | (go_at_call 8; exact Later.calls (Nat.le_refl _) (C1.out _))))
          refine wpQuiet_nil ?_
          rintro v30 ⟨zz, rfl⟩
          have hb := zz.prop
          have HZ0 := Lib.hid hb
          clear p0 p1 p2 p3 q0 q1 q2 q3 a0 a1 a2
          generalize zz.val = v30 at *
          have HXp31 := Lib.hid (blk_kept hb HXp23.out)
          have HXq31 := Lib.hid (blk_kept hb HXq23.out)
          have HXr31 := Lib.hid (blk_kept hb HXr23.out)
          have HXa31 := Lib.hid (blk_kept hb HXa23.out)
          have HW31 := Lib.hid (below_step HW23.out hb HW23.out.size)
          clear hb
          go_wp2_with fail
          go_meet
          case rel => exact ⟨rfl, HZ0.out⟩
      case rest =>
        obtain ⟨w32, hw32⟩ : ∃ w32, w32 = wc := ⟨_, rfl⟩
        subst hw32
        obtain ⟨rfl, hb⟩ := hcut
        have HXp33 := Lib.hid (blk_kept hb HXp23.out)
        have HXq33 := Lib.hid (blk_kept hb HXq23.out)
        have HXr33 := Lib.hid (blk_kept hb HXr23.out)
        have HXa33 := Lib.hid (blk_kept hb HXa23.out)
        have HW33 := Lib.hid (below_step HW23.out hb HW23.out.size)
        clear hb
        obtain ⟨p0, p1, p2, p3⟩ := boxP_at HXp33.out
        obtain ⟨q0, q1, q2, q3⟩ := boxP_at HXq33.out
        obtain ⟨a0, a1, a2⟩ := box_at HXa33.out
        go_wp2_with fail
        refine (C14.out _).mono ?_
        rintro e v34 ⟨rfl, hb⟩
        clear p0 p1 p2 p3 q0 q1 q2 q3 a0 a1 a2
        have HXp35 := Lib.hid (blk_kept hb HXp33.out)
        have HXq35 := Lib.hid (blk_kept hb HXq33.out)
        have HXr35 := Lib.hid (blk_kept hb HXr33.out)
        have HXa35 := Lib.hid (blk_kept hb HXa33.out)
        have HW35 := Lib.hid (below_step HW33.out hb HW33.out.size)
        clear hb
        obtain ⟨p0, p1, p2, p3⟩ := boxP_at HXp35.out
        obtain ⟨q0, q1, q2, q3⟩ := boxP_at HXq35.out
        obtain ⟨a0, a1, a2⟩ := box_at HXa35.out
        cases rp
        · have hN := F5.out
          obtain ⟨rfl, rfl⟩ : e1 = false ∧ m1 = false := by
            rcases hN with h | h | h | h
            · exact ⟨h.2.2.1, h.2.2.2⟩
            · cases h.1
            · cases h.1
            · cases h.1
          clear hN
          obtain rfl : tp = [] := FT.out rfl
          have hz := FL.out rfl
          simp only [zeroA, Prod.mk.injEq] at hz
          obtain ⟨rfl, rfl, rfl⟩ := hz
          have he : (ofBs []).toList.isEmpty = true := by rw [ByteArray.toList_eq]; rfl
          go_wp2_with fail
          refine (C8.out _).mono ?_
          rintro e v36 ⟨rfl, hb⟩
          clear p0 p1 p2 p3 q0 q1 q2 q3 a0 a1 a2
          have HXp37 := Lib.hid (blk_kept hb HXp35.out)
          have HXq37 := Lib.hid (blk_kept hb HXq35.out)
          have HXr37 := Lib.hid (blk_kept hb HXr35.out)
          have HXa37 := Lib.hid (blk_kept hb HXa35.out)
          have HW37 := Lib.hid (below_step HW35.out hb HW35.out.size)
          clear hb
          obtain ⟨p0, p1, p2, p3⟩ := boxP_at HXp37.out
          obtain ⟨q0, q1, q2, q3⟩ := boxP_at HXq37.out
          obtain ⟨a0, a1, a2⟩ := box_at HXa37.out
          go_wp2_with fail
          refine (C1.out _).mono ?_
          rintro e v38 ⟨rfl, hb⟩
          clear p0 p1 p2 p3 q0 q1 q2 q3 a0 a1 a2
          have HXp39 := Lib.hid (blk_kept hb HXp37.out)
          have HXq39 := Lib.hid (blk_kept hb HXq37.out)
          have HXr39 := Lib.hid (blk_kept hb HXr37.out)
          have HXa39 := Lib.hid (blk_kept hb HXa37.out)
          have HW39 := Lib.hid (below_step HW37.out hb HW37.out.size)
          clear hb
          obtain ⟨p0, p1, p2, p3⟩ := boxP_at HXp39.out
          go_wp2_with fail
          refine (C15.out _).mono ?_
          rintro e v40 ⟨rfl, hb⟩
          clear p0 p1 p2 p3
          have HXp41 := Lib.hid (blk_kept hb HXp39.out)
          have HXq41 := Lib.hid (blk_kept hb HXq39.out)
          have HXr41 := Lib.hid (blk_kept hb HXr39.out)
          have HXa41 := Lib.hid (blk_kept hb HXa39.out)
          have HW41 := Lib.hid (below_step HW39.out hb HW39.out.size)
          clear hb
          obtain ⟨p0, p1, p2, p3⟩ := boxP_at HXp41.out
          go_wp2_with fail
          refine (C16.out _ (HE.out.kept HW41.out)).mono ?_
          rintro e v42 ⟨rfl, hb⟩
          clear p0 p1 p2 p3
          have HXp43 := Lib.hid (blk_kept hb HXp41.out)
          have HXq43 := Lib.hid (blk_kept hb HXq41.out)
          have HXr43 := Lib.hid (blk_kept hb HXr41.out)
          have HXa43 := Lib.hid (blk_kept hb HXa41.out)
          have HW43 := Lib.hid (below_step HW41.out hb HW41.out.size)
          clear hb
          go_wp2_with fail
          refine (HAW.out _ (HE.out.kept HW43.out)).mono ?_
          rintro e v44 ⟨rfl, hb⟩
          have HXp45 := Lib.hid (blk_kept hb HXp43.out)
          have HXq45 := Lib.hid (blk_kept hb HXq43.out)
          have HXr45 := Lib.hid (blk_kept hb HXr43.out)
          have HXa45 := Lib.hid (blk_kept hb HXa43.out)
          have HW45 := Lib.hid (below_step HW43.out hb HW43.out.size)
          clear hb
          go_wp2_with fail
          go_ret
          exact ⟨rfl, HW45.out⟩
        · obtain ⟨hh1, hh2⟩ := FH.out rfl
          subst hh1 hh2
          have HF := Lib.hid (F9a.out rfl)
          have hfe := HFE.out
          clear F9a
          go_wp2_with fail
          rcases HF.out with ⟨rfl, rfl⟩ | ⟨rfl, rfl, rfl⟩ | ⟨rfl, rfl, rfl, rfl⟩ | ⟨rfl, rfl, rfl, rfl, rfl⟩ | ⟨rfl, rfl, rfl, rfl, rfl⟩
          all_goals
            clear p0 p1 p2 p3 q0 q1 q2 q3 a0 a1 a2
            obtain ⟨p0, p1, p2, p3⟩ := later_boxP HXp35.out
            obtain ⟨a0, a1, a2⟩ := later_box HXa35.out
            refine wp_region_later v34.heap.size (by kernel_rfl) (by kernel_rfl) ?_
            repeat (go_big_quiet_step (first | (go_at_call 10; first | with_reducible exact Later.calls (Nat.le_refl _) (C8.out _) | with_reducible exact Later.calls (Nat.le_refl _) (C12.out _) | with_reducible exact Later.calls (Nat.le_refl _) (C13.out _)) | (go_at_call 11; exact Later.calls (Nat.le_refl _) (C15.out _)) | (go_at_call 15; exact Later.calls (Nat.le_refl _) (C17.out _)) | (go_at_call 16; first | with_reducible exact Later.calls (Nat.le_refl _) (C18.out _) | with_reducible exact Later.calls (Nat.le_refl _) (C19.out _)) | (go_at_call 14; exact Later.calls (Nat.le_refl _) (HAW.out _ (HE.out.kept (below_step HW35.out (Later.prop _) HW35.out.size))))))
            refine wpQuiet_nil ?_
            rintro v46 ⟨zz, rfl⟩
            have hb := zz.prop
            have HZ0 := Lib.hid hb
            clear p0 p1 p2 p3 a0 a1 a2
            generalize zz.val = v46 at *
            have HXp47 := Lib.hid (blk_kept hb HXp35.out)
            have HXq47 := Lib.hid (blk_kept hb HXq35.out)
            have HXr47 := Lib.hid (blk_kept hb HXr35.out)
            have HXa47 := Lib.hid (blk_kept hb HXa35.out)
            have HW47 := Lib.hid (below_step HW35.out hb HW35.out.size)
            clear hb
            go_wp2_with fail
            go_ret
            exact ⟨rfl, HW47.out⟩
end Go.Proofs.Tryd.Cd
