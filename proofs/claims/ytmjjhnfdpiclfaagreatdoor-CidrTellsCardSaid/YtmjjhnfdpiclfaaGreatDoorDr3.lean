/- CidrTells' walk. -/
import Derived.Test.YtmjjhnfdpiclfaaGreatDoorDq3
import Derived.Test.YtmjjhnfdpiclfaaGreatDoorDq2
set_option linter.unusedVariables false
set_option linter.unusedSimpArgs false
set_option maxRecDepth 100000
namespace Go.Proofs.Tryz.Cd
open Go.RowKit Go.Cph Go.Cph.Tx Go.Cph.Px Go.Cph.Cv Go.Proofs.Tryz.Tx Go.Proofs.Tryz.Pfx
open Go.Cph.Ok (ofBs)
open Go.Proofs.Tryz.Rows (boxZ boxZR)
set_option maxHeartbeats 16000000 in
theorem tells_law (p q : Pf) (a : Ad) (w : World) (henv : Env w) : Calls Tryz.prog 5 #[encP p, encP q, encA a] w fun e w' => e = .returned (.bool true) ∧ Below w.heap.size w w' := by
  have HE := Lib.hid henv
  have HAW := Lib.hid (fun W he => awake_any W he)
  clear henv
  have HGP := Lib.hid (fun W => given20 p W)
  have HGQ := Lib.hid (fun W => given20 q W)
  have HGA := Lib.hid (fun W => Tx.given19 a W)
  have HGL := Lib.hid (fun W => Tx.given19 (lastR p) W)
  have HHP := Lib.hid (show ∀ W, Calls Tryz.prog 15 #[encP p] W fun e w' => e = .returned (.tuple #[encP (halvesP p).1, encP (halvesP p).2.1, .bool (halvesP p).2.2]) ∧ Below W.heap.size W w' from fun W => halves_any p W)
  have HHR := Lib.hid (show ∀ W, Calls Tryz.prog 16 #[encP p] W fun e w' => e = .returned (.tuple #[encP (halvesP p).1, encP (halvesP p).2.1, .bool (halvesP p).2.2]) ∧ Below W.heap.size W w' from fun W => rhalves p W)
  have HL1 := Lib.hid (fun W => last_any p W)
  have HL2 := Lib.hid (fun W => rlast p W)
  have HT1 := Lib.hid (fun W he => ptext_any p W he)
  have HT2 := Lib.hid (fun W => rtext20 p W)
  have HR1 := Lib.hid (fun W => rightP_any p W)
  have HR2 := Lib.hid (fun W => rrightP p W)
  have HH1 := Lib.hid (fun W => hasP_any p a W)
  have HH2 := Lib.hid (fun W => rhasP p a W)
  have HB1 := Lib.hid (fun W => before_any p q W)
  have HB2 := Lib.hid (fun W => rbefore p q W)
  have HWI1 := Lib.hid (fun W => within_any p q W)
  have HWI2 := Lib.hid (fun W => rwithin p q W)
  have HM1 := Lib.hid (fun W => meets_any p q W)
  have HM2 := Lib.hid (fun W => rmeets p q W)
  obtain ⟨X, h_0⟩ : ∃ r, r = (halvesP p).1 := ⟨_, rfl⟩
  rw [← h_0] at HHP HHR
  clear h_0
  obtain ⟨Y, h_1⟩ : ∃ r, r = (halvesP p).2.1 := ⟨_, rfl⟩
  rw [← h_1] at HHP HHR
  clear h_1
  obtain ⟨ok, h_2⟩ : ∃ r, r = (halvesP p).2.2 := ⟨_, rfl⟩
  rw [← h_2] at HHP HHR
  clear h_2
  obtain ⟨L, h_3⟩ : ∃ r, r = lastR p := ⟨_, rfl⟩
  rw [← h_3] at HL1 HL2 HGL
  clear h_3
  obtain ⟨tx, h_4⟩ : ∃ r, r = ofBs (textP p) := ⟨_, rfl⟩
  rw [← h_4] at HT1 HT2
  clear h_4
  obtain ⟨r, h_5⟩ : ∃ r, r = rightP p := ⟨_, rfl⟩
  rw [← h_5] at HR1 HR2
  clear h_5
  obtain ⟨h, h_6⟩ : ∃ r, r = hasP p a := ⟨_, rfl⟩
  rw [← h_6] at HH1 HH2
  clear h_6
  obtain ⟨bf, h_7⟩ : ∃ r, r = before p q := ⟨_, rfl⟩
  rw [← h_7] at HB1 HB2
  clear h_7
  obtain ⟨wi, h_8⟩ : ∃ r, r = within p q := ⟨_, rfl⟩
  rw [← h_8] at HWI1 HWI2
  clear h_8
  obtain ⟨me, h_9⟩ : ∃ r, r = meets p q := ⟨_, rfl⟩
  rw [← h_9] at HM1 HM2
  clear h_9
  have HGX := Lib.hid (fun W => given20 X W)
  have HGY := Lib.hid (fun W => given20 Y W)
  have HQX := Lib.hid (show ∀ W, (binOp .neq 32 (encP X) (encP X)).run Tryz.prog W = .ok (.bool false) W from fun W => by rw [Pfx.run_neqR]; simp)
  have HQY := Lib.hid (show ∀ W, (binOp .neq 32 (encP Y) (encP Y)).run Tryz.prog W = .ok (.bool false) W from fun W => by rw [Pfx.run_neqR]; simp)
  have HQL := Lib.hid (show ∀ W, (binOp .neq 30 (encA L) (encA L)).run Tryz.prog W = .ok (.bool false) W from fun W => by rw [Tx.run_neqR]; simp)
  have HEok := Lib.hid (show (ok != ok) = false from by simp)
  have HEr := Lib.hid (show (r != r) = false from by simp)
  have HEh := Lib.hid (show (h != h) = false from by simp)
  have HEbf := Lib.hid (show (bf != bf) = false from by simp)
  have HEwi := Lib.hid (show (wi == wi) = true from by simp)
  have HEme := Lib.hid (show (me == me) = true from by simp)
  have HEtx := Lib.hid (show (tx.toList != tx.toList) = false from by simp)
  obtain ⟨⟨fp, xp, yp⟩, bp⟩ := p
  obtain ⟨⟨fq, xq, yq⟩, bq⟩ := q
  obtain ⟨fa, xa, ya⟩ := a
  obtain ⟨⟨fX, xX, yX⟩, bX⟩ := X
  obtain ⟨⟨fY, xY, yY⟩, bY⟩ := Y
  obtain ⟨fL, xL, yL⟩ := L
  have HXp1 := Lib.hid (heap_alloc_new w (boxP ((fp, xp, yp), bp)))
  have HW1 := Lib.hid (show Below w.heap.size w (w.alloc (boxP ((fp, xp, yp), bp))) from (Below.refl _ _).alloc (Nat.le_refl _) _)
  have HXp2 := Lib.hid (blk_alloc HXp1.out (boxP ((fq, xq, yq), bq)))
  have hxq := heap_alloc_new (w.alloc (boxP ((fp, xp, yp), bp))) (boxP ((fq, xq, yq), bq))
  simp only [World.size_alloc] at hxq
  have HXq2 := Lib.hid hxq
  clear hxq
  have HW2 := Lib.hid (show Below w.heap.size w ((w.alloc (boxP ((fp, xp, yp), bp))).alloc (boxP ((fq, xq, yq), bq))) from HW1.out.alloc HW1.out.size _)
  have HXp3 := Lib.hid (blk_alloc HXp2.out (boxA (fa, xa, ya)))
  have HXq3 := Lib.hid (blk_alloc HXq2.out (boxA (fa, xa, ya)))
  have hxa := heap_alloc_new ((w.alloc (boxP ((fp, xp, yp), bp))).alloc (boxP ((fq, xq, yq), bq))) (boxA (fa, xa, ya))
  simp only [World.size_alloc] at hxa
  have HXa3 := Lib.hid hxa
  clear hxa
  have HW3 := Lib.hid (show Below w.heap.size w (((w.alloc (boxP ((fp, xp, yp), bp))).alloc (boxP ((fq, xq, yq), bq))).alloc (boxA (fa, xa, ya))) from HW2.out.alloc HW2.out.size _)
  go_enter Tryz.func5, Tryz.ntmps5
  obtain ⟨p0, p1, p2, p3⟩ := boxP_at HXp3.out
  obtain ⟨q0, q1, q2, q3⟩ := boxP_at HXq3.out
  go_wp2_with fail
  refine (HGP.out _).mono ?_
  rintro e v4 ⟨rfl, hb⟩
  clear p0 p1 p2 p3 q0 q1 q2 q3
  have HXp5 := Lib.hid (blk_kept hb HXp3.out)
  have HXq5 := Lib.hid (blk_kept hb HXq3.out)
  have HXa5 := Lib.hid (blk_kept hb HXa3.out)
  have HW5 := Lib.hid (below_step HW3.out hb HW3.out.size)
  clear hb
  have HXp6 := Lib.hid (blk_alloc HXp5.out (boxRP ((fp, xp, yp), bp)))
  have HXq6 := Lib.hid (blk_alloc HXq5.out (boxRP ((fp, xp, yp), bp)))
  have HXa6 := Lib.hid (blk_alloc HXa5.out (boxRP ((fp, xp, yp), bp)))
  have HXv6 := Lib.hid (heap_alloc_new v4 (boxRP ((fp, xp, yp), bp)))
  have HW6 := Lib.hid (show Below w.heap.size w (v4.alloc (boxRP ((fp, xp, yp), bp))) from HW5.out.alloc HW5.out.size _)
  obtain ⟨p0, p1, p2, p3⟩ := boxP_at HXp6.out
  obtain ⟨q0, q1, q2, q3⟩ := boxP_at HXq6.out
  go_wp2_with fail
  refine (HGQ.out _).mono ?_
  rintro e v7 ⟨rfl, hb⟩
  clear p0 p1 p2 p3 q0 q1 q2 q3
  have HXp8 := Lib.hid (blk_kept hb HXp6.out)
  have HXq8 := Lib.hid (blk_kept hb HXq6.out)
  have HXa8 := Lib.hid (blk_kept hb HXa6.out)
  have HXv8 := Lib.hid (blk_kept hb HXv6.out)
  have HW8 := Lib.hid (below_step HW6.out hb HW6.out.size)
  clear hb
  have HXp9 := Lib.hid (blk_alloc HXp8.out (boxRP ((fq, xq, yq), bq)))
  have HXq9 := Lib.hid (blk_alloc HXq8.out (boxRP ((fq, xq, yq), bq)))
  have HXa9 := Lib.hid (blk_alloc HXa8.out (boxRP ((fq, xq, yq), bq)))
  have HXv9 := Lib.hid (blk_alloc HXv8.out (boxRP ((fq, xq, yq), bq)))
  have HXw9 := Lib.hid (heap_alloc_new v7 (boxRP ((fq, xq, yq), bq)))
  have HW9 := Lib.hid (show Below w.heap.size w (v7.alloc (boxRP ((fq, xq, yq), bq))) from HW8.out.alloc HW8.out.size _)
  obtain ⟨p0, p1, p2, p3⟩ := boxP_at HXp9.out
  obtain ⟨v0, v1, v2, v3⟩ := boxRP_at HXv9.out
  go_wp2_with fail
  refine (HHP.out _).mono ?_
  rintro e v10 ⟨rfl, hb⟩
  clear p0 p1 p2 p3 v0 v1 v2 v3
  have HXp11 := Lib.hid (blk_kept hb HXp9.out)
  have HXq11 := Lib.hid (blk_kept hb HXq9.out)
  have HXa11 := Lib.hid (blk_kept hb HXa9.out)
  have HXv11 := Lib.hid (blk_kept hb HXv9.out)
  have HXw11 := Lib.hid (blk_kept hb HXw9.out)
  have HW11 := Lib.hid (below_step HW9.out hb HW9.out.size)
  clear hb
  have HXp12 := Lib.hid (blk_alloc HXp11.out (boxP ((fX, xX, yX), bX)))
  have HXq12 := Lib.hid (blk_alloc HXq11.out (boxP ((fX, xX, yX), bX)))
  have HXa12 := Lib.hid (blk_alloc HXa11.out (boxP ((fX, xX, yX), bX)))
  have HXv12 := Lib.hid (blk_alloc HXv11.out (boxP ((fX, xX, yX), bX)))
  have HXw12 := Lib.hid (blk_alloc HXw11.out (boxP ((fX, xX, yX), bX)))
  have HXx12 := Lib.hid (heap_alloc_new v10 (boxP ((fX, xX, yX), bX)))
  have HW12 := Lib.hid (show Below w.heap.size w (v10.alloc (boxP ((fX, xX, yX), bX))) from HW11.out.alloc HW11.out.size _)
  have HXp13 := Lib.hid (blk_alloc HXp12.out (boxP ((fY, xY, yY), bY)))
  have HXq13 := Lib.hid (blk_alloc HXq12.out (boxP ((fY, xY, yY), bY)))
  have HXa13 := Lib.hid (blk_alloc HXa12.out (boxP ((fY, xY, yY), bY)))
  have HXv13 := Lib.hid (blk_alloc HXv12.out (boxP ((fY, xY, yY), bY)))
  have HXw13 := Lib.hid (blk_alloc HXw12.out (boxP ((fY, xY, yY), bY)))
  have HXx13 := Lib.hid (blk_alloc HXx12.out (boxP ((fY, xY, yY), bY)))
  have hxy := heap_alloc_new (v10.alloc (boxP ((fX, xX, yX), bX))) (boxP ((fY, xY, yY), bY))
  simp only [World.size_alloc] at hxy
  have HXy13 := Lib.hid hxy
  clear hxy
  have HW13 := Lib.hid (show Below w.heap.size w ((v10.alloc (boxP ((fX, xX, yX), bX))).alloc (boxP ((fY, xY, yY), bY))) from HW12.out.alloc HW12.out.size _)
  obtain ⟨p0, p1, p2, p3⟩ := boxP_at HXp13.out
  obtain ⟨v0, v1, v2, v3⟩ := boxRP_at HXv13.out
  go_wp2_with fail
  refine (HHR.out _).mono ?_
  rintro e v14 ⟨rfl, hb⟩
  clear p0 p1 p2 p3 v0 v1 v2 v3
  have HXp15 := Lib.hid (blk_kept hb HXp13.out)
  have HXq15 := Lib.hid (blk_kept hb HXq13.out)
  have HXa15 := Lib.hid (blk_kept hb HXa13.out)
  have HXv15 := Lib.hid (blk_kept hb HXv13.out)
  have HXw15 := Lib.hid (blk_kept hb HXw13.out)
  have HXx15 := Lib.hid (blk_kept hb HXx13.out)
  have HXy15 := Lib.hid (blk_kept hb HXy13.out)
  have HW15 := Lib.hid (below_step HW13.out hb HW13.out.size)
  clear hb
  have HXp16 := Lib.hid (blk_alloc HXp15.out (boxRP ((fX, xX, yX), bX)))
  have HXq16 := Lib.hid (blk_alloc HXq15.out (boxRP ((fX, xX, yX), bX)))
  have HXa16 := Lib.hid (blk_alloc HXa15.out (boxRP ((fX, xX, yX), bX)))
  have HXv16 := Lib.hid (blk_alloc HXv15.out (boxRP ((fX, xX, yX), bX)))
  have HXw16 := Lib.hid (blk_alloc HXw15.out (boxRP ((fX, xX, yX), bX)))
  have HXx16 := Lib.hid (blk_alloc HXx15.out (boxRP ((fX, xX, yX), bX)))
  have HXy16 := Lib.hid (blk_alloc HXy15.out (boxRP ((fX, xX, yX), bX)))
  have HXb16 := Lib.hid (heap_alloc_new v14 (boxRP ((fX, xX, yX), bX)))
  have HW16 := Lib.hid (show Below w.heap.size w (v14.alloc (boxRP ((fX, xX, yX), bX))) from HW15.out.alloc HW15.out.size _)
  have HXp17 := Lib.hid (blk_alloc HXp16.out (boxRP ((fY, xY, yY), bY)))
  have HXq17 := Lib.hid (blk_alloc HXq16.out (boxRP ((fY, xY, yY), bY)))
  have HXa17 := Lib.hid (blk_alloc HXa16.out (boxRP ((fY, xY, yY), bY)))
  have HXv17 := Lib.hid (blk_alloc HXv16.out (boxRP ((fY, xY, yY), bY)))
  have HXw17 := Lib.hid (blk_alloc HXw16.out (boxRP ((fY, xY, yY), bY)))
  have HXx17 := Lib.hid (blk_alloc HXx16.out (boxRP ((fY, xY, yY), bY)))
  have HXy17 := Lib.hid (blk_alloc HXy16.out (boxRP ((fY, xY, yY), bY)))
  have HXb17 := Lib.hid (blk_alloc HXb16.out (boxRP ((fY, xY, yY), bY)))
  have hxc := heap_alloc_new (v14.alloc (boxRP ((fX, xX, yX), bX))) (boxRP ((fY, xY, yY), bY))
  simp only [World.size_alloc] at hxc
  have HXc17 := Lib.hid hxc
  clear hxc
  have HW17 := Lib.hid (show Below w.heap.size w ((v14.alloc (boxRP ((fX, xX, yX), bX))).alloc (boxRP ((fY, xY, yY), bY))) from HW16.out.alloc HW16.out.size _)
  go_wp2_with fail
  obtain ⟨v18, hv18⟩ : ∃ v18, v18 = ((v14.alloc (boxRP ((fX, xX, yX), bX))).alloc (boxRP ((fY, xY, yY), bY))) := ⟨_, rfl⟩
  rw [← hv18] at HXp17 HXq17 HXa17 HXv17 HXw17 HXx17 HXy17 HXb17 HXc17 HW17 ⊢
  clear hv18
  obtain ⟨p0, p1, p2, p3⟩ := later_boxP HXp17.out
  obtain ⟨v0, v1, v2, v3⟩ := later_boxRP HXv17.out
  obtain ⟨x0, x1, x2, x3⟩ := later_boxP HXx17.out
  obtain ⟨y0, y1, y2, y3⟩ := later_boxP HXy17.out
  obtain ⟨b0, b1, b2, b3⟩ := later_boxRP HXb17.out
  obtain ⟨c0, c1, c2, c3⟩ := later_boxRP HXc17.out
  have hqx := HQX.out
  have hqy := HQY.out
  have hql := HQL.out
  have heok := HEok.out
  have hetx := HEtx.out
  refine wp_region_later v18.heap.size (by kernel_rfl) (by kernel_rfl) ?_
  repeat (go_big_quiet_step (first | (go_at_call 11; first | with_reducible exact Later.calls (Nat.le_refl _) (HGX.out _) | with_reducible exact Later.calls (Nat.le_refl _) (HGY.out _)) | (go_at_call 8; exact Later.calls (Nat.le_refl _) (HGL.out _)) | (go_at_call 17; exact Later.calls (Nat.le_refl _) (HL1.out _)) | (go_at_call 18; exact Later.calls (Nat.le_refl _) (HL2.out _)) | (go_at_call 19; exact Later.calls (Nat.le_refl _) (HT1.out _ (HE.out.kept (below_step HW17.out (Later.prop _) HW17.out.size)))) | (go_at_call 20; exact Later.calls (Nat.le_refl _) (HT2.out _))))
  refine wpQuiet_nil ?_
  rintro v19 ⟨zz, rfl⟩
  have hb := zz.prop
  have HZ0 := Lib.hid hb
  clear p0 p1 p2 p3 v0 v1 v2 v3 x0 x1 x2 x3 y0 y1 y2 y3 b0 b1 b2 b3 c0 c1 c2 c3
  generalize zz.val = v19 at *
  have HXp20 := Lib.hid (blk_kept hb HXp17.out)
  have HXq20 := Lib.hid (blk_kept hb HXq17.out)
  have HXa20 := Lib.hid (blk_kept hb HXa17.out)
  have HXv20 := Lib.hid (blk_kept hb HXv17.out)
  have HXw20 := Lib.hid (blk_kept hb HXw17.out)
  have HXx20 := Lib.hid (blk_kept hb HXx17.out)
  have HXy20 := Lib.hid (blk_kept hb HXy17.out)
  have HXb20 := Lib.hid (blk_kept hb HXb17.out)
  have HXc20 := Lib.hid (blk_kept hb HXc17.out)
  have HW20 := Lib.hid (below_step HW17.out hb HW17.out.size)
  clear hb
  clear hqx hqy hql heok hetx
  go_wp2_with fail
  obtain ⟨p0, p1, p2, p3⟩ := later_boxP HXp20.out
  obtain ⟨q0, q1, q2, q3⟩ := later_boxP HXq20.out
  obtain ⟨a0, a1, a2⟩ := later_box HXa20.out
  obtain ⟨v0, v1, v2, v3⟩ := later_boxRP HXv20.out
  obtain ⟨w0, w1, w2, w3⟩ := later_boxRP HXw20.out
  have her := HEr.out
  have heh := HEh.out
  have heb := HEbf.out
  refine wp_region_later v19.heap.size (by kernel_rfl) (by kernel_rfl) ?_
  repeat (go_big_quiet_step (first | (go_at_call 21; exact Later.calls (Nat.le_refl _) (HR1.out _)) | (go_at_call 22; exact Later.calls (Nat.le_refl _) (HR2.out _)) | (go_at_call 23; exact Later.calls (Nat.le_refl _) (HH1.out _)) | (go_at_call 24; exact Later.calls (Nat.le_refl _) (HH2.out _)) | (go_at_call 8; exact Later.calls (Nat.le_refl _) (HGA.out _)) | (go_at_call 25; exact Later.calls (Nat.le_refl _) (HB1.out _)) | (go_at_call 26; exact Later.calls (Nat.le_refl _) (HB2.out _))))
  refine wpQuiet_nil ?_
  rintro v21 ⟨zz, rfl⟩
  have hb := zz.prop
  have HZ0 := Lib.hid hb
  clear p0 p1 p2 p3 q0 q1 q2 q3 a0 a1 a2 v0 v1 v2 v3 w0 w1 w2 w3
  generalize zz.val = v21 at *
  have HXp22 := Lib.hid (blk_kept hb HXp20.out)
  have HXq22 := Lib.hid (blk_kept hb HXq20.out)
  have HXa22 := Lib.hid (blk_kept hb HXa20.out)
  have HXv22 := Lib.hid (blk_kept hb HXv20.out)
  have HXw22 := Lib.hid (blk_kept hb HXw20.out)
  have HW22 := Lib.hid (below_step HW20.out hb HW20.out.size)
  clear hb
  clear her heh heb
  go_wp2_with fail
  obtain ⟨p0, p1, p2, p3⟩ := later_boxP HXp22.out
  obtain ⟨q0, q1, q2, q3⟩ := later_boxP HXq22.out
  obtain ⟨v0, v1, v2, v3⟩ := later_boxRP HXv22.out
  obtain ⟨w0, w1, w2, w3⟩ := later_boxRP HXw22.out
  have hew := HEwi.out
  have hem := HEme.out
  refine wp_region_later v21.heap.size (by kernel_rfl) (by kernel_rfl) ?_
  repeat (go_big_quiet_step (first | (go_at_call 27; exact Later.calls (Nat.le_refl _) (HWI1.out _)) | (go_at_call 28; exact Later.calls (Nat.le_refl _) (HWI2.out _)) | (go_at_call 29; exact Later.calls (Nat.le_refl _) (HM1.out _)) | (go_at_call 30; exact Later.calls (Nat.le_refl _) (HM2.out _)) | (go_at_call 12; exact Later.calls (Nat.le_refl _) (HAW.out _ (HE.out.kept (below_step HW22.out (Later.prop _) HW22.out.size))))))
  refine wpQuiet_nil ?_
  rintro v23 ⟨zz, rfl⟩
  have hb := zz.prop
  have HZ0 := Lib.hid hb
  clear p0 p1 p2 p3 q0 q1 q2 q3 v0 v1 v2 v3 w0 w1 w2 w3
  generalize zz.val = v23 at *
  have HXp24 := Lib.hid (blk_kept hb HXp22.out)
  have HXq24 := Lib.hid (blk_kept hb HXq22.out)
  have HXa24 := Lib.hid (blk_kept hb HXa22.out)
  have HXv24 := Lib.hid (blk_kept hb HXv22.out)
  have HXw24 := Lib.hid (blk_kept hb HXw22.out)
  have HW24 := Lib.hid (below_step HW22.out hb HW22.out.size)
  clear hb
  go_wp2_with fail
  go_ret
  exact ⟨rfl, HW24.out⟩
end Go.Proofs.Tryz.Cd
