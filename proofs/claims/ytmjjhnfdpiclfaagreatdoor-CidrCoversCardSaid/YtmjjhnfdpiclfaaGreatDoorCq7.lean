/- cidr: awake. -/
import Derived.Test.YtmjjhnfdpiclfaaGreatDoorCq6
set_option linter.unusedVariables false
set_option linter.unusedSimpArgs false
set_option maxRecDepth 100000
namespace Go.Proofs.Tryz.Cd
open Go.RowKit Go.Cph Go.Cph.Tx Go.Cph.Px Go.Cph.Cv Go.Proofs.Tryz.Tx Go.Proofs.Tryz.Pfx
open Go.Cph.Ok (ofBs)
open Go.Proofs.Tryz.Rows (boxZ)
/-- A row of prefixes, kept. -/
structure RowC (W : World) (g : Nat) (l : List Pf) : Prop where
  c0 : ∀ j (h : j < l.length), W.cell? ⟨g, j * 4, none⟩ = some (.int .u8 (l[j].1.1.toNat : Int))
  c1 : ∀ j (h : j < l.length), W.cell? ⟨g, j * 4 + 1, none⟩ = some (.int .u64 (l[j].1.2.1.toNat : Int))
  c2 : ∀ j (h : j < l.length), W.cell? ⟨g, j * 4 + 2, none⟩ = some (.int .u64 (l[j].1.2.2.toNat : Int))
  c3 : ∀ j (h : j < l.length), W.cell? ⟨g, j * 4 + 3, none⟩ = some (.int .i64 l[j].2)
theorem RowC.kept {W W' : World} {g : Nat} {l : List Pf} (h : RowC W g l) (hb : Below W.heap.size W W') : RowC W' g l :=
  ⟨fun j k => cell_kept hb (h.c0 j k), fun j k => cell_kept hb (h.c1 j k), fun j k => cell_kept hb (h.c2 j k), fun j k => cell_kept hb (h.c3 j k)⟩
theorem RowC.of_owns {W : World} {base : Nat} {v : Value} {l : List Pf} (h : W.ownsRow base TP 4 v l.length (l.flatMap encC)) (h0 : 0 < l.length) : ∃ g cap, v = .slice (some ⟨g, 0, none⟩) l.length cap ∧ RowC W g l := by
  obtain ⟨g, cap, rfl, -, -, -, hc, -⟩ := owns_shape h h0
  have key : ∀ j (k : j < l.length) i (hi : i < 4), W.cell? ⟨g, j * 4 + i, none⟩ = (encC l[j])[i]? := fun j k i hi => by
    rw [hc _ (by omega), flat_at encC_len l j k i hi]
  exact ⟨g, cap, rfl, fun j k => key j k 0 (by omega), fun j k => key j k 1 (by omega), fun j k => key j k 2 (by omega), fun j k => key j k 3 (by omega)⟩
set_option maxHeartbeats 8000000 in
theorem awake_any (w : World) (henv : Env w) : Calls Tryz.prog 12 #[] w fun e w' => e = .returned (.bool true) ∧ Below w.heap.size w w' := by
  have HE := Lib.hid henv
  clear henv
  obtain ⟨C1, h1⟩ : ∃ A : Ad, A = (4, 0, 167838211) := ⟨_, rfl⟩
  obtain ⟨C2, h2⟩ : ∃ A : Ad, A = (4, 0, 167772161) := ⟨_, rfl⟩
  obtain ⟨C3, h3⟩ : ∃ A : Ad, A = (4, 0, 167772166) := ⟨_, rfl⟩
  obtain ⟨C4, h4⟩ : ∃ A : Ad, A = (4, 0, 184549375) := ⟨_, rfl⟩
  obtain ⟨P, hP⟩ : ∃ P, P = PA := ⟨_, rfl⟩
  obtain ⟨Q, hQ⟩ : ∃ Q, Q = PB := ⟨_, rfl⟩
  obtain ⟨L, hL⟩ : ∃ L, L = LC := ⟨_, rfl⟩
  obtain ⟨R, hR⟩ : ∃ R : Pf, R = ((4, 0, 167772162), 31) := ⟨_, rfl⟩
  have HV1 := Lib.hid (fun W => v4_at C1 167838211 167838211 (by rfl) h1 W)
  have HV2 := Lib.hid (fun W => v4_at C2 167772161 167772161 (by rfl) h2 W)
  have HV3 := Lib.hid (fun W => v4_at C3 167772166 167772166 (by rfl) h3 W)
  have HV4 := Lib.hid (fun W => v4_at C4 184549375 184549375 (by rfl) h4 W)
  have HP1 := Lib.hid (fun W => p4_at P 167772160 8 167772160 (by rfl) hP W)
  have HP2 := Lib.hid (fun W => p4_at Q 167837696 16 167837696 (by rfl) hQ W)
  have HP3 := Lib.hid (fun W => p4_at R 167772162 31 167772162 (by rfl) hR W)
  have HCU := Lib.hid (show ∀ W, Calls Tryz.prog 6 #[encA C1, .int .i64 8] W fun e w' => e = .returned (.tuple #[encP P, .int .i64 0]) ∧ Below W.heap.size W w' from fun W => by
    have := cutB C1 8 W
    rw [h1] at this ⊢
    rw [aw_cut.1, aw_cut.2] at this
    rw [hP]; exact this)
  have HPA := Lib.hid (show ∀ W, Env W → Calls Tryz.prog 9 #[.string ⟨#[49, 48, 46, 49, 46, 48, 46, 48, 47, 49, 54]⟩] W fun e w' => e = .returned (.tuple #[encP Q, .int .i64 0]) ∧ Below W.heap.size W w' from fun W he => pparse_is (s := SB) (by decide) (by rw [hQ]; exact aw_parse.1) (by rw [hQ]; exact aw_parse.2) W he)
  have HCO := Lib.hid (show ∀ W, Calls Tryz.prog 13 #[encA C2, encA C3] W (CoverPost L W) from fun W => by
    have := cover_any C2 C3 W
    rw [h2, h3] at this ⊢
    rw [aw_cover] at this
    rw [hL]; exact this)
  have HWI1 := Lib.hid (show ∀ W, Calls Tryz.prog 27 #[encP Q, encP P] W fun e w' => e = .returned (.bool true) ∧ Below W.heap.size W w' from fun W => by
    have := within_any Q P W
    rw [show within Q P = true by rw [hQ, hP]; exact aw_with.1] at this
    exact this)
  have HWI2 := Lib.hid (show ∀ W, Calls Tryz.prog 27 #[encP P, encP Q] W fun e w' => e = .returned (.bool false) ∧ Below W.heap.size W w' from fun W => by
    have := within_any P Q W
    rw [show within P Q = false by rw [hQ, hP]; exact aw_with.2.1] at this
    exact this)
  have HME := Lib.hid (show ∀ W, Calls Tryz.prog 29 #[encP P, encP Q] W fun e w' => e = .returned (.bool true) ∧ Below W.heap.size W w' from fun W => by
    have := meets_any P Q W
    rw [show meets P Q = true by rw [hQ, hP]; exact aw_with.2.2] at this
    exact this)
  have HLA := Lib.hid (show ∀ W, Calls Tryz.prog 17 #[encP P] W fun e w' => e = .returned (encA C4) ∧ Below W.heap.size W w' from fun W => by
    have := last_any P W
    rw [show lastR P = C4 by rw [hP, h4]; exact aw_last] at this
    exact this)
  obtain ⟨tx, htx⟩ : ∃ tx, tx = ofBs SA := ⟨_, rfl⟩
  have HTX := Lib.hid (show ∀ W, Env W → Calls Tryz.prog 19 #[encP P] W fun e w' => e = .returned (.string tx) ∧ Below W.heap.size W w' from fun W he => by
    have := ptext_any P W he
    rw [show textP P = SA by rw [hP]; exact aw_text, ← htx] at this
    exact this)
  have hse : (tx.toList == ([49, 48, 46, 48, 46, 48, 46, 48, 47, 56] : Bs)) = true := by rw [htx, ByteArray.toList_eq]; rfl
  have HSE := Lib.hid hse
  have HL4 := Lib.hid (show L.length = 4 from by rw [hL]; rfl)
  have HLR := Lib.hid (show ∀ h : 1 < L.length, L[1] = R from fun h => by subst hL; rw [hR]; rfl)
  clear h1 h2 h3 h4 hP hQ hL hR htx hse
  obtain ⟨f1, x1, y1⟩ := C1
  obtain ⟨f2, x2, y2⟩ := C2
  obtain ⟨f3, x3, y3⟩ := C3
  obtain ⟨f4, x4, y4⟩ := C4
  obtain ⟨⟨fp, xp, yp⟩, bp⟩ := P
  obtain ⟨⟨fq, xq, yq⟩, bq⟩ := Q
  obtain ⟨⟨fr, xr, yr⟩, br⟩ := R
  have HQp := Lib.hid (show ∀ W, (binOp .eql 26 (encP ((fp, xp, yp), bp)) (encP ((fp, xp, yp), bp))).run Tryz.prog W = .ok (.bool true) W from fun W => by rw [run_eqlC]; simp)
  have HQq := Lib.hid (show ∀ W, (binOp .eql 26 (encP ((fq, xq, yq), bq)) (encP ((fq, xq, yq), bq))).run Tryz.prog W = .ok (.bool true) W from fun W => by rw [run_eqlC]; simp)
  have HQr := Lib.hid (show ∀ W, (binOp .eql 26 (encP ((fr, xr, yr), br)) (encP ((fr, xr, yr), br))).run Tryz.prog W = .ok (.bool true) W from fun W => by rw [run_eqlC]; simp)
  have HQ4 := Lib.hid (show ∀ W, (binOp .eql 24 (encA (f4, x4, y4)) (encA (f4, x4, y4))).run Tryz.prog W = .ok (.bool true) W from fun W => by rw [run_eqlA]; simp)
  go_enter Tryz.func12, Tryz.ntmps12
  go_wp2_with fail
  refine (HV1.out _).mono ?_
  rintro e v1 ⟨rfl, hb⟩
  have HW2 := Lib.hid hb
  clear hb
  go_wp2_with fail
  refine (HCU.out _).mono ?_
  rintro e v3 ⟨rfl, hb⟩
  have HW4 := Lib.hid (below_step HW2.out hb HW2.out.size)
  clear hb
  have HXp5 := Lib.hid (heap_alloc_new v3 (boxP ((fp, xp, yp), bp)))
  have HW5 := Lib.hid (show Below w.heap.size w (v3.alloc (boxP ((fp, xp, yp), bp))) from HW4.out.alloc HW4.out.size _)
  go_wp2_with fail
  refine (HPA.out _ (HE.out.kept HW5.out)).mono ?_
  rintro e v6 ⟨rfl, hb⟩
  have HXp7 := Lib.hid (blk_kept hb HXp5.out)
  have HW7 := Lib.hid (below_step HW5.out hb HW5.out.size)
  clear hb
  have HXp8 := Lib.hid (blk_alloc HXp7.out (boxP ((fq, xq, yq), bq)))
  have HXq8 := Lib.hid (heap_alloc_new v6 (boxP ((fq, xq, yq), bq)))
  have HW8 := Lib.hid (show Below w.heap.size w (v6.alloc (boxP ((fq, xq, yq), bq))) from HW7.out.alloc HW7.out.size _)
  go_wp2_with fail
  refine (HV2.out _).mono ?_
  rintro e v9 ⟨rfl, hb⟩
  have HXp10 := Lib.hid (blk_kept hb HXp8.out)
  have HXq10 := Lib.hid (blk_kept hb HXq8.out)
  have HW10 := Lib.hid (below_step HW8.out hb HW8.out.size)
  clear hb
  go_wp2_with fail
  refine (HV3.out _).mono ?_
  rintro e v11 ⟨rfl, hb⟩
  have HXp12 := Lib.hid (blk_kept hb HXp10.out)
  have HXq12 := Lib.hid (blk_kept hb HXq10.out)
  have HW12 := Lib.hid (below_step HW10.out hb HW10.out.size)
  clear hb
  go_wp2_with fail
  refine (HCO.out _).mono ?_
  rintro e w9 ⟨v, rfl, ho, hb⟩
  obtain ⟨g, cap, rfl, hrow⟩ := RowC.of_owns ho (by rw [HL4.out]; omega)
  have hlr := HLR.out (by rw [HL4.out]; omega)
  have hr0 := hrow.c0 1 (by rw [HL4.out]; omega)
  have hr1 := hrow.c1 1 (by rw [HL4.out]; omega)
  have hr2 := hrow.c2 1 (by rw [HL4.out]; omega)
  have hr3 := hrow.c3 1 (by rw [HL4.out]; omega)
  rw [hlr] at hr0 hr1 hr2 hr3
  have HR0 := Lib.hid hr0
  have HR1 := Lib.hid hr1
  have HR2 := Lib.hid hr2
  have HR3 := Lib.hid hr3
  rw [HL4.out]
  clear ho hrow hlr hr0 hr1 hr2 hr3
  have HXp13 := Lib.hid (blk_kept hb HXp12.out)
  have HXq13 := Lib.hid (blk_kept hb HXq12.out)
  have HW13 := Lib.hid (below_step HW12.out hb HW12.out.size)
  clear hb
  go_wp2_with fail
  obtain ⟨p0, p1, p2, p3⟩ := later_boxP HXp13.out
  obtain ⟨q0, q1, q2, q3⟩ := later_boxP HXq13.out
  have hqp := HQp.out
  have hqq := HQq.out
  have hqr := HQr.out
  have hq4 := HQ4.out
  have hse := HSE.out
  have l0 : ∀ zz : Later w9.heap.size w9, zz.val.cell? ⟨g, 4, none⟩ = some (.int .u8 (fr.toNat : Int)) := fun zz => cell_kept zz.prop HR0.out
  have l1 : ∀ zz : Later w9.heap.size w9, zz.val.cell? ⟨g, 5, none⟩ = some (.int .u64 (xr.toNat : Int)) := fun zz => cell_kept zz.prop HR1.out
  have l2 : ∀ zz : Later w9.heap.size w9, zz.val.cell? ⟨g, 6, none⟩ = some (.int .u64 (yr.toNat : Int)) := fun zz => cell_kept zz.prop HR2.out
  have l3 : ∀ zz : Later w9.heap.size w9, zz.val.cell? ⟨g, 7, none⟩ = some (.int .i64 br) := fun zz => cell_kept zz.prop HR3.out
  refine wp_region_later w9.heap.size (by kernel_rfl) (by kernel_rfl) ?_
  repeat (go_big_quiet_step (first | (go_at_call 41; first | with_reducible exact Later.calls (Nat.le_refl _) (HP1.out _) | with_reducible exact Later.calls (Nat.le_refl _) (HP2.out _) | with_reducible exact Later.calls (Nat.le_refl _) (HP3.out _)) | (go_at_call 40; exact Later.calls (Nat.le_refl _) (HV4.out _)) | (go_at_call 27; first | with_reducible exact Later.calls (Nat.le_refl _) (HWI1.out _) | with_reducible exact Later.calls (Nat.le_refl _) (HWI2.out _)) | (go_at_call 29; exact Later.calls (Nat.le_refl _) (HME.out _)) | (go_at_call 17; exact Later.calls (Nat.le_refl _) (HLA.out _)) | (go_at_call 19; exact Later.calls (Nat.le_refl _) (HTX.out _ (HE.out.kept (below_step HW13.out (Later.prop _) HW13.out.size))))))
  refine wpQuiet_nil ?_
  rintro v14 ⟨zz, rfl⟩
  have hb := zz.prop
  have HZ0 := Lib.hid hb
  clear p0 p1 p2 p3 q0 q1 q2 q3 l0 l1 l2 l3
  generalize zz.val = v14 at *
  have HXp15 := Lib.hid (blk_kept hb HXp13.out)
  have HXq15 := Lib.hid (blk_kept hb HXq13.out)
  have HW15 := Lib.hid (below_step HW13.out hb HW13.out.size)
  clear hb
  go_wp2_with fail
  go_ret
  exact ⟨rfl, HW15.out⟩
end Go.Proofs.Tryz.Cd
