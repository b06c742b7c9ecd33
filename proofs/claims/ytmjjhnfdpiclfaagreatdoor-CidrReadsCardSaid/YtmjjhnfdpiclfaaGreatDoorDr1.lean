/- CidrReads' walk. -/
import Derived.Test.YtmjjhnfdpiclfaaGreatDoorDq3
set_option linter.unusedVariables false
set_option linter.unusedSimpArgs false
set_option maxRecDepth 100000
namespace Go.Proofs.Tryz.Cd
open Go.RowKit Go.Cph Go.Cph.Tx Go.Cph.Px Go.Cph.Cv Go.Proofs.Tryz.Tx Go.Proofs.Tryz.Pfx
open Go.Cph.Ok (ofBs)
open Go.Proofs.Tryz.Rows (boxZ boxZR)
theorem encR_pair (r : Option Pf) : ∃ (p : Pf) (c : Int), encR r = .tuple #[encP p, .int .i64 c] := by
  cases r with
  | none => exact ⟨zeroP, 8, rfl⟩
  | some p => exact ⟨p, 0, rfl⟩
set_option maxHeartbeats 16000000 in
theorem reads_law (a : Ad) (bits : Int) (s : ByteArray) (w : World) (henv : Env w) : Calls Tryz.prog 3 #[encA a, .int .i64 bits, .string s] w fun e w' => e = .returned (.bool true) ∧ Below w.heap.size w w' := by
  have HE := Lib.hid henv
  have HAW := Lib.hid (fun W he => awake_any W he)
  obtain ⟨l, hl⟩ : ∃ l, l = Go.Proofs.Tryz.Tx.cutL s := ⟨_, rfl⟩
  have HLL := Lib.hid (show l.length ≤ 2000 from by rw [hl]; exact cutL_le s)
  have HC1 := Lib.hid (show ¬ 2000 < s.size → s = ofBs l from fun h => by rw [hl]; exact cut_all h)
  have HC2 := Lib.hid (show s.extract 0 2000 = ofBs l from by rw [hl]; exact cut_some s)
  clear hl henv
  have HCU := Lib.hid (fun W => cutB a bits W)
  have HRC := Lib.hid (fun W => rcut a bits W)
  have HGA := Lib.hid (fun W => Tx.given19 a W)
  have HPS := Lib.hid (fun W he => pparse_any l (by have := HLL.out; omega) W he)
  have HRP := Lib.hid (fun W => rparse20 l (by have := HLL.out; omega) W)
  obtain ⟨C, h4⟩ : ∃ b, b = cutP a bits := ⟨_, rfl⟩
  obtain ⟨ce, h5⟩ : ∃ b, b = cutE a bits := ⟨_, rfl⟩
  rw [← h4, ← h5] at HCU HRC
  clear h4 h5
  have HGC := Lib.hid (fun W => given20 C W)
  have HQC := Lib.hid (show ∀ W, (binOp .eql 32 (encP C) (encP C)).run Tryz.prog W = .ok (.bool true) W from fun W => by rw [run_eqlPR]; simp)
  obtain ⟨fa, xa, ya⟩ := a
  obtain ⟨⟨fc, xc, yc⟩, bc⟩ := C
  have HXa1 := Lib.hid (heap_alloc_new w (boxA (fa, xa, ya)))
  have HW1 := Lib.hid (show Below w.heap.size w (w.alloc (boxA (fa, xa, ya))) from (Below.refl _ _).alloc (Nat.le_refl _) _)
  go_enter Tryz.func3, Tryz.ntmps3
  go_upto_if 17 with (fail)
  obtain ⟨v2, hv2⟩ : ∃ v2, v2 = (w.alloc (boxA (fa, xa, ya))) := ⟨_, rfl⟩
  rw [← hv2] at HXa1 HW1 ⊢
  clear hv2
  go_cut [2] (fun s2 wx => s2 = .string (ofBs l) ∧ wx = v2)
  case first =>
    by_cases h2 : 2000 < s.size
    · have h2i : (2000 : Int) < (s.size : Int) := by omega
      go_wp2_with fail
      go_meet
      case rel => exact ⟨by rw [← HC2.out], rfl⟩
    · have h2i : ¬ (2000 : Int) < (s.size : Int) := by omega
      have HS := Lib.hid (HC1.out h2)
      clear h2
      go_wp2_with fail
      go_meet
      case rel => exact ⟨by rw [← HS.out], rfl⟩
  case rest =>
    obtain ⟨rfl, hwx⟩ := hcut
    subst hwx
    clear HC1 HC2
    obtain ⟨a0, a1, a2⟩ := box_at HXa1.out
    go_wp2_with fail
    refine (HCU.out _).mono ?_
    rintro e v3 ⟨rfl, hb⟩
    clear a0 a1 a2
    have HXa4 := Lib.hid (blk_kept hb HXa1.out)
    have HW4 := Lib.hid (below_step HW1.out hb HW1.out.size)
    clear hb
    have HXa5 := Lib.hid (blk_alloc HXa4.out (boxP ((fc, xc, yc), bc)))
    have HXc5 := Lib.hid (heap_alloc_new v3 (boxP ((fc, xc, yc), bc)))
    have HW5 := Lib.hid (show Below w.heap.size w (v3.alloc (boxP ((fc, xc, yc), bc))) from HW4.out.alloc HW4.out.size _)
    obtain ⟨a0, a1, a2⟩ := box_at HXa5.out
    go_wp2_with fail
    refine (HGA.out _).mono ?_
    rintro e v6 ⟨rfl, hb⟩
    clear a0 a1 a2
    have HXa7 := Lib.hid (blk_kept hb HXa5.out)
    have HXc7 := Lib.hid (blk_kept hb HXc5.out)
    have HW7 := Lib.hid (below_step HW5.out hb HW5.out.size)
    clear hb
    go_wp2_with fail
    refine (HRC.out _).mono ?_
    rintro e v8 ⟨rfl, hb⟩
    have HXa9 := Lib.hid (blk_kept hb HXa7.out)
    have HXc9 := Lib.hid (blk_kept hb HXc7.out)
    have HW9 := Lib.hid (below_step HW7.out hb HW7.out.size)
    clear hb
    have HXa10 := Lib.hid (blk_alloc HXa9.out (boxRP ((fc, xc, yc), bc)))
    have HXc10 := Lib.hid (blk_alloc HXc9.out (boxRP ((fc, xc, yc), bc)))
    have HXv10 := Lib.hid (heap_alloc_new v8 (boxRP ((fc, xc, yc), bc)))
    have HW10 := Lib.hid (show Below w.heap.size w (v8.alloc (boxRP ((fc, xc, yc), bc))) from HW9.out.alloc HW9.out.size _)
    go_wp2_with fail
    refine (HPS.out _ (HE.out.kept HW10.out)).mono ?_
    rintro e w6 ⟨R, hR, rfl, hb⟩
    have HXa11 := Lib.hid (blk_kept hb HXa10.out)
    have HXc11 := Lib.hid (blk_kept hb HXc10.out)
    have HXv11 := Lib.hid (blk_kept hb HXv10.out)
    have HW11 := Lib.hid (below_step HW10.out hb HW10.out.size)
    clear hb
    obtain ⟨S, sc, hS⟩ := encR_pair R
    rw [hS]
    have HIS := Lib.hid hR
    have HS := Lib.hid hS
    have HGS := Lib.hid (fun W => given20 S W)
    have HQS := Lib.hid (show ∀ W, (binOp .eql 32 (encP S) (encP S)).run Tryz.prog W = .ok (.bool true) W from fun W => by rw [run_eqlPR]; simp)
    clear hS hR
    obtain ⟨⟨fs, xs, ys⟩, bs⟩ := S
    have HXa12 := Lib.hid (blk_alloc HXa11.out (boxP ((fs, xs, ys), bs)))
    have HXc12 := Lib.hid (blk_alloc HXc11.out (boxP ((fs, xs, ys), bs)))
    have HXv12 := Lib.hid (blk_alloc HXv11.out (boxP ((fs, xs, ys), bs)))
    have HXq12 := Lib.hid (heap_alloc_new w6 (boxP ((fs, xs, ys), bs)))
    have HW12 := Lib.hid (show Below w.heap.size w (w6.alloc (boxP ((fs, xs, ys), bs))) from HW11.out.alloc HW11.out.size _)
    go_wp2_with fail
    refine (HRP.out _).mono ?_
    rintro e w7 ⟨R2, hR2, rfl, hb⟩
    obtain rfl : R2 = R := hR2.unique HIS.out
    rw [HS.out]
    clear hR2 HS HIS
    have HXa13 := Lib.hid (blk_kept hb HXa12.out)
    have HXc13 := Lib.hid (blk_kept hb HXc12.out)
    have HXv13 := Lib.hid (blk_kept hb HXv12.out)
    have HXq13 := Lib.hid (blk_kept hb HXq12.out)
    have HW13 := Lib.hid (below_step HW12.out hb HW12.out.size)
    clear hb
    have HXa14 := Lib.hid (blk_alloc HXa13.out (boxRP ((fs, xs, ys), bs)))
    have HXc14 := Lib.hid (blk_alloc HXc13.out (boxRP ((fs, xs, ys), bs)))
    have HXv14 := Lib.hid (blk_alloc HXv13.out (boxRP ((fs, xs, ys), bs)))
    have HXq14 := Lib.hid (blk_alloc HXq13.out (boxRP ((fs, xs, ys), bs)))
    have HXw14 := Lib.hid (heap_alloc_new w7 (boxRP ((fs, xs, ys), bs)))
    have HW14 := Lib.hid (show Below w.heap.size w (w7.alloc (boxRP ((fs, xs, ys), bs))) from HW13.out.alloc HW13.out.size _)
    go_wp2_with fail
    obtain ⟨v15, hv15⟩ : ∃ v15, v15 = (w7.alloc (boxRP ((fs, xs, ys), bs))) := ⟨_, rfl⟩
    rw [← hv15] at HXa14 HXc14 HXv14 HXq14 HXw14 HW14 ⊢
    clear hv15
    obtain ⟨c0, c1, c2, c3⟩ := later_boxP HXc14.out
    obtain ⟨v0, v1, v2, v3⟩ := later_boxRP HXv14.out
    obtain ⟨q0, q1, q2, q3⟩ := later_boxP HXq14.out
    obtain ⟨w0, w1, w2, w3⟩ := later_boxRP HXw14.out
    have hqc := HQC.out
    have hqs := HQS.out
    refine wp_region_later v15.heap.size (by kernel_rfl) (by kernel_rfl) ?_
    repeat (go_big_quiet_step (first | (go_at_call 11; first | with_reducible exact Later.calls (Nat.le_refl _) (HGC.out _) | with_reducible exact Later.calls (Nat.le_refl _) (HGS.out _)) | (go_at_call 12; exact Later.calls (Nat.le_refl _) (HAW.out _ (HE.out.kept (below_step HW14.out (Later.prop _) HW14.out.size))))))
    refine wpQuiet_nil ?_
    rintro v16 ⟨zz, rfl⟩
    have hb := zz.prop
    have HZ0 := Lib.hid hb
    clear c0 c1 c2 c3 v0 v1 v2 v3 q0 q1 q2 q3 w0 w1 w2 w3
    generalize zz.val = v16 at *
    have HXa17 := Lib.hid (blk_kept hb HXa14.out)
    have HXc17 := Lib.hid (blk_kept hb HXc14.out)
    have HXv17 := Lib.hid (blk_kept hb HXv14.out)
    have HXq17 := Lib.hid (blk_kept hb HXq14.out)
    have HXw17 := Lib.hid (blk_kept hb HXw14.out)
    have HW17 := Lib.hid (below_step HW14.out hb HW14.out.size)
    clear hb
    go_wp2_with fail
    go_ret
    exact ⟨rfl, HW17.out⟩
end Go.Proofs.Tryz.Cd
