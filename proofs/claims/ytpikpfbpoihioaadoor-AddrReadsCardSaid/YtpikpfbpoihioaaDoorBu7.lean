/- AddrReads' walk. -/
import Derived.Test.YtpikpfbpoihioaaDoorBu6
import Derived.Test.YtpikpfbpoihioaaDoorBk2
import Derived.Test.YtpikpfbpoihioaaDoorBt6
set_option linter.unusedVariables false
set_option linter.unusedSimpArgs false
set_option maxRecDepth 100000
namespace Go.Proofs.Tryd.Tx
open Go.RowKit Go.Cph Go.Cph.Tx
open Go.Cph.Ok (ofBs)
open Go.Cph.Px (Ad rightA bytesA zeroA lessA fromB fromOk)
open Go.Proofs.Tryd.Pfx (encA bcell ad_eq BsAt encB encB_len)
open Go.Proofs.Tryd.Rows (boxZ boxZR below_set3)
theorem rfrom_conv (f : UInt8) (l : Bs) (w : World) : ∃ cap w1, (convert 9 45 (.string (ofBs l))).run Tryd.prog w = .ok (.slice (some ⟨w.heap.size, 0, none⟩) l.length cap) w1 ∧ Below w.heap.size w w1 ∧
    Calls Tryd.prog 27 #[.int .u8 (f.toNat : Int), .slice (some ⟨w.heap.size, 0, none⟩) l.length cap] w1 fun e w' => e = .returned (.tuple #[encA (fromB f l), .bool (fromOk f l.length)]) ∧ Below w1.heap.size w1 w' := by
  obtain ⟨cap, cur, w1, hconv, hcap, hcs, hblk, hcur, hb, hsz⟩ := conv_bytes (P := Tryd.prog) w 9 45 5 (ofBs l) Tryd.underlying9 Tryd.underlying45 Tryd.underlying5
  rw [ofBs_size] at hconv hcap
  refine ⟨cap, w1, hconv, hb, rfrom_any f _ l w1 ?_⟩
  refine ⟨⟨_, _, rfl, fun h0 => ⟨w.heap.size, 0, rfl, fun j hj => ?_⟩⟩, by rw [flat_length Pfx.encB_len]⟩
  have hj' : j < l.length := by omega
  rw [Nat.zero_add, blk_cell hblk, hcur j (by rw [ofBs_size]; exact hj')]
  have := flat_at Pfx.encB_len l j hj' 0 (by decide)
  rw [Nat.mul_one, Nat.add_zero] at this
  rw [this]; rfl
set_option maxHeartbeats 16000000 in
theorem reads_law (fam : UInt8) (s : ByteArray) (w : World) (henv : Env w) : Calls Tryd.prog 7 #[.int .u8 (fam.toNat : Int), .string s] w fun e w' => e = .returned (.bool true) ∧ Below w.heap.size w w' := by
  have HE := Lib.hid henv
  have HAW := Lib.hid (fun W he => awake_any W he)
  obtain ⟨l, hl⟩ : ∃ l, l = cutL s := ⟨_, rfl⟩
  have HLL := Lib.hid (show l.length ≤ 2000 from by rw [hl]; exact cutL_le s)
  have HC1 := Lib.hid (show ¬ 2000 < s.size → s = ofBs l from fun h => by rw [hl]; exact cut_all h)
  have HC2 := Lib.hid (show s.extract 0 2000 = ofBs l from by rw [hl]; exact cut_some s)
  clear hl henv
  have HF := Lib.hid (fun W => from_pair fam l (by have := HLL.out; omega) W)
  have HRF := Lib.hid (fun W => rfrom_conv fam l W)
  obtain ⟨A, hA⟩ : ∃ A, A = fromB fam l := ⟨_, rfl⟩
  obtain ⟨oa, hoa⟩ : ∃ o, o = fromOk fam l.length := ⟨_, rfl⟩
  rw [← hA, ← hoa] at HF HRF
  clear hA hoa
  have HPC0 := Lib.hid (fun W he => parse_any l (by have := HLL.out; omega) W he)
  have HRP0 := Lib.hid (fun W => rparse_any l (by have := HLL.out; omega) W)
  rw [doc_prog] at HRP0
  obtain ⟨C, cc, hC, -⟩ := encE_pair (progParse l)
  rw [hC] at HPC0 HRP0
  clear hC
  have HPC := Lib.hid (show ∀ W, Env W → Calls Tryd.prog 16 #[.string (ofBs l)] W fun e w' => e = .returned (.tuple #[encA C, .int .i64 cc]) ∧ Below W.heap.size W w' from HPC0.out)
  have HRP := Lib.hid (show ∀ W, Calls Tryd.prog 28 #[.string (ofBs l)] W fun e w' => e = .returned (.tuple #[encA C, .int .i64 cc]) ∧ Below W.heap.size W w' from HRP0.out)
  clear HPC0 HRP0
  have HGa := Lib.hid (fun W => given19 A W)
  have HGc := Lib.hid (fun W => given19 C W)
  have HQa := Lib.hid (show ∀ W, (binOp .eql 39 (encA A) (encA A)).run Tryd.prog W = .ok (.bool true) W from fun W => by rw [run_eqlR A A W]; simp)
  have HQc := Lib.hid (show ∀ W, (binOp .eql 39 (encA C) (encA C)).run Tryd.prog W = .ok (.bool true) W from fun W => by rw [run_eqlR C C W]; simp)
  obtain ⟨fa, xa, ya⟩ := A
  obtain ⟨fc, xc, yc⟩ := C
  have hsl : (ofBs l).size = l.length := ofBs_size l
  go_enter Tryd.func7, Tryd.ntmps7
  go_upto_if 15 with (fail)
  go_cut [1] (fun s3 wx => s3 = .string (ofBs l) ∧ wx = w)
  case first =>
    by_cases h2 : 2000 < s.size
    · have h2i : (2000 : Int) < (s.size : Int) := by omega
      go_wp2_with fail
      go_meet
      case rel => exact ⟨by rw [← HC2.out], rfl⟩
    · have h2i : ¬ (2000 : Int) < (s.size : Int) := by omega
      have HS := Lib.hid (HC1.out h2)
      clear h2
      go_wp2_with fail
      go_meet
      case rel => exact ⟨by rw [← HS.out], rfl⟩
  case rest =>
    obtain ⟨rfl, hwx⟩ := hcut
    obtain rfl : w = wc := hwx.symm
    clear HC1 HC2 hwx
    go_wp2_with fail
    refine (HF.out _).mono ?_
    rintro e v1 ⟨rfl, hb⟩
    have HW2 := Lib.hid hb
    clear hb
    have HXa3 := Lib.hid (heap_alloc_new v1 (boxA (fa, xa, ya)))
    have HW3 := Lib.hid (show Below w.heap.size w (v1.alloc (boxA (fa, xa, ya))) from HW2.out.alloc HW2.out.size _)
    obtain ⟨a0, a1, a2⟩ := box_at HXa3.out
    obtain ⟨cap, w1, hcv, hb1, hrf⟩ := HRF.out (v1.alloc (boxA (fa, xa, ya)))
    rw [World.size_alloc] at hcv hrf
    have HRF1 := Lib.hid hrf
    clear hrf
    have HXa4 := Lib.hid (blk_kept hb1 HXa3.out)
    have HW4 := Lib.hid (below_step HW3.out hb1 HW3.out.size)
    clear hb1
    go_wp2_with fail
    clear a0 a1 a2
    refine HRF1.out.mono ?_
    rintro e v5 ⟨rfl, hb⟩
    clear hcv
    have HXa6 := Lib.hid (blk_kept hb HXa4.out)
    have HW6 := Lib.hid (below_step HW4.out hb HW4.out.size)
    clear hb
    have HXa7 := Lib.hid (blk_alloc HXa6.out (boxR (fa, xa, ya)))
    have HXb7 := Lib.hid (heap_alloc_new v5 (boxR (fa, xa, ya)))
    have HW7 := Lib.hid (show Below w.heap.size w (v5.alloc (boxR (fa, xa, ya))) from HW6.out.alloc HW6.out.size _)
    obtain ⟨a0, a1, a2⟩ := box_at HXa7.out
    obtain ⟨b0, b1, b2⟩ := cells3_at HXb7.out
    go_wp2_with fail
    refine (HPC.out _ (HE.out.kept HW7.out)).mono ?_
    rintro e v8 ⟨rfl, hb⟩
    clear a0 a1 a2 b0 b1 b2
    have HXa9 := Lib.hid (blk_kept hb HXa7.out)
    have HXb9 := Lib.hid (blk_kept hb HXb7.out)
    have HW9 := Lib.hid (below_step HW7.out hb HW7.out.size)
    clear hb
    have HXa10 := Lib.hid (blk_alloc HXa9.out (boxA (fc, xc, yc)))
    have HXb10 := Lib.hid (blk_alloc HXb9.out (boxA (fc, xc, yc)))
    have HXc10 := Lib.hid (heap_alloc_new v8 (boxA (fc, xc, yc)))
    have HW10 := Lib.hid (show Below w.heap.size w (v8.alloc (boxA (fc, xc, yc))) from HW9.out.alloc HW9.out.size _)
    obtain ⟨a0, a1, a2⟩ := box_at HXa10.out
    obtain ⟨b0, b1, b2⟩ := cells3_at HXb10.out
    obtain ⟨c0, c1, c2⟩ := box_at HXc10.out
    go_wp2_with fail
    refine (HRP.out _).mono ?_
    rintro e v11 ⟨rfl, hb⟩
    clear a0 a1 a2 b0 b1 b2 c0 c1 c2
    have HXa12 := Lib.hid (blk_kept hb HXa10.out)
    have HXb12 := Lib.hid (blk_kept hb HXb10.out)
    have HXc12 := Lib.hid (blk_kept hb HXc10.out)
    have HW12 := Lib.hid (below_step HW10.out hb HW10.out.size)
    clear hb
    have HXa13 := Lib.hid (blk_alloc HXa12.out (boxR (fc, xc, yc)))
    have HXb13 := Lib.hid (blk_alloc HXb12.out (boxR (fc, xc, yc)))
    have HXc13 := Lib.hid (blk_alloc HXc12.out (boxR (fc, xc, yc)))
    have HXd13 := Lib.hid (heap_alloc_new v11 (boxR (fc, xc, yc)))
    have HW13 := Lib.hid (show Below w.heap.size w (v11.alloc (boxR (fc, xc, yc))) from HW12.out.alloc HW12.out.size _)
    obtain ⟨a0, a1, a2⟩ := box_at HXa13.out
    obtain ⟨b0, b1, b2⟩ := cells3_at HXb13.out
    obtain ⟨c0, c1, c2⟩ := box_at HXc13.out
    obtain ⟨d0, d1, d2⟩ := cells3_at HXd13.out
    have hqa := HQa.out
    have hqc := HQc.out
    go_wp2_with fail
    obtain ⟨v14, hv14⟩ : ∃ v14, v14 = (v11.alloc (boxR (fc, xc, yc))) := ⟨_, rfl⟩
    rw [← hv14] at HXa13 HXb13 HXc13 HXd13 HW13 ⊢
    clear hv14
    clear a0 a1 a2 b0 b1 b2 c0 c1 c2 d0 d1 d2
    obtain ⟨a0, a1, a2⟩ := later_box HXa13.out
    obtain ⟨b0, b1, b2⟩ := later_cells3 HXb13.out
    obtain ⟨c0, c1, c2⟩ := later_box HXc13.out
    obtain ⟨d0, d1, d2⟩ := later_cells3 HXd13.out
    refine wp_region_later v14.heap.size (by kernel_rfl) (by kernel_rfl) ?_
    repeat (go_big_quiet_step (first | (go_at_call 20; first | with_reducible exact Later.calls (Nat.le_refl _) (HGa.out _) | with_reducible exact Later.calls (Nat.le_refl _) (HGc.out _)) | (go_at_call 11; exact Later.calls (Nat.le_refl _) (HAW.out _ (HE.out.kept (below_step HW13.out (Later.prop _) HW13.out.size))))))
    refine wpQuiet_nil ?_
    rintro v15 ⟨zz, rfl⟩
    have hb := zz.prop
    have HZ0 := Lib.hid hb
    clear a0 a1 a2 b0 b1 b2 c0 c1 c2 d0 d1 d2
    generalize zz.val = v15 at *
    have HXa16 := Lib.hid (blk_kept hb HXa13.out)
    have HXb16 := Lib.hid (blk_kept hb HXb13.out)
    have HXc16 := Lib.hid (blk_kept hb HXc13.out)
    have HXd16 := Lib.hid (blk_kept hb HXd13.out)
    have HW16 := Lib.hid (below_step HW13.out hb HW13.out.size)
    clear hb
    go_wp2_with fail
    go_ret
    exact ⟨rfl, HW16.out⟩
theorem reads_law_i (f : Int) (s : ByteArray) (w : World) (hf : ∃ x : UInt8, f = (x.toNat : Int)) (henv : Env w) : Calls Tryd.prog 7 #[.int .u8 f, .string s] w fun e w' => e = .returned (.bool true) ∧ Below w.heap.size w w' := by
  obtain ⟨x, rfl⟩ := hf
  exact reads_law x s w henv
end Go.Proofs.Tryd.Tx
