/- The laws of rows: RowsKnown's walk. -/
import Derived.Test.YtccopljpceolcaaDoorRoN
set_option linter.unusedVariables false
set_option linter.unusedSimpArgs false
set_option maxRecDepth 100000
namespace Go.Proofs.Tryd.Rows
open Go.RowKit Go.Cph Go.Cph.Ok Go.Proofs.Tryd.Nu Go.Proofs.Tryd.Ok
open Go.Cph.Px (Ad Pf rightA bytesA rightP fromB fromOk)
open Go.Proofs.Tryd.Pfx (encA bcell)
def zs (n : Nat) : ByteArray := ⟨(List.replicate n 0).toArray⟩
theorem zs_size (n : Nat) : (zs n).size = n := by
  show (List.replicate n (0 : UInt8)).toArray.size = n
  simp
theorem make_zs (n : Nat) (hn : n ≤ 1000000) : ∃ Z, (∀ W : World, (Instr.makeSlice 63 (.int .i64 n) (.int .i64 n)).run Tryd.prog W = .ok (.slice (some ⟨W.heap.size, 0, none⟩) n n) (W.alloc (.cells Z 5))) ∧
    ∀ W : World, (convert 63 9 (.slice (some ⟨W.heap.size, 0, none⟩) n n)).run Tryd.prog (W.alloc (.cells Z 5)) = .ok (.string (zs n)) (W.alloc (.cells Z 5)) := by
  refine ⟨bytesV (List.replicate n 0), fun W => run_make_bytes W _ _ Tryd.underlying63 (by kernel_rfl) .i64 .i64 n (by omega), fun W => ?_⟩
  have h := run_string_of_bytes (P := Tryd.prog) (W.alloc (.cells (bytesV (List.replicate n 0)) 5)) 63 9 5 Tryd.underlying63 Tryd.underlying5 Tryd.underlying9 W.heap.size n (List.replicate n 0) (fun j hj => by
    rw [blk_cell (heap_alloc_new W _)]; exact bytesV_at _ j hj)
  rw [List.length_replicate] at h
  exact h
theorem poolKey_eq : keyP 2 tenP = ⟨#[1, 2, 1, 4, 2, 10, 0, 255, 0, 255, 0, 255, 0, 1, 1, 8]⟩ := by decide
theorem leaseKey_eq : keyA 4 someA [] = ⟨#[1, 4, 1, 4, 2, 1, 2, 3, 4, 0, 1]⟩ := by decide
theorem clientV_eq : clientV 3 ⟨#[120]⟩ = ⟨#[3, 1, 120]⟩ := by decide
theorem most_size : (clientV 18446744073709551615 (zs 480)).size ≤ 512 := by
  unfold clientV
  rw [ofBs_size, List.length_append]
  have h1 := row_le (n := (18446744073709551615 : UInt64).toNat) (UInt64.toNat_lt _)
  have h2 := text_size (zs 480) (by rw [zs_size]; omega)
  rw [ofBs_size, zs_size] at h2
  omega
set_option maxHeartbeats 6400000 in
theorem known_law (m : Int) (w : World) (hm : MaxAt m w) : Calls Tryd.prog 6 #[] w fun e w' => e = .returned (.bool true) ∧ Below w.heap.size w w' := by
  have HM := Lib.hid hm
  obtain ⟨Z1, m1, c1⟩ := make_zs 481 (by decide)
  obtain ⟨Z2, m2, c2⟩ := make_zs 480 (by decide)
  obtain ⟨Z3, m3, c3⟩ := make_zs 33 (by decide)
  have mk1 : ∀ W : World, (Instr.makeSlice 63 (.int .i64 481) (.int .i64 481)).run Tryd.prog W = .ok (.slice (some ⟨W.heap.size, 0, none⟩) 481 481) (W.alloc (.cells Z1 5)) := m1
  have mk2 : ∀ W : World, (Instr.makeSlice 63 (.int .i64 480) (.int .i64 480)).run Tryd.prog W = .ok (.slice (some ⟨W.heap.size, 0, none⟩) 480 480) (W.alloc (.cells Z2 5)) := m2
  have mk3 : ∀ W : World, (Instr.makeSlice 63 (.int .i64 33) (.int .i64 33)).run Tryd.prog W = .ok (.slice (some ⟨W.heap.size, 0, none⟩) 33 33) (W.alloc (.cells Z3 5)) := m3
  obtain ⟨S1, hS1⟩ : ∃ S, S = zs 481 := ⟨_, rfl⟩
  obtain ⟨S2, hS2⟩ : ∃ S, S = zs 480 := ⟨_, rfl⟩
  obtain ⟨S3, hS3⟩ : ∃ S, S = zs 33 := ⟨_, rfl⟩
  obtain ⟨V2, hV2⟩ : ∃ S, S = clientV 18446744073709551615 (zs 480) := ⟨_, rfl⟩
  have H1 := Lib.hid (fun (W : World) => show Calls Tryd.prog 28 #[.int .u64 3, .string ⟨#[120]⟩] W (fun e w' => e = .returned (.tuple #[.string ⟨#[3, 1, 120]⟩, .int .i64 0]) ∧ Below W.heap.size W w') from by have := clientValue 3 ⟨#[120]⟩ W (by decide); rw [clientV_eq] at this; exact this)
  have H2 := Lib.hid (fun (W : World) => show Calls Tryd.prog 28 #[.int .u64 3, .string S1] W (fun e w' => e = .returned (.tuple #[.string ⟨#[]⟩, .int .i64 3]) ∧ Below W.heap.size W w') from by have := clientValue 3 (zs 481) W (by rw [zs_size]; omega); rw [if_neg (by rw [zs_size]; omega)] at this; rw [hS1]; exact this)
  have H3 := Lib.hid (fun (W : World) => show Calls Tryd.prog 28 #[.int .u64 18446744073709551615, .string S2] W (fun e w' => e = .returned (.tuple #[.string V2, .int .i64 0]) ∧ Below W.heap.size W w') from by have := clientValue 18446744073709551615 (zs 480) W (by rw [zs_size]; omega); rw [if_pos (by rw [zs_size]; omega), ← hV2] at this; rw [hS2]; exact this)
  have H4 := Lib.hid (fun (W : World) => show Calls Tryd.prog 26 #[.int .i64 5, .string ⟨#[97]⟩, .int .u64 1, .int .u64 1] W (fun e w' => e = .returned (.tuple #[.string ⟨#[]⟩, .int .i64 1]) ∧ Below W.heap.size W w') from by have := eventValue 5 ⟨#[97]⟩ 1 1 W (by decide); rw [if_neg (by decide)] at this; exact this)
  have H5 := Lib.hid (fun (W : World) => show Calls Tryd.prog 24 #[.string ⟨#[]⟩, .int .u64 1] W (fun e w' => e = .returned (.tuple #[.string ⟨#[]⟩, .int .i64 1]) ∧ Below W.heap.size W w') from by have := leaseValue ⟨#[]⟩ 1 W (by decide); rw [if_neg (by decide)] at this; exact this)
  have H6 := Lib.hid (fun (W : World) => show Calls Tryd.prog 24 #[.string S3, .int .u64 1] W (fun e w' => e = .returned (.tuple #[.string ⟨#[]⟩, .int .i64 1]) ∧ Below W.heap.size W w') from by have := leaseValue (zs 33) 1 W (by rw [zs_size]; omega); rw [if_neg (by unfold ownerB; rw [zs_size]; decide)] at this; rw [hS3]; exact this)
  have HS := Lib.hid (fun (W : World) => show Calls Tryd.prog 41 #[] W (fun e w' => e = .returned (.agg #[.int .u8 4, .int .u64 0, .int .u64 16909060]) ∧ Below W.heap.size W w') from some_any W)
  have HT := Lib.hid (fun (W : World) => show Calls Tryd.prog 43 #[] W (fun e w' => e = .returned (.agg #[.int .u8 4, .int .u64 0, .int .u64 167772160, .int .i64 8]) ∧ Below W.heap.size W w') from ten_any W)
  have H7 := Lib.hid (fun (W : World) (h : MaxAt m W) => show Calls Tryd.prog 40 #[.agg #[.int .u8 4, .int .u64 0, .int .u64 16909060], .agg #[.int .u8 0, .int .u64 0, .int .u64 0]] W (fun e w' => e = .returned (.tuple #[.string ⟨#[1, 1]⟩, .string ⟨#[1, 1]⟩]) ∧ Below W.heap.size W w') from by have := leases_any someA (0, 0, 0) m W h; rw [show leasesR someA (0, 0, 0) = (clockK, clockK) from by unfold leasesR; rw [if_neg (by decide)], clockK_eq] at this; exact this)
  have H8 := Lib.hid (fun (W : World) (h : MaxAt m W) => show Calls Tryd.prog 42 #[.agg #[.int .u8 5, .int .u64 0, .int .u64 0], .int .u64 0] W (fun e w' => e = .returned (.tuple #[.string ⟨#[1, 1]⟩, .string ⟨#[1, 1]⟩]) ∧ Below W.heap.size W w') from by have := events_any (5, 0, 0) 0 m W h; rw [show eventsR (5, 0, 0) 0 = (clockK, clockK) from by unfold eventsR; rw [if_neg (by decide)], clockK_eq] at this; exact this)
  have H9 := Lib.hid (fun (W : World) (h : MaxAt m W) => show Calls Tryd.prog 11 #[.agg #[.int .u8 4, .int .u64 0, .int .u64 167772160, .int .i64 8]] W (fun e w' => e = .returned (.string ⟨#[1, 2, 1, 4, 2, 10, 0, 255, 0, 255, 0, 255, 0, 1, 1, 8]⟩) ∧ Below W.heap.size W w') from by have := poolKey tenP m W h; rw [poolKey_eq] at this; exact this)
  have H10 := Lib.hid (fun (W : World) (h : MaxAt m W) => show Calls Tryd.prog 14 #[.agg #[.int .u8 4, .int .u64 0, .int .u64 16909060]] W (fun e w' => e = .returned (.string ⟨#[1, 4, 1, 4, 2, 1, 2, 3, 4, 0, 1]⟩) ∧ Below W.heap.size W w') from by have := leaseKey someA m W h; rw [leaseKey_eq] at this; exact this)
  have H11 := Lib.hid (fun (W : World) (h : MaxAt m W) => show Calls Tryd.prog 14 #[.agg #[.int .u8 0, .int .u64 0, .int .u64 0]] W (fun e w' => e = .returned (.string ⟨#[]⟩) ∧ Below W.heap.size W w') from by have := leaseKey (0, 0, 0) m W h; rw [show keyA 4 (0, 0, 0) [] = ⟨#[]⟩ from by unfold keyA; rw [if_neg (by decide)]] at this; exact this)
  have H12 := Lib.hid (fun (W : World) (h : MaxAt m W) => show Calls Tryd.prog 11 #[.agg #[.int .u8 0, .int .u64 0, .int .u64 0, .int .i64 0]] W (fun e w' => e = .returned (.string ⟨#[]⟩) ∧ Below W.heap.size W w') from by have := poolKey ((0, 0, 0), 0) m W h; rw [show keyP 2 ((0, 0, 0), 0) = ⟨#[]⟩ from by unfold keyP; rw [if_neg (by decide)]] at this; exact this)
  have HAW := Lib.hid (fun (W : World) (h : MaxAt m W) => awake_any m W h)
  rw [← hS1] at c1
  rw [← hS2] at c2
  rw [← hS3] at c3
  have v2 := most_size
  rw [← hV2] at v2
  have v3 : (V2.size : Int) ≤ 512 := by omega
  have v4 : decide (V2.size ≤ 512) = true := decide_eq_true v2
  clear hm hS1 hS2 hS3 hV2 m1 m2 m3
  go_enter Tryd.func6, Tryd.ntmps6
  go_wp2_with fail
  refine (H1.out _).mono ?_
  rintro e w1 ⟨rfl, hb⟩
  have HB := Lib.hid hb
  clear hb
  replace HB := Lib.hid (below_alloc1 HB.out HB.out.size (.cells Z1 5))
  go_wp2_with fail
  refine (H2.out _).mono ?_
  rintro e w2 ⟨rfl, hb⟩
  replace HB := Lib.hid (below_step HB.out hb HB.out.size)
  clear hb
  replace HB := Lib.hid (below_alloc1 HB.out HB.out.size (.cells Z2 5))
  go_wp2_with fail
  refine (H3.out _).mono ?_
  rintro e w3 ⟨rfl, hb⟩
  replace HB := Lib.hid (below_step HB.out hb HB.out.size)
  clear hb
  go_wp2_with fail
  refine (H4.out _).mono ?_
  rintro e w4 ⟨rfl, hb⟩
  replace HB := Lib.hid (below_step HB.out hb HB.out.size)
  clear hb
  go_wp2_with fail
  refine (H5.out _).mono ?_
  rintro e w5 ⟨rfl, hb⟩
  replace HB := Lib.hid (below_step HB.out hb HB.out.size)
  clear hb
  replace HB := Lib.hid (below_alloc1 HB.out HB.out.size (.cells Z3 5))
  go_wp2_with fail
  refine (H6.out _).mono ?_
  rintro e w6 ⟨rfl, hb⟩
  replace HB := Lib.hid (below_step HB.out hb HB.out.size)
  clear hb
  go_wp2_with fail
  refine (HS.out _).mono ?_
  rintro e w7 ⟨rfl, hb⟩
  replace HB := Lib.hid (below_step HB.out hb HB.out.size)
  clear hb
  go_wp2_with fail
  refine (H7.out _ (max_kept HM.out HB.out)).mono ?_
  rintro e w8 ⟨rfl, hb⟩
  replace HB := Lib.hid (below_step HB.out hb HB.out.size)
  clear hb
  go_wp2_with fail
  refine (H8.out _ (max_kept HM.out HB.out)).mono ?_
  rintro e w9 ⟨rfl, hb⟩
  replace HB := Lib.hid (below_step HB.out hb HB.out.size)
  clear hb
  go_wp2_with fail
  refine (HT.out _).mono ?_
  rintro e w10 ⟨rfl, hb⟩
  replace HB := Lib.hid (below_step HB.out hb HB.out.size)
  clear hb
  go_wp2_with fail
  refine (H9.out _ (max_kept HM.out HB.out)).mono ?_
  rintro e w11 ⟨rfl, hb⟩
  replace HB := Lib.hid (below_step HB.out hb HB.out.size)
  clear hb
  go_wp2_with fail
  refine (HS.out _).mono ?_
  rintro e w12 ⟨rfl, hb⟩
  replace HB := Lib.hid (below_step HB.out hb HB.out.size)
  clear hb
  go_wp2_with fail
  refine (H10.out _ (max_kept HM.out HB.out)).mono ?_
  rintro e w13 ⟨rfl, hb⟩
  replace HB := Lib.hid (below_step HB.out hb HB.out.size)
  clear hb
  go_wp2_with fail
  refine (H11.out _ (max_kept HM.out HB.out)).mono ?_
  rintro e w14 ⟨rfl, hb⟩
  replace HB := Lib.hid (below_step HB.out hb HB.out.size)
  clear hb
  go_wp2_with fail
  refine (H12.out _ (max_kept HM.out HB.out)).mono ?_
  rintro e w15 ⟨rfl, hb⟩
  replace HB := Lib.hid (below_step HB.out hb HB.out.size)
  clear hb
  go_wp2_with fail
  refine (HAW.out _ (max_kept HM.out HB.out)).mono ?_
  rintro e w16 ⟨rfl, hb⟩
  replace HB := Lib.hid (below_step HB.out hb HB.out.size)
  clear hb
  go_wp2_with fail
  go_ret
  exact ⟨rfl, HB.out⟩
end Go.Proofs.Tryd.Rows
