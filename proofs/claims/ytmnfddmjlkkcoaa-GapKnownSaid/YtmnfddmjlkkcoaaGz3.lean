/- GapKnown: its walk. -/
import Derived.Test.YtmnfddmjlkkcoaaGz1
set_option linter.unusedVariables false
set_option linter.unusedSimpArgs false
namespace Go.Proofs.Try.Gp
open Go.RowKit Go.Cph Go.Cph.Px Go.Cph.Gp Go.Cph.So
open Pfx (encA)

set_option maxRecDepth 100000 in
set_option maxHeartbeats 32000000 in
theorem known_law (w : World) : Calls Try.prog 6 #[] w (AwPost w) := by
  obtain ⟨p57, hp57⟩ : ∃ p : Sp, p = (A4 167772165, A4 167772167) := ⟨_, rfl⟩
  have H57 := Lib.hid (show ∀ W, Calls Try.prog 26 #[.int .u64 5, .int .u64 7] W (fun e w' => e = .returned (encP p57) ∧ Below W.heap.size W w') from fun W => by rw [hp57]; exact span_any 5 7 167772165 167772167 (by decide) (by decide) W)
  obtain ⟨p02, hp02⟩ : ∃ p : Sp, p = (A4 167772160, A4 167772162) := ⟨_, rfl⟩
  have H02 := Lib.hid (show ∀ W, Calls Try.prog 26 #[.int .u64 0, .int .u64 2] W (fun e w' => e = .returned (encP p02) ∧ Below W.heap.size W w') from fun W => by rw [hp02]; exact span_any 0 2 167772160 167772162 (by decide) (by decide) W)
  obtain ⟨p33, hp33⟩ : ∃ p : Sp, p = (A4 167772163, A4 167772163) := ⟨_, rfl⟩
  have H33 := Lib.hid (show ∀ W, Calls Try.prog 26 #[.int .u64 3, .int .u64 3] W (fun e w' => e = .returned (encP p33) ∧ Below W.heap.size W w') from fun W => by rw [hp33]; exact span_any 3 3 167772163 167772163 (by decide) (by decide) W)
  obtain ⟨p99, hp99⟩ : ∃ p : Sp, p = (A4 167772169, A4 167772169) := ⟨_, rfl⟩
  have H99 := Lib.hid (show ∀ W, Calls Try.prog 26 #[.int .u64 9, .int .u64 9] W (fun e w' => e = .returned (encP p99) ∧ Below W.heap.size W w') from fun W => by rw [hp99]; exact span_any 9 9 167772169 167772169 (by decide) (by decide) W)
  obtain ⟨p03, hp03⟩ : ∃ p : Sp, p = (A4 167772160, A4 167772163) := ⟨_, rfl⟩
  have H03 := Lib.hid (show ∀ W, Calls Try.prog 26 #[.int .u64 0, .int .u64 3] W (fun e w' => e = .returned (encP p03) ∧ Below W.heap.size W w') from fun W => by rw [hp03]; exact span_any 0 3 167772160 167772163 (by decide) (by decide) W)
  obtain ⟨p44, hp44⟩ : ∃ p : Sp, p = (A4 167772164, A4 167772164) := ⟨_, rfl⟩
  have H44 := Lib.hid (show ∀ W, Calls Try.prog 26 #[.int .u64 4, .int .u64 4] W (fun e w' => e = .returned (encP p44) ∧ Below W.heap.size W w') from fun W => by rw [hp44]; exact span_any 4 4 167772164 167772164 (by decide) (by decide) W)
  obtain ⟨p810, hp810⟩ : ∃ p : Sp, p = (A4 167772168, A4 167772170) := ⟨_, rfl⟩
  have H810 := Lib.hid (show ∀ W, Calls Try.prog 26 #[.int .u64 8, .int .u64 10] W (fun e w' => e = .returned (encP p810) ∧ Below W.heap.size W w') from fun W => by rw [hp810]; exact span_any 8 10 167772168 167772170 (by decide) (by decide) W)
  obtain ⟨a0, ha0⟩ : ∃ a : Ad, a = A4 167772160 := ⟨_, rfl⟩
  have HA0 := Lib.hid (show ∀ W, Calls Try.prog 27 #[.int .u64 0] W (fun e w' => e = .returned (encA a0) ∧ Below W.heap.size W w') from fun W => by rw [ha0]; exact a4_any 0 167772160 (by decide) W)
  obtain ⟨a10, ha10⟩ : ∃ a : Ad, a = A4 167772170 := ⟨_, rfl⟩
  have HA10 := Lib.hid (show ∀ W, Calls Try.prog 27 #[.int .u64 10] W (fun e w' => e = .returned (encA a10) ∧ Below W.heap.size W w') from fun W => by rw [ha10]; exact a4_any 10 167772170 (by decide) W)
  obtain ⟨a3, ha3⟩ : ∃ a : Ad, a = A4 167772163 := ⟨_, rfl⟩
  have HA3 := Lib.hid (show ∀ W, Calls Try.prog 27 #[.int .u64 3] W (fun e w' => e = .returned (encA a3) ∧ Below W.heap.size W w') from fun W => by rw [ha3]; exact a4_any 3 167772163 (by decide) W)
  obtain ⟨a2, ha2⟩ : ∃ a : Ad, a = A4 167772162 := ⟨_, rfl⟩
  have HA2 := Lib.hid (show ∀ W, Calls Try.prog 27 #[.int .u64 2] W (fun e w' => e = .returned (encA a2) ∧ Below W.heap.size W w') from fun W => by rw [ha2]; exact a4_any 2 167772162 (by decide) W)
  obtain ⟨b0, hb0⟩ : ∃ a : Ad, a = A6 18446744073709551615 := ⟨_, rfl⟩
  have HB0 := Lib.hid (show ∀ W, Calls Try.prog 28 #[.int .u64 0] W (fun e w' => e = .returned (encA b0) ∧ Below W.heap.size W w') from fun W => by rw [hb0]; exact a6_any 0 18446744073709551615 (by decide) W)
  obtain ⟨b5, hb5⟩ : ∃ a : Ad, a = A6 18446744073709551610 := ⟨_, rfl⟩
  have HB5 := Lib.hid (show ∀ W, Calls Try.prog 28 #[.int .u64 5] W (fun e w' => e = .returned (encA b5) ∧ Below W.heap.size W w') from fun W => by rw [hb5]; exact a6_any 5 18446744073709551610 (by decide) W)
  obtain ⟨b1, hb1⟩ : ∃ a : Ad, a = A6 18446744073709551614 := ⟨_, rfl⟩
  have HB1 := Lib.hid (show ∀ W, Calls Try.prog 28 #[.int .u64 1] W (fun e w' => e = .returned (encA b1) ∧ Below W.heap.size W w') from fun W => by rw [hb1]; exact a6_any 1 18446744073709551614 (by decide) W)
  obtain ⟨b3, hb3⟩ : ∃ a : Ad, a = A6 18446744073709551612 := ⟨_, rfl⟩
  have HB3 := Lib.hid (show ∀ W, Calls Try.prog 28 #[.int .u64 3] W (fun e w' => e = .returned (encA b3) ∧ Below W.heap.size W w') from fun W => by rw [hb3]; exact a6_any 3 18446744073709551612 (by decide) W)
  obtain ⟨z0, hz0⟩ : ∃ a : Ad, a = zeroA := ⟨_, rfl⟩
  have HE1 := Lib.hid (show IsSet [p03, p57, p99] (covS [p57, p02, p33, p99]) from by rw [hp03, hp57, hp02, hp33, hp99]; exact ex_join2)
  have HE2 := Lib.hid (show IsSet [p44, p810] (FreeP a0 a10 (covS [p02, p57, p33])) from by rw [ha0, ha10, hp44, hp810, hp02, hp57, hp33]; exact ex_free3)
  have HE3 := Lib.hid (show LeastIs a0 a3 (covS [p03, p57, p99]) (z0, false) from by rw [ha0, ha3, hp03, hp57, hp99, hz0]; exact LeastIs.of_set ex_free4)
  have HE4 := Lib.hid (show LeastIs a3 a2 (covS []) (z0, false) from by rw [ha3, ha2, hz0]; exact LeastIs.of_set ex_free5)
  have HE5 := Lib.hid (show LeastIs a2 a2 (covS []) (a2, true) from by rw [ha2]; exact LeastIs.of_set ex_free6)
  have HE6 := Lib.hid (show LeastIs (6, 0, 0) b0 (covS [((6, 0, 0), b0)]) (z0, false) from by rw [hb0, hz0]; exact LeastIs.of_set ex_free7)
  have HE7 := Lib.hid (show LeastIs b5 b0 (covS [(b5, b1)]) (b0, true) from by rw [hb5, hb0, hb1]; exact LeastIs.of_set ex_free8)
  have HE8 := Lib.hid (show LeastIs a0 b0 (covS []) (z0, false) from by rw [ha0, hb0, hz0]; exact LeastIs.of_set ex_free9)
  have HL6 := Lib.hid (show ∀ (v : Value) (W : World), SpsOf W v [[((6, 0, 0), b0)]] → Calls Try.prog 18 #[.agg #[.int .u8 6, .int .u64 0, .int .u64 0], encA b0, v] W (LeastPostP (6, 0, 0) b0 (covS [((6, 0, 0), b0)]) W) from fun v W h => least_any (6, 0, 0) b0 v _ W h (by simp) (by simp))
  have HH1 := Lib.hid (show ∀ W, Calls Try.prog 24 #[.agg #[.int .u8 6, .int .u64 0, .int .u64 0, .int .u8 (b0.1.toNat : Int), .int .u64 (b0.2.1.toNat : Int), .int .u64 (b0.2.2.toNat : Int)], encA b3] W (fun e w' => e = .returned (.bool true) ∧ Below W.heap.size W w') from fun W => by
    have h := has_any ((6, 0, 0), b0) b3 W
    rwa [show hasS ((6, 0, 0), b0) b3 = true from by rw [hb0, hb3]; exact ex_has1] at h)
  have HH2 := Lib.hid (show ∀ W, Calls Try.prog 24 #[.agg #[.int .u8 6, .int .u64 0, .int .u64 0, .int .u8 (b0.1.toNat : Int), .int .u64 (b0.2.1.toNat : Int), .int .u64 (b0.2.2.toNat : Int)], encA a3] W (fun e w' => e = .returned (.bool false) ∧ Below W.heap.size W w') from fun W => by
    have h := has_any ((6, 0, 0), b0) a3 W
    rwa [show hasS ((6, 0, 0), b0) a3 = false from by rw [hb0, ha3]; exact ex_has2] at h)
  have HAW := Lib.hid (show ∀ W, Calls Try.prog 10 #[] W (fun e w' => e = .returned (.bool true) ∧ Below W.heap.size W w') from fun W => awake_any W)
  clear hp57 hp02 hp33 hp99 hp03 hp44 hp810 ha0 ha10 ha3 ha2 hb0 hb5 hb1 hb3 hz0
  have BE := Lib.hid (Below.refl w.heap.size w)
  go_enter Try.func6, Try.ntmps6
  go_wp2_with fail
  refine (H57.out _).mono ?_
  rintro e w1 ⟨rfl, hb⟩
  have BE_1 := Lib.hid (below_step BE.out hb BE.out.size)
  clear hb
  go_wp2_with fail
  refine (H02.out _).mono ?_
  rintro e w2 ⟨rfl, hb⟩
  have BE_2 := Lib.hid (below_step BE_1.out hb BE_1.out.size)
  clear hb
  have hbx : Below w2.heap.size w2 (w2.alloc (.cells (encC p57 ++ encC p02).toArray TE)) := (Below.refl _ _).alloc (Nat.le_refl _) _
  have BE_3 := Lib.hid (below_step BE_2.out hbx BE_2.out.size)
  have X1 := heap_alloc_new w2 (.cells (encC p57 ++ encC p02).toArray TE)
  replace X1 := Lib.hid X1
  clear hbx
  go_wp2_with fail
  refine (H33.out _).mono ?_
  rintro e w4 ⟨rfl, hb⟩
  have BE_4 := Lib.hid (below_step BE_3.out hb BE_3.out.size)
  have X1_4 := Lib.hid (blk_kept hb X1.out)
  clear hb
  have hbx : Below w4.heap.size w4 (w4.alloc (.cells (encC p33).toArray TE)) := (Below.refl _ _).alloc (Nat.le_refl _) _
  have BE_5 := Lib.hid (below_step BE_4.out hbx BE_4.out.size)
  have X1_5 := Lib.hid (blk_kept hbx X1_4.out)
  have X2 := heap_alloc_new w4 (.cells (encC p33).toArray TE)
  replace X2 := Lib.hid X2
  clear hbx
  go_wp2_with fail
  refine (H99.out _).mono ?_
  rintro e w6 ⟨rfl, hb⟩
  have BE_6 := Lib.hid (below_step BE_5.out hb BE_5.out.size)
  have X1_6 := Lib.hid (blk_kept hb X1_5.out)
  have X2_6 := Lib.hid (blk_kept hb X2.out)
  clear hb
  have hbx : Below w6.heap.size w6 (w6.alloc (.cells (encC p99).toArray TE)) := (Below.refl _ _).alloc (Nat.le_refl _) _
  have BE_7 := Lib.hid (below_step BE_6.out hbx BE_6.out.size)
  have X1_7 := Lib.hid (blk_kept hbx X1_6.out)
  have X2_7 := Lib.hid (blk_kept hbx X2_6.out)
  have X3 := heap_alloc_new w6 (.cells (encC p99).toArray TE)
  replace X3 := Lib.hid X3
  clear hbx
  have hbx : Below (w6.alloc (.cells (encC p99).toArray TE)).heap.size (w6.alloc (.cells (encC p99).toArray TE)) ((w6.alloc (.cells (encC p99).toArray TE)).alloc (.cells #[.slice (some ⟨w2.heap.size, 0, none⟩) 2 2, .slice (some ⟨w4.heap.size, 0, none⟩) 1 1, .slice (some ⟨w6.heap.size, 0, none⟩) 1 1] TS)) := (Below.refl _ _).alloc (Nat.le_refl _) _
  have BE_8 := Lib.hid (below_step BE_7.out hbx BE_7.out.size)
  have X1_8 := Lib.hid (blk_kept hbx X1_7.out)
  have X2_8 := Lib.hid (blk_kept hbx X2_7.out)
  have X3_8 := Lib.hid (blk_kept hbx X3.out)
  have X4 := heap_alloc_new (w6.alloc (.cells (encC p99).toArray TE)) (.cells #[.slice (some ⟨w2.heap.size, 0, none⟩) 2 2, .slice (some ⟨w4.heap.size, 0, none⟩) 1 1, .slice (some ⟨w6.heap.size, 0, none⟩) 1 1] TS)
  simp only [World.size_alloc] at X4
  replace X4 := Lib.hid X4
  clear hbx
  have HLO := Lib.hid (show SpsOf ((w6.alloc (.cells (encC p99).toArray TE)).alloc (.cells #[.slice (some ⟨w2.heap.size, 0, none⟩) 2 2, .slice (some ⟨w4.heap.size, 0, none⟩) 1 1, .slice (some ⟨w6.heap.size, 0, none⟩) 1 1] TS)) (.slice (some ⟨w6.heap.size + 1, 0, none⟩) 3 3) [[p57, p02], [p33], [p99]] from by
    refine lists_block X4.out rfl (fun j hj hk => ?_) 3 3 rfl
    rcases (show j = 0 ∨ j = 1 ∨ j = 2 by simp at hj; omega) with rfl | rfl | rfl
    · exact sps_block (l := [p57, p02]) X1_8.out rfl 2 2 rfl
    · exact sps_block (l := [p33]) X2_8.out rfl 1 1 rfl
    · exact sps_block (l := [p99]) X3_8.out rfl 1 1 rfl)
  have HX := Lib.hid (join_any _ _ _ HLO.out (by simp) (by simp))
  go_wp2_with fail
  refine (HX.out).mono ?_
  rintro e w9 ⟨l, hset, -, v1, rfl, ho, hb⟩
  have BE_9 := Lib.hid (below_step BE_8.out hb BE_8.out.size)
  obtain rfl : l = [p03, p57, p99] := hset.unique HE1.out fun n => Iff.rfl
  have RJ := Lib.hid (show SpsAt w9 v1 [p03, p57, p99] from Seg.of_owns ho)
  obtain ⟨jo, jc, hjv⟩ := elems_slice RJ.out
  rw [show [p03, p57, p99].length = 3 from rfl] at hjv
  subst hjv
  clear hset ho HX HLO HE1
  clear hb
  go_wp2_with fail
  refine (HA0.out _).mono ?_
  rintro e w10 ⟨rfl, hb⟩
  have BE_10 := Lib.hid (below_step BE_9.out hb BE_9.out.size)
  have RJ_10 := Lib.hid (RJ.out.kept hb)
  clear hb
  go_wp2_with fail
  refine (HA10.out _).mono ?_
  rintro e w11 ⟨rfl, hb⟩
  have BE_11 := Lib.hid (below_step BE_10.out hb BE_10.out.size)
  have RJ_11 := Lib.hid (RJ_10.out.kept hb)
  clear hb
  go_wp2_with fail
  refine (H02.out _).mono ?_
  rintro e w12 ⟨rfl, hb⟩
  have BE_12 := Lib.hid (below_step BE_11.out hb BE_11.out.size)
  have RJ_12 := Lib.hid (RJ_11.out.kept hb)
  clear hb
  go_wp2_with fail
  refine (H57.out _).mono ?_
  rintro e w13 ⟨rfl, hb⟩
  have BE_13 := Lib.hid (below_step BE_12.out hb BE_12.out.size)
  have RJ_13 := Lib.hid (RJ_12.out.kept hb)
  clear hb
  have hbx : Below w13.heap.size w13 (w13.alloc (.cells (encC p02 ++ encC p57).toArray TE)) := (Below.refl _ _).alloc (Nat.le_refl _) _
  have BE_14 := Lib.hid (below_step BE_13.out hbx BE_13.out.size)
  have RJ_14 := Lib.hid (RJ_13.out.kept hbx)
  have X1 := heap_alloc_new w13 (.cells (encC p02 ++ encC p57).toArray TE)
  replace X1 := Lib.hid X1
  clear hbx
  go_wp2_with fail
  refine (H33.out _).mono ?_
  rintro e w15 ⟨rfl, hb⟩
  have BE_15 := Lib.hid (below_step BE_14.out hb BE_14.out.size)
  have RJ_15 := Lib.hid (RJ_14.out.kept hb)
  have X1_15 := Lib.hid (blk_kept hb X1.out)
  clear hb
  have hbx : Below w15.heap.size w15 (w15.alloc (.cells (encC p33).toArray TE)) := (Below.refl _ _).alloc (Nat.le_refl _) _
  have BE_16 := Lib.hid (below_step BE_15.out hbx BE_15.out.size)
  have RJ_16 := Lib.hid (RJ_15.out.kept hbx)
  have X1_16 := Lib.hid (blk_kept hbx X1_15.out)
  have X2 := heap_alloc_new w15 (.cells (encC p33).toArray TE)
  replace X2 := Lib.hid X2
  clear hbx
  have hbx : Below (w15.alloc (.cells (encC p33).toArray TE)).heap.size (w15.alloc (.cells (encC p33).toArray TE)) ((w15.alloc (.cells (encC p33).toArray TE)).alloc (.cells #[.slice (some ⟨w13.heap.size, 0, none⟩) 2 2, .slice (some ⟨w15.heap.size, 0, none⟩) 1 1] TS)) := (Below.refl _ _).alloc (Nat.le_refl _) _
  have BE_17 := Lib.hid (below_step BE_16.out hbx BE_16.out.size)
  have RJ_17 := Lib.hid (RJ_16.out.kept hbx)
  have X1_17 := Lib.hid (blk_kept hbx X1_16.out)
  have X2_17 := Lib.hid (blk_kept hbx X2.out)
  have X4 := heap_alloc_new (w15.alloc (.cells (encC p33).toArray TE)) (.cells #[.slice (some ⟨w13.heap.size, 0, none⟩) 2 2, .slice (some ⟨w15.heap.size, 0, none⟩) 1 1] TS)
  simp only [World.size_alloc] at X4
  replace X4 := Lib.hid X4
  clear hbx
  have HLO := Lib.hid (show SpsOf ((w15.alloc (.cells (encC p33).toArray TE)).alloc (.cells #[.slice (some ⟨w13.heap.size, 0, none⟩) 2 2, .slice (some ⟨w15.heap.size, 0, none⟩) 1 1] TS)) (.slice (some ⟨w15.heap.size + 1, 0, none⟩) 2 2) [[p02, p57], [p33]] from by
    refine lists_block X4.out rfl (fun j hj hk => ?_) 2 2 rfl
    rcases (show j = 0 ∨ j = 1 by simp at hj; omega) with rfl | rfl
    · exact sps_block (l := [p02, p57]) X1_17.out rfl 2 2 rfl
    · exact sps_block (l := [p33]) X2_17.out rfl 1 1 rfl)
  have HX := Lib.hid (free_any a0 a10 _ _ _ HLO.out (by simp) (by simp))
  go_wp2_with fail
  refine (HX.out).mono ?_
  rintro e w18 ⟨l, hset, -, v2, rfl, ho, hb⟩
  have BE_18 := Lib.hid (below_step BE_17.out hb BE_17.out.size)
  have RJ_18 := Lib.hid (RJ_17.out.kept hb)
  obtain rfl : l = [p44, p810] := hset.unique HE2.out fun n => Iff.rfl
  have RF := Lib.hid (show SpsAt w18 v2 [p44, p810] from Seg.of_owns ho)
  obtain ⟨fo, fc, hfv⟩ := elems_slice RF.out
  rw [show [p44, p810].length = 2 from rfl] at hfv
  subst hfv
  clear hset ho HX HLO HE2
  clear hb
  obtain ⟨jb, joff, jcap, hve, hcj⟩ := sps_cells RJ_18.out (by simp)
  injection hve with hx1 hx2 hx3
  subst hx1
  clear hx2 hx3
  obtain ⟨fb, foff, fcap, hve, hcf⟩ := sps_cells RF.out (by simp)
  injection hve with hx1 hx2 hx3
  subst hx1
  clear hx2 hx3
  have yc0 : CellsOf w18 jb (joff + 0 * 6) p03 := hcj 0 (by simp)
  have c00 : ∀ zz : Later w18.heap.size w18, zz.val.cell? ⟨jb, joff, none⟩ = some (.int .u8 (p03.1.1.toNat : Int)) := fun zz => Later.cell (by have := yc0.c0; simpa using this) (World.block_lt_of_cell? _ _ yc0.c0) zz
  have c01 : ∀ zz : Later w18.heap.size w18, zz.val.cell? ⟨jb, joff + 1, none⟩ = some (.int .u64 (p03.1.2.1.toNat : Int)) := fun zz => Later.cell (by have := yc0.c1; simpa using this) (World.block_lt_of_cell? _ _ yc0.c1) zz
  have c02 : ∀ zz : Later w18.heap.size w18, zz.val.cell? ⟨jb, joff + 2, none⟩ = some (.int .u64 (p03.1.2.2.toNat : Int)) := fun zz => Later.cell (by have := yc0.c2; simpa using this) (World.block_lt_of_cell? _ _ yc0.c2) zz
  have c03 : ∀ zz : Later w18.heap.size w18, zz.val.cell? ⟨jb, joff + 3, none⟩ = some (.int .u8 (p03.2.1.toNat : Int)) := fun zz => Later.cell (by have := yc0.c3; simpa using this) (World.block_lt_of_cell? _ _ yc0.c3) zz
  have c04 : ∀ zz : Later w18.heap.size w18, zz.val.cell? ⟨jb, joff + 4, none⟩ = some (.int .u64 (p03.2.2.1.toNat : Int)) := fun zz => Later.cell (by have := yc0.c4; simpa using this) (World.block_lt_of_cell? _ _ yc0.c4) zz
  have c05 : ∀ zz : Later w18.heap.size w18, zz.val.cell? ⟨jb, joff + 5, none⟩ = some (.int .u64 (p03.2.2.2.toNat : Int)) := fun zz => Later.cell (by have := yc0.c5; simpa using this) (World.block_lt_of_cell? _ _ yc0.c5) zz
  have yc1 : CellsOf w18 jb (joff + 1 * 6) p57 := hcj 1 (by simp)
  have c10 : ∀ zz : Later w18.heap.size w18, zz.val.cell? ⟨jb, joff + 6, none⟩ = some (.int .u8 (p57.1.1.toNat : Int)) := fun zz => Later.cell (by have := yc1.c0; simpa using this) (World.block_lt_of_cell? _ _ yc1.c0) zz
  have c11 : ∀ zz : Later w18.heap.size w18, zz.val.cell? ⟨jb, joff + 7, none⟩ = some (.int .u64 (p57.1.2.1.toNat : Int)) := fun zz => Later.cell (by have := yc1.c1; simpa using this) (World.block_lt_of_cell? _ _ yc1.c1) zz
  have c12 : ∀ zz : Later w18.heap.size w18, zz.val.cell? ⟨jb, joff + 8, none⟩ = some (.int .u64 (p57.1.2.2.toNat : Int)) := fun zz => Later.cell (by have := yc1.c2; simpa using this) (World.block_lt_of_cell? _ _ yc1.c2) zz
  have c13 : ∀ zz : Later w18.heap.size w18, zz.val.cell? ⟨jb, joff + 9, none⟩ = some (.int .u8 (p57.2.1.toNat : Int)) := fun zz => Later.cell (by have := yc1.c3; simpa using this) (World.block_lt_of_cell? _ _ yc1.c3) zz
  have c14 : ∀ zz : Later w18.heap.size w18, zz.val.cell? ⟨jb, joff + 10, none⟩ = some (.int .u64 (p57.2.2.1.toNat : Int)) := fun zz => Later.cell (by have := yc1.c4; simpa using this) (World.block_lt_of_cell? _ _ yc1.c4) zz
  have c15 : ∀ zz : Later w18.heap.size w18, zz.val.cell? ⟨jb, joff + 11, none⟩ = some (.int .u64 (p57.2.2.2.toNat : Int)) := fun zz => Later.cell (by have := yc1.c5; simpa using this) (World.block_lt_of_cell? _ _ yc1.c5) zz
  have yc2 : CellsOf w18 jb (joff + 2 * 6) p99 := hcj 2 (by simp)
  have c20 : ∀ zz : Later w18.heap.size w18, zz.val.cell? ⟨jb, joff + 12, none⟩ = some (.int .u8 (p99.1.1.toNat : Int)) := fun zz => Later.cell (by have := yc2.c0; simpa using this) (World.block_lt_of_cell? _ _ yc2.c0) zz
  have c21 : ∀ zz : Later w18.heap.size w18, zz.val.cell? ⟨jb, joff + 13, none⟩ = some (.int .u64 (p99.1.2.1.toNat : Int)) := fun zz => Later.cell (by have := yc2.c1; simpa using this) (World.block_lt_of_cell? _ _ yc2.c1) zz
  have c22 : ∀ zz : Later w18.heap.size w18, zz.val.cell? ⟨jb, joff + 14, none⟩ = some (.int .u64 (p99.1.2.2.toNat : Int)) := fun zz => Later.cell (by have := yc2.c2; simpa using this) (World.block_lt_of_cell? _ _ yc2.c2) zz
  have c23 : ∀ zz : Later w18.heap.size w18, zz.val.cell? ⟨jb, joff + 15, none⟩ = some (.int .u8 (p99.2.1.toNat : Int)) := fun zz => Later.cell (by have := yc2.c3; simpa using this) (World.block_lt_of_cell? _ _ yc2.c3) zz
  have c24 : ∀ zz : Later w18.heap.size w18, zz.val.cell? ⟨jb, joff + 16, none⟩ = some (.int .u64 (p99.2.2.1.toNat : Int)) := fun zz => Later.cell (by have := yc2.c4; simpa using this) (World.block_lt_of_cell? _ _ yc2.c4) zz
  have c25 : ∀ zz : Later w18.heap.size w18, zz.val.cell? ⟨jb, joff + 17, none⟩ = some (.int .u64 (p99.2.2.2.toNat : Int)) := fun zz => Later.cell (by have := yc2.c5; simpa using this) (World.block_lt_of_cell? _ _ yc2.c5) zz
  have yd0 : CellsOf w18 fb (foff + 0 * 6) p44 := hcf 0 (by simp)
  have d00 : ∀ zz : Later w18.heap.size w18, zz.val.cell? ⟨fb, foff, none⟩ = some (.int .u8 (p44.1.1.toNat : Int)) := fun zz => Later.cell (by have := yd0.c0; simpa using this) (World.block_lt_of_cell? _ _ yd0.c0) zz
  have d01 : ∀ zz : Later w18.heap.size w18, zz.val.cell? ⟨fb, foff + 1, none⟩ = some (.int .u64 (p44.1.2.1.toNat : Int)) := fun zz => Later.cell (by have := yd0.c1; simpa using this) (World.block_lt_of_cell? _ _ yd0.c1) zz
  have d02 : ∀ zz : Later w18.heap.size w18, zz.val.cell? ⟨fb, foff + 2, none⟩ = some (.int .u64 (p44.1.2.2.toNat : Int)) := fun zz => Later.cell (by have := yd0.c2; simpa using this) (World.block_lt_of_cell? _ _ yd0.c2) zz
  have d03 : ∀ zz : Later w18.heap.size w18, zz.val.cell? ⟨fb, foff + 3, none⟩ = some (.int .u8 (p44.2.1.toNat : Int)) := fun zz => Later.cell (by have := yd0.c3; simpa using this) (World.block_lt_of_cell? _ _ yd0.c3) zz
  have d04 : ∀ zz : Later w18.heap.size w18, zz.val.cell? ⟨fb, foff + 4, none⟩ = some (.int .u64 (p44.2.2.1.toNat : Int)) := fun zz => Later.cell (by have := yd0.c4; simpa using this) (World.block_lt_of_cell? _ _ yd0.c4) zz
  have d05 : ∀ zz : Later w18.heap.size w18, zz.val.cell? ⟨fb, foff + 5, none⟩ = some (.int .u64 (p44.2.2.2.toNat : Int)) := fun zz => Later.cell (by have := yd0.c5; simpa using this) (World.block_lt_of_cell? _ _ yd0.c5) zz
  have yd1 : CellsOf w18 fb (foff + 1 * 6) p810 := hcf 1 (by simp)
  have d10 : ∀ zz : Later w18.heap.size w18, zz.val.cell? ⟨fb, foff + 6, none⟩ = some (.int .u8 (p810.1.1.toNat : Int)) := fun zz => Later.cell (by have := yd1.c0; simpa using this) (World.block_lt_of_cell? _ _ yd1.c0) zz
  have d11 : ∀ zz : Later w18.heap.size w18, zz.val.cell? ⟨fb, foff + 7, none⟩ = some (.int .u64 (p810.1.2.1.toNat : Int)) := fun zz => Later.cell (by have := yd1.c1; simpa using this) (World.block_lt_of_cell? _ _ yd1.c1) zz
  have d12 : ∀ zz : Later w18.heap.size w18, zz.val.cell? ⟨fb, foff + 8, none⟩ = some (.int .u64 (p810.1.2.2.toNat : Int)) := fun zz => Later.cell (by have := yd1.c2; simpa using this) (World.block_lt_of_cell? _ _ yd1.c2) zz
  have d13 : ∀ zz : Later w18.heap.size w18, zz.val.cell? ⟨fb, foff + 9, none⟩ = some (.int .u8 (p810.2.1.toNat : Int)) := fun zz => Later.cell (by have := yd1.c3; simpa using this) (World.block_lt_of_cell? _ _ yd1.c3) zz
  have d14 : ∀ zz : Later w18.heap.size w18, zz.val.cell? ⟨fb, foff + 10, none⟩ = some (.int .u64 (p810.2.2.1.toNat : Int)) := fun zz => Later.cell (by have := yd1.c4; simpa using this) (World.block_lt_of_cell? _ _ yd1.c4) zz
  have d15 : ∀ zz : Later w18.heap.size w18, zz.val.cell? ⟨fb, foff + 11, none⟩ = some (.int .u64 (p810.2.2.2.toNat : Int)) := fun zz => Later.cell (by have := yd1.c5; simpa using this) (World.block_lt_of_cell? _ _ yd1.c5) zz
  clear hcj hcf yc0 yc1 yc2 yd0 yd1
  have qp03 : ∀ W, (binOp .neq 38 (encP p03) (encP p03)).run Try.prog W = .ok (.bool false) W := fun W => by
    have := run_neqS p03 p03 W
    rwa [beq_self_eq_true] at this
  have qp57 : ∀ W, (binOp .neq 38 (encP p57) (encP p57)).run Try.prog W = .ok (.bool false) W := fun W => by
    have := run_neqS p57 p57 W
    rwa [beq_self_eq_true] at this
  have qp99 : ∀ W, (binOp .neq 38 (encP p99) (encP p99)).run Try.prog W = .ok (.bool false) W := fun W => by
    have := run_neqS p99 p99 W
    rwa [beq_self_eq_true] at this
  have qp44 : ∀ W, (binOp .neq 38 (encP p44) (encP p44)).run Try.prog W = .ok (.bool false) W := fun W => by
    have := run_neqS p44 p44 W
    rwa [beq_self_eq_true] at this
  have qp810 : ∀ W, (binOp .neq 38 (encP p810) (encP p810)).run Try.prog W = .ok (.bool false) W := fun W => by
    have := run_neqS p810 p810 W
    rwa [beq_self_eq_true] at this
  go_wp2_with fail
  refine wp_region_later w18.heap.size (by kernel_rfl) (by kernel_rfl) ?_
  repeat (go_big_quiet_step ((go_at_call 26; first | (with_reducible exact Later.calls (Nat.le_refl _) (H03.out _)) | (with_reducible exact Later.calls (Nat.le_refl _) (H57.out _)) | (with_reducible exact Later.calls (Nat.le_refl _) (H99.out _)) | (with_reducible exact Later.calls (Nat.le_refl _) (H44.out _)) | (with_reducible exact Later.calls (Nat.le_refl _) (H810.out _)))))
  refine wpQuiet_nil ?_
  rintro wq ⟨zz, rfl⟩
  have hb := zz.prop
  clear c00 c01 c02 c03 c04 c05 c10 c11 c12 c13 c14 c15 c20 c21 c22 c23 c24 c25 d00 d01 d02 d03 d04 d05 d10 d11 d12 d13 d14 d15 qp03 qp57 qp99 qp44 qp810
  generalize zz.val = wq at *
  have BE_19 := Lib.hid (below_step BE_18.out hb BE_18.out.size)
  have RJ_19 := Lib.hid (RJ_18.out.kept hb)
  clear hb
  go_wp2_with fail
  refine (HA0.out _).mono ?_
  rintro e w20 ⟨rfl, hb⟩
  have BE_20 := Lib.hid (below_step BE_19.out hb BE_19.out.size)
  have RJ_20 := Lib.hid (RJ_19.out.kept hb)
  clear hb
  go_wp2_with fail
  refine (HA3.out _).mono ?_
  rintro e w21 ⟨rfl, hb⟩
  have BE_21 := Lib.hid (below_step BE_20.out hb BE_20.out.size)
  have RJ_21 := Lib.hid (RJ_20.out.kept hb)
  clear hb
  have hbx : Below w21.heap.size w21 (w21.alloc (.cells #[.slice (some ⟨jb, joff, none⟩) 3 jc] TS)) := (Below.refl _ _).alloc (Nat.le_refl _) _
  have BE_22 := Lib.hid (below_step BE_21.out hbx BE_21.out.size)
  have RJ_22 := Lib.hid (RJ_21.out.kept hbx)
  have X4 := heap_alloc_new w21 (.cells #[.slice (some ⟨jb, joff, none⟩) 3 jc] TS)
  replace X4 := Lib.hid X4
  clear hbx
  have HLO := Lib.hid (show SpsOf (w21.alloc (.cells #[.slice (some ⟨jb, joff, none⟩) 3 jc] TS)) (.slice (some ⟨w21.heap.size, 0, none⟩) 1 1) [[p03, p57, p99]] from Lists.one X4.out RJ_22.out)
  have HX := Lib.hid (least_any a0 a3 _ _ _ HLO.out (by simp) (by simp))
  go_wp2_with fail
  refine (HX.out).mono ?_
  rintro e w23 ⟨⟨r, rfl, hr⟩, hb⟩
  have BE_23 := Lib.hid (below_step BE_22.out hb BE_22.out.size)
  obtain rfl : r = (z0, false) := hr.unique HE3.out fun n => Iff.rfl
  clear hr
  clear hb
  have hbx : Below w23.heap.size w23 (w23.alloc (boxA z0)) := (Below.refl _ _).alloc (Nat.le_refl _) _
  have BE_24 := Lib.hid (below_step BE_23.out hbx BE_23.out.size)
  clear hbx
  go_wp2_with fail
  generalize w23.alloc (boxA z0) = v24 at *
  clear HX HLO
  refine (HA3.out _).mono ?_
  rintro e w25 ⟨rfl, hb⟩
  have BE_25 := Lib.hid (below_step BE_24.out hb BE_24.out.size)
  clear hb
  go_wp2_with fail
  refine (HA2.out _).mono ?_
  rintro e w26 ⟨rfl, hb⟩
  have BE_26 := Lib.hid (below_step BE_25.out hb BE_25.out.size)
  clear hb
  go_wp2_with fail
  refine (least_any a3 a2 (.slice none 0 0) [] _ (Lists.nil _) (by simp) (by simp)).mono ?_
  rintro e w27 ⟨⟨r, rfl, hr⟩, hb⟩
  have BE_27 := Lib.hid (below_step BE_26.out hb BE_26.out.size)
  obtain rfl : r = (z0, false) := hr.unique HE4.out fun n => Iff.rfl
  clear hr
  clear hb
  have hbx : Below w27.heap.size w27 (w27.alloc (boxA z0)) := (Below.refl _ _).alloc (Nat.le_refl _) _
  have BE_28 := Lib.hid (below_step BE_27.out hbx BE_27.out.size)
  clear hbx
  go_wp2_with fail
  generalize w27.alloc (boxA z0) = v28 at *
  refine (HA2.out _).mono ?_
  rintro e w29 ⟨rfl, hb⟩
  have BE_29 := Lib.hid (below_step BE_28.out hb BE_28.out.size)
  clear hb
  go_wp2_with fail
  refine (HA2.out _).mono ?_
  rintro e w30 ⟨rfl, hb⟩
  have BE_30 := Lib.hid (below_step BE_29.out hb BE_29.out.size)
  clear hb
  go_wp2_with fail
  refine (least_any a2 a2 (.slice none 0 0) [] _ (Lists.nil _) (by simp) (by simp)).mono ?_
  rintro e w31 ⟨⟨r, rfl, hr⟩, hb⟩
  have BE_31 := Lib.hid (below_step BE_30.out hb BE_30.out.size)
  obtain rfl : r = (a2, true) := hr.unique HE5.out fun n => Iff.rfl
  clear hr
  clear hb
  have hbx : Below w31.heap.size w31 (w31.alloc (boxA a2)) := (Below.refl _ _).alloc (Nat.le_refl _) _
  have BE_32 := Lib.hid (below_step BE_31.out hbx BE_31.out.size)
  have Y7 := Lib.hid (heap_alloc_new w31 (boxA a2))
  clear hbx
  go_wp2_with fail
  generalize w31.alloc (boxA a2) = v32 at *
  obtain ⟨kY7, hkY7⟩ : ∃ k, k = w31.heap.size := ⟨_, rfl⟩
  rw [← hkY7] at Y7 ⊢
  clear hkY7
  refine (HB0.out _).mono ?_
  rintro e w33 ⟨rfl, hb⟩
  have BE_33 := Lib.hid (below_step BE_32.out hb BE_32.out.size)
  have Y7_33 := Lib.hid (blk_kept hb Y7.out)
  clear hb
  have hbx : Below w33.heap.size w33 (w33.alloc (.cells #[.int .u8 6, .int .u64 0, .int .u64 0, .int .u8 (b0.1.toNat : Int), .int .u64 (b0.2.1.toNat : Int), .int .u64 (b0.2.2.toNat : Int)] TE)) := (Below.refl _ _).alloc (Nat.le_refl _) _
  have BE_34 := Lib.hid (below_step BE_33.out hbx BE_33.out.size)
  have Y7_34 := Lib.hid (blk_kept hbx Y7_33.out)
  have Y9 := heap_alloc_new w33 (.cells #[.int .u8 6, .int .u64 0, .int .u64 0, .int .u8 (b0.1.toNat : Int), .int .u64 (b0.2.1.toNat : Int), .int .u64 (b0.2.2.toNat : Int)] TE)
  replace Y9 := Lib.hid Y9
  clear hbx
  have hbx : Below (w33.alloc (.cells #[.int .u8 6, .int .u64 0, .int .u64 0, .int .u8 (b0.1.toNat : Int), .int .u64 (b0.2.1.toNat : Int), .int .u64 (b0.2.2.toNat : Int)] TE)).heap.size (w33.alloc (.cells #[.int .u8 6, .int .u64 0, .int .u64 0, .int .u8 (b0.1.toNat : Int), .int .u64 (b0.2.1.toNat : Int), .int .u64 (b0.2.2.toNat : Int)] TE)) ((w33.alloc (.cells #[.int .u8 6, .int .u64 0, .int .u64 0, .int .u8 (b0.1.toNat : Int), .int .u64 (b0.2.1.toNat : Int), .int .u64 (b0.2.2.toNat : Int)] TE)).alloc (.cells #[.int .u8 6, .int .u64 0, .int .u64 0, .int .u8 (b0.1.toNat : Int), .int .u64 (b0.2.1.toNat : Int), .int .u64 (b0.2.2.toNat : Int)] TE)) := (Below.refl _ _).alloc (Nat.le_refl _) _
  have BE_35 := Lib.hid (below_step BE_34.out hbx BE_34.out.size)
  have Y7_35 := Lib.hid (blk_kept hbx Y7_34.out)
  have Y9_35 := Lib.hid (blk_kept hbx Y9.out)
  have X1 := heap_alloc_new (w33.alloc (.cells #[.int .u8 6, .int .u64 0, .int .u64 0, .int .u8 (b0.1.toNat : Int), .int .u64 (b0.2.1.toNat : Int), .int .u64 (b0.2.2.toNat : Int)] TE)) (.cells #[.int .u8 6, .int .u64 0, .int .u64 0, .int .u8 (b0.1.toNat : Int), .int .u64 (b0.2.1.toNat : Int), .int .u64 (b0.2.2.toNat : Int)] TE)
  simp only [World.size_alloc] at X1
  replace X1 := Lib.hid X1
  clear hbx
  have hbx : Below ((w33.alloc (.cells #[.int .u8 6, .int .u64 0, .int .u64 0, .int .u8 (b0.1.toNat : Int), .int .u64 (b0.2.1.toNat : Int), .int .u64 (b0.2.2.toNat : Int)] TE)).alloc (.cells #[.int .u8 6, .int .u64 0, .int .u64 0, .int .u8 (b0.1.toNat : Int), .int .u64 (b0.2.1.toNat : Int), .int .u64 (b0.2.2.toNat : Int)] TE)).heap.size ((w33.alloc (.cells #[.int .u8 6, .int .u64 0, .int .u64 0, .int .u8 (b0.1.toNat : Int), .int .u64 (b0.2.1.toNat : Int), .int .u64 (b0.2.2.toNat : Int)] TE)).alloc (.cells #[.int .u8 6, .int .u64 0, .int .u64 0, .int .u8 (b0.1.toNat : Int), .int .u64 (b0.2.1.toNat : Int), .int .u64 (b0.2.2.toNat : Int)] TE)) (((w33.alloc (.cells #[.int .u8 6, .int .u64 0, .int .u64 0, .int .u8 (b0.1.toNat : Int), .int .u64 (b0.2.1.toNat : Int), .int .u64 (b0.2.2.toNat : Int)] TE)).alloc (.cells #[.int .u8 6, .int .u64 0, .int .u64 0, .int .u8 (b0.1.toNat : Int), .int .u64 (b0.2.1.toNat : Int), .int .u64 (b0.2.2.toNat : Int)] TE)).alloc (.cells #[.slice (some ⟨w33.heap.size + 1, 0, none⟩) 1 1] TS)) := (Below.refl _ _).alloc (Nat.le_refl _) _
  have BE_36 := Lib.hid (below_step BE_35.out hbx BE_35.out.size)
  have Y7_36 := Lib.hid (blk_kept hbx Y7_35.out)
  have Y9_36 := Lib.hid (blk_kept hbx Y9_35.out)
  have X1_36 := Lib.hid (blk_kept hbx X1.out)
  have X4 := heap_alloc_new ((w33.alloc (.cells #[.int .u8 6, .int .u64 0, .int .u64 0, .int .u8 (b0.1.toNat : Int), .int .u64 (b0.2.1.toNat : Int), .int .u64 (b0.2.2.toNat : Int)] TE)).alloc (.cells #[.int .u8 6, .int .u64 0, .int .u64 0, .int .u8 (b0.1.toNat : Int), .int .u64 (b0.2.1.toNat : Int), .int .u64 (b0.2.2.toNat : Int)] TE)) (.cells #[.slice (some ⟨w33.heap.size + 1, 0, none⟩) 1 1] TS)
  simp only [World.size_alloc] at X4
  replace X4 := Lib.hid X4
  clear hbx
  have HLO := Lib.hid (show SpsOf (((w33.alloc (.cells #[.int .u8 6, .int .u64 0, .int .u64 0, .int .u8 (b0.1.toNat : Int), .int .u64 (b0.2.1.toNat : Int), .int .u64 (b0.2.2.toNat : Int)] TE)).alloc (.cells #[.int .u8 6, .int .u64 0, .int .u64 0, .int .u8 (b0.1.toNat : Int), .int .u64 (b0.2.1.toNat : Int), .int .u64 (b0.2.2.toNat : Int)] TE)).alloc (.cells #[.slice (some ⟨w33.heap.size + 1, 0, none⟩) 1 1] TS)) (.slice (some ⟨w33.heap.size + 1 + 1, 0, none⟩) 1 1) [[((6, 0, 0), b0)]] from Lists.one X4.out (sps_block (l := [((6, 0, 0), b0)]) X1_36.out rfl 1 1 rfl))
  go_wp2_with fail
  refine (HL6.out _ _ HLO.out).mono ?_
  rintro e w37 ⟨⟨r, rfl, hr⟩, hb⟩
  have BE_37 := Lib.hid (below_step BE_36.out hb BE_36.out.size)
  have Y7_37 := Lib.hid (blk_kept hb Y7_36.out)
  have Y9_37 := Lib.hid (blk_kept hb Y9_36.out)
  obtain rfl : r = (z0, false) := hr.unique HE6.out fun n => Iff.rfl
  clear hr
  clear hb
  have hbx : Below w37.heap.size w37 (w37.alloc (boxA z0)) := (Below.refl _ _).alloc (Nat.le_refl _) _
  have BE_38 := Lib.hid (below_step BE_37.out hbx BE_37.out.size)
  have Y7_38 := Lib.hid (blk_kept hbx Y7_37.out)
  have Y9_38 := Lib.hid (blk_kept hbx Y9_37.out)
  clear hbx
  go_wp2_with fail
  generalize w37.alloc (boxA z0) = v38 at *
  clear HLO
  obtain ⟨kY9, hkY9⟩ : ∃ k, k = w33.heap.size := ⟨_, rfl⟩
  rw [← hkY9] at Y9_38 ⊢
  clear hkY9
  refine (HB5.out _).mono ?_
  rintro e w39 ⟨rfl, hb⟩
  have BE_39 := Lib.hid (below_step BE_38.out hb BE_38.out.size)
  have Y7_39 := Lib.hid (blk_kept hb Y7_38.out)
  have Y9_39 := Lib.hid (blk_kept hb Y9_38.out)
  clear hb
  go_wp2_with fail
  refine (HB0.out _).mono ?_
  rintro e w40 ⟨rfl, hb⟩
  have BE_40 := Lib.hid (below_step BE_39.out hb BE_39.out.size)
  have Y7_40 := Lib.hid (blk_kept hb Y7_39.out)
  have Y9_40 := Lib.hid (blk_kept hb Y9_39.out)
  clear hb
  go_wp2_with fail
  refine (HB5.out _).mono ?_
  rintro e w41 ⟨rfl, hb⟩
  have BE_41 := Lib.hid (below_step BE_40.out hb BE_40.out.size)
  have Y7_41 := Lib.hid (blk_kept hb Y7_40.out)
  have Y9_41 := Lib.hid (blk_kept hb Y9_40.out)
  clear hb
  go_wp2_with fail
  refine (HB1.out _).mono ?_
  rintro e w42 ⟨rfl, hb⟩
  have BE_42 := Lib.hid (below_step BE_41.out hb BE_41.out.size)
  have Y7_42 := Lib.hid (blk_kept hb Y7_41.out)
  have Y9_42 := Lib.hid (blk_kept hb Y9_41.out)
  clear hb
  have hbx : Below w42.heap.size w42 (w42.alloc (.cells (encC (b5, b1)).toArray TE)) := (Below.refl _ _).alloc (Nat.le_refl _) _
  have BE_43 := Lib.hid (below_step BE_42.out hbx BE_42.out.size)
  have Y7_43 := Lib.hid (blk_kept hbx Y7_42.out)
  have Y9_43 := Lib.hid (blk_kept hbx Y9_42.out)
  have X1 := heap_alloc_new w42 (.cells (encC (b5, b1)).toArray TE)
  replace X1 := Lib.hid X1
  clear hbx
  have hbx : Below (w42.alloc (.cells (encC (b5, b1)).toArray TE)).heap.size (w42.alloc (.cells (encC (b5, b1)).toArray TE)) ((w42.alloc (.cells (encC (b5, b1)).toArray TE)).alloc (.cells #[.slice (some ⟨w42.heap.size, 0, none⟩) 1 1] TS)) := (Below.refl _ _).alloc (Nat.le_refl _) _
  have BE_44 := Lib.hid (below_step BE_43.out hbx BE_43.out.size)
  have Y7_44 := Lib.hid (blk_kept hbx Y7_43.out)
  have Y9_44 := Lib.hid (blk_kept hbx Y9_43.out)
  have X1_44 := Lib.hid (blk_kept hbx X1.out)
  have X4 := heap_alloc_new (w42.alloc (.cells (encC (b5, b1)).toArray TE)) (.cells #[.slice (some ⟨w42.heap.size, 0, none⟩) 1 1] TS)
  simp only [World.size_alloc] at X4
  replace X4 := Lib.hid X4
  clear hbx
  have HLO := Lib.hid (show SpsOf ((w42.alloc (.cells (encC (b5, b1)).toArray TE)).alloc (.cells #[.slice (some ⟨w42.heap.size, 0, none⟩) 1 1] TS)) (.slice (some ⟨w42.heap.size + 1, 0, none⟩) 1 1) [[(b5, b1)]] from Lists.one X4.out (sps_block (l := [(b5, b1)]) X1_44.out rfl 1 1 rfl))
  have HX := Lib.hid (least_any b5 b0 _ _ _ HLO.out (by simp) (by simp))
  go_wp2_with fail
  refine (HX.out).mono ?_
  rintro e w45 ⟨⟨r, rfl, hr⟩, hb⟩
  have BE_45 := Lib.hid (below_step BE_44.out hb BE_44.out.size)
  have Y7_45 := Lib.hid (blk_kept hb Y7_44.out)
  have Y9_45 := Lib.hid (blk_kept hb Y9_44.out)
  obtain rfl : r = (b0, true) := hr.unique HE7.out fun n => Iff.rfl
  clear hr
  clear hb
  have hbx : Below w45.heap.size w45 (w45.alloc (boxA b0)) := (Below.refl _ _).alloc (Nat.le_refl _) _
  have BE_46 := Lib.hid (below_step BE_45.out hbx BE_45.out.size)
  have Y7_46 := Lib.hid (blk_kept hbx Y7_45.out)
  have Y9_46 := Lib.hid (blk_kept hbx Y9_45.out)
  have Y12 := Lib.hid (heap_alloc_new w45 (boxA b0))
  clear hbx
  go_wp2_with fail
  generalize w45.alloc (boxA b0) = v46 at *
  obtain ⟨kY12, hkY12⟩ : ∃ k, k = w45.heap.size := ⟨_, rfl⟩
  rw [← hkY12] at Y12 ⊢
  clear hkY12
  clear HX HLO
  refine (HA0.out _).mono ?_
  rintro e w47 ⟨rfl, hb⟩
  have BE_47 := Lib.hid (below_step BE_46.out hb BE_46.out.size)
  have Y7_47 := Lib.hid (blk_kept hb Y7_46.out)
  have Y9_47 := Lib.hid (blk_kept hb Y9_46.out)
  have Y12_47 := Lib.hid (blk_kept hb Y12.out)
  clear hb
  go_wp2_with fail
  refine (HB0.out _).mono ?_
  rintro e w48 ⟨rfl, hb⟩
  have BE_48 := Lib.hid (below_step BE_47.out hb BE_47.out.size)
  have Y7_48 := Lib.hid (blk_kept hb Y7_47.out)
  have Y9_48 := Lib.hid (blk_kept hb Y9_47.out)
  have Y12_48 := Lib.hid (blk_kept hb Y12_47.out)
  clear hb
  go_wp2_with fail
  refine (least_any a0 b0 (.slice none 0 0) [] _ (Lists.nil _) (by simp) (by simp)).mono ?_
  rintro e w49 ⟨⟨r, rfl, hr⟩, hb⟩
  have BE_49 := Lib.hid (below_step BE_48.out hb BE_48.out.size)
  have Y7_49 := Lib.hid (blk_kept hb Y7_48.out)
  have Y9_49 := Lib.hid (blk_kept hb Y9_48.out)
  have Y12_49 := Lib.hid (blk_kept hb Y12_48.out)
  obtain rfl : r = (z0, false) := hr.unique HE8.out fun n => Iff.rfl
  clear hr
  clear hb
  have hbx : Below w49.heap.size w49 (w49.alloc (boxA z0)) := (Below.refl _ _).alloc (Nat.le_refl _) _
  have BE_50 := Lib.hid (below_step BE_49.out hbx BE_49.out.size)
  have Y7_50 := Lib.hid (blk_kept hbx Y7_49.out)
  have Y9_50 := Lib.hid (blk_kept hbx Y9_49.out)
  have Y12_50 := Lib.hid (blk_kept hbx Y12_49.out)
  clear hbx
  go_wp2_with fail
  generalize w49.alloc (boxA z0) = v50 at *
  have m0 : ∀ zz : Later v50.heap.size v50, zz.val.cell? ⟨kY7, 0, none⟩ = some (.int .u8 (a2.1.toNat : Int)) := fun zz => Later.cell (box_n0 Y7_50.out) (blk_lt Y7_50.out) zz
  have m1 : ∀ zz : Later v50.heap.size v50, zz.val.cell? ⟨kY7, 1, none⟩ = some (.int .u64 (a2.2.1.toNat : Int)) := fun zz => Later.cell (box_n1 Y7_50.out) (blk_lt Y7_50.out) zz
  have m2 : ∀ zz : Later v50.heap.size v50, zz.val.cell? ⟨kY7, 2, none⟩ = some (.int .u64 (a2.2.2.toNat : Int)) := fun zz => Later.cell (box_n2 Y7_50.out) (blk_lt Y7_50.out) zz
  have o0 : ∀ zz : Later v50.heap.size v50, zz.val.cell? ⟨kY12, 0, none⟩ = some (.int .u8 (b0.1.toNat : Int)) := fun zz => Later.cell (box_n0 Y12_50.out) (blk_lt Y12_50.out) zz
  have o1 : ∀ zz : Later v50.heap.size v50, zz.val.cell? ⟨kY12, 1, none⟩ = some (.int .u64 (b0.2.1.toNat : Int)) := fun zz => Later.cell (box_n1 Y12_50.out) (blk_lt Y12_50.out) zz
  have o2 : ∀ zz : Later v50.heap.size v50, zz.val.cell? ⟨kY12, 2, none⟩ = some (.int .u64 (b0.2.2.toNat : Int)) := fun zz => Later.cell (box_n2 Y12_50.out) (blk_lt Y12_50.out) zz
  have s0 : ∀ zz : Later v50.heap.size v50, zz.val.cell? ⟨kY9, 0, none⟩ = some (.int .u8 6) := fun zz => Later.cell (by rw [blk_cell Y9_50.out]; rfl) (blk_lt Y9_50.out) zz
  have s1 : ∀ zz : Later v50.heap.size v50, zz.val.cell? ⟨kY9, 1, none⟩ = some (.int .u64 0) := fun zz => Later.cell (by rw [blk_cell Y9_50.out]; rfl) (blk_lt Y9_50.out) zz
  have s2 : ∀ zz : Later v50.heap.size v50, zz.val.cell? ⟨kY9, 2, none⟩ = some (.int .u64 0) := fun zz => Later.cell (by rw [blk_cell Y9_50.out]; rfl) (blk_lt Y9_50.out) zz
  have s3 : ∀ zz : Later v50.heap.size v50, zz.val.cell? ⟨kY9, 3, none⟩ = some (.int .u8 (b0.1.toNat : Int)) := fun zz => Later.cell (by rw [blk_cell Y9_50.out]; rfl) (blk_lt Y9_50.out) zz
  have s4 : ∀ zz : Later v50.heap.size v50, zz.val.cell? ⟨kY9, 4, none⟩ = some (.int .u64 (b0.2.1.toNat : Int)) := fun zz => Later.cell (by rw [blk_cell Y9_50.out]; rfl) (blk_lt Y9_50.out) zz
  have s5 : ∀ zz : Later v50.heap.size v50, zz.val.cell? ⟨kY9, 5, none⟩ = some (.int .u64 (b0.2.2.toNat : Int)) := fun zz => Later.cell (by rw [blk_cell Y9_50.out]; rfl) (blk_lt Y9_50.out) zz
  have qa2 : ∀ W, (binOp .eql 25 (encA a2) (encA a2)).run Try.prog W = .ok (.bool true) W := fun W => by
    have := run_eqlAa a2 a2 W
    rwa [beq_self_eq_true] at this
  have qb0 : ∀ W, (binOp .eql 25 (encA b0) (encA b0)).run Try.prog W = .ok (.bool true) W := fun W => by
    have := run_eqlAa b0 b0 W
    rwa [beq_self_eq_true] at this
  refine wp_region_later v50.heap.size (by kernel_rfl) (by kernel_rfl) ?_
  repeat (go_big_quiet_step (first
    | (go_at_call 27; first | (with_reducible exact Later.calls (Nat.le_refl _) (HA2.out _)) | (with_reducible exact Later.calls (Nat.le_refl _) (HA3.out _)))
    | (go_at_call 28; first | (with_reducible exact Later.calls (Nat.le_refl _) (HB0.out _)) | (with_reducible exact Later.calls (Nat.le_refl _) (HB3.out _)))
    | (go_at_call 24; first | (with_reducible exact Later.calls (Nat.le_refl _) (HH1.out _)) | (with_reducible exact Later.calls (Nat.le_refl _) (HH2.out _)))
    | (go_at_call 10; exact Later.calls (Nat.le_refl _) (HAW.out _))))
  refine wpQuiet_nil ?_
  rintro wz ⟨zz, rfl⟩
  have hb := zz.prop
  clear m0 m1 m2 o0 o1 o2 s0 s1 s2 s3 s4 s5 qa2 qb0
  generalize zz.val = wz at *
  have BE_51 := Lib.hid (below_step BE_50.out hb BE_50.out.size)
  have Y7_51 := Lib.hid (blk_kept hb Y7_50.out)
  have Y9_51 := Lib.hid (blk_kept hb Y9_50.out)
  have Y12_51 := Lib.hid (blk_kept hb Y12_50.out)
  clear hb
  go_wp2_with fail
  go_ret
  exact ⟨rfl, BE_51.out⟩
end Go.Proofs.Try.Gp
