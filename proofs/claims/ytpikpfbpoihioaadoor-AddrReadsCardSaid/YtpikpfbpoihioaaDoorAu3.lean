/- The groups of an address; the longest run of groups that are 0. -/
import Derived.Test.YtpikpfbpoihioaaDoorAu2
set_option linter.unusedVariables false
set_option linter.unusedSimpArgs false
set_option maxRecDepth 100000
namespace Go.Proofs.Tryd.Tx
open Go.RowKit Go.Cph Go.Cph.Tx
open Go.Cph.Ok (ofBs)
open Go.Cph.Px (Ad rightA bytesA)
open Go.Proofs.Tryd.Pfx (encA bcell)
theorem and16 (n : Nat) (h : n < 18446744073709551616) : Go.bits .and .u64 (n : Int) 65535 = ((n % 65536 : Nat) : Int) := by
  have := u64_and_nat n 65535 h (by decide)
  refine this.trans ?_
  rw [show (65535 : Nat) = 2 ^ 16 - 1 from rfl, Nat.and_two_pow_sub_one_eq_mod]
theorem shr_and (n k : Nat) (h : n < 18446744073709551616) : Go.bits .and .u64 ((n : Int) / (k : Int)) 65535 = ((n / k % 65536 : Nat) : Int) := by
  rw [show (n : Int) / (k : Int) = ((n / k : Nat) : Int) by simp, and16 _ (Nat.lt_of_le_of_lt (Nat.div_le_self _ _) h)]
abbrev boxA (a : Ad) : Obj := .cells #[.int .u8 (a.1.toNat : Int), .int .u64 (a.2.1.toNat : Int), .int .u64 (a.2.2.toNat : Int)] 24 (0, 0)
theorem ret_u {a b : Int} (h : a = b) : Ending.returned (.int .u64 a) = .returned (.int .u64 b) := by rw [h]
set_option maxHeartbeats 1600000 in
theorem group_any (a : Ad) (i : Nat) (hi : i < 8) (w : World) : Calls Tryd.prog 36 #[encA a, .int .i64 (i : Int)] w fun e w' => e = .returned (.int .u64 (grp a i : Int)) ∧ Below w.heap.size w w' := by
  obtain ⟨f, x, y⟩ := a
  have HB := Lib.hid (show Below w.heap.size w (w.alloc (boxA (f, x, y))) from (Below.refl _ _).alloc (Nat.le_refl _) _)
  have hx := heap_alloc_new w (boxA (f, x, y))
  have c1 : (w.alloc (boxA (f, x, y))).cell? ⟨w.heap.size, 1, none⟩ = some (.int .u64 (x.toNat : Int)) := by rw [blk_cell hx]; rfl
  have c2 : (w.alloc (boxA (f, x, y))).cell? ⟨w.heap.size, 2, none⟩ = some (.int .u64 (y.toNat : Int)) := by rw [blk_cell hx]; rfl
  have X := fun k => shr_and x.toNat k x.toNat_lt
  have Y := fun k => shr_and y.toNat k y.toNat_lt
  have x0 : Go.bits .and .u64 (x.toNat : Int) 65535 = ((x.toNat % 65536 : Nat) : Int) := and16 _ x.toNat_lt
  have y0 : Go.bits .and .u64 (y.toNat : Int) 65535 = ((y.toNat % 65536 : Nat) : Int) := and16 _ y.toNat_lt
  clear hx
  have hcase : i = 0 ∨ i = 1 ∨ i = 2 ∨ i = 3 ∨ i = 4 ∨ i = 5 ∨ i = 6 ∨ i = 7 := by omega
  rcases hcase with rfl | rfl | rfl | rfl | rfl | rfl | rfl | rfl
  all_goals
    go_enter Tryd.func36, Tryd.ntmps36
    go_wp2
    go_ret
    refine ⟨ret_u ?_, HB.out⟩
    first
      | exact X 281474976710656
      | exact X 4294967296
      | exact X 65536
      | exact X 1
      | exact Y 281474976710656
      | exact Y 4294967296
      | exact Y 65536
      | exact Y 1
      | (simp [grp]; trace_state; done)
theorem runS_le (z : Nat → Bool) : ∀ k, (runS z k).1 ≤ k ∧ (runS z k).2.1 ≤ k ∧ (runS z k).2.2 ≤ k := by
  intro k
  induction k with
  | zero => exact ⟨Nat.le_refl _, Nat.le_refl _, Nat.le_refl _⟩
  | succ k ih =>
    unfold runS
    generalize runS z k = q at *
    obtain ⟨n, p, m⟩ := q
    cases z k <;> simp only [Bool.false_eq_true, if_false, if_true] <;> split <;> refine ⟨?_, ?_, ?_⟩ <;> dsimp only at * <;> omega
theorem ret_run {a b c d : Int} (h : a = c) (k : b = d) : Ending.returned (.tuple #[.int .i64 a, .int .i64 b]) = .returned (.tuple #[.int .i64 c, .int .i64 d]) := by rw [h, k]
theorem zf_ne {a : Ad} {k : Nat} (h : zf a k = false) : ((grp a k : Int) != 0) = true := by
  unfold zf at h
  have : grp a k ≠ 0 := by simpa using h
  simp; exact this
theorem zf_eq {a : Ad} {k : Nat} (h : zf a k = true) : ((grp a k : Int) != 0) = false := by
  unfold zf at h
  have : grp a k = 0 := by simpa using h
  simp [this]
set_option maxHeartbeats 3200000 in
theorem run_any (a : Ad) (w : World) : Calls Tryd.prog 37 #[encA a] w fun e w' => e = .returned (.tuple #[.int .i64 ((run a).1 : Int), .int .i64 ((run a).2 : Int)]) ∧ Below w.heap.size w w' := by
  have HG := Lib.hid (fun (k : Nat) (hk : k < 8) (W : World) => group_any a k hk W)
  have HZ := Lib.hid (fun k => @zf_ne a k)
  have HY := Lib.hid (fun k => @zf_eq a k)
  have HR := Lib.hid (show run a = runR (zf a) from rfl)
  obtain ⟨z, hz⟩ : ∃ z, z = zf a := ⟨_, rfl⟩
  rw [← hz] at HZ HY HR
  obtain ⟨g, hg⟩ : ∃ g, g = grp a := ⟨_, rfl⟩
  rw [← hg] at HG HZ HY
  obtain ⟨rr, hrr⟩ : ∃ rr, rr = run a := ⟨_, rfl⟩
  rw [← hrr] at HR ⊢
  clear hz hg hrr
  obtain ⟨f, x, y⟩ := a
  have HB := Lib.hid (show Below w.heap.size w (w.alloc (boxA (f, x, y))) from (Below.refl _ _).alloc (Nat.le_refl _) _)
  have HX := Lib.hid (heap_alloc_new w (boxA (f, x, y)))
  have HSZ := Lib.hid (World.size_alloc w (boxA (f, x, y)))
  go_enter Tryd.func37, Tryd.ntmps37
  go_wp2_with fail
  go_loopw [2, 3, 4, 6] (fun v2 v3 v4 v6 W => ∃ k n p m : Nat, k ≤ 8 ∧ v6 = .int .i64 (k : Int) ∧ v4 = .int .i64 (n : Int) ∧ v2 = .int .i64 (p : Int) ∧ v3 = .int .i64 (m : Int) ∧ Hid (runS z k = (n, p, m)) ∧ W.heap[w.heap.size]? = some (boxA (f, x, y)) ∧ Below w.heap.size w W) (fun _ _ _ v6 _ => (8 - intOf v6).toNat)
  case atStart => exact ⟨0, 0, 0, 0, by omega, rfl, rfl, rfl, rfl, Lib.hid rfl, HX.out, HB.out⟩
  case round =>
    obtain ⟨k, n, p, m, hk, rfl, rfl, rfl, rfl, HS, hblk, hb⟩ := hrel
    have HK := Lib.hid hblk
    have HB2 := Lib.hid hb
    have hle := runS_le z k
    rw [HS.out] at hle
    have hn := hle.1
    have hp := hle.2.1
    have hm := hle.2.2
    have c0 : wr.cell? ⟨w.heap.size, 0, none⟩ = some (.int .u8 (f.toNat : Int)) := by rw [blk_cell hblk]; rfl
    have c1 : wr.cell? ⟨w.heap.size, 1, none⟩ = some (.int .u64 (x.toNat : Int)) := by rw [blk_cell hblk]; rfl
    have c2 : wr.cell? ⟨w.heap.size, 2, none⟩ = some (.int .u64 (y.toNat : Int)) := by rw [blk_cell hblk]; rfl
    have k1 : IntKind.i64.wrap ((n : Int) + 1) = ((n + 1 : Nat) : Int) := by rw [IntKind.wrap_i64]; omega
    have k2 : IntKind.i64.wrap ((k : Int) + 1) = ((k + 1 : Nat) : Int) := by rw [IntKind.wrap_i64]; omega
    have k3 : IntKind.i64.wrap (((k + 1 : Nat) : Int) - ((n + 1 : Nat) : Int)) = ((k + 1 - (n + 1) : Nat) : Int) := by rw [IntKind.wrap_i64]; omega
    clear hle hblk hb
    by_cases h8 : k < 8
    · have h8i : (k : Int) < 8 := by omega
      have HSucc := Lib.hid (show runS z (k + 1) = if m < (if z k then n + 1 else 0) then ((if z k then n + 1 else 0), k + 1 - (if z k then n + 1 else 0), (if z k then n + 1 else 0)) else ((if z k then n + 1 else 0), p, m) by
        conv => lhs; unfold runS
        rw [HS.out])
      have HC := Lib.hid (HG.out k h8)
      cases hzk : z k with
      | false =>
        have hne := HZ.out k hzk
        rw [hzk] at HSucc
        have HF := Lib.hid (show runS z (k + 1) = (0, p, m) by rw [HSucc.out]; simp)
        have hm0 : ¬ (m : Int) < 0 := by omega
        clear hzk
        go_wp2_with fail
        refine (HC.out _).mono ?_
        rintro e w1 ⟨rfl, hb⟩
        have HB3 := Lib.hid (below_step HB2.out hb HB2.out.size)
        have HK3 := Lib.hid (blk_kept hb HK.out)
        clear hb
        go_wp2_with fail
        go_roundw
        case rel => exact ⟨k + 1, 0, p, m, by omega, rfl, rfl, rfl, rfl, Lib.hid HF.out, HK3.out, HB3.out⟩
        case measure => simp [intOf]; omega
      | true =>
        have hne := HY.out k hzk
        rw [hzk] at HSucc
        by_cases hmn : m < n + 1
        · have hmi : (m : Int) < ((n + 1 : Nat) : Int) := by omega
          have HF := Lib.hid (show runS z (k + 1) = (n + 1, k + 1 - (n + 1), n + 1) by rw [HSucc.out]; simp [hmn])
          clear hzk
          go_wp2_with fail
          refine (HC.out _).mono ?_
          rintro e w1 ⟨rfl, hb⟩
          have HB3 := Lib.hid (below_step HB2.out hb HB2.out.size)
          have HK3 := Lib.hid (blk_kept hb HK.out)
          clear hb
          go_wp2_with fail
          go_roundw
          case rel => exact ⟨k + 1, n + 1, k + 1 - (n + 1), n + 1, by omega, rfl, rfl, by first | rfl | (congr 1; omega), rfl, Lib.hid HF.out, HK3.out, HB3.out⟩
          case measure => simp [intOf]; omega
        · have hmi : ¬ (m : Int) < ((n + 1 : Nat) : Int) := by omega
          have HF := Lib.hid (show runS z (k + 1) = (n + 1, p, m) by rw [HSucc.out]; simp [hmn])
          clear hzk
          go_wp2_with fail
          refine (HC.out _).mono ?_
          rintro e w1 ⟨rfl, hb⟩
          have HB3 := Lib.hid (below_step HB2.out hb HB2.out.size)
          have HK3 := Lib.hid (blk_kept hb HK.out)
          clear hb
          go_wp2_with fail
          go_roundw
          case rel => exact ⟨k + 1, n + 1, p, m, by omega, rfl, rfl, rfl, rfl, Lib.hid HF.out, HK3.out, HB3.out⟩
          case measure => simp [intOf]; omega
    · obtain rfl : k = 8 := by omega
      have HF := Lib.hid (show rr = if m < 2 then (8, 0) else (p, m) by
        rw [HR.out]; unfold runR; rw [HS.out])
      by_cases h2 : m < 2
      · have h2i : (m : Int) < 2 := by omega
        have HV := Lib.hid (show rr = (8, 0) by rw [HF.out, if_pos h2])
        go_wp2_with fail
        go_ret2
        exact ⟨by rw [HV.out]; rfl, HB2.out⟩
      · have h2i : ¬ (m : Int) < 2 := by omega
        have HV := Lib.hid (show rr = (p, m) by rw [HF.out, if_neg h2])
        go_wp2_with fail
        go_ret2
        exact ⟨by rw [HV.out]; rfl, HB2.out⟩
end Go.Proofs.Tryd.Tx
