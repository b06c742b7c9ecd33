/- MC: texts put together: Qp Qa Qb Qc Ra. -/
import Derived.Test.YtmjjhnfdpiclfaaGreatDoorProg
import Derived.Test.YtmjjhnfdpiclfaaGreatDoorMA
import Derived.StillTailTactics
import Derived.Deep.RegionLaw
import Derived.Laws.Externs
import Derived.RegionTactic
import Derived.ChangeAlike
import Derived.Deep.RegionHeld3
import Derived.Test.YtmjjhnfdpiclfaaGreatDoorMB
/- The program's addresses and prefixes: right, ahead; cut (pools' PxD to PxG). -/
set_option linter.unusedVariables false
set_option linter.unusedSimpArgs false
namespace Go.Proofs.Tryz.Pfx
open Go.RowKit Go.Cph Go.Cph.Px

abbrev encA (a : Ad) : Value := .agg #[.int .u8 (a.1.toNat : Int), .int .u64 (a.2.1.toNat : Int), .int .u64 (a.2.2.toNat : Int)]
abbrev encP (p : Pf) : Value := .agg #[.int .u8 (p.1.1.toNat : Int), .int .u64 (p.1.2.1.toNat : Int), .int .u64 (p.1.2.2.toNat : Int), .int .i64 p.2]

theorem u8_eq (x : UInt8) (c : UInt8) : ((x.toNat : Int) == (c.toNat : Int)) = (x == c) := by
  rw [Bool.eq_iff_iff, beq_iff_eq, beq_iff_eq, ← UInt8.toNat_inj]; omega
theorem u64_eq (x c : UInt64) : ((x.toNat : Int) == (c.toNat : Int)) = (x == c) := by
  rw [Bool.eq_iff_iff, beq_iff_eq, beq_iff_eq, ← UInt64.toNat_inj]; omega

set_option maxHeartbeats 400000 in
theorem isNaN8 (x : Int) (w : World) : Calls Tryz.prog 86 #[.int .u8 x] w fun e w' => e = .returned (.bool false) ∧ w = w' := by
  go_enter Tryz.func86, Tryz.ntmps86
  go_wp2_with fail
  go_ret
  exact ⟨by simp, rfl⟩
set_option maxHeartbeats 400000 in
theorem isNaN64 (x : Int) (w : World) : Calls Tryz.prog 87 #[.int .u64 x] w fun e w' => e = .returned (.bool false) ∧ w = w' := by
  go_enter Tryz.func87, Tryz.ntmps87
  go_wp2_with fail
  go_ret
  exact ⟨by simp, rfl⟩
def cmpN (x y : Int) : Int := if x < y then -1 else if y < x then 1 else 0
set_option maxHeartbeats 400000 in
theorem compare8 (x y : Int) (w : World) : Calls Tryz.prog 65 #[.int .u8 x, .int .u8 y] w fun e w' => e = .returned (.int .i64 (cmpN x y)) ∧ w = w' := by
  have hc : x < y ∨ (¬ x < y ∧ y < x) ∨ (¬ x < y ∧ ¬ y < x) := by omega
  rcases hc with h | ⟨h, k⟩ | ⟨h, k⟩
  all_goals
    go_enter Tryz.func65, Tryz.ntmps65
    go_wp2_with (go_at_call 86; refine (isNaN8 _ _).mono ?_; rintro e w' ⟨rfl, rfl⟩)
    go_ret
    exact ⟨ret_int (by unfold cmpN; (repeat split) <;> omega), rfl⟩
set_option maxHeartbeats 400000 in
theorem compare64 (x y : Int) (w : World) : Calls Tryz.prog 66 #[.int .u64 x, .int .u64 y] w fun e w' => e = .returned (.int .i64 (cmpN x y)) ∧ w = w' := by
  have hc : x < y ∨ (¬ x < y ∧ y < x) ∨ (¬ x < y ∧ ¬ y < x) := by omega
  rcases hc with h | ⟨h, k⟩ | ⟨h, k⟩
  all_goals
    go_enter Tryz.func66, Tryz.ntmps66
    go_wp2_with (go_at_call 87; refine (isNaN64 _ _).mono ?_; rintro e w' ⟨rfl, rfl⟩)
    go_ret
    exact ⟨ret_int (by unfold cmpN; (repeat split) <;> omega), rfl⟩
def orN (x y z : Int) : Int := if x = 0 then (if y = 0 then z else y) else x
set_option maxHeartbeats 1000000 in
theorem or3 (x y z : Int) (b : Nat) (cap : Nat) (w : World) (h : w.heap[b]? = some (.cells #[.int .i64 x, .int .i64 y, .int .i64 z] 3 (0, 0))) :
    Calls Tryz.prog 64 #[.slice (some ⟨b, 0, none⟩) 3 cap] w fun e w' => e = .returned (.int .i64 (orN x y z)) ∧ w = w' := by
  have c0 : w.cell? ⟨b, 0, none⟩ = some (.int .i64 x) := by rw [blk_cell h]; rfl
  have c1 : w.cell? ⟨b, 1, none⟩ = some (.int .i64 y) := by rw [blk_cell h]; rfl
  have c2 : w.cell? ⟨b, 2, none⟩ = some (.int .i64 z) := by rw [blk_cell h]; rfl
  clear h
  have hc : x ≠ 0 ∨ (x = 0 ∧ y ≠ 0) ∨ (x = 0 ∧ y = 0 ∧ z ≠ 0) ∨ (x = 0 ∧ y = 0 ∧ z = 0) := by omega
  rcases hc with hx | ⟨rfl, hx⟩ | ⟨rfl, rfl, hx⟩ | ⟨rfl, rfl, rfl⟩
  all_goals
    go_enter Tryz.func64, Tryz.ntmps64
    go_wp2_with fail
    refine wp_loop_rounds 4 ?_
    rw [rounds_succ]
    go_wp2_with fail
  · go_ret
    exact ⟨ret_int (by unfold orN; rw [if_neg hx]), rfl⟩
  · rw [rounds_succ]
    go_wp2_with fail
    go_ret
    exact ⟨ret_int (by unfold orN; rw [if_pos rfl, if_neg hx]), rfl⟩
  · rw [rounds_succ]
    go_wp2_with fail
    rw [rounds_succ]
    go_wp2_with fail
    go_ret
    exact ⟨ret_int (by unfold orN; rw [if_pos rfl, if_pos rfl]), rfl⟩
  · rw [rounds_succ]
    go_wp2_with fail
    rw [rounds_succ]
    go_wp2_with fail
    rw [rounds_succ]
    go_wp2_with fail
    go_ret
    exact ⟨ret_int (by unfold orN; rw [if_pos rfl, if_pos rfl]), rfl⟩
theorem or_cmp (a b : Ad) : decide (orN (cmpN a.1.toNat b.1.toNat) (cmpN a.2.1.toNat b.2.1.toNat) (cmpN a.2.2.toNat b.2.2.toNat) < 0) = lessA a b := by
  rw [Bool.eq_iff_iff, decide_eq_true_eq, lessA_iff]
  have h1 := a.2.1.toNat_lt
  have h2 := a.2.2.toNat_lt
  have h3 := b.2.1.toNat_lt
  have h4 := b.2.2.toNat_lt
  unfold orN cmpN num
  (repeat split) <;> omega
set_option maxHeartbeats 2000000 in
set_option maxRecDepth 100000 in
theorem less (a b : Ad) (w : World) : Calls Tryz.prog 43 #[encA a, encA b] w fun e w' => e = .returned (.bool (lessA a b)) ∧ Below w.heap.size w w' := by
  have HO := Lib.hid (or_cmp a b)
  generalize hx : cmpN a.1.toNat b.1.toNat = x at HO
  generalize hy : cmpN a.2.1.toNat b.2.1.toNat = y at HO
  generalize hz : cmpN a.2.2.toNat b.2.2.toNat = z at HO
  have c1 : ∀ W, Calls Tryz.prog 65 #[.int .u8 (a.1.toNat : Int), .int .u8 (b.1.toNat : Int)] W fun e w' => e = .returned (.int .i64 x) ∧ w' = W := fun W => by rw [← hx]; exact (compare8 _ _ W).mono fun _ _ h => ⟨h.1, h.2.symm⟩
  have c2 : ∀ W, Calls Tryz.prog 66 #[.int .u64 (a.2.1.toNat : Int), .int .u64 (b.2.1.toNat : Int)] W fun e w' => e = .returned (.int .i64 y) ∧ w' = W := fun W => by rw [← hy]; exact (compare64 _ _ W).mono fun _ _ h => ⟨h.1, h.2.symm⟩
  have c3 : ∀ W, Calls Tryz.prog 66 #[.int .u64 (a.2.2.toNat : Int), .int .u64 (b.2.2.toNat : Int)] W fun e w' => e = .returned (.int .i64 z) ∧ w' = W := fun W => by rw [← hz]; exact (compare64 _ _ W).mono fun _ _ h => ⟨h.1, h.2.symm⟩
  have C1 := Lib.hid c1
  have C2 := Lib.hid c2
  have C3 := Lib.hid c3
  clear c1 c2 c3 hx hy hz
  go_enter Tryz.func43, Tryz.ntmps43
  go_wp2_with fail
  have g0 : ((w.alloc (.cells #[.int .u8 (a.1.toNat : Int), .int .u64 (a.2.1.toNat : Int), .int .u64 (a.2.2.toNat : Int)] 24)).alloc (.cells #[.int .u8 (b.1.toNat : Int), .int .u64 (b.2.1.toNat : Int), .int .u64 (b.2.2.toNat : Int)] 24)).heap[w.heap.size]? = some (.cells #[.int .u8 (a.1.toNat : Int), .int .u64 (a.2.1.toNat : Int), .int .u64 (a.2.2.toNat : Int)] 24 (0, 0)) := blk_alloc (heap_alloc_new _ _) _
  have g1 := heap_alloc_new (w.alloc (.cells #[.int .u8 (a.1.toNat : Int), .int .u64 (a.2.1.toNat : Int), .int .u64 (a.2.2.toNat : Int)] 24)) (.cells #[.int .u8 (b.1.toNat : Int), .int .u64 (b.2.1.toNat : Int), .int .u64 (b.2.2.toNat : Int)] 24)
  rw [World.size_alloc] at g1
  have hb : Below w.heap.size w ((w.alloc (.cells #[.int .u8 (a.1.toNat : Int), .int .u64 (a.2.1.toNat : Int), .int .u64 (a.2.2.toNat : Int)] 24)).alloc (.cells #[.int .u8 (b.1.toNat : Int), .int .u64 (b.2.1.toNat : Int), .int .u64 (b.2.2.toNat : Int)] 24)) := ((Below.refl _ _).alloc (Nat.le_refl _) _).alloc (by simp) _
  generalize (w.alloc (.cells #[.int .u8 (a.1.toNat : Int), .int .u64 (a.2.1.toNat : Int), .int .u64 (a.2.2.toNat : Int)] 24)).alloc (.cells #[.int .u8 (b.1.toNat : Int), .int .u64 (b.2.1.toNat : Int), .int .u64 (b.2.2.toNat : Int)] 24) = W at *
  have a0 : W.drew.cell? ⟨w.heap.size, 0, none⟩ = some (.int .u8 (a.1.toNat : Int)) := by rw [blk_cell (w := W.drew) g0]; rfl
  have a1 : W.drew.cell? ⟨w.heap.size, 1, none⟩ = some (.int .u64 (a.2.1.toNat : Int)) := by rw [blk_cell (w := W.drew) g0]; rfl
  have a2 : W.drew.cell? ⟨w.heap.size, 2, none⟩ = some (.int .u64 (a.2.2.toNat : Int)) := by rw [blk_cell (w := W.drew) g0]; rfl
  have b0 : W.drew.cell? ⟨w.heap.size + 1, 0, none⟩ = some (.int .u8 (b.1.toNat : Int)) := by rw [blk_cell (w := W.drew) g1]; rfl
  have b1 : W.drew.cell? ⟨w.heap.size + 1, 1, none⟩ = some (.int .u64 (b.2.1.toNat : Int)) := by rw [blk_cell (w := W.drew) g1]; rfl
  have b2 : W.drew.cell? ⟨w.heap.size + 1, 2, none⟩ = some (.int .u64 (b.2.2.toNat : Int)) := by rw [blk_cell (w := W.drew) g1]; rfl
  have HB := Lib.hid (show Below w.heap.size w W.drew from hb.drew)
  clear g0 g1 hb
  refine wp_region_still_tail 15 (by kernel_rfl) (by kernel_rfl) ?_
  simp only [List.take_succ_cons, List.take_zero, List.drop_succ_cons, List.drop_zero]
  change wpStill _ _ (World.drew W) _ _ _
  still_step
  still_step
  still_step
  still_step
  still_call (C1.out _)
  still_step
  still_step
  still_step
  still_step
  still_call (C2.out _)
  still_step
  still_step
  still_step
  still_step
  still_call (C3.out _)
  refine wpStill_nil ?_
  change wpList _ _ _ _ _ (World.drew W)
  generalize W.drew = W' at *
  clear a0 a1 a2 b0 b1 b2
  go_wp2_with fail
  refine (or3 x y z W'.heap.size _ _ (heap_alloc_new _ _)).mono ?_
  rintro e w3 ⟨rfl, rfl⟩
  go_wp2_with fail
  go_ret
  exact ⟨ret_bool HO.out, HB.out.alloc HB.out.size _⟩
end Go.Proofs.Tryz.Pfx
namespace Go.Proofs.Tryz.Pfx
open Go.RowKit Go.Cph Go.Cph.Px

theorem int_u8_eq {x c : UInt8} (h : x = c) : ((x.toNat : Int) == (c.toNat : Int)) = true := by rw [h]; simp
theorem int_u8_ne {x c : UInt8} (h : x ≠ c) : ((x.toNat : Int) == (c.toNat : Int)) = false := by rw [u8_eq]; simpa using h

set_option maxHeartbeats 1000000 in
theorem right (a : Ad) (w : World) : Calls Tryz.prog 42 #[encA a] w fun e w' => e = .returned (.bool (rightA a)) ∧ Below w.heap.size w w' := by
  obtain ⟨f, hi, lo⟩ := a
  have hc : f = 6 ∨ (f ≠ 6 ∧ f ≠ 4) ∨ (f = 4 ∧ hi ≠ 0) ∨ (f = 4 ∧ hi = 0 ∧ lo.toNat ≤ 4294967295) ∨ (f = 4 ∧ hi = 0 ∧ ¬ lo.toNat ≤ 4294967295) := by
    by_cases h6 : f = 6
    · exact .inl h6
    · by_cases h4 : f = 4
      · by_cases hh : hi = 0
        · by_cases hl : lo.toNat ≤ 4294967295
          · exact .inr (.inr (.inr (.inl ⟨h4, hh, hl⟩)))
          · exact .inr (.inr (.inr (.inr ⟨h4, hh, hl⟩)))
        · exact .inr (.inr (.inl ⟨h4, hh⟩))
      · exact .inr (.inl ⟨h6, h4⟩)
  have key : ∀ (b : Bool) (w' : World), rightA (f, hi, lo) = b → Below w.heap.size w w' → (Ending.returned (.bool b) = .returned (.bool (rightA (f, hi, lo))) ∧ Below w.heap.size w w') := fun b w' h k => ⟨by rw [h], k⟩
  have KEY := Lib.hid key
  clear key
  rcases hc with h | ⟨h, k⟩ | ⟨h, k⟩ | ⟨h, k, l⟩ | ⟨h, k, l⟩
  · have hv := Lib.hid (show rightA (f, hi, lo) = true by simp [rightA, h])
    have z6 : ((f.toNat : Int) == 6) = true := int_u8_eq (c := 6) h
    clear h
    go_enter Tryz.func42, Tryz.ntmps42
    go_wp2_with fail
    go_ret
    exact KEY.out _ _ hv.out ((Below.refl _ _).alloc (Nat.le_refl _) _)
  · have hv := Lib.hid (show rightA (f, hi, lo) = false by simp [rightA, h, k])
    have z6 : ((f.toNat : Int) == 6) = false := int_u8_ne (c := 6) h
    have z4 : ((f.toNat : Int) == 4) = false := int_u8_ne (c := 4) k
    clear h k
    go_enter Tryz.func42, Tryz.ntmps42
    go_wp2_with fail
    go_ret
    exact KEY.out _ _ hv.out ((Below.refl _ _).alloc (Nat.le_refl _) _)
  · have hv := Lib.hid (show rightA (f, hi, lo) = false by simp [rightA, h, k])
    have z6 : ((f.toNat : Int) == 6) = false := int_u8_ne (c := 6) (by rw [h]; decide)
    have z4 : ((f.toNat : Int) == 4) = true := int_u8_eq (c := 4) h
    have zh : ((hi.toNat : Int) == 0) = false := by have := u64_eq hi 0; simp at this; simpa [this] using k
    clear h k
    go_enter Tryz.func42, Tryz.ntmps42
    go_wp2_with fail
    go_ret
    exact KEY.out _ _ hv.out ((Below.refl _ _).alloc (Nat.le_refl _) _)
  · have hv := Lib.hid (show rightA (f, hi, lo) = true by simp [rightA, h, k, l])
    have z6 : ((f.toNat : Int) == 6) = false := int_u8_ne (c := 6) (by rw [h]; decide)
    have z4 : ((f.toNat : Int) == 4) = true := int_u8_eq (c := 4) h
    have zh : ((hi.toNat : Int) == 0) = true := by rw [k]; rfl
    have zl : (lo.toNat : Int) ≤ 4294967295 := by omega
    clear h k
    go_enter Tryz.func42, Tryz.ntmps42
    go_wp2_with fail
    go_ret
    exact KEY.out _ _ hv.out ((Below.refl _ _).alloc (Nat.le_refl _) _)
  · have hv := Lib.hid (show rightA (f, hi, lo) = false by simp [rightA, h, k, l])
    have z6 : ((f.toNat : Int) == 6) = false := int_u8_ne (c := 6) (by rw [h]; decide)
    have z4 : ((f.toNat : Int) == 4) = true := int_u8_eq (c := 4) h
    have zh : ((hi.toNat : Int) == 0) = true := by rw [k]; rfl
    have zl : ¬ (lo.toNat : Int) ≤ 4294967295 := by omega
    clear h k
    go_enter Tryz.func42, Tryz.ntmps42
    go_wp2_with fail
    go_ret
    exact KEY.out _ _ hv.out ((Below.refl _ _).alloc (Nat.le_refl _) _)
set_option maxHeartbeats 400000 in
theorem width_any (f : UInt8) (w : World) : Calls Tryz.prog 48 #[.int .u8 (f.toNat : Int)] w fun e w' => e = .returned (.int .i64 (width f)) ∧ w = w' := by
  by_cases h : f = 4
  · have z4 : ((f.toNat : Int) == 4) = true := int_u8_eq (c := 4) h
    have hv := Lib.hid (show width f = 32 by unfold width; rw [if_pos h])
    clear h
    go_enter Tryz.func48, Tryz.ntmps48
    go_wp2_with fail
    go_ret
    exact ⟨ret_int hv.out.symm, rfl⟩
  · have z4 : ((f.toNat : Int) == 4) = false := int_u8_ne (c := 4) h
    have hv := Lib.hid (show width f = 128 by unfold width; rw [if_neg h])
    clear h
    go_enter Tryz.func48, Tryz.ntmps48
    go_wp2_with fail
    go_ret
    exact ⟨ret_int hv.out.symm, rfl⟩
/-- The masks of so many free bits. -/
def maskHi (k : Nat) : Int := ((2 ^ (k - 64) - 1 : Nat) : Int)
def maskLo (k : Nat) : Int := ((2 ^ min k 64 - 1 : Nat) : Int)
theorem wrap_mask (n : Nat) (h : n ≤ 64) : IntKind.u64.wrap (IntKind.u64.wrap (2 ^ n) - 1) = ((2 ^ n - 1 : Nat) : Int) := by
  rcases Nat.lt_or_ge n 64 with hlt | hge
  · have h1 : 2 ^ n < 2 ^ 64 := Nat.pow_lt_pow_right (by decide) hlt
    have h2 : 0 < 2 ^ n := Nat.pow_pos (by decide)
    have e : ((2 : Int) ^ n) = ((2 ^ n : Nat) : Int) := by simp
    rw [e]
    generalize 2 ^ n = x at *
    rw [IntWalk.u64_in (x : Int) (by omega), IntWalk.u64_in ((x : Int) - 1) (by omega)]
    omega
  · have : n = 64 := by omega
    subst this
    decide +kernel
theorem andNot_mask (x : Nat) (k : Nat) (hx : x < 2 ^ 64) (hk : k ≤ 64) : x &&& (18446744073709551615 - (2 ^ k - 1)) = x / 2 ^ k * 2 ^ k := by
  have e : 18446744073709551615 - (2 ^ k - 1) = 2 ^ 64 - ((2 ^ k - 1) + 1) := by
    have : 0 < 2 ^ k := Nat.pow_pos (by decide)
    omega
  rw [e]
  refine Nat.eq_of_testBit_eq fun i => ?_
  have hlt : 2 ^ k - 1 < 2 ^ 64 := by
    have h1 : 2 ^ k ≤ 2 ^ 64 := Nat.pow_le_pow_right (by decide) hk
    have : 0 < 2 ^ k := Nat.pow_pos (by decide)
    omega
  rw [Nat.testBit_and, Nat.testBit_two_pow_sub_succ hlt, Nat.testBit_two_pow_sub_one, Nat.testBit_mul_two_pow, Nat.testBit_div_two_pow]
  by_cases hi : k ≤ i
  · have : k + (i - k) = i := by omega
    rw [Nat.sub_add_cancel hi]
    by_cases h64 : i < 64
    · simp [hi, h64]
    · have : x.testBit i = false := Nat.testBit_lt_two_pow (Nat.lt_of_lt_of_le hx (Nat.pow_le_pow_right (by decide) (by omega)))
      simp [this]
  · have h2 : i < k := by omega
    simp [hi, h2]
theorem andNot_clear (x : UInt64) (k : Nat) (hk : k ≤ 64) : Go.bits .andNot .u64 (x.toNat : Int) ((2 ^ k - 1 : Nat) : Int) = ((clear x k).toNat : Int) := by
  have h1 : 2 ^ k ≤ 2 ^ 64 := Nat.pow_le_pow_right (by decide) hk
  have h2 : 0 < 2 ^ k := Nat.pow_pos (by decide)
  rw [u64_andNot_nat _ _ (by have := x.toNat_lt; omega) (by omega), andNot_mask _ _ (x.toNat_lt) hk, clear_toNat]
theorem clear_zero (x : UInt64) : clear x 0 = x := UInt64.toNat_inj.1 (by rw [clear_toNat]; simp)
theorem clear_all (x : UInt64) : clear x 64 = 0 := UInt64.toNat_inj.1 (by
  rw [clear_toNat, Nat.div_eq_of_lt x.toNat_lt]
  rfl)
theorem cutA_both (a : Ad) (k : Nat) : cutA a k = (a.1, clear a.2.1 (k - 64), clear a.2.2 (min k 64)) := by
  unfold cutA
  split
  · rename_i h
    rw [Nat.min_eq_right h, clear_all]
  · rename_i h
    rw [Nat.sub_eq_zero_of_le (by omega), clear_zero, Nat.min_eq_left (by omega)]
theorem bcell {W w1 : World} (hb : Below W.heap.size W w1) : (∀ b o, b < W.heap.size → w1.cell? ⟨b, o, none⟩ = W.cell? ⟨b, o, none⟩) ∧ (∀ b o, b < W.heap.size → w1.frozen? ⟨b, o, none⟩ = W.frozen? ⟨b, o, none⟩) :=
  ⟨fun b o h => hb.cell (p := ⟨b, o, none⟩) h, fun b o h => hb.frozen (p := ⟨b, o, none⟩) h⟩

set_option maxHeartbeats 1000000 in
theorem free_any (f : UInt8) (bits : Int) (w : World) (h0 : 0 ≤ bits) (h1 : bits ≤ width f) :
    Calls Tryz.prog 32 #[.int .u8 (f.toNat : Int), .int .i64 bits] w fun e w' => e = .returned (.tuple #[.int .u64 (maskHi (width f - bits).toNat), .int .u64 (maskLo (width f - bits).toNat)]) ∧ Below w.heap.size w w' := by
  have hw := width_pos f
  by_cases hk : 64 ≤ width f - bits
  · have e1 := wrap_mask (width f - bits - 64).toNat (by omega)
    have HH := Lib.hid (show maskHi (width f - bits).toNat = IntKind.u64.wrap (IntKind.u64.wrap (2 ^ (width f - bits - 64).toNat) - 1) by rw [e1, maskHi]; congr 3; omega)
    have HL := Lib.hid (show maskLo (width f - bits).toNat = 18446744073709551615 by rw [maskLo, Nat.min_eq_right (by omega)]; rfl)
    clear e1
    go_enter Tryz.func32, Tryz.ntmps32
    go_wp2_with (go_at_call 48; refine (width_any _ _).mono ?_; rintro e w' ⟨rfl, rfl⟩)
    go_ret2
    rw [HH.out, HL.out]
    exact ⟨rfl, Below.refl _ _⟩
  · have e1 := wrap_mask (width f - bits).toNat (by omega)
    have HL := Lib.hid (show maskLo (width f - bits).toNat = IntKind.u64.wrap (IntKind.u64.wrap (2 ^ (width f - bits).toNat) - 1) by rw [e1, maskLo, Nat.min_eq_left (by omega)])
    have e2 : (width f - bits).toNat - 64 = 0 := by omega
    have HH := Lib.hid (show maskHi (width f - bits).toNat = 0 by rw [maskHi, e2]; rfl)
    clear e2
    clear e1
    go_enter Tryz.func32, Tryz.ntmps32
    go_wp2_with (go_at_call 48; refine (width_any _ _).mono ?_; rintro e w' ⟨rfl, rfl⟩)
    go_quiet (fail)
    go_wp2_with fail
    go_ret2
    rw [HH.out, HL.out]
    exact ⟨rfl, ⟨rfl, rfl, rfl, Nat.le_refl _, fun _ _ => rfl⟩⟩

set_option maxHeartbeats 1000000 in
theorem fits_any (a : Ad) (bits : Int) (w : World) : Calls Tryz.prog 31 #[encA a, .int .i64 bits] w fun e w' => e = .returned (.bool (fits a bits)) ∧ Below w.heap.size w w' := by
  obtain ⟨f, hi, lo⟩ := a
  obtain ⟨r, hr⟩ : ∃ r, r = rightA (f, hi, lo) := ⟨_, rfl⟩
  have hright := right (f, hi, lo)
  rw [← hr] at hright
  have HR := Lib.hid hright
  have hv : fits (f, hi, lo) bits = (r && (decide (0 ≤ bits) && decide (bits ≤ width f))) := by unfold fits; rw [← hr]
  have HV := Lib.hid hv
  clear hright hr hv
  have hcase : r = false ∨ (r = true ∧ ¬ 0 ≤ bits) ∨ (r = true ∧ 0 ≤ bits) := by
    cases r <;> by_cases h : 0 ≤ bits <;> simp [h]
  have hbx : Below w.heap.size w (w.alloc (.cells #[.int .u8 (f.toNat : Int), .int .u64 (hi.toNat : Int), .int .u64 (lo.toNat : Int)] 24)) := (Below.refl _ _).alloc (Nat.le_refl _) _
  have HBX := Lib.hid hbx
  clear hbx
  rcases hcase with rfl | ⟨rfl, h0⟩ | ⟨rfl, h0⟩
  · go_enter Tryz.func31, Tryz.ntmps31
    go_wp2_with (go_at_call 42; refine (HR.out _).mono ?_; rintro e w1 ⟨rfl, hb⟩; have HB := Lib.hid hb; obtain ⟨hc, hf⟩ := bcell hb; clear hb)
    go_ret
    rw [HV.out]
    exact ⟨rfl, below_step HBX.out HB.out HBX.out.size⟩
  · have z0 : decide (0 ≤ bits) = false := by simpa using h0
    go_enter Tryz.func31, Tryz.ntmps31
    go_wp2_with (go_at_call 42; refine (HR.out _).mono ?_; rintro e w1 ⟨rfl, hb⟩; have HB := Lib.hid hb; obtain ⟨hc, hf⟩ := bcell hb; clear hb)
    go_ret
    rw [HV.out, z0]
    exact ⟨rfl, below_step HBX.out HB.out HBX.out.size⟩
  · have z0 : decide (0 ≤ bits) = true := by simpa using h0
    go_enter Tryz.func31, Tryz.ntmps31
    go_wp2_with (first | (go_at_call 42; refine (HR.out _).mono ?_; rintro e w1 ⟨rfl, hb⟩; have HB := Lib.hid hb; obtain ⟨hc, hf⟩ := bcell hb; clear hb) | (go_at_call 48; refine (width_any _ _).mono ?_; rintro e w2 ⟨rfl, rfl⟩))
    go_ret
    rw [HV.out, z0]
    exact ⟨by simp, below_step HBX.out HB.out HBX.out.size⟩
end Go.Proofs.Tryz.Pfx
namespace Go.Proofs.Tryz.Pfx
open Go.RowKit Go.Cph Go.Cph.Px

def cutE (a : Ad) (bits : Int) : Int := if fits a bits then 0 else 1
def CutPost (a : Ad) (bits : Int) (w : World) (e : Ending) (w' : World) : Prop := e = .returned (.tuple #[encP (cutP a bits), .int .i64 (cutE a bits)]) ∧ Below w.heap.size w w'

set_option maxHeartbeats 1000000 in
theorem cut_any (a : Ad) (bits : Int) (w : World) : Calls Tryz.prog 6 #[encA a, .int .i64 bits] w (CutPost a bits w) := by
  have hfits := fits_any a bits
  obtain ⟨r, hr⟩ : ∃ r, r = fits a bits := ⟨_, rfl⟩
  rw [← hr] at hfits
  have HF := Lib.hid hfits
  have HR := Lib.hid hr
  clear hfits hr
  obtain ⟨f, hi, lo⟩ := a
  have hbx : Below w.heap.size w ((w.alloc (.cells #[.int .u8 (f.toNat : Int), .int .u64 (hi.toNat : Int), .int .u64 (lo.toNat : Int)] 24)).alloc (.cells #[.int .u8 0, .int .u64 0, .int .u64 0, .int .i64 0] 26)) := ((Below.refl _ _).alloc (Nat.le_refl _) _).alloc (by simp) _
  have HBX := Lib.hid hbx
  clear hbx
  cases r
  · have HV := Lib.hid (show cutP (f, hi, lo) bits = zeroP ∧ cutE (f, hi, lo) bits = 1 from ⟨by unfold cutP; rw [← HR.out]; simp, by unfold cutE; rw [← HR.out]; simp⟩)
    go_enter Tryz.func6, Tryz.ntmps6
    go_wp2_with fail
    refine (HF.out _).mono ?_
    rintro e w1 ⟨rfl, hb⟩
    have HB := Lib.hid (below_step HBX.out hb HBX.out.size)
    have g2 := heap_alloc_new (w.alloc (.cells #[.int .u8 (f.toNat : Int), .int .u64 (hi.toNat : Int), .int .u64 (lo.toNat : Int)] 24)) (.cells #[.int .u8 0, .int .u64 0, .int .u64 0, .int .i64 0] 26)
    rw [World.size_alloc] at g2
    have h2 := blk_kept hb g2
    have H2 := Lib.hid (blk_set (blk_set (blk_set (blk_set h2 0 (.int .u8 0)) 1 (.int .u64 0)) 2 (.int .u64 0)) 3 (.int .i64 0))
    have f0 : ∀ j, w1.frozen? ⟨w.heap.size + 1, j, none⟩ = false := fun j => by rw [blk_frozen h2]; simp
    have c0 : w1.cell? ⟨w.heap.size + 1, 0, none⟩ = some (.int .u8 0) := by rw [blk_cell h2]; rfl
    have c1 : w1.cell? ⟨w.heap.size + 1, 1, none⟩ = some (.int .u64 0) := by rw [blk_cell h2]; rfl
    have c2 : w1.cell? ⟨w.heap.size + 1, 2, none⟩ = some (.int .u64 0) := by rw [blk_cell h2]; rfl
    have c3 : w1.cell? ⟨w.heap.size + 1, 3, none⟩ = some (.int .i64 0) := by rw [blk_cell h2]; rfl
    clear hb g2 h2
    go_wp2_with fail
    have HB2 := Lib.hid ((((HB.out.setCell (p := ⟨w.heap.size + 1, 0, none⟩) (by simp) (.int .u8 0)).setCell (p := ⟨w.heap.size + 1, 1, none⟩) (by simp) (.int .u64 0)).setCell (p := ⟨w.heap.size + 1, 2, none⟩) (by simp) (.int .u64 0)).setCell (p := ⟨w.heap.size + 1, 3, none⟩) (by simp) (.int .i64 0))
    clear c0 c1 c2 c3 f0
    generalize (((w1.setCell ⟨w.heap.size + 1, 0, none⟩ (.int .u8 0)).setCell ⟨w.heap.size + 1, 1, none⟩ (.int .u64 0)).setCell ⟨w.heap.size + 1, 2, none⟩ (.int .u64 0)).setCell ⟨w.heap.size + 1, 3, none⟩ (.int .i64 0) = w4 at *
    have c0 : w4.cell? ⟨w.heap.size + 1, 0, none⟩ = some (.int .u8 0) := by rw [blk_cell H2.out]; rfl
    have c1 : w4.cell? ⟨w.heap.size + 1, 1, none⟩ = some (.int .u64 0) := by rw [blk_cell H2.out]; rfl
    have c2 : w4.cell? ⟨w.heap.size + 1, 2, none⟩ = some (.int .u64 0) := by rw [blk_cell H2.out]; rfl
    have c3 : w4.cell? ⟨w.heap.size + 1, 3, none⟩ = some (.int .i64 0) := by rw [blk_cell H2.out]; rfl
    exact bodyPost_ret (v := .tuple #[.agg #[.int .u8 0, .int .u64 0, .int .u64 0, .int .i64 0], .int .i64 1]) (by simp [results, Tryz.results6, go_sem, c0, c1, c2, c3]) rfl ⟨by rw [HV.out.1, HV.out.2]; rfl, HB2.out⟩
  · obtain ⟨h1, h2, h3⟩ := fits_iff.1 HR.out.symm
    have hfree := free_any f bits
    have hw := width_pos f
    have e1 : rest (f, hi, lo) bits = (width f - bits).toNat := rfl
    have HV := Lib.hid (show cutP (f, hi, lo) bits = (cutA (f, hi, lo) (rest (f, hi, lo) bits), bits) ∧ cutE (f, hi, lo) bits = 0 from ⟨by unfold cutP; rw [← HR.out]; simp, by unfold cutE; rw [← HR.out]; simp⟩)
    have h3' : bits ≤ width f := h3
    have bH : Go.bits .andNot .u64 (hi.toNat : Int) (maskHi (width f - bits).toNat) = ((clear hi ((width f - bits).toNat - 64)).toNat : Int) := andNot_clear hi _ (by omega)
    have bL : Go.bits .andNot .u64 (lo.toNat : Int) (maskLo (width f - bits).toNat) = ((clear lo (min (width f - bits).toNat 64)).toNat : Int) := andNot_clear lo _ (Nat.min_le_right _ _)
    have HC := Lib.hid (show cutA (f, hi, lo) (rest (f, hi, lo) bits) = (f, clear hi ((width f - bits).toNat - 64), clear lo (min (width f - bits).toNat 64)) by rw [cutA_both, e1])
    have HFR := Lib.hid (fun w => hfree w h2 h3')
    clear e1 hfree hw h1 h2 h3 h3'
    generalize maskHi (width f - bits).toNat = mh at *
    generalize maskLo (width f - bits).toNat = ml at *
    generalize clear hi ((width f - bits).toNat - 64) = hi' at *
    generalize clear lo (min (width f - bits).toNat 64) = lo' at *
    go_enter Tryz.func6, Tryz.ntmps6
    go_wp2_with fail
    refine (HF.out _).mono ?_
    rintro e w1 ⟨rfl, hb⟩
    have HB := Lib.hid (below_step HBX.out hb HBX.out.size)
    have g2 := heap_alloc_new (w.alloc (.cells #[.int .u8 (f.toNat : Int), .int .u64 (hi.toNat : Int), .int .u64 (lo.toNat : Int)] 24)) (.cells #[.int .u8 0, .int .u64 0, .int .u64 0, .int .i64 0] 26)
    rw [World.size_alloc] at g2
    have h2 := blk_kept hb g2
    have h1 := blk_kept hb (blk_alloc (heap_alloc_new w (.cells #[.int .u8 (f.toNat : Int), .int .u64 (hi.toNat : Int), .int .u64 (lo.toNat : Int)] 24)) (.cells #[.int .u8 0, .int .u64 0, .int .u64 0, .int .i64 0] 26))
    have H1 := Lib.hid h1
    have H2 := Lib.hid h2
    have a0 : w1.cell? ⟨w.heap.size, 0, none⟩ = some (.int .u8 (f.toNat : Int)) := by rw [blk_cell h1]; rfl
    clear hb g2 h2 h1
    go_wp2_with fail
    refine (HFR.out _).mono ?_
    rintro e w2 ⟨rfl, hb⟩
    have HB2 := Lib.hid (below_step HB.out hb HB.out.size)
    have h1 := blk_kept hb H1.out
    have h2 := blk_kept hb H2.out
    have HS := Lib.hid (blk_set (blk_set (blk_set (blk_set ((blk_set_other (by simp)).trans ((blk_set_other (by simp)).trans h2) : ((w2.setCell ⟨w.heap.size, 1, none⟩ (.int .u64 (hi'.toNat : Int))).setCell ⟨w.heap.size, 2, none⟩ (.int .u64 (lo'.toNat : Int))).heap[w.heap.size + 1]? = _) 0 (.int .u8 (f.toNat : Int))) 1 (.int .u64 (hi'.toNat : Int))) 2 (.int .u64 (lo'.toNat : Int))) 3 (.int .i64 bits))
    have f0 : ∀ j, w2.frozen? ⟨w.heap.size + 1, j, none⟩ = false := fun j => by rw [blk_frozen h2]; simp
    have f1 : ∀ j, w2.frozen? ⟨w.heap.size, j, none⟩ = false := fun j => by rw [blk_frozen h1]; simp
    have c0 : w2.cell? ⟨w.heap.size + 1, 0, none⟩ = some (.int .u8 0) := by rw [blk_cell h2]; rfl
    have c1 : w2.cell? ⟨w.heap.size + 1, 1, none⟩ = some (.int .u64 0) := by rw [blk_cell h2]; rfl
    have c2 : w2.cell? ⟨w.heap.size + 1, 2, none⟩ = some (.int .u64 0) := by rw [blk_cell h2]; rfl
    have c3 : w2.cell? ⟨w.heap.size + 1, 3, none⟩ = some (.int .i64 0) := by rw [blk_cell h2]; rfl
    have a1 : w2.cell? ⟨w.heap.size, 0, none⟩ = some (.int .u8 (f.toNat : Int)) := by rw [blk_cell h1]; rfl
    have a2 : w2.cell? ⟨w.heap.size, 1, none⟩ = some (.int .u64 (hi.toNat : Int)) := by rw [blk_cell h1]; rfl
    have a3 : w2.cell? ⟨w.heap.size, 2, none⟩ = some (.int .u64 (lo.toNat : Int)) := by rw [blk_cell h1]; rfl
    clear hb h1 h2 a0
    go_wp2_with fail
    have HB3 := Lib.hid ((((((HB2.out.setCell (p := ⟨w.heap.size, 1, none⟩) (by simp) (.int .u64 (hi'.toNat : Int))).setCell (p := ⟨w.heap.size, 2, none⟩) (by simp) (.int .u64 (lo'.toNat : Int))).setCell (p := ⟨w.heap.size + 1, 0, none⟩) (by simp) (.int .u8 (f.toNat : Int))).setCell (p := ⟨w.heap.size + 1, 1, none⟩) (by simp) (.int .u64 (hi'.toNat : Int))).setCell (p := ⟨w.heap.size + 1, 2, none⟩) (by simp) (.int .u64 (lo'.toNat : Int))).setCell (p := ⟨w.heap.size + 1, 3, none⟩) (by simp) (.int .i64 bits))
    clear c0 c1 c2 c3 f0 f1 a1 a2 a3
    generalize (((((w2.setCell ⟨w.heap.size, 1, none⟩ (.int .u64 (hi'.toNat : Int))).setCell ⟨w.heap.size, 2, none⟩ (.int .u64 (lo'.toNat : Int))).setCell ⟨w.heap.size + 1, 0, none⟩ (.int .u8 (f.toNat : Int))).setCell ⟨w.heap.size + 1, 1, none⟩ (.int .u64 (hi'.toNat : Int))).setCell ⟨w.heap.size + 1, 2, none⟩ (.int .u64 (lo'.toNat : Int))).setCell ⟨w.heap.size + 1, 3, none⟩ (.int .i64 bits) = w4 at *
    have c0 : w4.cell? ⟨w.heap.size + 1, 0, none⟩ = some (.int .u8 (f.toNat : Int)) := by rw [blk_cell HS.out]; rfl
    have c1 : w4.cell? ⟨w.heap.size + 1, 1, none⟩ = some (.int .u64 (hi'.toNat : Int)) := by rw [blk_cell HS.out]; rfl
    have c2 : w4.cell? ⟨w.heap.size + 1, 2, none⟩ = some (.int .u64 (lo'.toNat : Int)) := by rw [blk_cell HS.out]; rfl
    have c3 : w4.cell? ⟨w.heap.size + 1, 3, none⟩ = some (.int .i64 bits) := by rw [blk_cell HS.out]; rfl
    exact bodyPost_ret (v := .tuple #[.agg #[.int .u8 (f.toNat : Int), .int .u64 (hi'.toNat : Int), .int .u64 (lo'.toNat : Int), .int .i64 bits], .int .i64 0]) (by simp [results, Tryz.results6, go_sem, c0, c1, c2, c3]) rfl ⟨by rw [HV.out.1, HV.out.2, HC.out], HB3.out⟩
end Go.Proofs.Tryz.Pfx
namespace Go.Proofs.Tryz.Pfx
open Go.RowKit Go.Cph Go.Cph.Px

theorem pf_eq (p q : Pf) : (p == q) = true ↔ (p.1.1.toNat : Int) = q.1.1.toNat ∧ (p.1.2.1.toNat : Int) = q.1.2.1.toNat ∧ (p.1.2.2.toNat : Int) = q.1.2.2.toNat ∧ p.2 = q.2 := by
  rw [beq_iff_eq, Prod.ext_iff, Prod.ext_iff, Prod.ext_iff, ← UInt8.toNat_inj, ← UInt64.toNat_inj, ← UInt64.toNat_inj]
  omega
theorem ad_eq (p q : Ad) : (p == q) = true ↔ (p.1.toNat : Int) = q.1.toNat ∧ (p.2.1.toNat : Int) = q.2.1.toNat ∧ (p.2.2.toNat : Int) = q.2.2.toNat := by
  rw [beq_iff_eq, Prod.ext_iff, Prod.ext_iff, ← UInt8.toNat_inj, ← UInt64.toNat_inj, ← UInt64.toNat_inj]
  omega
theorem rightP_cut (p : Pf) : rightP p = (fits p.1 p.2 && (cutP p.1 p.2 == p)) := by
  unfold rightP cutP
  rw [Bool.eq_iff_iff]
  cases fits p.1 p.2 <;> simp [Prod.ext_iff]
theorem hasP_cut (p : Pf) (a : Ad) : hasP p a = (fits a p.2 && (cutP a p.2 == p)) := by
  unfold hasP cutP
  rw [Bool.eq_iff_iff]
  cases fits a p.2 <;> simp [Prod.ext_iff]

set_option maxHeartbeats 1000000 in
theorem rightP_any (p : Pf) (w : World) : Calls Tryz.prog 21 #[encP p] w fun e w' => e = .returned (.bool (rightP p)) ∧ Below w.heap.size w w' := by
  have HC := Lib.hid (cut_any p.1 p.2)
  have HV := Lib.hid (rightP_cut p)
  obtain ⟨c, hcp⟩ : ∃ c, c = cutP p.1 p.2 := ⟨_, rfl⟩
  obtain ⟨r, hr⟩ : ∃ r, r = fits p.1 p.2 := ⟨_, rfl⟩
  have HCP := Lib.hid hcp
  have HR := Lib.hid hr
  have HE := Lib.hid (show cutE p.1 p.2 = if r then 0 else 1 by rw [hr]; rfl)
  clear hcp hr
  obtain ⟨⟨f, hi, lo⟩, bits⟩ := p
  obtain ⟨⟨g, hj, lp⟩, cb⟩ := c
  have hbx : Below w.heap.size w (w.alloc (.cells #[.int .u8 (f.toNat : Int), .int .u64 (hi.toNat : Int), .int .u64 (lo.toNat : Int), .int .i64 bits] 26)) := (Below.refl _ _).alloc (Nat.le_refl _) _
  have HBX := Lib.hid hbx
  clear hbx
  cases r
  all_goals
    go_enter Tryz.func21, Tryz.ntmps21
    go_wp2_with fail
    refine (HC.out _).mono ?_
    rintro e w1 ⟨rfl, hb⟩
    have HB := Lib.hid (below_step HBX.out hb HBX.out.size)
    obtain ⟨hc, hf⟩ := bcell hb
    have hz : w.heap.size < w1.heap.size := by have := hb.size; simp at this; omega
    clear hb
    rw [HE.out, ← HCP.out]
    go_wp2_with fail
    all_goals
      go_ret
      refine ⟨ret_bool ?_, HB.out.alloc HB.out.size _⟩
      rw [HV.out, ← HR.out, ← HCP.out, Bool.eq_iff_iff, Bool.and_eq_true, pf_eq]
      simp
      try omega
set_option maxHeartbeats 1000000 in
theorem before_any (p q : Pf) (w : World) : Calls Tryz.prog 25 #[encP p, encP q] w fun e w' => e = .returned (.bool (before p q)) ∧ Below w.heap.size w w' := by
  have HC := Lib.hid (less p.1 q.1)
  obtain ⟨r, hr⟩ : ∃ r, r = lessA p.1 q.1 := ⟨_, rfl⟩
  have HV := Lib.hid (show before p q = (r || (p.1 == q.1 && decide (p.2 < q.2))) by rw [hr]; rfl)
  have HR := Lib.hid hr
  clear hr
  obtain ⟨⟨f, hi, lo⟩, bits⟩ := p
  obtain ⟨⟨g, hj, lp⟩, cb⟩ := q
  have hbx : Below w.heap.size w ((w.alloc (.cells #[.int .u8 (f.toNat : Int), .int .u64 (hi.toNat : Int), .int .u64 (lo.toNat : Int), .int .i64 bits] 26)).alloc (.cells #[.int .u8 (g.toNat : Int), .int .u64 (hj.toNat : Int), .int .u64 (lp.toNat : Int), .int .i64 cb] 26)) := ((Below.refl _ _).alloc (Nat.le_refl _) _).alloc (by simp) _
  have HBX := Lib.hid hbx
  clear hbx
  have hcase : r = true ∨ (r = false ∧ ((f, hi, lo) == (g, hj, lp)) = false) ∨ (r = false ∧ (f, hi, lo) = (g, hj, lp)) := by
    cases r <;> by_cases h : (f, hi, lo) = (g, hj, lp) <;> simp [h]
  rcases hcase with rfl | ⟨rfl, h0⟩ | ⟨rfl, h0⟩
  · go_enter Tryz.func25, Tryz.ntmps25
    go_wp2_with fail
    refine (HC.out _).mono ?_
    rintro e w1 ⟨rfl, hb⟩
    rw [← HR.out]
    have HB := Lib.hid (below_step HBX.out hb HBX.out.size)
    clear hb
    go_wp2_with fail
    go_ret
    exact ⟨ret_bool (by rw [HV.out]; rfl), HB.out⟩
  · have H0 := Lib.hid h0
    clear h0
    go_enter Tryz.func25, Tryz.ntmps25
    go_wp2_with fail
    refine (HC.out _).mono ?_
    rintro e w1 ⟨rfl, hb⟩
    rw [← HR.out]
    have HB := Lib.hid (below_step HBX.out hb HBX.out.size)
    obtain ⟨hc, hf⟩ := bcell hb
    have hz : w.heap.size + 1 < w1.heap.size := by have := hb.size; simp at this; omega
    have hz2 : w.heap.size < w1.heap.size := by omega
    clear hb
    go_wp2_with fail
    all_goals
      go_ret
      refine ⟨ret_bool ?_, HB.out⟩
      rw [HV.out, H0.out]
      first
      | rfl
      | (exfalso; have h := Bool.eq_false_iff.1 H0.out; exact h ((ad_eq _ _).2 ⟨by assumption, by assumption, by assumption⟩))
  · simp only [Prod.mk.injEq] at h0
    obtain ⟨rfl, rfl, rfl⟩ := h0
    go_enter Tryz.func25, Tryz.ntmps25
    go_wp2_with fail
    refine (HC.out _).mono ?_
    rintro e w1 ⟨rfl, hb⟩
    rw [← HR.out]
    have HB := Lib.hid (below_step HBX.out hb HBX.out.size)
    obtain ⟨hc, hf⟩ := bcell hb
    have hz : w.heap.size + 1 < w1.heap.size := by have := hb.size; simp at this; omega
    have hz2 : w.heap.size < w1.heap.size := by omega
    clear hb
    go_wp2_with fail
    go_ret
    exact ⟨ret_bool (by rw [HV.out]; simp), HB.out⟩
end Go.Proofs.Tryz.Pfx

/- The document's addresses: right, as bytes (turned from pools' Rb2, Rb3). -/
set_option linter.unusedVariables false
set_option linter.unusedSimpArgs false
namespace Go.Proofs.Tryz.Pfx
open Go.RowKit Go.Cph Go.Cph.Px

abbrev encB (c : UInt8) : List Value := [.int .u8 (c.toNat : Int)]
abbrev BsAt (w : World) (v : Value) (l : List UInt8) : Prop := Elems encB 1 w v l
theorem encB_len (c : UInt8) : (encB c).length = 1 := rfl
theorem encB_one {l : List UInt8} : ∀ u ∈ l.flatMap encB, u.oneCell' = true := by
  intro u hu
  obtain ⟨y, _, hy⟩ := List.mem_flatMap.1 hu
  simp only [encB, List.mem_cons, List.not_mem_nil, or_false] at hy
  subst hy; rfl
theorem infoB : (Tryz.prog.info? 5).map (fun i => (i.zero, i.size, i.bytes)) = some (some (.int .u8 0), 1, 1) := by kernel_rfl

set_option maxHeartbeats 1000000 in
theorem rright (a : Ad) (w : World) : Calls Tryz.prog 46 #[encA a] w fun e w' => e = .returned (.bool (rightA a)) ∧ Below w.heap.size w w' := by
  obtain ⟨f, hi, lo⟩ := a
  have hc : f ≠ 4 ∨ (f = 4 ∧ hi ≠ 0) ∨ (f = 4 ∧ hi = 0) := by
    by_cases h4 : f = 4
    · by_cases hh : hi = 0
      · exact .inr (.inr ⟨h4, hh⟩)
      · exact .inr (.inl ⟨h4, hh⟩)
    · exact .inl h4
  have KEY := Lib.hid (fun (b : Bool) (w' : World) (h : rightA (f, hi, lo) = b) (k : Below w.heap.size w w') => (⟨by rw [h], k⟩ : Ending.returned (.bool b) = .returned (.bool (rightA (f, hi, lo))) ∧ Below w.heap.size w w'))
  rcases hc with h | ⟨h, k⟩ | ⟨h, k⟩
  · have hv := Lib.hid (show rightA (f, hi, lo) = ((f.toNat : Int) == 6) by rw [show ((f.toNat : Int) == 6) = (f == 6) from u8_eq f 6]; simp [rightA, h])
    have z4 : ((f.toNat : Int) == 4) = false := int_u8_ne (c := 4) h
    clear h
    go_enter Tryz.func46, Tryz.ntmps46
    go_wp2_with fail
    go_ret
    exact KEY.out _ _ hv.out ((Below.refl _ _).alloc (Nat.le_refl _) _)
  · have hv := Lib.hid (show rightA (f, hi, lo) = false by simp [rightA, h, k])
    have z4 : ((f.toNat : Int) == 4) = true := int_u8_eq (c := 4) h
    have zh : ((hi.toNat : Int) == 0) = false := by have := u64_eq hi 0; simp at this; simpa [this] using k
    clear h k
    go_enter Tryz.func46, Tryz.ntmps46
    go_wp2_with fail
    go_ret
    exact KEY.out _ _ hv.out ((Below.refl _ _).alloc (Nat.le_refl _) _)
  · have hv := Lib.hid (show rightA (f, hi, lo) = decide ((lo.toNat : Int) < 4294967296) by
      rw [Bool.eq_iff_iff, decide_eq_true_eq]; simp [rightA, h, k]; omega)
    have z4 : ((f.toNat : Int) == 4) = true := int_u8_eq (c := 4) h
    have zh : ((hi.toNat : Int) == 0) = true := by rw [k]; rfl
    clear h k
    go_enter Tryz.func46, Tryz.ntmps46
    go_wp2_with fail
    go_ret
    exact KEY.out _ _ hv.out ((Below.refl _ _).alloc (Nat.le_refl _) _)

end Go.Proofs.Tryz.Pfx
namespace Go.Cph.Px
theorem bytesN_append (m n : Nat) : ∀ x, bytesN x (m + n) = bytesN (x / 256 ^ n) m ++ bytesN x n := by
  induction n with
  | zero => intro x; simp [bytesN]
  | succ n ih => intro x; rw [← Nat.add_assoc, bytesN_succ, ih, bytesN_succ, Nat.div_div_eq_div_mul, ← Nat.pow_succ', List.append_assoc]
theorem bytesN_low (n : Nat) : ∀ y x, bytesN (y * 256 ^ n + x) n = bytesN x n := by
  induction n with
  | zero => intro y x; simp [bytesN]
  | succ n ih =>
    intro y x
    rw [bytesN_succ, bytesN_succ]
    have e : y * 256 ^ (n + 1) + x = y * 256 ^ n * 256 + x := by rw [Nat.pow_succ, Nat.mul_assoc]
    have e1 : (y * 256 ^ (n + 1) + x) / 256 = y * 256 ^ n + x / 256 := by rw [e]; omega
    have e2 : UInt8.ofNat (y * 256 ^ (n + 1) + x) = UInt8.ofNat x := UInt8.toNat_inj.1 (by rw [UInt8.toNat_ofNat', UInt8.toNat_ofNat', e]; omega)
    rw [e1, e2, ih]
theorem bytes16 (f : UInt8) (hi lo : UInt64) : bytesN (num (f, hi, lo)) 16 = bytesN hi.toNat 8 ++ bytesN lo.toNat 8 := by
  have h1 := bytesN_append 8 8 (num (f, hi, lo))
  have e : num (f, hi, lo) = hi.toNat * 256 ^ 8 + lo.toNat := rfl
  have h2 : num (f, hi, lo) / 256 ^ 8 = hi.toNat := by rw [e]; have := lo.toNat_lt; omega
  rw [h2] at h1
  rw [h1, e, bytesN_low]
theorem bytesN_take (x n i : Nat) (h : i < n) : (bytesN x n).take (i + 1) = (bytesN x n).take i ++ [UInt8.ofNat (x / 256 ^ (n - 1 - i))] := by
  rw [List.take_succ_eq_append_getElem (by rw [bytesN_length]; exact h)]
  simp [bytesN]
theorem byteEq (x j : Nat) : ((x : Int) / 2 ^ (8 * j) % 256) = (((UInt8.ofNat (x / 256 ^ j)).toNat : Nat) : Int) := by
  rw [UInt8.toNat_ofNat', show (256 : Nat) ^ j = 2 ^ (8 * j) by rw [Nat.pow_mul]]
  simp
end Go.Cph.Px
namespace Go.Proofs.Tryz.Pfx
open Go.RowKit Go.Cph Go.Cph.Px

def BytesPost (l : List UInt8) (w : World) (e : Ending) (w' : World) : Prop := ∃ v', e = .returned v' ∧ w'.ownsRow w.heap.size 5 1 v' l.length (l.flatMap encB) ∧ Below w.heap.size w w'
set_option maxRecDepth 100000 in
set_option maxHeartbeats 2000000 in
theorem bytes6 (hi lo : UInt64) (w : World) : Calls Tryz.prog 54 #[encA (6, hi, lo)] w (BytesPost (bytesN (num (6, hi, lo)) 16) w) := by
  have HE := Lib.hid (bytes16 6 hi lo)
  have hbx : Below w.heap.size w (w.alloc (.cells #[.int .u8 6, .int .u64 (hi.toNat : Int), .int .u64 (lo.toNat : Int)] 30)) := (Below.refl _ _).alloc (Nat.le_refl _) _
  have HBX := Lib.hid hbx
  have HPX := Lib.hid (heap_alloc_new w (.cells #[.int .u8 6, .int .u64 (hi.toNat : Int), .int .u64 (lo.toNat : Int)] 30))
  have HSZ := Lib.hid (World.size_alloc w (.cells #[.int .u8 6, .int .u64 (hi.toNat : Int), .int .u64 (lo.toNat : Int)] 30))
  have HR := Lib.hid (fun w => (show Calls Tryz.prog 46 #[.agg #[.int .u8 6, .int .u64 (hi.toNat : Int), .int .u64 (lo.toNat : Int)]] w fun e w' => e = .returned (.bool true) ∧ Below w.heap.size w w' from rright (6, hi, lo) w))
  clear hbx
  go_enter Tryz.func54, Tryz.ntmps54
  go_wp2_with fail
  refine (HR.out _).mono ?_
  rintro e w1 ⟨rfl, hb⟩
  have HB1 := Lib.hid (below_step HBX.out hb HBX.out.size)
  have HP1 := Lib.hid (blk_kept hb HPX.out)
  have HS1 := Lib.hid (show w.heap.size + 1 ≤ w1.heap.size by have := hb.size; rw [HSZ.out] at this; exact this)
  clear hb
  go_wp2_with fail
  go_loopw [3, 4] (fun v3 v4 wr => ∃ k : Nat, k ≤ 8 ∧ v4 = .int .i64 ((k : Int) - 1) ∧ wr.ownsRow (w.heap.size + 1) 5 1 v3 (8 - k) (((bytesN hi.toNat 8).take (8 - k)).flatMap encB) ∧ Below (w.heap.size + 1) w1 wr) (fun _ v4 _ => ((intOf v4) + 1).toNat)
  case atStart => exact ⟨8, by omega, by simp, World.ownsRow_nil _ _ _ _, Below.refl _ _⟩
  case round =>
    obtain ⟨k, hk, rfl, ho, hbel⟩ := hrel
    have HO := Lib.hid ho
    have HBE := Lib.hid hbel
    have HP2 := Lib.hid (blk_below hbel HP1.out (by omega))
    have HSR := Lib.hid (show w.heap.size + 1 ≤ wr.heap.size from Nat.le_trans HS1.out hbel.size)
    obtain ⟨oo, oc, hov⟩ := owns_slice1 ho
    subst hov
    clear ho hbel
    have hp0 : wr.cell? ⟨w.heap.size, 0, none⟩ = some (.int .u8 6) := by rw [blk_cell HP2.out]; rfl
    have hp1 : wr.cell? ⟨w.heap.size, 1, none⟩ = some (.int .u64 (hi.toNat : Int)) := by rw [blk_cell HP2.out]; rfl
    rcases Nat.eq_zero_or_pos k with hk0 | hk0
    · subst hk0
      have HO8 := Lib.hid (show wr.ownsRow (w.heap.size + 1) 5 1 (.slice oo 8 oc) 8 ((bytesN hi.toNat 8).flatMap encB) from by have := HO.out; rwa [List.take_of_length_le (by rw [bytesN_length]; omega)] at this)
      rw [show ((0 : Nat) : Int) - 1 = -1 from rfl, show (8 - 0 : Nat) = 8 from rfl]
      clear hp0 hp1
      go_wp2_with fail
      go_loopw [3, 5] (fun v3 v4 wr => ∃ k : Nat, k ≤ 8 ∧ v4 = .int .i64 ((k : Int) - 1) ∧ wr.ownsRow (w.heap.size + 1) 5 1 v3 (16 - k) ((bytesN hi.toNat 8 ++ (bytesN lo.toNat 8).take (8 - k)).flatMap encB) ∧ Below (w.heap.size + 1) w1 wr) (fun _ v4 _ => ((intOf v4) + 1).toNat)
      case atStart => refine ⟨8, by omega, by simp, ?_, HBE.out⟩; have := HO8.out; simpa using this
      case round =>
        obtain ⟨k, hk, rfl, ho, hbel⟩ := hrel
        have HO := Lib.hid ho
        have HBE := Lib.hid hbel
        have HP2 := Lib.hid (blk_below hbel HP1.out (by omega))
        have HSR := Lib.hid (show w.heap.size + 1 ≤ wr.heap.size from Nat.le_trans HS1.out hbel.size)
        obtain ⟨oo, oc, hov⟩ := owns_slice1 ho
        subst hov
        clear ho hbel
        have hp0 : wr.cell? ⟨w.heap.size, 0, none⟩ = some (.int .u8 6) := by rw [blk_cell HP2.out]; rfl
        have hp1 : wr.cell? ⟨w.heap.size, 2, none⟩ = some (.int .u64 (lo.toNat : Int)) := by rw [blk_cell HP2.out]; rfl
        rcases Nat.eq_zero_or_pos k with hk1 | hk1
        · subst hk1
          go_wp2_with fail
          go_ret
          refine ⟨_, rfl, ?_, HB1.out.trans (HBE.out.mono (by omega))⟩
          rw [HE.out]
          have := HO.out
          rw [List.take_of_length_le (by rw [bytesN_length]; omega)] at this
          simpa [bytesN_length] using owns_mono this (by omega)
        · obtain ⟨j, rfl⟩ : ∃ j, k = j + 1 := ⟨k - 1, by omega⟩
          have e1 : (((j + 1 : Nat) : Int) - 1) = (j : Int) := by omega
          rw [e1]
          clear e1
          have eb := byteEq lo.toNat j
          have h63 : 16 - (j + 1) + 1 ≤ 1099511627776 := by omega
          have HL := Lib.hid h63
          clear h63
          generalize hbb : UInt8.ofNat (lo.toNat / 256 ^ j) = bb at *
          have HBB := Lib.hid hbb
          clear hbb
          go_wp2_with (at_builtin; refine wpList_append1 rfl (.tmp 39) (.tmp 47) 63 rfl (w.heap.size + 1) 5 _ 1 1 Tryz.underlying63 infoB rfl (by decide) _ (16 - (j + 1)) ((bytesN hi.toNat 8 ++ (bytesN lo.toNat 8).take (8 - (j + 1))).flatMap encB) [.int .u8 (bb.toNat : Int)] rfl HO.out _ 1 rfl rfl rfl (by simp [Value.oneCell']) HL.out (by decide) HSR.out (w.heap.size + 1) w1 HBE.out (Nat.le_refl _) ?_; intro v' w' ho hgr hb' hsz'; have HO4 := Lib.hid ho; have HB4 := Lib.hid hb'; clear ho hgr hb' hsz')
          go_roundw
          case rel =>
            refine ⟨j, by omega, rfl, ?_, HB4.out⟩
            have h1 := HO4.out
            have e2 : 8 - j = 8 - (j + 1) + 1 := by omega
            have e3 : 16 - j = 16 - (j + 1) + 1 := by omega
            have e4 : 8 - 1 - (8 - (j + 1)) = j := by omega
            rw [e2, e3, bytesN_take _ _ _ (by omega), e4, HBB.out]
            simpa [List.flatMap_append] using h1
          case measure => simp [intOf]
    · obtain ⟨j, rfl⟩ : ∃ j, k = j + 1 := ⟨k - 1, by omega⟩
      have e1 : (((j + 1 : Nat) : Int) - 1) = (j : Int) := by omega
      rw [e1]
      clear e1
      have eb := byteEq hi.toNat j
      have h63 : 8 - (j + 1) + 1 ≤ 1099511627776 := by omega
      have HL := Lib.hid h63
      clear h63
      generalize hbb : UInt8.ofNat (hi.toNat / 256 ^ j) = bb at *
      have HBB := Lib.hid hbb
      clear hbb
      go_wp2_with (at_builtin; refine wpList_append1 rfl (.tmp 18) (.tmp 26) 63 rfl (w.heap.size + 1) 5 _ 1 1 Tryz.underlying63 infoB rfl (by decide) _ (8 - (j + 1)) (((bytesN hi.toNat 8).take (8 - (j + 1))).flatMap encB) [.int .u8 (bb.toNat : Int)] rfl HO.out _ 1 rfl rfl rfl (by simp [Value.oneCell']) HL.out (by decide) HSR.out (w.heap.size + 1) w1 HBE.out (Nat.le_refl _) ?_; intro v' w' ho hgr hb' hsz'; have HO4 := Lib.hid ho; have HB4 := Lib.hid hb'; clear ho hgr hb' hsz')
      go_roundw
      case rel =>
        refine ⟨j, by omega, rfl, ?_, HB4.out⟩
        have h1 := HO4.out
        have e2 : 8 - j = 8 - (j + 1) + 1 := by omega
        have e4 : 8 - 1 - (8 - (j + 1)) = j := by omega
        rw [e2, bytesN_take _ _ _ (by omega), e4, HBB.out]
        simpa [List.flatMap_append] using h1
      case measure => simp [intOf]
set_option maxRecDepth 100000 in
set_option maxHeartbeats 2000000 in
theorem bytes4 (hi lo : UInt64) (hr : rightA (4, hi, lo) = true) (w : World) : Calls Tryz.prog 54 #[encA (4, hi, lo)] w (BytesPost (bytesN lo.toNat 4) w) := by
  have hbx : Below w.heap.size w (w.alloc (.cells #[.int .u8 4, .int .u64 (hi.toNat : Int), .int .u64 (lo.toNat : Int)] 30)) := (Below.refl _ _).alloc (Nat.le_refl _) _
  have HBX := Lib.hid hbx
  have HPX := Lib.hid (heap_alloc_new w (.cells #[.int .u8 4, .int .u64 (hi.toNat : Int), .int .u64 (lo.toNat : Int)] 30))
  have HSZ := Lib.hid (World.size_alloc w (.cells #[.int .u8 4, .int .u64 (hi.toNat : Int), .int .u64 (lo.toNat : Int)] 30))
  have HR := Lib.hid (fun w => (show Calls Tryz.prog 46 #[.agg #[.int .u8 4, .int .u64 (hi.toNat : Int), .int .u64 (lo.toNat : Int)]] w fun e w' => e = .returned (.bool true) ∧ Below w.heap.size w w' from by have := rright (4, hi, lo) w; rwa [hr] at this))
  clear hr
  clear hbx
  go_enter Tryz.func54, Tryz.ntmps54
  go_wp2_with fail
  refine (HR.out _).mono ?_
  rintro e w1 ⟨rfl, hb⟩
  have HB1 := Lib.hid (below_step HBX.out hb HBX.out.size)
  have HP1 := Lib.hid (blk_kept hb HPX.out)
  have HS1 := Lib.hid (show w.heap.size + 1 ≤ w1.heap.size by have := hb.size; rw [HSZ.out] at this; exact this)
  clear hb
  go_wp2_with fail
  have hp0 : w1.cell? ⟨w.heap.size, 0, none⟩ = some (.int .u8 4) := by rw [blk_cell HP1.out]; rfl
  refine wp_loop_rounds 1 ?_
  rw [rounds_succ]
  go_wp2_with fail
  clear hp0
  go_loopw [3, 5] (fun v3 v4 wr => ∃ k : Nat, k ≤ 8 ∧ v4 = .int .i64 ((k : Int) - 1) ∧ wr.ownsRow (w.heap.size + 1) 5 1 v3 (4 - k) (((bytesN lo.toNat 4).take (4 - k)).flatMap encB) ∧ Below (w.heap.size + 1) w1 wr) (fun _ v4 _ => ((intOf v4) + 1).toNat)
  case atStart => exact ⟨8, by omega, by simp, World.ownsRow_nil _ _ _ _, Below.refl _ _⟩
  case round =>
    obtain ⟨k, hk, rfl, ho, hbel⟩ := hrel
    have HO := Lib.hid ho
    have HBE := Lib.hid hbel
    have HP2 := Lib.hid (blk_below hbel HP1.out (by omega))
    have HSR := Lib.hid (show w.heap.size + 1 ≤ wr.heap.size from Nat.le_trans HS1.out hbel.size)
    obtain ⟨oo, oc, hov⟩ := owns_slice1 ho
    subst hov
    clear ho hbel
    have hp0 : wr.cell? ⟨w.heap.size, 0, none⟩ = some (.int .u8 4) := by rw [blk_cell HP2.out]; rfl
    have hp1 : wr.cell? ⟨w.heap.size, 2, none⟩ = some (.int .u64 (lo.toNat : Int)) := by rw [blk_cell HP2.out]; rfl
    rcases Nat.eq_zero_or_pos k with hk1 | hk1
    · subst hk1
      go_wp2_with fail
      go_ret
      refine ⟨_, rfl, ?_, HB1.out.trans (HBE.out.mono (by omega))⟩
      have := HO.out
      rw [List.take_of_length_le (by rw [bytesN_length]; omega)] at this
      simpa [bytesN_length] using owns_mono this (by omega)
    · obtain ⟨j, rfl⟩ : ∃ j, k = j + 1 := ⟨k - 1, by omega⟩
      have e1 : (((j + 1 : Nat) : Int) - 1) = (j : Int) := by omega
      rw [e1]
      clear e1
      by_cases hj4 : j < 4
      · have hj5 : (j : Int) < 4 := by omega
        have eb := byteEq lo.toNat j
        have h63 : 4 - (j + 1) + 1 ≤ 1099511627776 := by omega
        have HL := Lib.hid h63
        clear h63
        generalize hbb : UInt8.ofNat (lo.toNat / 256 ^ j) = bb at *
        have HBB := Lib.hid hbb
        clear hbb
        go_wp2_with (at_builtin; refine wpList_append1 rfl (.tmp 39) (.tmp 47) 63 rfl (w.heap.size + 1) 5 _ 1 1 Tryz.underlying63 infoB rfl (by decide) _ (4 - (j + 1)) (((bytesN lo.toNat 4).take (4 - (j + 1))).flatMap encB) [.int .u8 (bb.toNat : Int)] rfl HO.out _ 1 rfl rfl rfl (by simp [Value.oneCell']) HL.out (by decide) HSR.out (w.heap.size + 1) w1 HBE.out (Nat.le_refl _) ?_; intro v' w' ho hgr hb' hsz'; have HO4 := Lib.hid ho; have HB4 := Lib.hid hb'; clear ho hgr hb' hsz')
        go_roundw
        case rel =>
          refine ⟨j, by omega, rfl, ?_, HB4.out⟩
          have h1 := HO4.out
          have e2 : 4 - j = 4 - (j + 1) + 1 := by omega
          have e4 : 4 - 1 - (4 - (j + 1)) = j := by omega
          rw [e2, bytesN_take _ _ _ (by omega), e4, HBB.out]
          simpa [List.flatMap_append] using h1
        case measure => simp [intOf]
      · have hj5 : ¬ (j : Int) < 4 := by omega
        have hj6 : decide (j < 4) = false := by simpa using hj4
        have HZ := Lib.hid (show 4 - j = 4 - (j + 1) by omega)
        go_wp2_with fail
        go_roundw
        case rel => exact ⟨j, by omega, rfl, by rw [HZ.out]; exact HO.out, HBE.out⟩
        case measure => simp [intOf]
/-- The document's Bytes. -/
theorem rbytes (a : Ad) (w : World) : Calls Tryz.prog 54 #[encA a] w (BytesPost (bytesA a) w) := by
  cases hr : rightA a with
  | true =>
    obtain ⟨f, hi, lo⟩ := a
    unfold bytesA
    rw [if_pos hr]
    rcases right_fam hr with h | h
    · simp only at h
      subst h
      have e : num (4, hi, lo) = lo.toNat := by
        have h1 := hr
        simp only [rightA, Bool.or_eq_true, Bool.and_eq_true, beq_iff_eq] at h1
        rcases h1 with h1 | ⟨_, h1, _⟩
        · exact absurd h1 (by decide)
        · unfold num; rw [h1]; simp
      rw [e]
      exact bytes4 hi lo hr w
    · simp only at h
      subst h
      exact bytes6 hi lo w
  | false =>
    have e : bytesA a = [] := by unfold bytesA; rw [hr]; rfl
    rw [e]
    obtain ⟨f, hi, lo⟩ := a
    have HR := Lib.hid (fun w => (show Calls Tryz.prog 46 #[encA (f, hi, lo)] w fun e w' => e = .returned (.bool false) ∧ Below w.heap.size w w' from by have := rright (f, hi, lo) w; rwa [hr] at this))
    clear hr e
    have hbx : Below w.heap.size w (w.alloc (.cells #[.int .u8 (f.toNat : Int), .int .u64 (hi.toNat : Int), .int .u64 (lo.toNat : Int)] 30)) := (Below.refl _ _).alloc (Nat.le_refl _) _
    have HBX := Lib.hid hbx
    clear hbx
    go_enter Tryz.func54, Tryz.ntmps54
    go_wp2_with fail
    refine (HR.out _).mono ?_
    rintro e w1 ⟨rfl, hb⟩
    have HB1 := Lib.hid (below_step HBX.out hb HBX.out.size)
    clear hb
    go_wp2_with fail
    go_ret
    exact ⟨_, rfl, World.ownsRow_nil _ _ _ _, HB1.out⟩
end Go.Proofs.Tryz.Pfx

/- The document's addresses: of bytes, as bits (turned from pools' Rb4, Rb5). -/
set_option linter.unusedVariables false
set_option linter.unusedSimpArgs false
namespace Go.Proofs.Tryz.Pfx
open Go.RowKit Go.Cph Go.Cph.Px

structure FromStep (h lo : UInt64) (c : UInt8) (h' lo' : UInt64) (x1 x2 x3 : Nat) : Prop where
  e1 : IntKind.u64.wrap (256 * (h.toNat : Int)) = (x1 : Int)
  e2 : (lo.toNat : Int) / 72057594037927936 = (x2 : Int)
  e3 : IntKind.u64.wrap ((x1 : Int) + (x2 : Int)) = (h'.toNat : Int)
  e4 : IntKind.u64.wrap (256 * (lo.toNat : Int)) = (x3 : Int)
  e5 : IntKind.u64.wrap ((x3 : Int) + (c.toNat : Int)) = (lo'.toNat : Int)
  e6 : IntKind.u64.wrap (x2 : Int) = (x2 : Int)
  v : h'.toNat * 18446744073709551616 + lo'.toNat = 256 * (h.toNat * 18446744073709551616 + lo.toNat) + c.toNat
theorem from_step (h lo : UInt64) (c : UInt8) (hb : h.toNat < 72057594037927936) : ∃ (h' lo' : UInt64) (x1 x2 x3 : Nat), FromStep h lo c h' lo' x1 x2 x3 := by
  have h1 := lo.toNat_lt
  have h2 := c.toNat_lt
  obtain ⟨a, ha⟩ : ∃ a, a = h.toNat := ⟨_, rfl⟩
  obtain ⟨b, hb'⟩ : ∃ a, a = lo.toNat := ⟨_, rfl⟩
  obtain ⟨d, hd⟩ : ∃ a, a = c.toNat := ⟨_, rfl⟩
  obtain ⟨q, r, hq, hr, hr2⟩ : ∃ q r, b = 72057594037927936 * q + r ∧ r < 72057594037927936 ∧ q < 256 := ⟨b / 72057594037927936, b % 72057594037927936, by omega, by omega, by omega⟩
  have f1 : (UInt64.ofNat (256 * a + q)).toNat = 256 * a + q := by rw [UInt64.toNat_ofNat', Nat.mod_eq_of_lt (by omega)]
  have f2 : (UInt64.ofNat (256 * r + d)).toNat = 256 * r + d := by rw [UInt64.toNat_ofNat', Nat.mod_eq_of_lt (by omega)]
  refine ⟨UInt64.ofNat (256 * a + q), UInt64.ofNat (256 * r + d), 256 * a, q, 256 * r, ?_, ?_, ?_, ?_, ?_, ?_, ?_⟩
  · rw [← ha, IntWalk.u64_in _ (by omega)]; omega
  · rw [← hb']; omega
  · rw [f1, IntWalk.u64_in _ (by omega)]; omega
  · rw [← hb', IntKind.wrap_u64]; omega
  · rw [f2, ← hd, IntWalk.u64_in _ (by omega)]; omega
  · rw [IntWalk.u64_in _ (by omega)]
  · rw [f1, f2, ← ha, ← hb', ← hd]; omega
theorem val_take {l : List UInt8} {i : Nat} (h : i < l.length) : val (l.take (i + 1)) = 256 * val (l.take i) + l[i].toNat := by rw [List.take_succ_eq_append_getElem h, val_snoc]
theorem val_lt (l : List UInt8) : val l < 256 ^ l.length := by
  suffices k : ∀ r : List UInt8, val r.reverse < 256 ^ r.reverse.length by simpa using k l.reverse
  intro r
  induction r with
  | nil => simp [val]
  | cons b r ih =>
    rw [List.reverse_cons, val_snoc, List.length_append, List.length_singleton, Nat.pow_succ']
    have := b.toNat_lt
    omega
theorem bs_cells {w : World} {v : Value} {l : List UInt8} (h : BsAt w v l) (h0 : 0 < l.length) :
    ∃ b off cap, v = .slice (some ⟨b, off, none⟩) l.length cap ∧ ∀ i (hi : i < l.length), w.cell? ⟨b, off + i, none⟩ = some (.int .u8 (l[i].toNat : Int)) := by
  obtain ⟨b, off, cap, hv, hc⟩ := elems_shape encB_len h h0
  exact ⟨b, off, cap, hv, fun i hi => by have := hc i hi 0 (by omega); simpa using this⟩
theorem ofNum_num (f : UInt8) (h lo : UInt64) (n : Nat) (e : h.toNat * 18446744073709551616 + lo.toNat = n) : ofNum f n = (f, h, lo) := by
  have h1 := lo.toNat_lt
  have h2 := h.toNat_lt
  exact ad_ext rfl (by rw [num_ofNum _ _ (by omega)]; exact e.symm)

set_option maxRecDepth 100000 in
set_option maxHeartbeats 4000000 in
theorem from_ok (fam : UInt8) (v : Value) (l : List UInt8) (w : World) (h : BsAt w v l) (hok : fromOk fam l.length = true) :
    Calls Tryz.prog 62 #[.int .u8 (fam.toNat : Int), v] w fun e w' => e = .returned (.tuple #[encA (fromB fam l), .bool true]) ∧ Below w.heap.size w w' := by
  obtain ⟨ao, cap, hv⟩ := elems_slice h
  subst hv
  have HV := Lib.hid h
  clear h
  have hl16 : l.length ≤ 16 := by
    simp only [fromOk, Bool.or_eq_true, Bool.and_eq_true, beq_iff_eq] at hok
    omega
  have HF := Lib.hid (show ∀ h lo : UInt64, h.toNat * 18446744073709551616 + lo.toNat = val l → fromB fam l = (fam, h, lo) from fun h lo e => by unfold fromB; rw [if_pos hok]; exact ofNum_num fam h lo _ e)
  have HB0 := Lib.hid (show Below w.heap.size w ((w.alloc (.cells #[.int .u8 0, .int .u64 0, .int .u64 0] 30)).alloc (.cells #[.int .u8 (fam.toNat : Int), .int .u64 0, .int .u64 0] 30)) from ((Below.refl _ _).alloc (Nat.le_refl _) _).alloc (by simp) _)
  have h1 : ((w.alloc (.cells #[.int .u8 0, .int .u64 0, .int .u64 0] 30)).alloc (.cells #[.int .u8 (fam.toNat : Int), .int .u64 0, .int .u64 0] 30)).heap[w.heap.size]? = some (.cells #[.int .u8 0, .int .u64 0, .int .u64 0] 30 (0, 0)) := blk_alloc (heap_alloc_new _ _) _
  have h2 := heap_alloc_new (w.alloc (.cells #[.int .u8 0, .int .u64 0, .int .u64 0] 30)) (.cells #[.int .u8 (fam.toNat : Int), .int .u64 0, .int .u64 0] 30)
  rw [World.size_alloc] at h2
  have H1 := Lib.hid h1
  have H2 := Lib.hid h2
  clear h1 h2
  have hcase : (fam = 4 ∧ l.length = 4) ∨ (fam = 6 ∧ l.length = 16) := by simpa [fromOk] using hok
  clear hok
  rcases hcase with ⟨hf, hl⟩ | ⟨hf, hl⟩
  all_goals
    have HL := Lib.hid hl
    first
      | (have z4 : ((fam.toNat : Int) == 4) = true := int_u8_eq (c := 4) hf)
      | (have z4 : ((fam.toNat : Int) == 4) = false := int_u8_ne (c := 4) (by rw [hf]; decide); have z6 : ((fam.toNat : Int) == 6) = true := int_u8_eq (c := 6) hf)
    first
      | (have zl : ((l.length : Int) == 4) = true := by rw [hl]; rfl)
      | (have zl : ((l.length : Int) == 16) = true := by rw [hl]; rfl)
    clear hf hl
    go_enter Tryz.func62, Tryz.ntmps62
    go_wp2_with fail
    generalize ((w.alloc (.cells #[.int .u8 0, .int .u64 0, .int .u64 0] 30)).alloc (.cells #[.int .u8 (fam.toNat : Int), .int .u64 0, .int .u64 0] 30)) = w0 at *
    go_loopw [7] (fun v7 wr => ∃ i : Nat, i ≤ l.length ∧ v7 = .int .i64 i ∧ Below w.heap.size w wr ∧ wr.heap[w.heap.size]? = some (.cells #[.int .u8 0, .int .u64 0, .int .u64 0] 30 (0, 0)) ∧ ∃ h lo : UInt64, wr.heap[w.heap.size + 1]? = some (.cells #[.int .u8 (fam.toNat : Int), .int .u64 (h.toNat : Int), .int .u64 (lo.toNat : Int)] 30 (0, 0)) ∧ h.toNat * 18446744073709551616 + lo.toNat = val (l.take i)) (fun v7 _ => l.length - (intOf v7).toNat)
    case atStart => exact ⟨0, Nat.zero_le _, rfl, HB0.out, H1.out, 0, 0, H2.out, by simp [val]⟩
    case round =>
      obtain ⟨i, hi, rfl, hbel, hr1, h, lo, hr2, hval⟩ := hrel
      have HBE := Lib.hid hbel
      have HR1 := Lib.hid hr1
      have HR2 := Lib.hid hr2
      have HVL := Lib.hid hval
      clear hbel hr1 hr2 hval
      by_cases hlt : i < l.length
      · obtain ⟨b, off, cap', hve, hcs⟩ := bs_cells HV.out (by omega)
        cases hve
        have hci := hcs i hlt
        have hbl : b < w.heap.size := World.block_lt_of_cell? _ _ hci
        have q0 := cell_kept HBE.out hci
        obtain ⟨c, hc⟩ : ∃ c, c = l[i] := ⟨_, rfl⟩
        rw [← hc] at q0
        have hvt := val_take hlt
        rw [← hc, ← HVL.out] at hvt
        have hlt2 := val_lt (l.take (i + 1))
        have hle : (256 : Nat) ^ (l.take (i + 1)).length ≤ 256 ^ 16 := Nat.pow_le_pow_right (by decide) (by rw [List.length_take]; omega)
        have hh : h.toNat < 72057594037927936 := by
          have h3 : val (l.take (i + 1)) < 256 ^ 16 := Nat.lt_of_lt_of_le hlt2 hle
          rw [hvt] at h3
          have : (256 : Nat) ^ 16 = 340282366920938463463374607431768211456 := by decide
          omega
        obtain ⟨h', lo', x1, x2, x3, hs⟩ := from_step h lo c hh
        have HVN := Lib.hid (hs.v.trans hvt.symm)
        obtain ⟨e1, e2, e3, e4, e5, e6, -⟩ := hs
        have m1 : (i : Int) < (l.length : Int) := by omega
        have hne : ¬ b = w.heap.size + 1 := by omega
        have r1 : wr.cell? ⟨w.heap.size + 1, 1, none⟩ = some (.int .u64 (h.toNat : Int)) := by rw [blk_cell HR2.out]; rfl
        have r2 : wr.cell? ⟨w.heap.size + 1, 2, none⟩ = some (.int .u64 (lo.toNat : Int)) := by rw [blk_cell HR2.out]; rfl
        have f1 : wr.frozen? ⟨w.heap.size + 1, 1, none⟩ = false := by rw [blk_frozen HR2.out]; rfl
        have f2 : wr.frozen? ⟨w.heap.size + 1, 2, none⟩ = false := by rw [blk_frozen HR2.out]; rfl
        clear hcs hci hc hvt hlt2 hle hh
        go_wp2_with fail
        go_region
        have G2 := Lib.hid (show ((wr.setCell ⟨w.heap.size + 1, 1, none⟩ (.int .u64 (h'.toNat : Int))).setCell ⟨w.heap.size + 1, 2, none⟩ (.int .u64 (lo'.toNat : Int))).heap[w.heap.size + 1]? = some (.cells #[.int .u8 (fam.toNat : Int), .int .u64 (h'.toNat : Int), .int .u64 (lo'.toNat : Int)] 30 (0, 0)) from by have := blk_set (blk_set HR2.out 1 (.int .u64 (h'.toNat : Int))) 2 (.int .u64 (lo'.toNat : Int)); simpa using this)
        have G1 := Lib.hid (show ((wr.setCell ⟨w.heap.size + 1, 1, none⟩ (.int .u64 (h'.toNat : Int))).setCell ⟨w.heap.size + 1, 2, none⟩ (.int .u64 (lo'.toNat : Int))).heap[w.heap.size]? = _ from (blk_set_other (by simp)).trans ((blk_set_other (by simp)).trans HR1.out))
        have GB := Lib.hid ((HBE.out.setCell (p := ⟨w.heap.size + 1, 1, none⟩) (by simp) (.int .u64 (h'.toNat : Int))).setCell (p := ⟨w.heap.size + 1, 2, none⟩) (by simp) (.int .u64 (lo'.toNat : Int)))
        clear e1 e2 e3 e4 e5 e6 r1 r2 f1 f2 q0 hne
        go_wp2_with fail
        go_roundw
        case rel => exact ⟨i + 1, hlt, by go_num, GB.out.drew, G1.out, h', lo', G2.out, HVN.out⟩
        case measure => simp [intOf]; omega
      · obtain rfl : i = l.length := by omega
        have HN := Lib.hid (HF.out h lo (by have := HVL.out; rwa [List.take_length] at this))
        have r0 : wr.cell? ⟨w.heap.size + 1, 0, none⟩ = some (.int .u8 (fam.toNat : Int)) := by rw [blk_cell HR2.out]; rfl
        have r1 : wr.cell? ⟨w.heap.size + 1, 1, none⟩ = some (.int .u64 (h.toNat : Int)) := by rw [blk_cell HR2.out]; rfl
        have r2 : wr.cell? ⟨w.heap.size + 1, 2, none⟩ = some (.int .u64 (lo.toNat : Int)) := by rw [blk_cell HR2.out]; rfl
        have s0 : wr.cell? ⟨w.heap.size, 0, none⟩ = some (.int .u8 0) := by rw [blk_cell HR1.out]; rfl
        have s1 : wr.cell? ⟨w.heap.size, 1, none⟩ = some (.int .u64 0) := by rw [blk_cell HR1.out]; rfl
        have s2 : wr.cell? ⟨w.heap.size, 2, none⟩ = some (.int .u64 0) := by rw [blk_cell HR1.out]; rfl
        have f0 : wr.frozen? ⟨w.heap.size, 0, none⟩ = false := by rw [blk_frozen HR1.out]; rfl
        have f1 : wr.frozen? ⟨w.heap.size, 1, none⟩ = false := by rw [blk_frozen HR1.out]; rfl
        have f2 : wr.frozen? ⟨w.heap.size, 2, none⟩ = false := by rw [blk_frozen HR1.out]; rfl
        go_wp2_with fail
        refine bodyPost_ret (v := .tuple #[encA (fam, h, lo), .bool true]) (by simp [results, Tryz.results62, go_sem, s0, s1, s2]) rfl ⟨by rw [HN.out], ?_⟩
        exact ((HBE.out.setCell (p := ⟨w.heap.size, 0, none⟩) (Nat.le_refl _) _).setCell (p := ⟨w.heap.size, 1, none⟩) (Nat.le_refl _) _).setCell (p := ⟨w.heap.size, 2, none⟩) (Nat.le_refl _) _
end Go.Proofs.Tryz.Pfx
namespace Go.Proofs.Tryz.Pfx
open Go.RowKit Go.Cph Go.Cph.Px

def bitsOf (l : List UInt8) : List UInt8 := l.flatMap fun c => bitsN c.toNat 8
theorem bitsOf_snoc (l : List UInt8) (c : UInt8) : bitsOf (l ++ [c]) = bitsOf l ++ bitsN c.toNat 8 := by simp [bitsOf, List.flatMap_append]
theorem bitsOf_length (l : List UInt8) : (bitsOf l).length = 8 * l.length := by
  induction l with
  | nil => rfl
  | cons c l ih =>
    have e : bitsOf (c :: l) = bitsN c.toNat 8 ++ bitsOf l := rfl
    rw [e, List.length_append, ih, bitsN_length, List.length_cons]; omega
theorem bitsOf_row (a : Ad) : bitsOf (bytesA a) = rowA a := by
  unfold bytesA rowA
  cases rightA a with
  | true => rw [if_pos rfl, if_pos rfl, wid_size]; exact bits_bytes _ _
  | false => rfl
theorem bitsN_take (x n i : Nat) (h : i < n) : (bitsN x n).take (i + 1) = (bitsN x n).take i ++ [if x.testBit (n - 1 - i) then 1 else 0] := by
  rw [List.take_succ_eq_append_getElem (by rw [bitsN_length]; exact h)]
  simp [bitsN]
theorem bitEq (c : UInt8) (j : Nat) : Go.bits .and .u8 ((c.toNat : Int) / 2 ^ j) 1 = (((if c.toNat.testBit j then (1 : UInt8) else 0).toNat : Nat) : Int) := by
  have h1 : c.toNat / 2 ^ j < 256 := Nat.lt_of_le_of_lt (Nat.div_le_self _ _) c.toNat_lt
  have e : ((c.toNat : Int) / 2 ^ j) = ((c.toNat / 2 ^ j : Nat) : Int) := by simp
  have h := u8_and_nat (c.toNat / 2 ^ j) 1 h1 (by decide)
  rw [e]
  refine h.trans ?_
  rw [Nat.and_one_is_mod, Nat.testBit_eq_decide_div_mod_eq]
  have h2 : c.toNat / 2 ^ j % 2 = 0 ∨ c.toNat / 2 ^ j % 2 = 1 := by omega
  rcases h2 with h2 | h2 <;> rw [h2] <;> rfl
theorem bytesA_le (a : Ad) : (bytesA a).length ≤ 16 := by
  unfold bytesA sizeB
  split
  · rw [bytesN_length]; split <;> omega
  · simp

set_option maxRecDepth 100000 in
set_option maxHeartbeats 4000000 in
theorem rrow (a : Ad) (w : World) : Calls Tryz.prog 33 #[encA a] w (BytesPost (rowA a) w) := by
  have HBY := Lib.hid (fun w => rbytes a w)
  have HRW := Lib.hid (bitsOf_row a)
  have hle := bytesA_le a
  obtain ⟨l, hl⟩ : ∃ l, l = bytesA a := ⟨_, rfl⟩
  rw [← hl] at HBY HRW hle
  clear hl
  obtain ⟨f, hi, lo⟩ := a
  have hbx : Below w.heap.size w (w.alloc (.cells #[.int .u8 (f.toNat : Int), .int .u64 (hi.toNat : Int), .int .u64 (lo.toNat : Int)] 30)) := (Below.refl _ _).alloc (Nat.le_refl _) _
  have HBX := Lib.hid hbx
  clear hbx
  go_enter Tryz.func33, Tryz.ntmps33
  go_wp2_with fail
  refine (HBY.out _).mono ?_
  rintro e w1 ⟨bv, rfl, ho, hb⟩
  obtain ⟨bo, bc, hbv⟩ := owns_slice1 ho
  subst hbv
  have HL := Lib.hid (Seg.of_owns ho)
  have HB1 := Lib.hid (below_step HBX.out hb HBX.out.size)
  clear ho hb
  go_wp2_with fail
  go_loopw [4, 5] (fun v4 v5 wr => ∃ i : Nat, i ≤ l.length ∧ v5 = .int .i64 i ∧ wr.ownsRow w1.heap.size 5 1 v4 (8 * i) ((bitsOf (l.take i)).flatMap encB) ∧ Below w1.heap.size w1 wr) (fun _ v5 _ => l.length - (intOf v5).toNat)
  case atStart => exact ⟨0, Nat.zero_le _, rfl, World.ownsRow_nil _ _ _ _, Below.refl _ _⟩
  case round =>
    obtain ⟨wo, rfl⟩ : ∃ wo : World, wo = wr := ⟨_, rfl⟩
    obtain ⟨i, hi2, rfl, ho, hbel⟩ := hrel
    have HO := Lib.hid ho
    have HBE := Lib.hid hbel
    obtain ⟨oo, oc, hov⟩ := owns_slice1 ho
    subst hov
    clear ho hbel
    by_cases hlt : i < l.length
    · obtain ⟨b, off, cap', hve, hcs⟩ := bs_cells HL.out (by omega)
      cases hve
      have hci := hcs i hlt
      obtain ⟨c, hc⟩ : ∃ c, c = l[i] := ⟨_, rfl⟩
      rw [← hc] at hci
      have HCI := Lib.hid hci
      have HSN := Lib.hid (show bitsOf (l.take (i + 1)) = bitsOf (l.take i) ++ bitsN c.toNat 8 by rw [List.take_succ_eq_append_getElem hlt, bitsOf_snoc, hc])
      obtain ⟨L, hL⟩ : ∃ L, L = bitsOf (l.take i) := ⟨_, rfl⟩
      have hLl : L.length = 8 * i := by rw [hL, bitsOf_length, List.length_take]; omega
      rw [← hL] at HO HSN
      have m1 : (i : Int) < (l.length : Int) := by omega
      clear hcs hci hc hL
      go_wp2_with fail
      go_loopw [4, 6] (fun v4 v6 wr => ∃ k : Nat, k ≤ 8 ∧ v6 = .int .i64 ((k : Int) - 1) ∧ wr.ownsRow w1.heap.size 5 1 v4 (8 * i + (8 - k)) ((L ++ (bitsN c.toNat 8).take (8 - k)).flatMap encB) ∧ Below w1.heap.size w1 wr) (fun _ v6 _ => (intOf v6 + 1).toNat)
      case atStart => exact ⟨8, by omega, by simp, by have := HO.out; simpa using this, HBE.out⟩
      case round =>
        obtain ⟨k, hk, rfl, ho, hbel⟩ := hrel
        have HO2 := Lib.hid ho
        have HBE2 := Lib.hid hbel
        obtain ⟨oo2, oc2, hov⟩ := owns_slice1 ho
        subst hov
        clear ho hbel
        rcases Nat.eq_zero_or_pos k with hk0 | hk0
        · subst hk0
          have HO3 := Lib.hid (show wr.ownsRow w1.heap.size 5 1 (.slice oo2 (8 * (i + 1)) oc2) (8 * (i + 1)) ((L ++ bitsN c.toNat 8).flatMap encB) from by have := HO2.out; rwa [List.take_of_length_le (by rw [bitsN_length]; omega)] at this)
          have hn8 : 8 * i + (8 - 0) = 8 * (i + 1) := by omega
          rw [show ((0 : Nat) : Int) - 1 = -1 from rfl, hn8]
          clear hn8
          go_wp2_with fail
          go_roundw
          case rel => exact ⟨i + 1, hlt, by go_num, by rw [HSN.out]; exact HO3.out, HBE2.out⟩
          case measure => simp [intOf]; omega
        · obtain ⟨j, rfl⟩ : ∃ j, k = j + 1 := ⟨k - 1, by omega⟩
          have e1 : (((j + 1 : Nat) : Int) - 1) = (j : Int) := by omega
          rw [e1]
          clear e1
          have hcc := cell_kept (HBE2.out) HCI.out
          have eb := bitEq c j
          generalize hbb : (if c.toNat.testBit j then (1 : UInt8) else 0) = bb at *
          have HBB := Lib.hid hbb
          clear hbb
          have h63 : 8 * i + (8 - (j + 1)) + 1 ≤ 1099511627776 := by omega
          have HLN := Lib.hid h63
          have HSR := Lib.hid HBE2.out.size
          clear h63
          go_wp2_with (at_builtin; refine wpList_append1 rfl (.tmp 19) (.tmp 28) 63 rfl w1.heap.size 5 _ 1 1 Tryz.underlying63 infoB rfl (by decide) _ (8 * i + (8 - (j + 1))) ((L ++ (bitsN c.toNat 8).take (8 - (j + 1))).flatMap encB) [.int .u8 (bb.toNat : Int)] rfl HO2.out _ 1 rfl rfl rfl (by simp [Value.oneCell']) HLN.out (by decide) HSR.out w1.heap.size w1 HBE2.out (Nat.le_refl _) ?_; intro v' w' ho hgr hb' hsz'; have HO4 := Lib.hid ho; have HB4 := Lib.hid hb'; clear ho hgr hb' hsz')
          go_roundw
          case rel =>
            refine ⟨j, by omega, rfl, ?_, HB4.out⟩
            have h1 := HO4.out
            have e2 : 8 - j = 8 - (j + 1) + 1 := by omega
            have e4 : 8 - 1 - (8 - (j + 1)) = j := by omega
            rw [e2, bitsN_take _ _ _ (by omega), e4, HBB.out]
            simpa [List.flatMap_append, Nat.add_assoc] using h1
          case measure => simp [intOf]
    · obtain rfl : i = l.length := by omega
      go_wp2_with fail
      go_ret
      refine ⟨_, rfl, ?_, below_step HB1.out HBE.out HB1.out.size⟩
      have h1 := HO.out
      rw [List.take_length] at h1
      rw [← HRW.out, bitsOf_length]
      exact owns_mono h1 HB1.out.size
end Go.Proofs.Tryz.Pfx

/- The document's prefixes: right; given (turned from pools' Rb7, Rc1). -/
set_option linter.unusedVariables false
set_option linter.unusedSimpArgs false
namespace Go.Proofs.Tryz.Pfx
open Go.RowKit Go.Cph Go.Cph.Px

set_option maxRecDepth 100000 in
set_option maxHeartbeats 4000000 in
theorem rrightP (p : Pf) (w : World) : Calls Tryz.prog 22 #[encP p] w fun e w' => e = .returned (.bool (rightP p)) ∧ Below w.heap.size w w' := by
  have HRW := Lib.hid (fun w => rrow p.1 w)
  have hv := (rightR_eq p).symm
  unfold rightR at hv
  have hle : (rowA p.1).length ≤ 128 := by
    cases hr : rightA p.1 with
    | true => rw [row_length hr]; unfold wid; split <;> omega
    | false => rw [row_none hr]; simp
  obtain ⟨R, hR⟩ : ∃ R, R = rowA p.1 := ⟨_, rfl⟩
  rw [← hR] at HRW hv hle
  have HV := Lib.hid hv
  clear hR hv
  have hb0 : Below w.heap.size w (w.alloc (.cells #[.int .u8 (p.1.1.toNat : Int), .int .u64 (p.1.2.1.toNat : Int), .int .u64 (p.1.2.2.toNat : Int), .int .i64 p.2] 32)) := (Below.refl _ _).alloc (Nat.le_refl _) _
  have HB0 := Lib.hid hb0
  have HG0 := Lib.hid (heap_alloc_new w (.cells #[.int .u8 (p.1.1.toNat : Int), .int .u64 (p.1.2.1.toNat : Int), .int .u64 (p.1.2.2.toNat : Int), .int .i64 p.2] 32))
  clear hb0
  go_enter Tryz.func22, Tryz.ntmps22
  go_wp2_with fail
  generalize w.alloc (.cells #[.int .u8 (p.1.1.toNat : Int), .int .u64 (p.1.2.1.toNat : Int), .int .u64 (p.1.2.2.toNat : Int), .int .i64 p.2] 32) = w0 at *
  refine (HRW.out _).mono ?_
  rintro e w1 ⟨rv, rfl, ho, hb⟩
  obtain ⟨ro, rc, hrv⟩ := owns_slice1 ho
  subst hrv
  have HS := Lib.hid (Seg.of_owns ho)
  have HB1 := Lib.hid (below_step HB0.out hb HB0.out.size)
  have HG1 := Lib.hid (blk_kept hb HG0.out)
  clear ho hb
  have p3 : w1.cell? ⟨w.heap.size, 3, none⟩ = some (.int .i64 p.2) := by rw [blk_cell HG1.out]; rfl
  have hcase : R.length = 0 ∨ (R.length ≠ 0 ∧ p.2 < 0) ∨ (R.length ≠ 0 ∧ ¬ p.2 < 0 ∧ (R.length : Int) < p.2) ∨ (R.length ≠ 0 ∧ ¬ p.2 < 0 ∧ ¬ (R.length : Int) < p.2) := by omega
  rcases hcase with hc | ⟨hc, hc2⟩ | ⟨hc, hc2, hc3⟩ | ⟨hc, hc2, hc3⟩
  · have z1 : ((R.length : Int) == 0) = true := by simpa using hc
    have HX := Lib.hid (show rightP p = false by rw [HV.out]; simp [hc])
    clear hc
    go_wp2_with fail
    go_ret
    exact ⟨ret_bool HX.out.symm, HB1.out⟩
  · have z1 : ((R.length : Int) == 0) = false := by simpa using hc
    have HX := Lib.hid (show rightP p = false by rw [HV.out]; simp; omega)
    clear hc
    go_wp2_with fail
    go_ret
    exact ⟨ret_bool HX.out.symm, HB1.out⟩
  · have z1 : ((R.length : Int) == 0) = false := by simpa using hc
    have HX := Lib.hid (show rightP p = false by rw [HV.out]; simp; omega)
    clear hc
    go_wp2_with fail
    go_ret
    exact ⟨ret_bool HX.out.symm, HB1.out⟩
  · have z1 : ((R.length : Int) == 0) = false := by simpa using hc
    obtain ⟨k, hk⟩ : ∃ k : Nat, p.2 = (k : Int) := ⟨p.2.toNat, by omega⟩
    have HX := Lib.hid (show rightP p = (R.drop k).all (fun b => b != 1) by
      have e0 : decide (0 ≤ p.2) = true := by simp; omega
      have e1 : decide (p.2 ≤ (R.length : Int)) = true := by simp; omega
      have e2 : p.2.toNat = k := by omega
      have e3 : decide (R.length ≠ 0) = true := by simpa using hc
      rw [HV.out, e0, e1, e2, e3]; rfl)
    have hkl : k ≤ R.length := by omega
    have HK := Lib.hid hk
    rw [hk] at p3 hc2 hc3
    clear hc hk
    go_wp2_with fail
    go_loop [4] (fun v4 => ∃ i : Nat, k ≤ i ∧ i ≤ R.length ∧ v4 = .int .i64 i ∧ Hid (∀ b ∈ (R.drop k).take (i - k), b ≠ 1)) (fun v4 => R.length - (intOf v4).toNat)
    case atStart => exact ⟨k, Nat.le_refl _, hkl, rfl, Lib.hid (by simp)⟩
    case round =>
      obtain ⟨i, hki, hi, rfl, HA⟩ := hrel
      by_cases hlt : i < R.length
      · obtain ⟨b, off, cap', hve, hcs⟩ := bs_cells HS.out (by omega)
        cases hve
        have hc := hcs i hlt
        obtain ⟨x, hx⟩ : ∃ x, x = R[i] := ⟨_, rfl⟩
        rw [← hx] at hc
        have hd : (R.drop k)[i - k]? = some x := by rw [List.getElem?_drop, show k + (i - k) = i by omega, hx]; exact List.getElem?_eq_getElem hlt
        have HD := Lib.hid hd
        have m1 : (i : Int) < (R.length : Int) := by omega
        clear hcs hx hd
        by_cases hx1 : x = 1
        · have z2 : ((x.toNat : Int) == 1) = true := int_u8_eq (c := 1) hx1
          have HF := Lib.hid (show rightP p = false by
            rw [HX.out, Bool.eq_false_iff]
            intro h
            rw [List.all_eq_true] at h
            have := h x (List.mem_of_getElem? HD.out)
            rw [hx1] at this
            exact absurd this (by decide))
          clear hx1
          go_wp2_with fail
          go_ret
          exact ⟨ret_bool HF.out.symm, HB1.out⟩
        · have z2 : ((x.toNat : Int) == 1) = false := int_u8_ne (c := 1) hx1
          have HA2 : Hid (∀ b ∈ (R.drop k).take (i + 1 - k), b ≠ 1) := Lib.hid (by
            have e : i + 1 - k = i - k + 1 := by omega
            intro b hb
            rw [e, List.take_add_one, HD.out, List.mem_append] at hb
            rcases hb with hb | hb
            · exact HA.out b hb
            · simp at hb; subst hb; exact hx1)
          clear hx1
          go_wp2_with fail
          go_round
          case rel => exact ⟨i + 1, by omega, by omega, by go_num, HA2⟩
          case measure => simp [intOf]; omega
      · obtain rfl : i = R.length := by omega
        have HF := Lib.hid (show rightP p = true by
          rw [HX.out, List.all_eq_true]
          intro b hb
          have := HA.out b (by rw [List.take_of_length_le (by simp)]; exact hb)
          simpa using this)
        go_wp2_with fail
        go_ret
        exact ⟨ret_bool HF.out.symm, HB1.out⟩

abbrev TR : TypeId := 32
theorem infoR : (Tryz.prog.info? 32).map (fun i => (i.zero, i.size, i.bytes)) = some (some (.agg #[.int .u8 0, .int .u64 0, .int .u64 0, .int .i64 0]), 4, 32) := by kernel_rfl

set_option maxRecDepth 100000 in
set_option maxHeartbeats 4000000 in
theorem given19 (a : Ad) (w : World) : Calls Tryz.prog 8 #[encA a] w fun e w' => e = .returned (encA a) ∧ Below w.heap.size w w' := by
  have hb0 : Below w.heap.size w ((w.alloc (.cells #[.int .u8 (a.1.toNat : Int), .int .u64 (a.2.1.toNat : Int), .int .u64 (a.2.2.toNat : Int)] 24)).alloc (.cells #[.int .u8 0, .int .u64 0, .int .u64 0] 30)) := (((Below.refl _ _).alloc (Nat.le_refl _) _).alloc (by simp) _)
  have h1 : ((w.alloc (.cells #[.int .u8 (a.1.toNat : Int), .int .u64 (a.2.1.toNat : Int), .int .u64 (a.2.2.toNat : Int)] 24)).alloc (.cells #[.int .u8 0, .int .u64 0, .int .u64 0] 30)).heap[w.heap.size]? = some (.cells #[.int .u8 (a.1.toNat : Int), .int .u64 (a.2.1.toNat : Int), .int .u64 (a.2.2.toNat : Int)] 24 (0, 0)) := (blk_alloc (heap_alloc_new w (.cells #[.int .u8 (a.1.toNat : Int), .int .u64 (a.2.1.toNat : Int), .int .u64 (a.2.2.toNat : Int)] 24)) _)
  have h2 : ((w.alloc (.cells #[.int .u8 (a.1.toNat : Int), .int .u64 (a.2.1.toNat : Int), .int .u64 (a.2.2.toNat : Int)] 24)).alloc (.cells #[.int .u8 0, .int .u64 0, .int .u64 0] 30)).heap[w.heap.size + 1]? = some (.cells #[.int .u8 0, .int .u64 0, .int .u64 0] 30 (0, 0)) := by have h := (heap_alloc_new (w.alloc (.cells #[.int .u8 (a.1.toNat : Int), .int .u64 (a.2.1.toNat : Int), .int .u64 (a.2.2.toNat : Int)] 24)) (.cells #[.int .u8 0, .int .u64 0, .int .u64 0] 30)); simpa [World.size_alloc] using h
  have H1 := Lib.hid h1
  have H2 := Lib.hid h2
  have HB0 := Lib.hid hb0
  clear hb0 h1 h2
  have a0 : ((w.alloc (.cells #[.int .u8 (a.1.toNat : Int), .int .u64 (a.2.1.toNat : Int), .int .u64 (a.2.2.toNat : Int)] 24)).alloc (.cells #[.int .u8 0, .int .u64 0, .int .u64 0] 30)).cell? ⟨w.heap.size, 0, none⟩ = some (.int .u8 (a.1.toNat : Int)) := (by rw [blk_cell H1.out]; rfl)
  have a1 : ((w.alloc (.cells #[.int .u8 (a.1.toNat : Int), .int .u64 (a.2.1.toNat : Int), .int .u64 (a.2.2.toNat : Int)] 24)).alloc (.cells #[.int .u8 0, .int .u64 0, .int .u64 0] 30)).cell? ⟨w.heap.size, 1, none⟩ = some (.int .u64 (a.2.1.toNat : Int)) := (by rw [blk_cell H1.out]; rfl)
  have a2 : ((w.alloc (.cells #[.int .u8 (a.1.toNat : Int), .int .u64 (a.2.1.toNat : Int), .int .u64 (a.2.2.toNat : Int)] 24)).alloc (.cells #[.int .u8 0, .int .u64 0, .int .u64 0] 30)).cell? ⟨w.heap.size, 2, none⟩ = some (.int .u64 (a.2.2.toNat : Int)) := (by rw [blk_cell H1.out]; rfl)
  have s0 : ((w.alloc (.cells #[.int .u8 (a.1.toNat : Int), .int .u64 (a.2.1.toNat : Int), .int .u64 (a.2.2.toNat : Int)] 24)).alloc (.cells #[.int .u8 0, .int .u64 0, .int .u64 0] 30)).cell? ⟨w.heap.size + 1, 0, none⟩ = some (.int .u8 0) := (by rw [blk_cell H2.out]; rfl)
  have s1 : ((w.alloc (.cells #[.int .u8 (a.1.toNat : Int), .int .u64 (a.2.1.toNat : Int), .int .u64 (a.2.2.toNat : Int)] 24)).alloc (.cells #[.int .u8 0, .int .u64 0, .int .u64 0] 30)).cell? ⟨w.heap.size + 1, 1, none⟩ = some (.int .u64 0) := (by rw [blk_cell H2.out]; rfl)
  have s2 : ((w.alloc (.cells #[.int .u8 (a.1.toNat : Int), .int .u64 (a.2.1.toNat : Int), .int .u64 (a.2.2.toNat : Int)] 24)).alloc (.cells #[.int .u8 0, .int .u64 0, .int .u64 0] 30)).cell? ⟨w.heap.size + 1, 2, none⟩ = some (.int .u64 0) := (by rw [blk_cell H2.out]; rfl)
  have f0 : ((w.alloc (.cells #[.int .u8 (a.1.toNat : Int), .int .u64 (a.2.1.toNat : Int), .int .u64 (a.2.2.toNat : Int)] 24)).alloc (.cells #[.int .u8 0, .int .u64 0, .int .u64 0] 30)).frozen? ⟨w.heap.size + 1, 0, none⟩ = false := (by rw [blk_frozen H2.out]; rfl)
  have f1 : ((w.alloc (.cells #[.int .u8 (a.1.toNat : Int), .int .u64 (a.2.1.toNat : Int), .int .u64 (a.2.2.toNat : Int)] 24)).alloc (.cells #[.int .u8 0, .int .u64 0, .int .u64 0] 30)).frozen? ⟨w.heap.size + 1, 1, none⟩ = false := (by rw [blk_frozen H2.out]; rfl)
  have f2 : ((w.alloc (.cells #[.int .u8 (a.1.toNat : Int), .int .u64 (a.2.1.toNat : Int), .int .u64 (a.2.2.toNat : Int)] 24)).alloc (.cells #[.int .u8 0, .int .u64 0, .int .u64 0] 30)).frozen? ⟨w.heap.size + 1, 2, none⟩ = false := (by rw [blk_frozen H2.out]; rfl)
  go_enter Tryz.func8, Tryz.ntmps8
  go_wp2_with fail
  refine bodyPost_ret (v := encA a) (by simp [results, Tryz.results8, go_sem]) rfl ⟨rfl, ?_⟩
  exact ((Below.refl _ _).alloc (Nat.le_refl _) _).alloc (by simp) _

set_option maxRecDepth 100000 in
set_option maxHeartbeats 4000000 in
theorem given20 (p : Pf) (w : World) : Calls Tryz.prog 11 #[encP p] w fun e w' => e = .returned (encP p) ∧ Below w.heap.size w w' := by
  have HG := Lib.hid (fun w => given19 p.1 w)
  have hb0 : Below w.heap.size w ((w.alloc (.cells #[.int .u8 (p.1.1.toNat : Int), .int .u64 (p.1.2.1.toNat : Int), .int .u64 (p.1.2.2.toNat : Int), .int .i64 p.2] 26)).alloc (.cells #[.int .u8 0, .int .u64 0, .int .u64 0, .int .i64 0] 32)) := (((Below.refl _ _).alloc (Nat.le_refl _) _).alloc (by simp) _)
  have h1 : ((w.alloc (.cells #[.int .u8 (p.1.1.toNat : Int), .int .u64 (p.1.2.1.toNat : Int), .int .u64 (p.1.2.2.toNat : Int), .int .i64 p.2] 26)).alloc (.cells #[.int .u8 0, .int .u64 0, .int .u64 0, .int .i64 0] 32)).heap[w.heap.size]? = some (.cells #[.int .u8 (p.1.1.toNat : Int), .int .u64 (p.1.2.1.toNat : Int), .int .u64 (p.1.2.2.toNat : Int), .int .i64 p.2] 26 (0, 0)) := (blk_alloc (heap_alloc_new w (.cells #[.int .u8 (p.1.1.toNat : Int), .int .u64 (p.1.2.1.toNat : Int), .int .u64 (p.1.2.2.toNat : Int), .int .i64 p.2] 26)) _)
  have h2 : ((w.alloc (.cells #[.int .u8 (p.1.1.toNat : Int), .int .u64 (p.1.2.1.toNat : Int), .int .u64 (p.1.2.2.toNat : Int), .int .i64 p.2] 26)).alloc (.cells #[.int .u8 0, .int .u64 0, .int .u64 0, .int .i64 0] 32)).heap[w.heap.size + 1]? = some (.cells #[.int .u8 0, .int .u64 0, .int .u64 0, .int .i64 0] 32 (0, 0)) := by have h := (heap_alloc_new (w.alloc (.cells #[.int .u8 (p.1.1.toNat : Int), .int .u64 (p.1.2.1.toNat : Int), .int .u64 (p.1.2.2.toNat : Int), .int .i64 p.2] 26)) (.cells #[.int .u8 0, .int .u64 0, .int .u64 0, .int .i64 0] 32)); simpa [World.size_alloc] using h
  have H1 := Lib.hid h1
  have H2 := Lib.hid h2
  have HB0 := Lib.hid hb0
  clear hb0 h1 h2
  go_enter Tryz.func11, Tryz.ntmps11
  go_wp2_with fail
  generalize ((w.alloc (.cells #[.int .u8 (p.1.1.toNat : Int), .int .u64 (p.1.2.1.toNat : Int), .int .u64 (p.1.2.2.toNat : Int), .int .i64 p.2] 26)).alloc (.cells #[.int .u8 0, .int .u64 0, .int .u64 0, .int .i64 0] 32)) = w0 at *
  have HD1 := Lib.hid (show w0.drew.heap[w.heap.size]? = some (.cells #[.int .u8 (p.1.1.toNat : Int), .int .u64 (p.1.2.1.toNat : Int), .int .u64 (p.1.2.2.toNat : Int), .int .i64 p.2] 26 (0, 0)) from H1.out)
  have HD2 := Lib.hid (show w0.drew.heap[w.heap.size + 1]? = some (.cells #[.int .u8 0, .int .u64 0, .int .u64 0, .int .i64 0] 32 (0, 0)) from H2.out)
  have HBD := Lib.hid (HB0.out.drew)
  have a0 : w0.drew.cell? ⟨w.heap.size, 0, none⟩ = some (.int .u8 (p.1.1.toNat : Int)) := (by rw [blk_cell HD1.out]; rfl)
  have a1 : w0.drew.cell? ⟨w.heap.size, 1, none⟩ = some (.int .u64 (p.1.2.1.toNat : Int)) := (by rw [blk_cell HD1.out]; rfl)
  have a2 : w0.drew.cell? ⟨w.heap.size, 2, none⟩ = some (.int .u64 (p.1.2.2.toNat : Int)) := (by rw [blk_cell HD1.out]; rfl)
  have a3 : w0.drew.cell? ⟨w.heap.size, 3, none⟩ = some (.int .i64 p.2) := (by rw [blk_cell HD1.out]; rfl)
  go_region_held3 (fun W => W.cell? ⟨w.heap.size, 0, none⟩ = some (.int .u8 (p.1.1.toNat : Int)) ∧ W.cell? ⟨w.heap.size, 1, none⟩ = some (.int .u64 (p.1.2.1.toNat : Int)) ∧ W.cell? ⟨w.heap.size, 2, none⟩ = some (.int .u64 (p.1.2.2.toNat : Int)) ∧ W.cell? ⟨w.heap.size, 3, none⟩ = some (.int .i64 p.2))
    (go_keep)
    ((go_at_call 8; (with_reducible refine (HG.out _).mono ?_); rintro e w3 ⟨rfl, hb⟩; have HB3 := Lib.hid (below_step HBD.out hb HBD.out.size); have HG1 := Lib.hid (blk_kept hb HD1.out); have HG2 := Lib.hid (blk_kept hb HD2.out); have b0 : w3.cell? ⟨w.heap.size, 0, none⟩ = some (.int .u8 (p.1.1.toNat : Int)) := (by rw [blk_cell HG1.out]; rfl); have b1 : w3.cell? ⟨w.heap.size, 1, none⟩ = some (.int .u64 (p.1.2.1.toNat : Int)) := (by rw [blk_cell HG1.out]; rfl); have b2 : w3.cell? ⟨w.heap.size, 2, none⟩ = some (.int .u64 (p.1.2.2.toNat : Int)) := (by rw [blk_cell HG1.out]; rfl); have b3 : w3.cell? ⟨w.heap.size, 3, none⟩ = some (.int .i64 p.2) := (by rw [blk_cell HG1.out]; rfl); have s0 : w3.cell? ⟨w.heap.size + 1, 0, none⟩ = some (.int .u8 0) := (by rw [blk_cell HG2.out]; rfl); have s1 : w3.cell? ⟨w.heap.size + 1, 1, none⟩ = some (.int .u64 0) := (by rw [blk_cell HG2.out]; rfl); have s2 : w3.cell? ⟨w.heap.size + 1, 2, none⟩ = some (.int .u64 0) := (by rw [blk_cell HG2.out]; rfl); have s3 : w3.cell? ⟨w.heap.size + 1, 3, none⟩ = some (.int .i64 0) := (by rw [blk_cell HG2.out]; rfl); have f0 : w3.frozen? ⟨w.heap.size + 1, 0, none⟩ = false := (by rw [blk_frozen HG2.out]; rfl); have f1 : w3.frozen? ⟨w.heap.size + 1, 1, none⟩ = false := (by rw [blk_frozen HG2.out]; rfl); have f2 : w3.frozen? ⟨w.heap.size + 1, 2, none⟩ = false := (by rw [blk_frozen HG2.out]; rfl); have f3 : w3.frozen? ⟨w.heap.size + 1, 3, none⟩ = false := (by rw [blk_frozen HG2.out]; rfl); clear hb))
  go_wp2_with fail
  refine bodyPost_ret (v := encP p) (by simp [results, Tryz.results11, go_sem, s0, s1, s2, s3]) rfl ⟨rfl, ?_⟩
  exact (((HB3.out.setCell (p := ⟨w.heap.size + 1, 0, none⟩) (by simp) _).setCell (p := ⟨w.heap.size + 1, 1, none⟩) (by simp) _).setCell (p := ⟨w.heap.size + 1, 2, none⟩) (by simp) _).setCell (p := ⟨w.heap.size + 1, 3, none⟩) (by simp) _

theorem run_neqR (p q : Pf) (w : World) : (binOp .neq 32 (encP p) (encP q)).run Tryz.prog w = .ok (.bool (!(p == q))) w := by
  have hb : (p == q) = ((p.1.1.toNat : Int) == q.1.1.toNat && ((p.1.2.1.toNat : Int) == q.1.2.1.toNat && ((p.1.2.2.toNat : Int) == q.1.2.2.toNat && (p.2 == q.2)))) := by
    rw [Bool.eq_iff_iff, pf_eq]
    simp only [Bool.and_eq_true, beq_iff_eq]
  rw [hb]
  cases b0 : ((p.1.1.toNat : Int) == q.1.1.toNat) <;> cases b1 : ((p.1.2.1.toNat : Int) == q.1.2.1.toNat) <;> cases b2 : ((p.1.2.2.toNat : Int) == q.1.2.2.toNat) <;> cases b3 : (p.2 == q.2) <;> go_simp
theorem run_eqlPR (p q : Pf) (w : World) : (binOp .eql 32 (encP p) (encP q)).run Tryz.prog w = .ok (.bool (p == q)) w := by
  have hb : (p == q) = ((p.1.1.toNat : Int) == q.1.1.toNat && ((p.1.2.1.toNat : Int) == q.1.2.1.toNat && ((p.1.2.2.toNat : Int) == q.1.2.2.toNat && (p.2 == q.2)))) := by
    rw [Bool.eq_iff_iff, pf_eq]
    simp only [Bool.and_eq_true, beq_iff_eq]
  rw [hb]
  cases b0 : ((p.1.1.toNat : Int) == q.1.1.toNat) <;> cases b1 : ((p.1.2.1.toNat : Int) == q.1.2.1.toNat) <;> cases b2 : ((p.1.2.2.toNat : Int) == q.1.2.2.toNat) <;> cases b3 : (p.2 == q.2) <;> go_simp
end Go.Proofs.Tryz.Pfx

/- rows: num.Big of eight bytes; an address's bytes. -/
set_option linter.unusedVariables false
set_option linter.unusedSimpArgs false
set_option maxRecDepth 100000
namespace Go.Proofs.Tryz.Rows
open Go.RowKit Go.Cph Go.Cph.Ok Go.Proofs.Tryz.Nu
open Go.Cph.Px (Ad Pf rightA bytesA)
open Go.Proofs.Tryz.Pfx (encA bcell)
set_option maxHeartbeats 1600000 in
theorem big8 (n : UInt64) (w : World) : Calls Tryz.prog 89 #[.int .u64 (n.toNat : Int), .int .i64 8] w fun e w' => e = .returned (.tuple #[.string (ofBs (be 8 n.toNat)), .int .i64 0]) ∧ Below w.heap.size w w' := by
  have hn : n.toNat < 18446744073709551616 := n.toNat_lt
  have hbd := bits_bd _ hn
  have HC := Lib.hid (show ∀ W, Calls Tryz.prog 104 #[.int .u64 (n.toNat : Int)] W fun e w' => e = .returned (.int .i64 (bitsN n.toNat)) ∧ w' = W from fun W => Tryz.bits_Len64 (n.toNat : Int) W (by omega) (by omega))
  obtain ⟨k, hk⟩ : ∃ k, k = bitsN n.toNat := ⟨_, rfl⟩
  rw [← hk] at hbd HC
  have h2 := hbd.1
  have h3 : ¬ 64 < k := by omega
  have HP := Lib.hid (put_any w.heap.size w (.slice none 0 0) [] n 8 w (World.ownsRow_nil _ _ _ _) (by simp) (by omega) (Below.refl _ _) (Nat.le_refl _))
  clear hn hk hbd
  go_enter Tryz.func89, Tryz.ntmps89
  go_wp2_with fail
  refine (HC.out _).mono ?_
  rintro e w1 ⟨rfl, rfl⟩
  go_wp2_with fail
  refine HP.out.mono ?_
  rintro e w2 ⟨v, rfl, ho, hb, -⟩
  have q := str_row ho
  have HB := Lib.hid hb
  clear ho hb
  go_wp2_with fail
  exact bodyPost_ret (v := .tuple #[.string (ofBs (be 8 n.toNat)), .int .i64 0]) (by simp [results, Tryz.results89, go_sem, ofBs]) rfl ⟨rfl, HB.out⟩
theorem list_eq2 {a b : ByteArray} (h : a.data.toList = b.data.toList) : a = b := ByteArray.ext (Array.ext' h)
theorem be_val : ∀ (k x : Nat), Px.bytesN x k = be k x
  | 0, x => rfl
  | k + 1, x => by
    unfold Px.bytesN
    rw [List.range_succ_eq_map, List.map_cons, List.map_map]
    show UInt8.ofNat (x / 256 ^ (k + 1 - 1 - 0)) :: _ = UInt8.ofNat (x / 256 ^ k) :: be k x
    rw [← be_val k x]
    unfold Px.bytesN
    congr 1
    refine List.map_congr_left fun i hi => ?_
    show UInt8.ofNat (x / 256 ^ (k + 1 - 1 - (i + 1))) = _
    congr 3; omega
theorem bytesA_eq (a : Ad) (h : rightA a = true) : bytesA a = if a.1 = 4 then (be 8 a.2.1.toNat ++ be 8 a.2.2.toNat).drop 12 else be 8 a.2.1.toNat ++ be 8 a.2.2.toNat := by
  obtain ⟨f, hi, lo⟩ := a
  have e16 := Px.bytes16 f hi lo
  rw [be_val, be_val, be_val] at e16
  unfold bytesA
  rw [if_pos h]
  show Px.bytesN (Px.num (f, hi, lo)) (if f = 4 then 4 else 16) = if f = 4 then _ else _
  split
  · rw [be_val, ← e16]
    have := Px.bytesN_append 12 4 (Px.num (f, hi, lo))
    rw [show 12 + 4 = 16 from rfl, be_val, be_val] at this
    rw [this, List.drop_append_of_le_length (by rw [← be_val]; simp [Px.bytesN_length])]
    rw [List.drop_of_length_le (by rw [← be_val]; simp [Px.bytesN_length])]
    exact (be_val _ _).symm ▸ rfl
  · rw [be_val, e16]
theorem bb_size (x y : UInt64) : (ofBs (be 8 x.toNat) ++ ofBs (be 8 y.toNat)).size = 16 := by
  rw [ByteArray.size_append, Go.Lib.size_eq, Go.Lib.size_eq, ofBs_list, ofBs_list, be_len, be_len]
theorem bb_list (x y : UInt64) : (ofBs (be 8 x.toNat) ++ ofBs (be 8 y.toNat)).data.toList = be 8 x.toNat ++ be 8 y.toNat := by
  rw [cat_list, ofBs_list, ofBs_list]
set_option maxHeartbeats 1600000 in
theorem abytes (a : Ad) (w : World) : Calls Tryz.prog 68 #[encA a] w fun e w' => e = .returned (.string (ofBs (bytesA a))) ∧ Below w.heap.size w w' := by
  have HRT := Lib.hid (Pfx.right a)
  have HX := Lib.hid (bytesA_eq a)
  obtain ⟨f, hi, lo⟩ := a
  have HB1 := Lib.hid (fun W => big8 hi W)
  have HB2 := Lib.hid (fun W => big8 lo W)
  obtain ⟨X, hX⟩ : ∃ X, X = ofBs (be 8 hi.toNat) := ⟨_, rfl⟩
  obtain ⟨Y, hY⟩ : ∃ Y, Y = ofBs (be 8 lo.toNat) := ⟨_, rfl⟩
  have z1 : X.size = 8 := by rw [hX, Go.Lib.size_eq, ofBs_list, be_len]
  have z2 : Y.size = 8 := by rw [hY, Go.Lib.size_eq, ofBs_list, be_len]
  have HL := Lib.hid (show (X ++ Y).data.toList = be 8 hi.toNat ++ be 8 lo.toNat from by rw [hX, hY]; exact bb_list hi lo)
  have z3 : (X ++ Y).size = 16 := by rw [ByteArray.size_append]; omega
  rw [← hX] at HB1
  rw [← hY] at HB2
  clear hX hY
  have HBX := Lib.hid (show Below w.heap.size w (w.alloc (.cells #[.int .u8 (f.toNat : Int), .int .u64 (hi.toNat : Int), .int .u64 (lo.toNat : Int)] 24 (0, 0))) from (Below.refl _ _).alloc (Nat.le_refl _) _)
  cases hr : rightA (f, hi, lo) with
  | false =>
    rw [hr] at HRT
    have HE := Lib.hid (show bytesA (f, hi, lo) = [] from by unfold bytesA; rw [hr]; rfl)
    clear hr HX
    go_enter Tryz.func68, Tryz.ntmps68
    go_wp2_with fail
    refine (HRT.out _).mono ?_
    rintro e w1 ⟨rfl, hb⟩
    have HB := Lib.hid (below_step HBX.out hb HBX.out.size)
    clear hb
    go_wp2_with fail
    go_ret
    exact ⟨ret_s (by rw [HE.out]; rfl), HB.out⟩
  | true =>
    rw [hr] at HRT
    replace HX := Lib.hid (HX.out hr)
    clear hr
    go_enter Tryz.func68, Tryz.ntmps68
    go_wp2_with fail
    refine (HRT.out _).mono ?_
    rintro e w1 ⟨rfl, hb⟩
    have HB := Lib.hid (below_step HBX.out hb HBX.out.size)
    obtain ⟨hc, hf⟩ := bcell hb
    have hz : w.heap.size < w1.heap.size := by have := hb.size; simp at this; omega
    clear hb
    go_wp2_with fail
    refine (HB1.out _).mono ?_
    rintro e w2 ⟨rfl, hb⟩
    replace HB := Lib.hid (below_step HB.out hb HB.out.size)
    obtain ⟨hc2, hf2⟩ := bcell hb
    have hz2 : w.heap.size < w2.heap.size := by have := hb.size; omega
    clear hb
    go_wp2_with fail
    refine (HB2.out _).mono ?_
    rintro e w3 ⟨rfl, hb⟩
    replace HB := Lib.hid (below_step HB.out hb HB.out.size)
    obtain ⟨hc3, hf3⟩ := bcell hb
    have hz3 : w.heap.size < w3.heap.size := by have := hb.size; omega
    clear hb
    by_cases h4 : f = 4
    · subst h4
      go_wp2_with fail
      go_ret
      refine ⟨ret_s (list_eq2 ?_), HB.out⟩
      rw [HX.out, if_pos trivial, ofBs_list, ← HL.out]
      have hl : (X ++ Y).data.toList.length = 16 := by rw [← Go.Lib.size_eq]; exact z3
      rw [ByteArray.data_extract, Array.toList_extract]
      show List.extract _ 12 16 = _
      rw [List.extract_eq_take_drop]
      exact List.take_of_length_le (by rw [List.length_drop, hl]; omega)
    · have k4 : ¬ (f.toNat : Int) = 4 := by
        intro h; exact h4 (UInt8.toNat_inj.1 (by show f.toNat = 4; omega))
      have k5 : ((f.toNat : Int) == 4) = false := by simp [k4]
      go_wp2_with fail
      go_ret
      refine ⟨ret_s (list_eq2 ?_), HB.out⟩
      rw [HX.out, if_neg h4, ofBs_list, ← HL.out]
end Go.Proofs.Tryz.Rows
