/- MC: texts put together: Qp Qa Qb Qc Ra. -/
import Derived.Test.YtmjjhnfdpiclfaaDoorProg
import Derived.Test.YtmjjhnfdpiclfaaDoorMA
import Derived.StillTailTactics
import Derived.Deep.RegionLaw
import Derived.Laws.Externs
import Derived.RegionTactic
import Derived.ChangeAlike
import Derived.Deep.RegionHeld3
import Derived.Test.YtmjjhnfdpiclfaaDoorMB
/- The program's addresses and prefixes: right, ahead; cut (pools' PxD to PxG). -/
set_option linter.unusedVariables false
set_option linter.unusedSimpArgs false
namespace Go.Proofs.Tryd.Pfx
open Go.RowKit Go.Cph Go.Cph.Px

abbrev encA (a : Ad) : Value := .agg #[.int .u8 (a.1.toNat : Int), .int .u64 (a.2.1.toNat : Int), .int .u64 (a.2.2.toNat : Int)]
abbrev encP (p : Pf) : Value := .agg #[.int .u8 (p.1.1.toNat : Int), .int .u64 (p.1.2.1.toNat : Int), .int .u64 (p.1.2.2.toNat : Int), .int .i64 p.2]

theorem u8_eq (x : UInt8) (c : UInt8) : ((x.toNat : Int) == (c.toNat : Int)) = (x == c) := by
  rw [Bool.eq_iff_iff, beq_iff_eq, beq_iff_eq, ← UInt8.toNat_inj]; omega
theorem u64_eq (x c : UInt64) : ((x.toNat : Int) == (c.toNat : Int)) = (x == c) := by
  rw [Bool.eq_iff_iff, beq_iff_eq, beq_iff_eq, ← UInt64.toNat_inj]; omega

set_option maxHeartbeats 400000 in
theorem isNaN8 (x : Int) (w : World) : Calls Tryd.prog 44 #[.int .u8 x] w fun e w' => e = .returned (.bool false) ∧ w = w' := by
  go_enter Tryd.func44, Tryd.ntmps44
  go_wp2_with fail
  go_ret
  exact ⟨by simp, rfl⟩
set_option maxHeartbeats 400000 in
theorem isNaN64 (x : Int) (w : World) : Calls Tryd.prog 45 #[.int .u64 x] w fun e w' => e = .returned (.bool false) ∧ w = w' := by
  go_enter Tryd.func45, Tryd.ntmps45
  go_wp2_with fail
  go_ret
  exact ⟨by simp, rfl⟩
def cmpN (x y : Int) : Int := if x < y then -1 else if y < x then 1 else 0
set_option maxHeartbeats 400000 in
theorem compare8 (x y : Int) (w : World) : Calls Tryd.prog 29 #[.int .u8 x, .int .u8 y] w fun e w' => e = .returned (.int .i64 (cmpN x y)) ∧ w = w' := by
  have hc : x < y ∨ (¬ x < y ∧ y < x) ∨ (¬ x < y ∧ ¬ y < x) := by omega
  rcases hc with h | ⟨h, k⟩ | ⟨h, k⟩
  all_goals
    go_enter Tryd.func29, Tryd.ntmps29
    go_wp2_with (go_at_call 44; refine (isNaN8 _ _).mono ?_; rintro e w' ⟨rfl, rfl⟩)
    go_ret
    exact ⟨ret_int (by unfold cmpN; (repeat split) <;> omega), rfl⟩
set_option maxHeartbeats 400000 in
theorem compare64 (x y : Int) (w : World) : Calls Tryd.prog 30 #[.int .u64 x, .int .u64 y] w fun e w' => e = .returned (.int .i64 (cmpN x y)) ∧ w = w' := by
  have hc : x < y ∨ (¬ x < y ∧ y < x) ∨ (¬ x < y ∧ ¬ y < x) := by omega
  rcases hc with h | ⟨h, k⟩ | ⟨h, k⟩
  all_goals
    go_enter Tryd.func30, Tryd.ntmps30
    go_wp2_with (go_at_call 45; refine (isNaN64 _ _).mono ?_; rintro e w' ⟨rfl, rfl⟩)
    go_ret
    exact ⟨ret_int (by unfold cmpN; (repeat split) <;> omega), rfl⟩
def orN (x y z : Int) : Int := if x = 0 then (if y = 0 then z else y) else x
set_option maxHeartbeats 1000000 in
theorem or3 (x y z : Int) (b : Nat) (cap : Nat) (w : World) (h : w.heap[b]? = some (.cells #[.int .i64 x, .int .i64 y, .int .i64 z] 3 (0, 0))) :
    Calls Tryd.prog 28 #[.slice (some ⟨b, 0, none⟩) 3 cap] w fun e w' => e = .returned (.int .i64 (orN x y z)) ∧ w = w' := by
  have c0 : w.cell? ⟨b, 0, none⟩ = some (.int .i64 x) := by rw [blk_cell h]; rfl
  have c1 : w.cell? ⟨b, 1, none⟩ = some (.int .i64 y) := by rw [blk_cell h]; rfl
  have c2 : w.cell? ⟨b, 2, none⟩ = some (.int .i64 z) := by rw [blk_cell h]; rfl
  clear h
  have hc : x ≠ 0 ∨ (x = 0 ∧ y ≠ 0) ∨ (x = 0 ∧ y = 0 ∧ z ≠ 0) ∨ (x = 0 ∧ y = 0 ∧ z = 0) := by omega
  rcases hc with hx | ⟨rfl, hx⟩ | ⟨rfl, rfl, hx⟩ | ⟨rfl, rfl, rfl⟩
  all_goals
    go_enter Tryd.func28, Tryd.ntmps28
    go_wp2_with fail
    refine wp_loop_rounds 4 ?_
    rw [rounds_succ]
    go_wp2_with fail
  · go_ret
    exact ⟨ret_int (by unfold orN; rw [if_neg hx]), rfl⟩
  · rw [rounds_succ]
    go_wp2_with fail
    go_ret
    exact ⟨ret_int (by unfold orN; rw [if_pos rfl, if_neg hx]), rfl⟩
  · rw [rounds_succ]
    go_wp2_with fail
    rw [rounds_succ]
    go_wp2_with fail
    go_ret
    exact ⟨ret_int (by unfold orN; rw [if_pos rfl, if_pos rfl]), rfl⟩
  · rw [rounds_succ]
    go_wp2_with fail
    rw [rounds_succ]
    go_wp2_with fail
    rw [rounds_succ]
    go_wp2_with fail
    go_ret
    exact ⟨ret_int (by unfold orN; rw [if_pos rfl, if_pos rfl]), rfl⟩
theorem or_cmp (a b : Ad) : decide (orN (cmpN a.1.toNat b.1.toNat) (cmpN a.2.1.toNat b.2.1.toNat) (cmpN a.2.2.toNat b.2.2.toNat) < 0) = lessA a b := by
  rw [Bool.eq_iff_iff, decide_eq_true_eq, lessA_iff]
  have h1 := a.2.1.toNat_lt
  have h2 := a.2.2.toNat_lt
  have h3 := b.2.1.toNat_lt
  have h4 := b.2.2.toNat_lt
  unfold orN cmpN num
  (repeat split) <;> omega
set_option maxHeartbeats 2000000 in
set_option maxRecDepth 100000 in
theorem less (a b : Ad) (w : World) : Calls Tryd.prog 16 #[encA a, encA b] w fun e w' => e = .returned (.bool (lessA a b)) ∧ Below w.heap.size w w' := by
  have HO := Lib.hid (or_cmp a b)
  generalize hx : cmpN a.1.toNat b.1.toNat = x at HO
  generalize hy : cmpN a.2.1.toNat b.2.1.toNat = y at HO
  generalize hz : cmpN a.2.2.toNat b.2.2.toNat = z at HO
  have c1 : ∀ W, Calls Tryd.prog 29 #[.int .u8 (a.1.toNat : Int), .int .u8 (b.1.toNat : Int)] W fun e w' => e = .returned (.int .i64 x) ∧ w' = W := fun W => by rw [← hx]; exact (compare8 _ _ W).mono fun _ _ h => ⟨h.1, h.2.symm⟩
  have c2 : ∀ W, Calls Tryd.prog 30 #[.int .u64 (a.2.1.toNat : Int), .int .u64 (b.2.1.toNat : Int)] W fun e w' => e = .returned (.int .i64 y) ∧ w' = W := fun W => by rw [← hy]; exact (compare64 _ _ W).mono fun _ _ h => ⟨h.1, h.2.symm⟩
  have c3 : ∀ W, Calls Tryd.prog 30 #[.int .u64 (a.2.2.toNat : Int), .int .u64 (b.2.2.toNat : Int)] W fun e w' => e = .returned (.int .i64 z) ∧ w' = W := fun W => by rw [← hz]; exact (compare64 _ _ W).mono fun _ _ h => ⟨h.1, h.2.symm⟩
  have C1 := Lib.hid c1
  have C2 := Lib.hid c2
  have C3 := Lib.hid c3
  clear c1 c2 c3 hx hy hz
  go_enter Tryd.func16, Tryd.ntmps16
  go_wp2_with fail
  have g0 : ((w.alloc (.cells #[.int .u8 (a.1.toNat : Int), .int .u64 (a.2.1.toNat : Int), .int .u64 (a.2.2.toNat : Int)] 24)).alloc (.cells #[.int .u8 (b.1.toNat : Int), .int .u64 (b.2.1.toNat : Int), .int .u64 (b.2.2.toNat : Int)] 24)).heap[w.heap.size]? = some (.cells #[.int .u8 (a.1.toNat : Int), .int .u64 (a.2.1.toNat : Int), .int .u64 (a.2.2.toNat : Int)] 24 (0, 0)) := blk_alloc (heap_alloc_new _ _) _
  have g1 := heap_alloc_new (w.alloc (.cells #[.int .u8 (a.1.toNat : Int), .int .u64 (a.2.1.toNat : Int), .int .u64 (a.2.2.toNat : Int)] 24)) (.cells #[.int .u8 (b.1.toNat : Int), .int .u64 (b.2.1.toNat : Int), .int .u64 (b.2.2.toNat : Int)] 24)
  rw [World.size_alloc] at g1
  have hb : Below w.heap.size w ((w.alloc (.cells #[.int .u8 (a.1.toNat : Int), .int .u64 (a.2.1.toNat : Int), .int .u64 (a.2.2.toNat : Int)] 24)).alloc (.cells #[.int .u8 (b.1.toNat : Int), .int .u64 (b.2.1.toNat : Int), .int .u64 (b.2.2.toNat : Int)] 24)) := ((Below.refl _ _).alloc (Nat.le_refl _) _).alloc (by simp) _
  generalize (w.alloc (.cells #[.int .u8 (a.1.toNat : Int), .int .u64 (a.2.1.toNat : Int), .int .u64 (a.2.2.toNat : Int)] 24)).alloc (.cells #[.int .u8 (b.1.toNat : Int), .int .u64 (b.2.1.toNat : Int), .int .u64 (b.2.2.toNat : Int)] 24) = W at *
  have a0 : W.drew.cell? ⟨w.heap.size, 0, none⟩ = some (.int .u8 (a.1.toNat : Int)) := by rw [blk_cell (w := W.drew) g0]; rfl
  have a1 : W.drew.cell? ⟨w.heap.size, 1, none⟩ = some (.int .u64 (a.2.1.toNat : Int)) := by rw [blk_cell (w := W.drew) g0]; rfl
  have a2 : W.drew.cell? ⟨w.heap.size, 2, none⟩ = some (.int .u64 (a.2.2.toNat : Int)) := by rw [blk_cell (w := W.drew) g0]; rfl
  have b0 : W.drew.cell? ⟨w.heap.size + 1, 0, none⟩ = some (.int .u8 (b.1.toNat : Int)) := by rw [blk_cell (w := W.drew) g1]; rfl
  have b1 : W.drew.cell? ⟨w.heap.size + 1, 1, none⟩ = some (.int .u64 (b.2.1.toNat : Int)) := by rw [blk_cell (w := W.drew) g1]; rfl
  have b2 : W.drew.cell? ⟨w.heap.size + 1, 2, none⟩ = some (.int .u64 (b.2.2.toNat : Int)) := by rw [blk_cell (w := W.drew) g1]; rfl
  have HB := Lib.hid (show Below w.heap.size w W.drew from hb.drew)
  clear g0 g1 hb
  refine wp_region_still_tail 15 (by kernel_rfl) (by kernel_rfl) ?_
  simp only [List.take_succ_cons, List.take_zero, List.drop_succ_cons, List.drop_zero]
  change wpStill _ _ (World.drew W) _ _ _
  still_step
  still_step
  still_step
  still_step
  still_call (C1.out _)
  still_step
  still_step
  still_step
  still_step
  still_call (C2.out _)
  still_step
  still_step
  still_step
  still_step
  still_call (C3.out _)
  refine wpStill_nil ?_
  change wpList _ _ _ _ _ (World.drew W)
  generalize W.drew = W' at *
  clear a0 a1 a2 b0 b1 b2
  go_wp2_with fail
  refine (or3 x y z W'.heap.size _ _ (heap_alloc_new _ _)).mono ?_
  rintro e w3 ⟨rfl, rfl⟩
  go_wp2_with fail
  go_ret
  exact ⟨ret_bool HO.out, HB.out.alloc HB.out.size _⟩
end Go.Proofs.Tryd.Pfx
namespace Go.Proofs.Tryd.Pfx
open Go.RowKit Go.Cph Go.Cph.Px

theorem int_u8_eq {x c : UInt8} (h : x = c) : ((x.toNat : Int) == (c.toNat : Int)) = true := by rw [h]; simp
theorem int_u8_ne {x c : UInt8} (h : x ≠ c) : ((x.toNat : Int) == (c.toNat : Int)) = false := by rw [u8_eq]; simpa using h

set_option maxHeartbeats 1000000 in
theorem right (a : Ad) (w : World) : Calls Tryd.prog 15 #[encA a] w fun e w' => e = .returned (.bool (rightA a)) ∧ Below w.heap.size w w' := by
  obtain ⟨f, hi, lo⟩ := a
  have hc : f = 6 ∨ (f ≠ 6 ∧ f ≠ 4) ∨ (f = 4 ∧ hi ≠ 0) ∨ (f = 4 ∧ hi = 0 ∧ lo.toNat ≤ 4294967295) ∨ (f = 4 ∧ hi = 0 ∧ ¬ lo.toNat ≤ 4294967295) := by
    by_cases h6 : f = 6
    · exact .inl h6
    · by_cases h4 : f = 4
      · by_cases hh : hi = 0
        · by_cases hl : lo.toNat ≤ 4294967295
          · exact .inr (.inr (.inr (.inl ⟨h4, hh, hl⟩)))
          · exact .inr (.inr (.inr (.inr ⟨h4, hh, hl⟩)))
        · exact .inr (.inr (.inl ⟨h4, hh⟩))
      · exact .inr (.inl ⟨h6, h4⟩)
  have key : ∀ (b : Bool) (w' : World), rightA (f, hi, lo) = b → Below w.heap.size w w' → (Ending.returned (.bool b) = .returned (.bool (rightA (f, hi, lo))) ∧ Below w.heap.size w w') := fun b w' h k => ⟨by rw [h], k⟩
  have KEY := Lib.hid key
  clear key
  rcases hc with h | ⟨h, k⟩ | ⟨h, k⟩ | ⟨h, k, l⟩ | ⟨h, k, l⟩
  · have hv := Lib.hid (show rightA (f, hi, lo) = true by simp [rightA, h])
    have z6 : ((f.toNat : Int) == 6) = true := int_u8_eq (c := 6) h
    clear h
    go_enter Tryd.func15, Tryd.ntmps15
    go_wp2_with fail
    go_ret
    exact KEY.out _ _ hv.out ((Below.refl _ _).alloc (Nat.le_refl _) _)
  · have hv := Lib.hid (show rightA (f, hi, lo) = false by simp [rightA, h, k])
    have z6 : ((f.toNat : Int) == 6) = false := int_u8_ne (c := 6) h
    have z4 : ((f.toNat : Int) == 4) = false := int_u8_ne (c := 4) k
    clear h k
    go_enter Tryd.func15, Tryd.ntmps15
    go_wp2_with fail
    go_ret
    exact KEY.out _ _ hv.out ((Below.refl _ _).alloc (Nat.le_refl _) _)
  · have hv := Lib.hid (show rightA (f, hi, lo) = false by simp [rightA, h, k])
    have z6 : ((f.toNat : Int) == 6) = false := int_u8_ne (c := 6) (by rw [h]; decide)
    have z4 : ((f.toNat : Int) == 4) = true := int_u8_eq (c := 4) h
    have zh : ((hi.toNat : Int) == 0) = false := by have := u64_eq hi 0; simp at this; simpa [this] using k
    clear h k
    go_enter Tryd.func15, Tryd.ntmps15
    go_wp2_with fail
    go_ret
    exact KEY.out _ _ hv.out ((Below.refl _ _).alloc (Nat.le_refl _) _)
  · have hv := Lib.hid (show rightA (f, hi, lo) = true by simp [rightA, h, k, l])
    have z6 : ((f.toNat : Int) == 6) = false := int_u8_ne (c := 6) (by rw [h]; decide)
    have z4 : ((f.toNat : Int) == 4) = true := int_u8_eq (c := 4) h
    have zh : ((hi.toNat : Int) == 0) = true := by rw [k]; rfl
    have zl : (lo.toNat : Int) ≤ 4294967295 := by omega
    clear h k
    go_enter Tryd.func15, Tryd.ntmps15
    go_wp2_with fail
    go_ret
    exact KEY.out _ _ hv.out ((Below.refl _ _).alloc (Nat.le_refl _) _)
  · have hv := Lib.hid (show rightA (f, hi, lo) = false by simp [rightA, h, k, l])
    have z6 : ((f.toNat : Int) == 6) = false := int_u8_ne (c := 6) (by rw [h]; decide)
    have z4 : ((f.toNat : Int) == 4) = true := int_u8_eq (c := 4) h
    have zh : ((hi.toNat : Int) == 0) = true := by rw [k]; rfl
    have zl : ¬ (lo.toNat : Int) ≤ 4294967295 := by omega
    clear h k
    go_enter Tryd.func15, Tryd.ntmps15
    go_wp2_with fail
    go_ret
    exact KEY.out _ _ hv.out ((Below.refl _ _).alloc (Nat.le_refl _) _)
set_option maxHeartbeats 400000 in
theorem width_any (f : UInt8) (w : World) : Calls Tryd.prog 37 #[.int .u8 (f.toNat : Int)] w fun e w' => e = .returned (.int .i64 (width f)) ∧ w = w' := by
  by_cases h : f = 4
  · have z4 : ((f.toNat : Int) == 4) = true := int_u8_eq (c := 4) h
    have hv := Lib.hid (show width f = 32 by unfold width; rw [if_pos h])
    clear h
    go_enter Tryd.func37, Tryd.ntmps37
    go_wp2_with fail
    go_ret
    exact ⟨ret_int hv.out.symm, rfl⟩
  · have z4 : ((f.toNat : Int) == 4) = false := int_u8_ne (c := 4) h
    have hv := Lib.hid (show width f = 128 by unfold width; rw [if_neg h])
    clear h
    go_enter Tryd.func37, Tryd.ntmps37
    go_wp2_with fail
    go_ret
    exact ⟨ret_int hv.out.symm, rfl⟩
/-- The masks of so many free bits. -/
def maskHi (k : Nat) : Int := ((2 ^ (k - 64) - 1 : Nat) : Int)
def maskLo (k : Nat) : Int := ((2 ^ min k 64 - 1 : Nat) : Int)
theorem wrap_mask (n : Nat) (h : n ≤ 64) : IntKind.u64.wrap (IntKind.u64.wrap (2 ^ n) - 1) = ((2 ^ n - 1 : Nat) : Int) := by
  rcases Nat.lt_or_ge n 64 with hlt | hge
  · have h1 : 2 ^ n < 2 ^ 64 := Nat.pow_lt_pow_right (by decide) hlt
    have h2 : 0 < 2 ^ n := Nat.pow_pos (by decide)
    have e : ((2 : Int) ^ n) = ((2 ^ n : Nat) : Int) := by simp
    rw [e]
    generalize 2 ^ n = x at *
    rw [IntWalk.u64_in (x : Int) (by omega), IntWalk.u64_in ((x : Int) - 1) (by omega)]
    omega
  · have : n = 64 := by omega
    subst this
    decide +kernel
theorem andNot_mask (x : Nat) (k : Nat) (hx : x < 2 ^ 64) (hk : k ≤ 64) : x &&& (18446744073709551615 - (2 ^ k - 1)) = x / 2 ^ k * 2 ^ k := by
  have e : 18446744073709551615 - (2 ^ k - 1) = 2 ^ 64 - ((2 ^ k - 1) + 1) := by
    have : 0 < 2 ^ k := Nat.pow_pos (by decide)
    omega
  rw [e]
  refine Nat.eq_of_testBit_eq fun i => ?_
  have hlt : 2 ^ k - 1 < 2 ^ 64 := by
    have h1 : 2 ^ k ≤ 2 ^ 64 := Nat.pow_le_pow_right (by decide) hk
    have : 0 < 2 ^ k := Nat.pow_pos (by decide)
    omega
  rw [Nat.testBit_and, Nat.testBit_two_pow_sub_succ hlt, Nat.testBit_two_pow_sub_one, Nat.testBit_mul_two_pow, Nat.testBit_div_two_pow]
  by_cases hi : k ≤ i
  · have : k + (i - k) = i := by omega
    rw [Nat.sub_add_cancel hi]
    by_cases h64 : i < 64
    · simp [hi, h64]
    · have : x.testBit i = false := Nat.testBit_lt_two_pow (Nat.lt_of_lt_of_le hx (Nat.pow_le_pow_right (by decide) (by omega)))
      simp [this]
  · have h2 : i < k := by omega
    simp [hi, h2]
theorem andNot_clear (x : UInt64) (k : Nat) (hk : k ≤ 64) : Go.bits .andNot .u64 (x.toNat : Int) ((2 ^ k - 1 : Nat) : Int) = ((clear x k).toNat : Int) := by
  have h1 : 2 ^ k ≤ 2 ^ 64 := Nat.pow_le_pow_right (by decide) hk
  have h2 : 0 < 2 ^ k := Nat.pow_pos (by decide)
  rw [u64_andNot_nat _ _ (by have := x.toNat_lt; omega) (by omega), andNot_mask _ _ (x.toNat_lt) hk, clear_toNat]
theorem clear_zero (x : UInt64) : clear x 0 = x := UInt64.toNat_inj.1 (by rw [clear_toNat]; simp)
theorem clear_all (x : UInt64) : clear x 64 = 0 := UInt64.toNat_inj.1 (by
  rw [clear_toNat, Nat.div_eq_of_lt x.toNat_lt]
  rfl)
theorem cutA_both (a : Ad) (k : Nat) : cutA a k = (a.1, clear a.2.1 (k - 64), clear a.2.2 (min k 64)) := by
  unfold cutA
  split
  · rename_i h
    rw [Nat.min_eq_right h, clear_all]
  · rename_i h
    rw [Nat.sub_eq_zero_of_le (by omega), clear_zero, Nat.min_eq_left (by omega)]
theorem bcell {W w1 : World} (hb : Below W.heap.size W w1) : (∀ b o, b < W.heap.size → w1.cell? ⟨b, o, none⟩ = W.cell? ⟨b, o, none⟩) ∧ (∀ b o, b < W.heap.size → w1.frozen? ⟨b, o, none⟩ = W.frozen? ⟨b, o, none⟩) :=
  ⟨fun b o h => hb.cell (p := ⟨b, o, none⟩) h, fun b o h => hb.frozen (p := ⟨b, o, none⟩) h⟩

set_option maxHeartbeats 1000000 in
theorem free_any (f : UInt8) (bits : Int) (w : World) (h0 : 0 ≤ bits) (h1 : bits ≤ width f) :
    Calls Tryd.prog 25 #[.int .u8 (f.toNat : Int), .int .i64 bits] w fun e w' => e = .returned (.tuple #[.int .u64 (maskHi (width f - bits).toNat), .int .u64 (maskLo (width f - bits).toNat)]) ∧ Below w.heap.size w w' := by
  have hw := width_pos f
  by_cases hk : 64 ≤ width f - bits
  · have e1 := wrap_mask (width f - bits - 64).toNat (by omega)
    have HH := Lib.hid (show maskHi (width f - bits).toNat = IntKind.u64.wrap (IntKind.u64.wrap (2 ^ (width f - bits - 64).toNat) - 1) by rw [e1, maskHi]; congr 3; omega)
    have HL := Lib.hid (show maskLo (width f - bits).toNat = 18446744073709551615 by rw [maskLo, Nat.min_eq_right (by omega)]; rfl)
    clear e1
    go_enter Tryd.func25, Tryd.ntmps25
    go_wp2_with (go_at_call 37; refine (width_any _ _).mono ?_; rintro e w' ⟨rfl, rfl⟩)
    go_ret2
    rw [HH.out, HL.out]
    exact ⟨rfl, Below.refl _ _⟩
  · have e1 := wrap_mask (width f - bits).toNat (by omega)
    have HL := Lib.hid (show maskLo (width f - bits).toNat = IntKind.u64.wrap (IntKind.u64.wrap (2 ^ (width f - bits).toNat) - 1) by rw [e1, maskLo, Nat.min_eq_left (by omega)])
    have e2 : (width f - bits).toNat - 64 = 0 := by omega
    have HH := Lib.hid (show maskHi (width f - bits).toNat = 0 by rw [maskHi, e2]; rfl)
    clear e2
    clear e1
    go_enter Tryd.func25, Tryd.ntmps25
    go_wp2_with (go_at_call 37; refine (width_any _ _).mono ?_; rintro e w' ⟨rfl, rfl⟩)
    go_quiet (fail)
    go_wp2_with fail
    go_ret2
    rw [HH.out, HL.out]
    exact ⟨rfl, ⟨rfl, rfl, rfl, Nat.le_refl _, fun _ _ => rfl⟩⟩

set_option maxHeartbeats 1000000 in
theorem fits_any (a : Ad) (bits : Int) (w : World) : Calls Tryd.prog 33 #[encA a, .int .i64 bits] w fun e w' => e = .returned (.bool (fits a bits)) ∧ Below w.heap.size w w' := by
  obtain ⟨f, hi, lo⟩ := a
  obtain ⟨r, hr⟩ : ∃ r, r = rightA (f, hi, lo) := ⟨_, rfl⟩
  have hright := right (f, hi, lo)
  rw [← hr] at hright
  have HR := Lib.hid hright
  have hv : fits (f, hi, lo) bits = (r && (decide (0 ≤ bits) && decide (bits ≤ width f))) := by unfold fits; rw [← hr]
  have HV := Lib.hid hv
  clear hright hr hv
  have hcase : r = false ∨ (r = true ∧ ¬ 0 ≤ bits) ∨ (r = true ∧ 0 ≤ bits) := by
    cases r <;> by_cases h : 0 ≤ bits <;> simp [h]
  have hbx : Below w.heap.size w (w.alloc (.cells #[.int .u8 (f.toNat : Int), .int .u64 (hi.toNat : Int), .int .u64 (lo.toNat : Int)] 24)) := (Below.refl _ _).alloc (Nat.le_refl _) _
  have HBX := Lib.hid hbx
  clear hbx
  rcases hcase with rfl | ⟨rfl, h0⟩ | ⟨rfl, h0⟩
  · go_enter Tryd.func33, Tryd.ntmps33
    go_wp2_with (go_at_call 15; refine (HR.out _).mono ?_; rintro e w1 ⟨rfl, hb⟩; have HB := Lib.hid hb; obtain ⟨hc, hf⟩ := bcell hb; clear hb)
    go_ret
    rw [HV.out]
    exact ⟨rfl, below_step HBX.out HB.out HBX.out.size⟩
  · have z0 : decide (0 ≤ bits) = false := by simpa using h0
    go_enter Tryd.func33, Tryd.ntmps33
    go_wp2_with (go_at_call 15; refine (HR.out _).mono ?_; rintro e w1 ⟨rfl, hb⟩; have HB := Lib.hid hb; obtain ⟨hc, hf⟩ := bcell hb; clear hb)
    go_ret
    rw [HV.out, z0]
    exact ⟨rfl, below_step HBX.out HB.out HBX.out.size⟩
  · have z0 : decide (0 ≤ bits) = true := by simpa using h0
    go_enter Tryd.func33, Tryd.ntmps33
    go_wp2_with (first | (go_at_call 15; refine (HR.out _).mono ?_; rintro e w1 ⟨rfl, hb⟩; have HB := Lib.hid hb; obtain ⟨hc, hf⟩ := bcell hb; clear hb) | (go_at_call 37; refine (width_any _ _).mono ?_; rintro e w2 ⟨rfl, rfl⟩))
    go_ret
    rw [HV.out, z0]
    exact ⟨by simp, below_step HBX.out HB.out HBX.out.size⟩
end Go.Proofs.Tryd.Pfx
namespace Go.Proofs.Tryd.Pfx
open Go.RowKit Go.Cph Go.Cph.Px

def cutE (a : Ad) (bits : Int) : Int := if fits a bits then 0 else 1
def CutPost (a : Ad) (bits : Int) (w : World) (e : Ending) (w' : World) : Prop := e = .returned (.tuple #[encP (cutP a bits), .int .i64 (cutE a bits)]) ∧ Below w.heap.size w w'

set_option maxHeartbeats 1000000 in
theorem cut_any (a : Ad) (bits : Int) (w : World) : Calls Tryd.prog 19 #[encA a, .int .i64 bits] w (CutPost a bits w) := by
  have hfits := fits_any a bits
  obtain ⟨r, hr⟩ : ∃ r, r = fits a bits := ⟨_, rfl⟩
  rw [← hr] at hfits
  have HF := Lib.hid hfits
  have HR := Lib.hid hr
  clear hfits hr
  obtain ⟨f, hi, lo⟩ := a
  have hbx : Below w.heap.size w ((w.alloc (.cells #[.int .u8 (f.toNat : Int), .int .u64 (hi.toNat : Int), .int .u64 (lo.toNat : Int)] 24)).alloc (.cells #[.int .u8 0, .int .u64 0, .int .u64 0, .int .i64 0] 26)) := ((Below.refl _ _).alloc (Nat.le_refl _) _).alloc (by simp) _
  have HBX := Lib.hid hbx
  clear hbx
  cases r
  · have HV := Lib.hid (show cutP (f, hi, lo) bits = zeroP ∧ cutE (f, hi, lo) bits = 1 from ⟨by unfold cutP; rw [← HR.out]; simp, by unfold cutE; rw [← HR.out]; simp⟩)
    go_enter Tryd.func19, Tryd.ntmps19
    go_wp2_with fail
    refine (HF.out _).mono ?_
    rintro e w1 ⟨rfl, hb⟩
    have HB := Lib.hid (below_step HBX.out hb HBX.out.size)
    have g2 := heap_alloc_new (w.alloc (.cells #[.int .u8 (f.toNat : Int), .int .u64 (hi.toNat : Int), .int .u64 (lo.toNat : Int)] 24)) (.cells #[.int .u8 0, .int .u64 0, .int .u64 0, .int .i64 0] 26)
    rw [World.size_alloc] at g2
    have h2 := blk_kept hb g2
    have H2 := Lib.hid (blk_set (blk_set (blk_set (blk_set h2 0 (.int .u8 0)) 1 (.int .u64 0)) 2 (.int .u64 0)) 3 (.int .i64 0))
    have f0 : ∀ j, w1.frozen? ⟨w.heap.size + 1, j, none⟩ = false := fun j => by rw [blk_frozen h2]; simp
    have c0 : w1.cell? ⟨w.heap.size + 1, 0, none⟩ = some (.int .u8 0) := by rw [blk_cell h2]; rfl
    have c1 : w1.cell? ⟨w.heap.size + 1, 1, none⟩ = some (.int .u64 0) := by rw [blk_cell h2]; rfl
    have c2 : w1.cell? ⟨w.heap.size + 1, 2, none⟩ = some (.int .u64 0) := by rw [blk_cell h2]; rfl
    have c3 : w1.cell? ⟨w.heap.size + 1, 3, none⟩ = some (.int .i64 0) := by rw [blk_cell h2]; rfl
    clear hb g2 h2
    go_wp2_with fail
    have HB2 := Lib.hid ((((HB.out.setCell (p := ⟨w.heap.size + 1, 0, none⟩) (by simp) (.int .u8 0)).setCell (p := ⟨w.heap.size + 1, 1, none⟩) (by simp) (.int .u64 0)).setCell (p := ⟨w.heap.size + 1, 2, none⟩) (by simp) (.int .u64 0)).setCell (p := ⟨w.heap.size + 1, 3, none⟩) (by simp) (.int .i64 0))
    clear c0 c1 c2 c3 f0
    generalize (((w1.setCell ⟨w.heap.size + 1, 0, none⟩ (.int .u8 0)).setCell ⟨w.heap.size + 1, 1, none⟩ (.int .u64 0)).setCell ⟨w.heap.size + 1, 2, none⟩ (.int .u64 0)).setCell ⟨w.heap.size + 1, 3, none⟩ (.int .i64 0) = w4 at *
    have c0 : w4.cell? ⟨w.heap.size + 1, 0, none⟩ = some (.int .u8 0) := by rw [blk_cell H2.out]; rfl
    have c1 : w4.cell? ⟨w.heap.size + 1, 1, none⟩ = some (.int .u64 0) := by rw [blk_cell H2.out]; rfl
    have c2 : w4.cell? ⟨w.heap.size + 1, 2, none⟩ = some (.int .u64 0) := by rw [blk_cell H2.out]; rfl
    have c3 : w4.cell? ⟨w.heap.size + 1, 3, none⟩ = some (.int .i64 0) := by rw [blk_cell H2.out]; rfl
    exact bodyPost_ret (v := .tuple #[.agg #[.int .u8 0, .int .u64 0, .int .u64 0, .int .i64 0], .int .i64 1]) (by simp [results, Tryd.results19, go_sem, c0, c1, c2, c3]) rfl ⟨by rw [HV.out.1, HV.out.2]; rfl, HB2.out⟩
  · obtain ⟨h1, h2, h3⟩ := fits_iff.1 HR.out.symm
    have hfree := free_any f bits
    have hw := width_pos f
    have e1 : rest (f, hi, lo) bits = (width f - bits).toNat := rfl
    have HV := Lib.hid (show cutP (f, hi, lo) bits = (cutA (f, hi, lo) (rest (f, hi, lo) bits), bits) ∧ cutE (f, hi, lo) bits = 0 from ⟨by unfold cutP; rw [← HR.out]; simp, by unfold cutE; rw [← HR.out]; simp⟩)
    have h3' : bits ≤ width f := h3
    have bH : Go.bits .andNot .u64 (hi.toNat : Int) (maskHi (width f - bits).toNat) = ((clear hi ((width f - bits).toNat - 64)).toNat : Int) := andNot_clear hi _ (by omega)
    have bL : Go.bits .andNot .u64 (lo.toNat : Int) (maskLo (width f - bits).toNat) = ((clear lo (min (width f - bits).toNat 64)).toNat : Int) := andNot_clear lo _ (Nat.min_le_right _ _)
    have HC := Lib.hid (show cutA (f, hi, lo) (rest (f, hi, lo) bits) = (f, clear hi ((width f - bits).toNat - 64), clear lo (min (width f - bits).toNat 64)) by rw [cutA_both, e1])
    have HFR := Lib.hid (fun w => hfree w h2 h3')
    clear e1 hfree hw h1 h2 h3 h3'
    generalize maskHi (width f - bits).toNat = mh at *
    generalize maskLo (width f - bits).toNat = ml at *
    generalize clear hi ((width f - bits).toNat - 64) = hi' at *
    generalize clear lo (min (width f - bits).toNat 64) = lo' at *
    go_enter Tryd.func19, Tryd.ntmps19
    go_wp2_with fail
    refine (HF.out _).mono ?_
    rintro e w1 ⟨rfl, hb⟩
    have HB := Lib.hid (below_step HBX.out hb HBX.out.size)
    have g2 := heap_alloc_new (w.alloc (.cells #[.int .u8 (f.toNat : Int), .int .u64 (hi.toNat : Int), .int .u64 (lo.toNat : Int)] 24)) (.cells #[.int .u8 0, .int .u64 0, .int .u64 0, .int .i64 0] 26)
    rw [World.size_alloc] at g2
    have h2 := blk_kept hb g2
    have h1 := blk_kept hb (blk_alloc (heap_alloc_new w (.cells #[.int .u8 (f.toNat : Int), .int .u64 (hi.toNat : Int), .int .u64 (lo.toNat : Int)] 24)) (.cells #[.int .u8 0, .int .u64 0, .int .u64 0, .int .i64 0] 26))
    have H1 := Lib.hid h1
    have H2 := Lib.hid h2
    have a0 : w1.cell? ⟨w.heap.size, 0, none⟩ = some (.int .u8 (f.toNat : Int)) := by rw [blk_cell h1]; rfl
    clear hb g2 h2 h1
    go_wp2_with fail
    refine (HFR.out _).mono ?_
    rintro e w2 ⟨rfl, hb⟩
    have HB2 := Lib.hid (below_step HB.out hb HB.out.size)
    have h1 := blk_kept hb H1.out
    have h2 := blk_kept hb H2.out
    have HS := Lib.hid (blk_set (blk_set (blk_set (blk_set ((blk_set_other (by simp)).trans ((blk_set_other (by simp)).trans h2) : ((w2.setCell ⟨w.heap.size, 1, none⟩ (.int .u64 (hi'.toNat : Int))).setCell ⟨w.heap.size, 2, none⟩ (.int .u64 (lo'.toNat : Int))).heap[w.heap.size + 1]? = _) 0 (.int .u8 (f.toNat : Int))) 1 (.int .u64 (hi'.toNat : Int))) 2 (.int .u64 (lo'.toNat : Int))) 3 (.int .i64 bits))
    have f0 : ∀ j, w2.frozen? ⟨w.heap.size + 1, j, none⟩ = false := fun j => by rw [blk_frozen h2]; simp
    have f1 : ∀ j, w2.frozen? ⟨w.heap.size, j, none⟩ = false := fun j => by rw [blk_frozen h1]; simp
    have c0 : w2.cell? ⟨w.heap.size + 1, 0, none⟩ = some (.int .u8 0) := by rw [blk_cell h2]; rfl
    have c1 : w2.cell? ⟨w.heap.size + 1, 1, none⟩ = some (.int .u64 0) := by rw [blk_cell h2]; rfl
    have c2 : w2.cell? ⟨w.heap.size + 1, 2, none⟩ = some (.int .u64 0) := by rw [blk_cell h2]; rfl
    have c3 : w2.cell? ⟨w.heap.size + 1, 3, none⟩ = some (.int .i64 0) := by rw [blk_cell h2]; rfl
    have a1 : w2.cell? ⟨w.heap.size, 0, none⟩ = some (.int .u8 (f.toNat : Int)) := by rw [blk_cell h1]; rfl
    have a2 : w2.cell? ⟨w.heap.size, 1, none⟩ = some (.int .u64 (hi.toNat : Int)) := by rw [blk_cell h1]; rfl
    have a3 : w2.cell? ⟨w.heap.size, 2, none⟩ = some (.int .u64 (lo.toNat : Int)) := by rw [blk_cell h1]; rfl
    clear hb h1 h2 a0
    go_wp2_with fail
    have HB3 := Lib.hid ((((((HB2.out.setCell (p := ⟨w.heap.size, 1, none⟩) (by simp) (.int .u64 (hi'.toNat : Int))).setCell (p := ⟨w.heap.size, 2, none⟩) (by simp) (.int .u64 (lo'.toNat : Int))).setCell (p := ⟨w.heap.size + 1, 0, none⟩) (by simp) (.int .u8 (f.toNat : Int))).setCell (p := ⟨w.heap.size + 1, 1, none⟩) (by simp) (.int .u64 (hi'.toNat : Int))).setCell (p := ⟨w.heap.size + 1, 2, none⟩) (by simp) (.int .u64 (lo'.toNat : Int))).setCell (p := ⟨w.heap.size + 1, 3, none⟩) (by simp) (.int .i64 bits))
    clear c0 c1 c2 c3 f0 f1 a1 a2 a3
    generalize (((((w2.setCell ⟨w.heap.size, 1, none⟩ (.int .u64 (hi'.toNat : Int))).setCell ⟨w.heap.size, 2, none⟩ (.int .u64 (lo'.toNat : Int))).setCell ⟨w.heap.size + 1, 0, none⟩ (.int .u8 (f.toNat : Int))).setCell ⟨w.heap.size + 1, 1, none⟩ (.int .u64 (hi'.toNat : Int))).setCell ⟨w.heap.size + 1, 2, none⟩ (.int .u64 (lo'.toNat : Int))).setCell ⟨w.heap.size + 1, 3, none⟩ (.int .i64 bits) = w4 at *
    have c0 : w4.cell? ⟨w.heap.size + 1, 0, none⟩ = some (.int .u8 (f.toNat : Int)) := by rw [blk_cell HS.out]; rfl
    have c1 : w4.cell? ⟨w.heap.size + 1, 1, none⟩ = some (.int .u64 (hi'.toNat : Int)) := by rw [blk_cell HS.out]; rfl
    have c2 : w4.cell? ⟨w.heap.size + 1, 2, none⟩ = some (.int .u64 (lo'.toNat : Int)) := by rw [blk_cell HS.out]; rfl
    have c3 : w4.cell? ⟨w.heap.size + 1, 3, none⟩ = some (.int .i64 bits) := by rw [blk_cell HS.out]; rfl
    exact bodyPost_ret (v := .tuple #[.agg #[.int .u8 (f.toNat : Int), .int .u64 (hi'.toNat : Int), .int .u64 (lo'.toNat : Int), .int .i64 bits], .int .i64 0]) (by simp [results, Tryd.results19, go_sem, c0, c1, c2, c3]) rfl ⟨by rw [HV.out.1, HV.out.2, HC.out], HB3.out⟩
end Go.Proofs.Tryd.Pfx
namespace Go.Proofs.Tryd.Pfx
open Go.RowKit Go.Cph Go.Cph.Px

theorem pf_eq (p q : Pf) : (p == q) = true ↔ (p.1.1.toNat : Int) = q.1.1.toNat ∧ (p.1.2.1.toNat : Int) = q.1.2.1.toNat ∧ (p.1.2.2.toNat : Int) = q.1.2.2.toNat ∧ p.2 = q.2 := by
  rw [beq_iff_eq, Prod.ext_iff, Prod.ext_iff, Prod.ext_iff, ← UInt8.toNat_inj, ← UInt64.toNat_inj, ← UInt64.toNat_inj]
  omega
theorem ad_eq (p q : Ad) : (p == q) = true ↔ (p.1.toNat : Int) = q.1.toNat ∧ (p.2.1.toNat : Int) = q.2.1.toNat ∧ (p.2.2.toNat : Int) = q.2.2.toNat := by
  rw [beq_iff_eq, Prod.ext_iff, Prod.ext_iff, ← UInt8.toNat_inj, ← UInt64.toNat_inj, ← UInt64.toNat_inj]
  omega
theorem rightP_cut (p : Pf) : rightP p = (fits p.1 p.2 && (cutP p.1 p.2 == p)) := by
  unfold rightP cutP
  rw [Bool.eq_iff_iff]
  cases fits p.1 p.2 <;> simp [Prod.ext_iff]
theorem hasP_cut (p : Pf) (a : Ad) : hasP p a = (fits a p.2 && (cutP a p.2 == p)) := by
  unfold hasP cutP
  rw [Bool.eq_iff_iff]
  cases fits a p.2 <;> simp [Prod.ext_iff]

set_option maxHeartbeats 1000000 in
theorem rightP_any (p : Pf) (w : World) : Calls Tryd.prog 12 #[encP p] w fun e w' => e = .returned (.bool (rightP p)) ∧ Below w.heap.size w w' := by
  have HC := Lib.hid (cut_any p.1 p.2)
  have HV := Lib.hid (rightP_cut p)
  obtain ⟨c, hcp⟩ : ∃ c, c = cutP p.1 p.2 := ⟨_, rfl⟩
  obtain ⟨r, hr⟩ : ∃ r, r = fits p.1 p.2 := ⟨_, rfl⟩
  have HCP := Lib.hid hcp
  have HR := Lib.hid hr
  have HE := Lib.hid (show cutE p.1 p.2 = if r then 0 else 1 by rw [hr]; rfl)
  clear hcp hr
  obtain ⟨⟨f, hi, lo⟩, bits⟩ := p
  obtain ⟨⟨g, hj, lp⟩, cb⟩ := c
  have hbx : Below w.heap.size w (w.alloc (.cells #[.int .u8 (f.toNat : Int), .int .u64 (hi.toNat : Int), .int .u64 (lo.toNat : Int), .int .i64 bits] 26)) := (Below.refl _ _).alloc (Nat.le_refl _) _
  have HBX := Lib.hid hbx
  clear hbx
  cases r
  all_goals
    go_enter Tryd.func12, Tryd.ntmps12
    go_wp2_with fail
    refine (HC.out _).mono ?_
    rintro e w1 ⟨rfl, hb⟩
    have HB := Lib.hid (below_step HBX.out hb HBX.out.size)
    obtain ⟨hc, hf⟩ := bcell hb
    have hz : w.heap.size < w1.heap.size := by have := hb.size; simp at this; omega
    clear hb
    rw [HE.out, ← HCP.out]
    go_wp2_with fail
    all_goals
      go_ret
      refine ⟨ret_bool ?_, HB.out.alloc HB.out.size _⟩
      rw [HV.out, ← HR.out, ← HCP.out, Bool.eq_iff_iff, Bool.and_eq_true, pf_eq]
      simp
      try omega
set_option maxHeartbeats 1000000 in
theorem before_any (p q : Pf) (w : World) : Calls Tryd.prog 24 #[encP p, encP q] w fun e w' => e = .returned (.bool (before p q)) ∧ Below w.heap.size w w' := by
  have HC := Lib.hid (less p.1 q.1)
  obtain ⟨r, hr⟩ : ∃ r, r = lessA p.1 q.1 := ⟨_, rfl⟩
  have HV := Lib.hid (show before p q = (r || (p.1 == q.1 && decide (p.2 < q.2))) by rw [hr]; rfl)
  have HR := Lib.hid hr
  clear hr
  obtain ⟨⟨f, hi, lo⟩, bits⟩ := p
  obtain ⟨⟨g, hj, lp⟩, cb⟩ := q
  have hbx : Below w.heap.size w ((w.alloc (.cells #[.int .u8 (f.toNat : Int), .int .u64 (hi.toNat : Int), .int .u64 (lo.toNat : Int), .int .i64 bits] 26)).alloc (.cells #[.int .u8 (g.toNat : Int), .int .u64 (hj.toNat : Int), .int .u64 (lp.toNat : Int), .int .i64 cb] 26)) := ((Below.refl _ _).alloc (Nat.le_refl _) _).alloc (by simp) _
  have HBX := Lib.hid hbx
  clear hbx
  have hcase : r = true ∨ (r = false ∧ ((f, hi, lo) == (g, hj, lp)) = false) ∨ (r = false ∧ (f, hi, lo) = (g, hj, lp)) := by
    cases r <;> by_cases h : (f, hi, lo) = (g, hj, lp) <;> simp [h]
  rcases hcase with rfl | ⟨rfl, h0⟩ | ⟨rfl, h0⟩
  · go_enter Tryd.func24, Tryd.ntmps24
    go_wp2_with fail
    refine (HC.out _).mono ?_
    rintro e w1 ⟨rfl, hb⟩
    rw [← HR.out]
    have HB := Lib.hid (below_step HBX.out hb HBX.out.size)
    clear hb
    go_wp2_with fail
    go_ret
    exact ⟨ret_bool (by rw [HV.out]; rfl), HB.out⟩
  · have H0 := Lib.hid h0
    clear h0
    go_enter Tryd.func24, Tryd.ntmps24
    go_wp2_with fail
    refine (HC.out _).mono ?_
    rintro e w1 ⟨rfl, hb⟩
    rw [← HR.out]
    have HB := Lib.hid (below_step HBX.out hb HBX.out.size)
    obtain ⟨hc, hf⟩ := bcell hb
    have hz : w.heap.size + 1 < w1.heap.size := by have := hb.size; simp at this; omega
    have hz2 : w.heap.size < w1.heap.size := by omega
    clear hb
    go_wp2_with fail
    all_goals
      go_ret
      refine ⟨ret_bool ?_, HB.out⟩
      rw [HV.out, H0.out]
      first
      | rfl
      | (exfalso; have h := Bool.eq_false_iff.1 H0.out; exact h ((ad_eq _ _).2 ⟨by assumption, by assumption, by assumption⟩))
  · simp only [Prod.mk.injEq] at h0
    obtain ⟨rfl, rfl, rfl⟩ := h0
    go_enter Tryd.func24, Tryd.ntmps24
    go_wp2_with fail
    refine (HC.out _).mono ?_
    rintro e w1 ⟨rfl, hb⟩
    rw [← HR.out]
    have HB := Lib.hid (below_step HBX.out hb HBX.out.size)
    obtain ⟨hc, hf⟩ := bcell hb
    have hz : w.heap.size + 1 < w1.heap.size := by have := hb.size; simp at this; omega
    have hz2 : w.heap.size < w1.heap.size := by omega
    clear hb
    go_wp2_with fail
    go_ret
    exact ⟨ret_bool (by rw [HV.out]; simp), HB.out⟩
end Go.Proofs.Tryd.Pfx

/- The document's addresses: right, as bytes (turned from pools' Rb2, Rb3). -/
set_option linter.unusedVariables false
set_option linter.unusedSimpArgs false
namespace Go.Proofs.Tryd.Pfx
open Go.RowKit Go.Cph Go.Cph.Px

abbrev encB (c : UInt8) : List Value := [.int .u8 (c.toNat : Int)]
abbrev BsAt (w : World) (v : Value) (l : List UInt8) : Prop := Elems encB 1 w v l
theorem encB_len (c : UInt8) : (encB c).length = 1 := rfl
theorem encB_one {l : List UInt8} : ∀ u ∈ l.flatMap encB, u.oneCell' = true := by
  intro u hu
  obtain ⟨y, _, hy⟩ := List.mem_flatMap.1 hu
  simp only [encB, List.mem_cons, List.not_mem_nil, or_false] at hy
  subst hy; rfl
theorem infoB : (Tryd.prog.info? 5).map (fun i => (i.zero, i.size, i.bytes)) = some (some (.int .u8 0), 1, 1) := by kernel_rfl

end Go.Proofs.Tryd.Pfx
namespace Go.Cph.Px
theorem bytesN_append (m n : Nat) : ∀ x, bytesN x (m + n) = bytesN (x / 256 ^ n) m ++ bytesN x n := by
  induction n with
  | zero => intro x; simp [bytesN]
  | succ n ih => intro x; rw [← Nat.add_assoc, bytesN_succ, ih, bytesN_succ, Nat.div_div_eq_div_mul, ← Nat.pow_succ', List.append_assoc]
theorem bytesN_low (n : Nat) : ∀ y x, bytesN (y * 256 ^ n + x) n = bytesN x n := by
  induction n with
  | zero => intro y x; simp [bytesN]
  | succ n ih =>
    intro y x
    rw [bytesN_succ, bytesN_succ]
    have e : y * 256 ^ (n + 1) + x = y * 256 ^ n * 256 + x := by rw [Nat.pow_succ, Nat.mul_assoc]
    have e1 : (y * 256 ^ (n + 1) + x) / 256 = y * 256 ^ n + x / 256 := by rw [e]; omega
    have e2 : UInt8.ofNat (y * 256 ^ (n + 1) + x) = UInt8.ofNat x := UInt8.toNat_inj.1 (by rw [UInt8.toNat_ofNat', UInt8.toNat_ofNat', e]; omega)
    rw [e1, e2, ih]
theorem bytes16 (f : UInt8) (hi lo : UInt64) : bytesN (num (f, hi, lo)) 16 = bytesN hi.toNat 8 ++ bytesN lo.toNat 8 := by
  have h1 := bytesN_append 8 8 (num (f, hi, lo))
  have e : num (f, hi, lo) = hi.toNat * 256 ^ 8 + lo.toNat := rfl
  have h2 : num (f, hi, lo) / 256 ^ 8 = hi.toNat := by rw [e]; have := lo.toNat_lt; omega
  rw [h2] at h1
  rw [h1, e, bytesN_low]
theorem bytesN_take (x n i : Nat) (h : i < n) : (bytesN x n).take (i + 1) = (bytesN x n).take i ++ [UInt8.ofNat (x / 256 ^ (n - 1 - i))] := by
  rw [List.take_succ_eq_append_getElem (by rw [bytesN_length]; exact h)]
  simp [bytesN]
theorem byteEq (x j : Nat) : ((x : Int) / 2 ^ (8 * j) % 256) = (((UInt8.ofNat (x / 256 ^ j)).toNat : Nat) : Int) := by
  rw [UInt8.toNat_ofNat', show (256 : Nat) ^ j = 2 ^ (8 * j) by rw [Nat.pow_mul]]
  simp
end Go.Cph.Px
namespace Go.Proofs.Tryd.Pfx
open Go.RowKit Go.Cph Go.Cph.Px

def BytesPost (l : List UInt8) (w : World) (e : Ending) (w' : World) : Prop := ∃ v', e = .returned v' ∧ w'.ownsRow w.heap.size 5 1 v' l.length (l.flatMap encB) ∧ Below w.heap.size w w'
end Go.Proofs.Tryd.Pfx

/- The document's addresses: of bytes, as bits (turned from pools' Rb4, Rb5). -/
set_option linter.unusedVariables false
set_option linter.unusedSimpArgs false
namespace Go.Proofs.Tryd.Pfx
open Go.RowKit Go.Cph Go.Cph.Px

structure FromStep (h lo : UInt64) (c : UInt8) (h' lo' : UInt64) (x1 x2 x3 : Nat) : Prop where
  e1 : IntKind.u64.wrap (256 * (h.toNat : Int)) = (x1 : Int)
  e2 : (lo.toNat : Int) / 72057594037927936 = (x2 : Int)
  e3 : IntKind.u64.wrap ((x1 : Int) + (x2 : Int)) = (h'.toNat : Int)
  e4 : IntKind.u64.wrap (256 * (lo.toNat : Int)) = (x3 : Int)
  e5 : IntKind.u64.wrap ((x3 : Int) + (c.toNat : Int)) = (lo'.toNat : Int)
  e6 : IntKind.u64.wrap (x2 : Int) = (x2 : Int)
  v : h'.toNat * 18446744073709551616 + lo'.toNat = 256 * (h.toNat * 18446744073709551616 + lo.toNat) + c.toNat
theorem from_step (h lo : UInt64) (c : UInt8) (hb : h.toNat < 72057594037927936) : ∃ (h' lo' : UInt64) (x1 x2 x3 : Nat), FromStep h lo c h' lo' x1 x2 x3 := by
  have h1 := lo.toNat_lt
  have h2 := c.toNat_lt
  obtain ⟨a, ha⟩ : ∃ a, a = h.toNat := ⟨_, rfl⟩
  obtain ⟨b, hb'⟩ : ∃ a, a = lo.toNat := ⟨_, rfl⟩
  obtain ⟨d, hd⟩ : ∃ a, a = c.toNat := ⟨_, rfl⟩
  obtain ⟨q, r, hq, hr, hr2⟩ : ∃ q r, b = 72057594037927936 * q + r ∧ r < 72057594037927936 ∧ q < 256 := ⟨b / 72057594037927936, b % 72057594037927936, by omega, by omega, by omega⟩
  have f1 : (UInt64.ofNat (256 * a + q)).toNat = 256 * a + q := by rw [UInt64.toNat_ofNat', Nat.mod_eq_of_lt (by omega)]
  have f2 : (UInt64.ofNat (256 * r + d)).toNat = 256 * r + d := by rw [UInt64.toNat_ofNat', Nat.mod_eq_of_lt (by omega)]
  refine ⟨UInt64.ofNat (256 * a + q), UInt64.ofNat (256 * r + d), 256 * a, q, 256 * r, ?_, ?_, ?_, ?_, ?_, ?_, ?_⟩
  · rw [← ha, IntWalk.u64_in _ (by omega)]; omega
  · rw [← hb']; omega
  · rw [f1, IntWalk.u64_in _ (by omega)]; omega
  · rw [← hb', IntKind.wrap_u64]; omega
  · rw [f2, ← hd, IntWalk.u64_in _ (by omega)]; omega
  · rw [IntWalk.u64_in _ (by omega)]
  · rw [f1, f2, ← ha, ← hb', ← hd]; omega
theorem val_take {l : List UInt8} {i : Nat} (h : i < l.length) : val (l.take (i + 1)) = 256 * val (l.take i) + l[i].toNat := by rw [List.take_succ_eq_append_getElem h, val_snoc]
theorem val_lt (l : List UInt8) : val l < 256 ^ l.length := by
  suffices k : ∀ r : List UInt8, val r.reverse < 256 ^ r.reverse.length by simpa using k l.reverse
  intro r
  induction r with
  | nil => simp [val]
  | cons b r ih =>
    rw [List.reverse_cons, val_snoc, List.length_append, List.length_singleton, Nat.pow_succ']
    have := b.toNat_lt
    omega
theorem bs_cells {w : World} {v : Value} {l : List UInt8} (h : BsAt w v l) (h0 : 0 < l.length) :
    ∃ b off cap, v = .slice (some ⟨b, off, none⟩) l.length cap ∧ ∀ i (hi : i < l.length), w.cell? ⟨b, off + i, none⟩ = some (.int .u8 (l[i].toNat : Int)) := by
  obtain ⟨b, off, cap, hv, hc⟩ := elems_shape encB_len h h0
  exact ⟨b, off, cap, hv, fun i hi => by have := hc i hi 0 (by omega); simpa using this⟩
theorem ofNum_num (f : UInt8) (h lo : UInt64) (n : Nat) (e : h.toNat * 18446744073709551616 + lo.toNat = n) : ofNum f n = (f, h, lo) := by
  have h1 := lo.toNat_lt
  have h2 := h.toNat_lt
  exact ad_ext rfl (by rw [num_ofNum _ _ (by omega)]; exact e.symm)

end Go.Proofs.Tryd.Pfx
namespace Go.Proofs.Tryd.Pfx
open Go.RowKit Go.Cph Go.Cph.Px

def bitsOf (l : List UInt8) : List UInt8 := l.flatMap fun c => bitsN c.toNat 8
theorem bitsOf_snoc (l : List UInt8) (c : UInt8) : bitsOf (l ++ [c]) = bitsOf l ++ bitsN c.toNat 8 := by simp [bitsOf, List.flatMap_append]
theorem bitsOf_length (l : List UInt8) : (bitsOf l).length = 8 * l.length := by
  induction l with
  | nil => rfl
  | cons c l ih =>
    have e : bitsOf (c :: l) = bitsN c.toNat 8 ++ bitsOf l := rfl
    rw [e, List.length_append, ih, bitsN_length, List.length_cons]; omega
theorem bitsOf_row (a : Ad) : bitsOf (bytesA a) = rowA a := by
  unfold bytesA rowA
  cases rightA a with
  | true => rw [if_pos rfl, if_pos rfl, wid_size]; exact bits_bytes _ _
  | false => rfl
theorem bitsN_take (x n i : Nat) (h : i < n) : (bitsN x n).take (i + 1) = (bitsN x n).take i ++ [if x.testBit (n - 1 - i) then 1 else 0] := by
  rw [List.take_succ_eq_append_getElem (by rw [bitsN_length]; exact h)]
  simp [bitsN]
theorem bitEq (c : UInt8) (j : Nat) : Go.bits .and .u8 ((c.toNat : Int) / 2 ^ j) 1 = (((if c.toNat.testBit j then (1 : UInt8) else 0).toNat : Nat) : Int) := by
  have h1 : c.toNat / 2 ^ j < 256 := Nat.lt_of_le_of_lt (Nat.div_le_self _ _) c.toNat_lt
  have e : ((c.toNat : Int) / 2 ^ j) = ((c.toNat / 2 ^ j : Nat) : Int) := by simp
  have h := u8_and_nat (c.toNat / 2 ^ j) 1 h1 (by decide)
  rw [e]
  refine h.trans ?_
  rw [Nat.and_one_is_mod, Nat.testBit_eq_decide_div_mod_eq]
  have h2 : c.toNat / 2 ^ j % 2 = 0 ∨ c.toNat / 2 ^ j % 2 = 1 := by omega
  rcases h2 with h2 | h2 <;> rw [h2] <;> rfl
theorem bytesA_le (a : Ad) : (bytesA a).length ≤ 16 := by
  unfold bytesA sizeB
  split
  · rw [bytesN_length]; split <;> omega
  · simp

end Go.Proofs.Tryd.Pfx

/- The document's prefixes: right; given (turned from pools' Rb7, Rc1). -/
set_option linter.unusedVariables false
set_option linter.unusedSimpArgs false
namespace Go.Proofs.Tryd.Pfx
open Go.RowKit Go.Cph Go.Cph.Px

end Go.Proofs.Tryd.Pfx

/- rows: num.Big of eight bytes; an address's bytes. -/
set_option linter.unusedVariables false
set_option linter.unusedSimpArgs false
set_option maxRecDepth 100000
namespace Go.Proofs.Tryd.Rows
open Go.RowKit Go.Cph Go.Cph.Ok Go.Proofs.Tryd.Nu
open Go.Cph.Px (Ad Pf rightA bytesA)
open Go.Proofs.Tryd.Pfx (encA bcell)
set_option maxHeartbeats 1600000 in
theorem big8 (n : UInt64) (w : World) : Calls Tryd.prog 53 #[.int .u64 (n.toNat : Int), .int .i64 8] w fun e w' => e = .returned (.tuple #[.string (ofBs (be 8 n.toNat)), .int .i64 0]) ∧ Below w.heap.size w w' := by
  have hn : n.toNat < 18446744073709551616 := n.toNat_lt
  have hbd := bits_bd _ hn
  have HC := Lib.hid (show ∀ W, Calls Tryd.prog 68 #[.int .u64 (n.toNat : Int)] W fun e w' => e = .returned (.int .i64 (bitsN n.toNat)) ∧ w' = W from fun W => Tryd.bits_Len64 (n.toNat : Int) W (by omega) (by omega))
  obtain ⟨k, hk⟩ : ∃ k, k = bitsN n.toNat := ⟨_, rfl⟩
  rw [← hk] at hbd HC
  have h2 := hbd.1
  have h3 : ¬ 64 < k := by omega
  have HP := Lib.hid (put_any w.heap.size w (.slice none 0 0) [] n 8 w (World.ownsRow_nil _ _ _ _) (by simp) (by omega) (Below.refl _ _) (Nat.le_refl _))
  clear hn hk hbd
  go_enter Tryd.func53, Tryd.ntmps53
  go_wp2_with fail
  refine (HC.out _).mono ?_
  rintro e w1 ⟨rfl, rfl⟩
  go_wp2_with fail
  refine HP.out.mono ?_
  rintro e w2 ⟨v, rfl, ho, hb, -⟩
  have q := str_row ho
  have HB := Lib.hid hb
  clear ho hb
  go_wp2_with fail
  exact bodyPost_ret (v := .tuple #[.string (ofBs (be 8 n.toNat)), .int .i64 0]) (by simp [results, Tryd.results53, go_sem, ofBs]) rfl ⟨rfl, HB.out⟩
theorem list_eq2 {a b : ByteArray} (h : a.data.toList = b.data.toList) : a = b := ByteArray.ext (Array.ext' h)
theorem be_val : ∀ (k x : Nat), Px.bytesN x k = be k x
  | 0, x => rfl
  | k + 1, x => by
    unfold Px.bytesN
    rw [List.range_succ_eq_map, List.map_cons, List.map_map]
    show UInt8.ofNat (x / 256 ^ (k + 1 - 1 - 0)) :: _ = UInt8.ofNat (x / 256 ^ k) :: be k x
    rw [← be_val k x]
    unfold Px.bytesN
    congr 1
    refine List.map_congr_left fun i hi => ?_
    show UInt8.ofNat (x / 256 ^ (k + 1 - 1 - (i + 1))) = _
    congr 3; omega
theorem bytesA_eq (a : Ad) (h : rightA a = true) : bytesA a = if a.1 = 4 then (be 8 a.2.1.toNat ++ be 8 a.2.2.toNat).drop 12 else be 8 a.2.1.toNat ++ be 8 a.2.2.toNat := by
  obtain ⟨f, hi, lo⟩ := a
  have e16 := Px.bytes16 f hi lo
  rw [be_val, be_val, be_val] at e16
  unfold bytesA
  rw [if_pos h]
  show Px.bytesN (Px.num (f, hi, lo)) (if f = 4 then 4 else 16) = if f = 4 then _ else _
  split
  · rw [be_val, ← e16]
    have := Px.bytesN_append 12 4 (Px.num (f, hi, lo))
    rw [show 12 + 4 = 16 from rfl, be_val, be_val] at this
    rw [this, List.drop_append_of_le_length (by rw [← be_val]; simp [Px.bytesN_length])]
    rw [List.drop_of_length_le (by rw [← be_val]; simp [Px.bytesN_length])]
    exact (be_val _ _).symm ▸ rfl
  · rw [be_val, e16]
theorem bb_size (x y : UInt64) : (ofBs (be 8 x.toNat) ++ ofBs (be 8 y.toNat)).size = 16 := by
  rw [ByteArray.size_append, Go.Lib.size_eq, Go.Lib.size_eq, ofBs_list, ofBs_list, be_len, be_len]
theorem bb_list (x y : UInt64) : (ofBs (be 8 x.toNat) ++ ofBs (be 8 y.toNat)).data.toList = be 8 x.toNat ++ be 8 y.toNat := by
  rw [cat_list, ofBs_list, ofBs_list]
set_option maxHeartbeats 1600000 in
theorem abytes (a : Ad) (w : World) : Calls Tryd.prog 38 #[encA a] w fun e w' => e = .returned (.string (ofBs (bytesA a))) ∧ Below w.heap.size w w' := by
  have HRT := Lib.hid (Pfx.right a)
  have HX := Lib.hid (bytesA_eq a)
  obtain ⟨f, hi, lo⟩ := a
  have HB1 := Lib.hid (fun W => big8 hi W)
  have HB2 := Lib.hid (fun W => big8 lo W)
  obtain ⟨X, hX⟩ : ∃ X, X = ofBs (be 8 hi.toNat) := ⟨_, rfl⟩
  obtain ⟨Y, hY⟩ : ∃ Y, Y = ofBs (be 8 lo.toNat) := ⟨_, rfl⟩
  have z1 : X.size = 8 := by rw [hX, Go.Lib.size_eq, ofBs_list, be_len]
  have z2 : Y.size = 8 := by rw [hY, Go.Lib.size_eq, ofBs_list, be_len]
  have HL := Lib.hid (show (X ++ Y).data.toList = be 8 hi.toNat ++ be 8 lo.toNat from by rw [hX, hY]; exact bb_list hi lo)
  have z3 : (X ++ Y).size = 16 := by rw [ByteArray.size_append]; omega
  rw [← hX] at HB1
  rw [← hY] at HB2
  clear hX hY
  have HBX := Lib.hid (show Below w.heap.size w (w.alloc (.cells #[.int .u8 (f.toNat : Int), .int .u64 (hi.toNat : Int), .int .u64 (lo.toNat : Int)] 24 (0, 0))) from (Below.refl _ _).alloc (Nat.le_refl _) _)
  cases hr : rightA (f, hi, lo) with
  | false =>
    rw [hr] at HRT
    have HE := Lib.hid (show bytesA (f, hi, lo) = [] from by unfold bytesA; rw [hr]; rfl)
    clear hr HX
    go_enter Tryd.func38, Tryd.ntmps38
    go_wp2_with fail
    refine (HRT.out _).mono ?_
    rintro e w1 ⟨rfl, hb⟩
    have HB := Lib.hid (below_step HBX.out hb HBX.out.size)
    clear hb
    go_wp2_with fail
    go_ret
    exact ⟨ret_s (by rw [HE.out]; rfl), HB.out⟩
  | true =>
    rw [hr] at HRT
    replace HX := Lib.hid (HX.out hr)
    clear hr
    go_enter Tryd.func38, Tryd.ntmps38
    go_wp2_with fail
    refine (HRT.out _).mono ?_
    rintro e w1 ⟨rfl, hb⟩
    have HB := Lib.hid (below_step HBX.out hb HBX.out.size)
    obtain ⟨hc, hf⟩ := bcell hb
    have hz : w.heap.size < w1.heap.size := by have := hb.size; simp at this; omega
    clear hb
    go_wp2_with fail
    refine (HB1.out _).mono ?_
    rintro e w2 ⟨rfl, hb⟩
    replace HB := Lib.hid (below_step HB.out hb HB.out.size)
    obtain ⟨hc2, hf2⟩ := bcell hb
    have hz2 : w.heap.size < w2.heap.size := by have := hb.size; omega
    clear hb
    go_wp2_with fail
    refine (HB2.out _).mono ?_
    rintro e w3 ⟨rfl, hb⟩
    replace HB := Lib.hid (below_step HB.out hb HB.out.size)
    obtain ⟨hc3, hf3⟩ := bcell hb
    have hz3 : w.heap.size < w3.heap.size := by have := hb.size; omega
    clear hb
    by_cases h4 : f = 4
    · subst h4
      go_wp2_with fail
      go_ret
      refine ⟨ret_s (list_eq2 ?_), HB.out⟩
      rw [HX.out, if_pos trivial, ofBs_list, ← HL.out]
      have hl : (X ++ Y).data.toList.length = 16 := by rw [← Go.Lib.size_eq]; exact z3
      rw [ByteArray.data_extract, Array.toList_extract]
      show List.extract _ 12 16 = _
      rw [List.extract_eq_take_drop]
      exact List.take_of_length_le (by rw [List.length_drop, hl]; omega)
    · have k4 : ¬ (f.toNat : Int) = 4 := by
        intro h; exact h4 (UInt8.toNat_inj.1 (by show f.toNat = 4; omega))
      have k5 : ((f.toNat : Int) == 4) = false := by simp [k4]
      go_wp2_with fail
      go_ret
      refine ⟨ret_s (list_eq2 ?_), HB.out⟩
      rw [HX.out, if_neg h4, ofBs_list, ← HL.out]
end Go.Proofs.Tryd.Rows
