/- The program's addresses: right, ahead. -/
import Derived.Test.YtmnfddmjlkkcoaaProg
import Derived.Test.YtmnfddmjlkkcoaaLib
import Derived.Test.YtmnfddmjlkkcoaaPxA
import Derived.StillTailTactics
set_option linter.unusedVariables false
set_option linter.unusedSimpArgs false
namespace Go.Proofs.Try.Pfx
open Go.RowKit Go.Cph Go.Cph.Px

abbrev encA (a : Ad) : Value := .agg #[.int .u8 (a.1.toNat : Int), .int .u64 (a.2.1.toNat : Int), .int .u64 (a.2.2.toNat : Int)]
abbrev encP (p : Pf) : Value := .agg #[.int .u8 (p.1.1.toNat : Int), .int .u64 (p.1.2.1.toNat : Int), .int .u64 (p.1.2.2.toNat : Int), .int .i64 p.2]

theorem u8_eq (x : UInt8) (c : UInt8) : ((x.toNat : Int) == (c.toNat : Int)) = (x == c) := by
  rw [Bool.eq_iff_iff, beq_iff_eq, beq_iff_eq, ← UInt8.toNat_inj]; omega
theorem u64_eq (x c : UInt64) : ((x.toNat : Int) == (c.toNat : Int)) = (x == c) := by
  rw [Bool.eq_iff_iff, beq_iff_eq, beq_iff_eq, ← UInt64.toNat_inj]; omega

set_option maxHeartbeats 400000 in
theorem isNaN8 (x : Int) (w : World) : Calls Try.prog 57 #[.int .u8 x] w fun e w' => e = .returned (.bool false) ∧ w = w' := by
  go_enter Try.func57, Try.ntmps57
  go_wp2_with fail
  go_ret
  exact ⟨by simp, rfl⟩
set_option maxHeartbeats 400000 in
theorem isNaN64 (x : Int) (w : World) : Calls Try.prog 58 #[.int .u64 x] w fun e w' => e = .returned (.bool false) ∧ w = w' := by
  go_enter Try.func58, Try.ntmps58
  go_wp2_with fail
  go_ret
  exact ⟨by simp, rfl⟩
def cmpN (x y : Int) : Int := if x < y then -1 else if y < x then 1 else 0
set_option maxHeartbeats 400000 in
theorem compare8 (x y : Int) (w : World) : Calls Try.prog 51 #[.int .u8 x, .int .u8 y] w fun e w' => e = .returned (.int .i64 (cmpN x y)) ∧ w = w' := by
  have hc : x < y ∨ (¬ x < y ∧ y < x) ∨ (¬ x < y ∧ ¬ y < x) := by omega
  rcases hc with h | ⟨h, k⟩ | ⟨h, k⟩
  all_goals
    go_enter Try.func51, Try.ntmps51
    go_wp2_with (go_at_call 57; refine (isNaN8 _ _).mono ?_; rintro e w' ⟨rfl, rfl⟩)
    go_ret
    exact ⟨ret_int (by unfold cmpN; (repeat split) <;> omega), rfl⟩
set_option maxHeartbeats 400000 in
theorem compare64 (x y : Int) (w : World) : Calls Try.prog 52 #[.int .u64 x, .int .u64 y] w fun e w' => e = .returned (.int .i64 (cmpN x y)) ∧ w = w' := by
  have hc : x < y ∨ (¬ x < y ∧ y < x) ∨ (¬ x < y ∧ ¬ y < x) := by omega
  rcases hc with h | ⟨h, k⟩ | ⟨h, k⟩
  all_goals
    go_enter Try.func52, Try.ntmps52
    go_wp2_with (go_at_call 58; refine (isNaN64 _ _).mono ?_; rintro e w' ⟨rfl, rfl⟩)
    go_ret
    exact ⟨ret_int (by unfold cmpN; (repeat split) <;> omega), rfl⟩
def orN (x y z : Int) : Int := if x = 0 then (if y = 0 then z else y) else x
set_option maxHeartbeats 1000000 in
theorem or3 (x y z : Int) (b : Nat) (cap : Nat) (w : World) (h : w.heap[b]? = some (.cells #[.int .i64 x, .int .i64 y, .int .i64 z] 3 (0, 0))) :
    Calls Try.prog 50 #[.slice (some ⟨b, 0, none⟩) 3 cap] w fun e w' => e = .returned (.int .i64 (orN x y z)) ∧ w = w' := by
  have c0 : w.cell? ⟨b, 0, none⟩ = some (.int .i64 x) := by rw [blk_cell h]; rfl
  have c1 : w.cell? ⟨b, 1, none⟩ = some (.int .i64 y) := by rw [blk_cell h]; rfl
  have c2 : w.cell? ⟨b, 2, none⟩ = some (.int .i64 z) := by rw [blk_cell h]; rfl
  clear h
  have hc : x ≠ 0 ∨ (x = 0 ∧ y ≠ 0) ∨ (x = 0 ∧ y = 0 ∧ z ≠ 0) ∨ (x = 0 ∧ y = 0 ∧ z = 0) := by omega
  rcases hc with hx | ⟨rfl, hx⟩ | ⟨rfl, rfl, hx⟩ | ⟨rfl, rfl, rfl⟩
  all_goals
    go_enter Try.func50, Try.ntmps50
    go_wp2_with fail
    refine wp_loop_rounds 4 ?_
    rw [rounds_succ]
    go_wp2_with fail
  · go_ret
    exact ⟨ret_int (by unfold orN; rw [if_neg hx]), rfl⟩
  · rw [rounds_succ]
    go_wp2_with fail
    go_ret
    exact ⟨ret_int (by unfold orN; rw [if_pos rfl, if_neg hx]), rfl⟩
  · rw [rounds_succ]
    go_wp2_with fail
    rw [rounds_succ]
    go_wp2_with fail
    go_ret
    exact ⟨ret_int (by unfold orN; rw [if_pos rfl, if_pos rfl]), rfl⟩
  · rw [rounds_succ]
    go_wp2_with fail
    rw [rounds_succ]
    go_wp2_with fail
    rw [rounds_succ]
    go_wp2_with fail
    go_ret
    exact ⟨ret_int (by unfold orN; rw [if_pos rfl, if_pos rfl]), rfl⟩
theorem or_cmp (a b : Ad) : decide (orN (cmpN a.1.toNat b.1.toNat) (cmpN a.2.1.toNat b.2.1.toNat) (cmpN a.2.2.toNat b.2.2.toNat) < 0) = lessA a b := by
  rw [Bool.eq_iff_iff, decide_eq_true_eq, lessA_iff]
  have h1 := a.2.1.toNat_lt
  have h2 := a.2.2.toNat_lt
  have h3 := b.2.1.toNat_lt
  have h4 := b.2.2.toNat_lt
  unfold orN cmpN num
  (repeat split) <;> omega
set_option maxHeartbeats 2000000 in
set_option maxRecDepth 100000 in
theorem less (a b : Ad) (w : World) : Calls Try.prog 38 #[encA a, encA b] w fun e w' => e = .returned (.bool (lessA a b)) ∧ Below w.heap.size w w' := by
  have HO := Lib.hid (or_cmp a b)
  generalize hx : cmpN a.1.toNat b.1.toNat = x at HO
  generalize hy : cmpN a.2.1.toNat b.2.1.toNat = y at HO
  generalize hz : cmpN a.2.2.toNat b.2.2.toNat = z at HO
  have c1 : ∀ W, Calls Try.prog 51 #[.int .u8 (a.1.toNat : Int), .int .u8 (b.1.toNat : Int)] W fun e w' => e = .returned (.int .i64 x) ∧ w' = W := fun W => by rw [← hx]; exact (compare8 _ _ W).mono fun _ _ h => ⟨h.1, h.2.symm⟩
  have c2 : ∀ W, Calls Try.prog 52 #[.int .u64 (a.2.1.toNat : Int), .int .u64 (b.2.1.toNat : Int)] W fun e w' => e = .returned (.int .i64 y) ∧ w' = W := fun W => by rw [← hy]; exact (compare64 _ _ W).mono fun _ _ h => ⟨h.1, h.2.symm⟩
  have c3 : ∀ W, Calls Try.prog 52 #[.int .u64 (a.2.2.toNat : Int), .int .u64 (b.2.2.toNat : Int)] W fun e w' => e = .returned (.int .i64 z) ∧ w' = W := fun W => by rw [← hz]; exact (compare64 _ _ W).mono fun _ _ h => ⟨h.1, h.2.symm⟩
  have C1 := Lib.hid c1
  have C2 := Lib.hid c2
  have C3 := Lib.hid c3
  clear c1 c2 c3 hx hy hz
  go_enter Try.func38, Try.ntmps38
  go_wp2_with fail
  have g0 : ((w.alloc (.cells #[.int .u8 (a.1.toNat : Int), .int .u64 (a.2.1.toNat : Int), .int .u64 (a.2.2.toNat : Int)] 25)).alloc (.cells #[.int .u8 (b.1.toNat : Int), .int .u64 (b.2.1.toNat : Int), .int .u64 (b.2.2.toNat : Int)] 25)).heap[w.heap.size]? = some (.cells #[.int .u8 (a.1.toNat : Int), .int .u64 (a.2.1.toNat : Int), .int .u64 (a.2.2.toNat : Int)] 25 (0, 0)) := blk_alloc (heap_alloc_new _ _) _
  have g1 := heap_alloc_new (w.alloc (.cells #[.int .u8 (a.1.toNat : Int), .int .u64 (a.2.1.toNat : Int), .int .u64 (a.2.2.toNat : Int)] 25)) (.cells #[.int .u8 (b.1.toNat : Int), .int .u64 (b.2.1.toNat : Int), .int .u64 (b.2.2.toNat : Int)] 25)
  rw [World.size_alloc] at g1
  have hb : Below w.heap.size w ((w.alloc (.cells #[.int .u8 (a.1.toNat : Int), .int .u64 (a.2.1.toNat : Int), .int .u64 (a.2.2.toNat : Int)] 25)).alloc (.cells #[.int .u8 (b.1.toNat : Int), .int .u64 (b.2.1.toNat : Int), .int .u64 (b.2.2.toNat : Int)] 25)) := ((Below.refl _ _).alloc (Nat.le_refl _) _).alloc (by simp) _
  generalize (w.alloc (.cells #[.int .u8 (a.1.toNat : Int), .int .u64 (a.2.1.toNat : Int), .int .u64 (a.2.2.toNat : Int)] 25)).alloc (.cells #[.int .u8 (b.1.toNat : Int), .int .u64 (b.2.1.toNat : Int), .int .u64 (b.2.2.toNat : Int)] 25) = W at *
  have a0 : W.drew.cell? ⟨w.heap.size, 0, none⟩ = some (.int .u8 (a.1.toNat : Int)) := by rw [blk_cell (w := W.drew) g0]; rfl
  have a1 : W.drew.cell? ⟨w.heap.size, 1, none⟩ = some (.int .u64 (a.2.1.toNat : Int)) := by rw [blk_cell (w := W.drew) g0]; rfl
  have a2 : W.drew.cell? ⟨w.heap.size, 2, none⟩ = some (.int .u64 (a.2.2.toNat : Int)) := by rw [blk_cell (w := W.drew) g0]; rfl
  have b0 : W.drew.cell? ⟨w.heap.size + 1, 0, none⟩ = some (.int .u8 (b.1.toNat : Int)) := by rw [blk_cell (w := W.drew) g1]; rfl
  have b1 : W.drew.cell? ⟨w.heap.size + 1, 1, none⟩ = some (.int .u64 (b.2.1.toNat : Int)) := by rw [blk_cell (w := W.drew) g1]; rfl
  have b2 : W.drew.cell? ⟨w.heap.size + 1, 2, none⟩ = some (.int .u64 (b.2.2.toNat : Int)) := by rw [blk_cell (w := W.drew) g1]; rfl
  have HB := Lib.hid (show Below w.heap.size w W.drew from hb.drew)
  clear g0 g1 hb
  refine wp_region_still_tail 15 (by kernel_rfl) (by kernel_rfl) ?_
  simp only [List.take_succ_cons, List.take_zero, List.drop_succ_cons, List.drop_zero]
  change wpStill _ _ (World.drew W) _ _ _
  still_step
  still_step
  still_step
  still_step
  still_call (C1.out _)
  still_step
  still_step
  still_step
  still_step
  still_call (C2.out _)
  still_step
  still_step
  still_step
  still_step
  still_call (C3.out _)
  refine wpStill_nil ?_
  change wpList _ _ _ _ _ (World.drew W)
  generalize W.drew = W' at *
  clear a0 a1 a2 b0 b1 b2
  go_wp2_with fail
  refine (or3 x y z W'.heap.size _ _ (heap_alloc_new _ _)).mono ?_
  rintro e w3 ⟨rfl, rfl⟩
  go_wp2_with fail
  go_ret
  exact ⟨ret_bool HO.out, HB.out.alloc HB.out.size _⟩
theorem int_u8_eq {x c : UInt8} (h : x = c) : ((x.toNat : Int) == (c.toNat : Int)) = true := by rw [h]; simp
theorem int_u8_ne {x c : UInt8} (h : x ≠ c) : ((x.toNat : Int) == (c.toNat : Int)) = false := by rw [u8_eq]; simpa using h

set_option maxHeartbeats 1000000 in
theorem right (a : Ad) (w : World) : Calls Try.prog 31 #[encA a] w fun e w' => e = .returned (.bool (rightA a)) ∧ Below w.heap.size w w' := by
  obtain ⟨f, hi, lo⟩ := a
  have hc : f = 6 ∨ (f ≠ 6 ∧ f ≠ 4) ∨ (f = 4 ∧ hi ≠ 0) ∨ (f = 4 ∧ hi = 0 ∧ lo.toNat ≤ 4294967295) ∨ (f = 4 ∧ hi = 0 ∧ ¬ lo.toNat ≤ 4294967295) := by
    by_cases h6 : f = 6
    · exact .inl h6
    · by_cases h4 : f = 4
      · by_cases hh : hi = 0
        · by_cases hl : lo.toNat ≤ 4294967295
          · exact .inr (.inr (.inr (.inl ⟨h4, hh, hl⟩)))
          · exact .inr (.inr (.inr (.inr ⟨h4, hh, hl⟩)))
        · exact .inr (.inr (.inl ⟨h4, hh⟩))
      · exact .inr (.inl ⟨h6, h4⟩)
  have key : ∀ (b : Bool) (w' : World), rightA (f, hi, lo) = b → Below w.heap.size w w' → (Ending.returned (.bool b) = .returned (.bool (rightA (f, hi, lo))) ∧ Below w.heap.size w w') := fun b w' h k => ⟨by rw [h], k⟩
  have KEY := Lib.hid key
  clear key
  rcases hc with h | ⟨h, k⟩ | ⟨h, k⟩ | ⟨h, k, l⟩ | ⟨h, k, l⟩
  · have hv := Lib.hid (show rightA (f, hi, lo) = true by simp [rightA, h])
    have z6 : ((f.toNat : Int) == 6) = true := int_u8_eq (c := 6) h
    clear h
    go_enter Try.func31, Try.ntmps31
    go_wp2_with fail
    go_ret
    exact KEY.out _ _ hv.out ((Below.refl _ _).alloc (Nat.le_refl _) _)
  · have hv := Lib.hid (show rightA (f, hi, lo) = false by simp [rightA, h, k])
    have z6 : ((f.toNat : Int) == 6) = false := int_u8_ne (c := 6) h
    have z4 : ((f.toNat : Int) == 4) = false := int_u8_ne (c := 4) k
    clear h k
    go_enter Try.func31, Try.ntmps31
    go_wp2_with fail
    go_ret
    exact KEY.out _ _ hv.out ((Below.refl _ _).alloc (Nat.le_refl _) _)
  · have hv := Lib.hid (show rightA (f, hi, lo) = false by simp [rightA, h, k])
    have z6 : ((f.toNat : Int) == 6) = false := int_u8_ne (c := 6) (by rw [h]; decide)
    have z4 : ((f.toNat : Int) == 4) = true := int_u8_eq (c := 4) h
    have zh : ((hi.toNat : Int) == 0) = false := by have := u64_eq hi 0; simp at this; simpa [this] using k
    clear h k
    go_enter Try.func31, Try.ntmps31
    go_wp2_with fail
    go_ret
    exact KEY.out _ _ hv.out ((Below.refl _ _).alloc (Nat.le_refl _) _)
  · have hv := Lib.hid (show rightA (f, hi, lo) = true by simp [rightA, h, k, l])
    have z6 : ((f.toNat : Int) == 6) = false := int_u8_ne (c := 6) (by rw [h]; decide)
    have z4 : ((f.toNat : Int) == 4) = true := int_u8_eq (c := 4) h
    have zh : ((hi.toNat : Int) == 0) = true := by rw [k]; rfl
    have zl : (lo.toNat : Int) ≤ 4294967295 := by omega
    clear h k
    go_enter Try.func31, Try.ntmps31
    go_wp2_with fail
    go_ret
    exact KEY.out _ _ hv.out ((Below.refl _ _).alloc (Nat.le_refl _) _)
  · have hv := Lib.hid (show rightA (f, hi, lo) = false by simp [rightA, h, k, l])
    have z6 : ((f.toNat : Int) == 6) = false := int_u8_ne (c := 6) (by rw [h]; decide)
    have z4 : ((f.toNat : Int) == 4) = true := int_u8_eq (c := 4) h
    have zh : ((hi.toNat : Int) == 0) = true := by rw [k]; rfl
    have zl : ¬ (lo.toNat : Int) ≤ 4294967295 := by omega
    clear h k
    go_enter Try.func31, Try.ntmps31
    go_wp2_with fail
    go_ret
    exact KEY.out _ _ hv.out ((Below.refl _ _).alloc (Nat.le_refl _) _)
end Go.Proofs.Try.Pfx
