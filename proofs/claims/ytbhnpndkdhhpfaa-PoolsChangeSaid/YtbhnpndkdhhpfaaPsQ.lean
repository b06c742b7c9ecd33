/- The law's own lists; awake. -/
import Derived.Test.YtbhnpndkdhhpfaaPsP
set_option linter.unusedVariables false
set_option linter.unusedSimpArgs false
namespace Go.Proofs.Try.Pfx
open Go.RowKit Go.Cph Go.Cph.Px

set_option maxHeartbeats 1000000 in
theorem p4_any (x bits : Int) (w : World) : Calls Try.prog 29 #[.int .u64 x, .int .i64 bits] w fun e w' => e = .returned (.agg #[.int .u8 4, .int .u64 0, .int .u64 x, .int .i64 bits]) ∧ Below w.heap.size w w' := by
  go_enter Try.func29, Try.ntmps29
  go_wp2_with fail
  exact bodyPost_ret (v := .agg #[.int .u8 4, .int .u64 0, .int .u64 x, .int .i64 bits]) (by simp [results, Try.results29, go_sem]) rfl ⟨rfl, (Below.refl _ _).alloc (Nat.le_refl _) _⟩
def someL : List Pf := [((4, 0, 167772160), 8), ((4, 0, 167772160), 16), ((4, 0, 167772416), 24), ((4, 0, 167903232), 16)]
theorem someC : someL.flatMap encC = [.int .u8 4, .int .u64 0, .int .u64 167772160, .int .i64 8, .int .u8 4, .int .u64 0, .int .u64 167772160, .int .i64 16, .int .u8 4, .int .u64 0, .int .u64 167772416, .int .i64 24, .int .u8 4, .int .u64 0, .int .u64 167903232, .int .i64 16] := by rfl
set_option maxRecDepth 100000 in
set_option maxHeartbeats 2000000 in
theorem some_any (w : World) : Calls Try.prog 26 #[] w (ListPost someL w) := by
  have HC := Lib.hid someC
  go_enter Try.func26, Try.ntmps26
  go_wp2_with fail
  refine (p4_any _ _ _).mono ?_
  rintro e w1 ⟨rfl, hb⟩
  have HB1 := Lib.hid hb
  clear hb
  go_wp2_with fail
  refine (p4_any _ _ _).mono ?_
  rintro e w2 ⟨rfl, hb⟩
  have HB2 := Lib.hid (below_step HB1.out hb HB1.out.size)
  clear hb
  go_wp2_with fail
  refine (p4_any _ _ _).mono ?_
  rintro e w3 ⟨rfl, hb⟩
  have HB3 := Lib.hid (below_step HB2.out hb HB2.out.size)
  clear hb
  go_wp2_with fail
  refine (p4_any _ _ _).mono ?_
  rintro e w4 ⟨rfl, hb⟩
  have HB4 := Lib.hid (below_step HB3.out hb HB3.out.size)
  clear hb
  go_wp2_with fail
  go_ret
  refine ⟨_, rfl, ⟨by rw [HC.out]; rfl, .inr ⟨w4.heap.size, 4, _, rfl, HB4.out.size, heap_alloc_new w4 _, Nat.le_refl _, by unfold maxLen; omega, rfl, by rw [HC.out]; rfl⟩⟩, HB4.out.alloc HB4.out.size _⟩
end Go.Proofs.Try.Pfx
