/- PoolsKnown. -/
import Derived.Test.YtbhnpndkdhhpfaaPsS
import Derived.Test.YtbhnpndkdhhpfaaPt2
set_option linter.unusedVariables false
set_option linter.unusedSimpArgs false
namespace Go.Proofs.Try.Pfx
open Go.RowKit Go.Cph Go.Cph.Px

def turnedL : List Pf := [((4, 0, 167903232), 16), ((4, 0, 167772416), 24), ((4, 0, 167772160), 16), ((4, 0, 167772160), 8)]
theorem kn1 (v : Value) (w : World) (h : PfsAt w v someL) : Calls Try.prog 27 #[v, .agg #[.int .u8 4, .int .u64 0, .int .u64 167772416, .int .i64 24]] w fun e w' => ∃ v', e = .returned (.tuple #[v', .int .i64 5]) ∧ w'.ownsRow w.heap.size TP 4 v' 0 (([] : List Pf).flatMap encC) ∧ Below w.heap.size w w' := by
  have hm : putE someL ((4, 0, 167772416), 24) = 5 := by decide +kernel
  have ho : outP someL ((4, 0, 167772416), 24) = [] := by decide +kernel
  refine (put_any v someL ((4, 0, 167772416), 24) w h (by decide)).mono fun e w' ⟨v', he, hr, hb⟩ => ⟨v', by rw [he, hm]; rfl, ?_, hb⟩
  rw [ho] at hr
  exact hr
theorem kn2 (v : Value) (w : World) (h : PfsAt w v someL) : Calls Try.prog 28 #[v, .agg #[.int .u8 4, .int .u64 0, .int .u64 150994944, .int .i64 8]] w fun e w' => ∃ v', e = .returned (.tuple #[v', .int .i64 4]) ∧ w'.ownsRow w.heap.size TP 4 v' 0 (([] : List Pf).flatMap encC) ∧ Below w.heap.size w w' := by
  have hm : dropE someL ((4, 0, 150994944), 8) = 4 := by decide +kernel
  have ho : outD someL ((4, 0, 150994944), 8) = [] := by decide +kernel
  refine (drop_any v someL ((4, 0, 150994944), 8) w h (by decide)).mono fun e w' ⟨v', he, hr, hb⟩ => ⟨v', by rw [he, hm]; rfl, ?_, hb⟩
  rw [ho] at hr
  exact hr
theorem kn3 (v : Value) (w : World) (h : PfsAt w v someL) : Calls Try.prog 28 #[v, .agg #[.int .u8 4, .int .u64 0, .int .u64 167772160, .int .i64 16]] w fun e w' => ∃ v', e = .returned (.tuple #[v', .int .i64 0]) ∧ w'.ownsRow w.heap.size TP 4 v' 3 (([((4, 0, 167772160), 8), ((4, 0, 167772416), 24), ((4, 0, 167903232), 16)] : List Pf).flatMap encC) ∧ Below w.heap.size w w' := by
  have hm : dropE someL ((4, 0, 167772160), 16) = 0 := by decide +kernel
  have ho : outD someL ((4, 0, 167772160), 16) = [((4, 0, 167772160), 8), ((4, 0, 167772416), 24), ((4, 0, 167903232), 16)] := by decide +kernel
  refine (drop_any v someL ((4, 0, 167772160), 16) w h (by decide)).mono fun e w' ⟨v', he, hr, hb⟩ => ⟨v', by rw [he, hm]; rfl, ?_, hb⟩
  rw [ho] at hr
  exact hr
theorem kn4 (v : Value) (w : World) (h : PfsAt w v turnedL) : Calls Try.prog 27 #[v, .agg #[.int .u8 4, .int .u64 0, .int .u64 150994944, .int .i64 8]] w fun e w' => ∃ v', e = .returned (.tuple #[v', .int .i64 1]) ∧ w'.ownsRow w.heap.size TP 4 v' 0 (([] : List Pf).flatMap encC) ∧ Below w.heap.size w w' := by
  have hm : putE turnedL ((4, 0, 150994944), 8) = 1 := by decide +kernel
  have ho : outP turnedL ((4, 0, 150994944), 8) = [] := by decide +kernel
  refine (put_any v turnedL ((4, 0, 150994944), 8) w h (by decide)).mono fun e w' ⟨v', he, hr, hb⟩ => ⟨v', by rw [he, hm]; rfl, ?_, hb⟩
  rw [ho] at hr
  exact hr
theorem kn5 (v : Value) (w : World) (h : PfsAt w v someL) : Calls Try.prog 27 #[v, .agg #[.int .u8 4, .int .u64 0, .int .u64 1, .int .i64 8]] w fun e w' => ∃ v', e = .returned (.tuple #[v', .int .i64 1]) ∧ w'.ownsRow w.heap.size TP 4 v' 0 (([] : List Pf).flatMap encC) ∧ Below w.heap.size w w' := by
  have hm : putE someL ((4, 0, 1), 8) = 1 := by decide +kernel
  have ho : outP someL ((4, 0, 1), 8) = [] := by decide +kernel
  refine (put_any v someL ((4, 0, 1), 8) w h (by decide)).mono fun e w' ⟨v', he, hr, hb⟩ => ⟨v', by rw [he, hm]; rfl, ?_, hb⟩
  rw [ho] at hr
  exact hr
theorem kn6 (v : Value) (w : World) (h : PfsAt w v someL) : Calls Try.prog 12 #[v, .agg #[.int .u8 4, .int .u64 0, .int .u64 184549376]] w fun e w' => e = .returned (.tuple #[.agg #[.int .u8 0, .int .u64 0, .int .u64 0, .int .i64 0], .bool false]) ∧ Below w.heap.size w w' := by
  have hm : mostL (fun p => hasP p (4, 0, 184549376)) someL = none := by decide +kernel
  exact (innermost v someL (4, 0, 184549376) w h (by decide)).mono fun e w' ⟨he, hb⟩ => ⟨by rw [he, hm]; rfl, hb⟩
theorem kn7 (v : Value) (w : World) (h : PfsAt w v someL) : Calls Try.prog 12 #[v, .agg #[.int .u8 4, .int .u64 0, .int .u64 167968768]] w fun e w' => e = .returned (.tuple #[.agg #[.int .u8 4, .int .u64 0, .int .u64 167772160, .int .i64 8], .bool true]) ∧ Below w.heap.size w w' := by
  have hm : mostL (fun p => hasP p (4, 0, 167968768)) someL = some ((4, 0, 167772160), 8) := by decide +kernel
  exact (innermost v someL (4, 0, 167968768) w h (by decide)).mono fun e w' ⟨he, hb⟩ => ⟨by rw [he, hm]; rfl, hb⟩
theorem kn8 (v : Value) (w : World) (h : PfsAt w v someL) : Calls Try.prog 15 #[v, .agg #[.int .u8 4, .int .u64 0, .int .u64 167903232, .int .i64 16]] w fun e w' => e = .returned (.tuple #[.agg #[.int .u8 4, .int .u64 0, .int .u64 167903232, .int .i64 16], .bool true]) ∧ Below w.heap.size w w' := by
  have hm : mostL (fun q => within ((4, 0, 167903232), 16) q) someL = some ((4, 0, 167903232), 16) := by decide +kernel
  exact (whole v someL ((4, 0, 167903232), 16) w h (by decide)).mono fun e w' ⟨he, hb⟩ => ⟨by rw [he, hm]; rfl, hb⟩
theorem kn9 (v : Value) (w : World) (h : PfsAt w v someL) : Calls Try.prog 15 #[v, .agg #[.int .u8 4, .int .u64 0, .int .u64 0, .int .i64 0]] w fun e w' => e = .returned (.tuple #[.agg #[.int .u8 0, .int .u64 0, .int .u64 0, .int .i64 0], .bool false]) ∧ Below w.heap.size w w' := by
  have hm : mostL (fun q => within ((4, 0, 0), 0) q) someL = none := by decide +kernel
  exact (whole v someL ((4, 0, 0), 0) w h (by decide)).mono fun e w' ⟨he, hb⟩ => ⟨by rw [he, hm]; rfl, hb⟩
theorem kn10 (v : Value) (w : World) (h : PfsAt w v someL) : Calls Try.prog 19 #[v, .agg #[.int .u8 4, .int .u64 0, .int .u64 0, .int .i64 0]] w (ListPost [((4, 0, 167772160), 8)] w) := by
  have hm : childrenL someL ((4, 0, 0), 0) = [((4, 0, 167772160), 8)] := by decide +kernel
  rw [← hm]
  exact children v someL ((4, 0, 0), 0) w h (by decide)
theorem kn11 (v : Value) (w : World) (h : PfsAt w v someL) : Calls Try.prog 19 #[v, .agg #[.int .u8 4, .int .u64 0, .int .u64 167772160, .int .i64 16]] w (ListPost [((4, 0, 167772416), 24)] w) := by
  have hm : childrenL someL ((4, 0, 167772160), 16) = [((4, 0, 167772416), 24)] := by decide +kernel
  rw [← hm]
  exact children v someL ((4, 0, 167772160), 16) w h (by decide)
theorem kn12 (v : Value) (w : World) (h : PfsAt w v someL) : Calls Try.prog 19 #[v, .agg #[.int .u8 4, .int .u64 0, .int .u64 167772416, .int .i64 24]] w (ListPost [] w) := by
  have hm : childrenL someL ((4, 0, 167772416), 24) = [] := by decide +kernel
  rw [← hm]
  exact children v someL ((4, 0, 167772416), 24) w h (by decide)
theorem kn13 (v : Value) (w : World) (h : PfsAt w v turnedL) : Calls Try.prog 30 #[v] w fun e w' => e = .returned (.bool false) ∧ Below w.heap.size w w' := by
  have hm : rightL turnedL = false := by decide +kernel
  rw [← hm]
  exact rightL_any v turnedL w h (by decide)
theorem kn14 (v : Value) (w : World) (h : PfsAt w v [((4, 0, 167772160), 8), ((4, 0, 167772160), 8)]) : Calls Try.prog 30 #[v] w fun e w' => e = .returned (.bool false) ∧ Below w.heap.size w w' := by
  have hm : rightL [((4, 0, 167772160), 8), ((4, 0, 167772160), 8)] = false := by decide +kernel
  rw [← hm]
  exact rightL_any v [((4, 0, 167772160), 8), ((4, 0, 167772160), 8)] w h (by decide)
theorem kn15 (v : Value) (w : World) (h : PfsAt w v someL) : Calls Try.prog 30 #[v] w fun e w' => e = .returned (.bool true) ∧ Below w.heap.size w w' := by
  have hm : rightL someL = true := by decide +kernel
  rw [← hm]
  exact rightL_any v someL w h (by decide)
theorem kn16 (w : World) : Calls Try.prog 30 #[.slice none 0 0] w fun e w' => e = .returned (.bool true) ∧ Below w.heap.size w w' := by
  have hm : rightL [] = true := by decide +kernel
  rw [← hm]
  exact rightL_any _ [] w (pfsNil w) (by decide)
end Go.Proofs.Try.Pfx
