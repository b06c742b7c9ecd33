/- A skip list: From, called. -/
import Derived.Test.YthcakgnendnekaaSkF
open Go.RowKit Go.Cph Go.Cph.Skip
set_option linter.unusedVariables false
set_option linter.unusedSimpArgs false
namespace Go.Proofs.Try.SkS
/-- From's two boxes. -/
structure Boxes (v : Value) (key : ByteArray) (w w' : World) : Prop where
  list : w'.cell? ⟨w.heap.size, 0, none⟩ = some v
  key : w'.cell? ⟨w.heap.size + 1, 0, none⟩ = some (.string key)
  size : w'.heap.size = w.heap.size + 2
  bel : Below w.heap.size w w'
abbrev fromV (n : Nat) : Value := .func (.func 39) #[] #[.pointer (some ⟨n, 0, none⟩), .pointer (some ⟨n + 1, 0, none⟩)]
theorem run_from_nil (n : Nat) (w : World) : (binOp BinOp.eql 40 (fromV n) Value.nilFunc).run Try.prog w = .ok (.bool false) w := by kernel_rfl
theorem cFrom (ao : Option Addr) (key : ByteArray) (w : World) :
    Calls Try.prog 18 #[.pointer ao, .string key] w fun e w' => e = .returned (fromV w.heap.size) ∧ Boxes (.pointer ao) key w w' := by
  go_enter Try.func18, Try.ntmps18
  go_wp2_with fail
  go_ret
  refine ⟨by simp, ?_, ?_, by simp, ((Below.refl _ _).alloc (Nat.le_refl _) _).alloc (by simp) _⟩
  · rw [blk_cell (blk_alloc (heap_alloc_new _ _) _)]; rfl
  · have := heap_alloc_new (w.alloc (.cells #[.pointer ao] 25)) (.cells #[.string key] 9)
    rw [World.size_alloc] at this
    rw [blk_cell this]; rfl
end Go.Proofs.Try.SkS
