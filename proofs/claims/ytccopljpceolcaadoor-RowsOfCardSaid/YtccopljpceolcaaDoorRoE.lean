/- The document's rows: its parts. -/
import Derived.Test.YtccopljpceolcaaDoorMF
import Derived.Test.YtccopljpceolcaaDoorOkE
set_option linter.unusedVariables false
set_option linter.unusedSimpArgs false
set_option maxRecDepth 100000
namespace Go.Proofs.Tryd.Rows
open Go.RowKit Go.Cph Go.Cph.Ok Go.Proofs.Tryd.Nu Go.Proofs.Tryd.Ok
theorem rnum (n : UInt64) (w : World) : Calls Tryd.prog 59 #[.int .u64 (n.toNat : Int)] w fun e w' => e = .returned (encP ⟨false, ⟨#[]⟩, n⟩) ∧ Below w.heap.size w w' := by
  have hc := box_cells (heap_alloc_new w (boxR ⟨false, ⟨#[]⟩, n⟩))
  have c0 := hc.c0
  have c1 := hc.c1
  have c2 := hc.c2
  have HB := Lib.hid (show Below w.heap.size w (w.alloc (boxR ⟨false, ⟨#[]⟩, n⟩)) from (Below.refl _ _).alloc (Nat.le_refl _) _)
  clear hc
  go_enter Tryd.func59, Tryd.ntmps59
  go_wp2_with fail
  exact bodyPost_ret (v := encP ⟨false, ⟨#[]⟩, n⟩) (by simp [results, Tryd.results59, go_sem, c0, c1, c2]) rfl ⟨rfl, HB.out⟩
theorem rstr (s : ByteArray) (w : World) : Calls Tryd.prog 60 #[.string s] w fun e w' => e = .returned (encP ⟨true, s, 0⟩) ∧ Below w.heap.size w w' := by
  have hc := box_cells (heap_alloc_new w (boxR ⟨true, s, 0⟩))
  have c0 := hc.c0
  have c1 := hc.c1
  have c2 := hc.c2
  have HB := Lib.hid (show Below w.heap.size w (w.alloc (boxR ⟨true, s, 0⟩)) from (Below.refl _ _).alloc (Nat.le_refl _) _)
  clear hc
  go_enter Tryd.func60, Tryd.ntmps60
  go_wp2_with fail
  exact bodyPost_ret (v := encP ⟨true, s, 0⟩) (by simp [results, Tryd.results60, go_sem, c0, c1, c2]) rfl ⟨rfl, HB.out⟩
end Go.Proofs.Tryd.Rows
