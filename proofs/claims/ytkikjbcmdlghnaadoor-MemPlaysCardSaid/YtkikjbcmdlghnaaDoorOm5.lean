/- okey's Num, Str, Parts. -/
import Derived.Test.YtkikjbcmdlghnaaDoorOm2
import Derived.Deep.RegionHeld3
set_option linter.unusedVariables false
set_option linter.unusedSimpArgs false
set_option maxRecDepth 100000
namespace Go.Proofs.Tryd.Ok
open Go.RowKit Go.Cph Go.Cph.Ok Go.Proofs.Tryd.Nu
set_option maxHeartbeats 800000 in
theorem str_any (s : ByteArray) (w : World) : Calls Tryd.prog 24 #[.string s] w fun e w' => e = .returned (encP ⟨true, s, 0⟩) ∧ Below w.heap.size w w' := by
  have hc := box_cells (heap_alloc_new w (boxP ⟨true, s, 0⟩))
  have c0 := hc.c0
  have c1 := hc.c1
  have c2 := hc.c2
  have HB := Lib.hid (show Below w.heap.size w (w.alloc (boxP ⟨true, s, 0⟩)) from (Below.refl _ _).alloc (Nat.le_refl _) _)
  clear hc
  go_enter Tryd.func24, Tryd.ntmps24
  go_wp2_with fail
  exact bodyPost_ret (v := encP ⟨true, s, 0⟩) (by simp [results, Tryd.results24, go_sem, c0, c1, c2]) rfl ⟨rfl, HB.out⟩
end Go.Proofs.Tryd.Ok
