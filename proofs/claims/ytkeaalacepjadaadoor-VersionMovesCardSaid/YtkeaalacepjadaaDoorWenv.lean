/- What the row lays: the limits. -/
import Derived.Test.YtkeaalacepjadaaDoorWa3
import Derived.Test.YtkeaalacepjadaaDoorRows
import Derived.Test.YtkeaalacepjadaaDoorDoor
import Derived.Lib.LaidTab
set_option linter.unusedVariables false
set_option maxRecDepth 100000
namespace Go.Proofs.Tryd.Vr
open Go.RowKit Go.Cph
theorem lim_of {W : World} (h : laidMet Tryd.prog [("copyhold/version.limits", Go.Proofs.YtkeaalacepjadaaDoor.Rows.laid_copyhold_version_limits)] W) : LimAt W := by
  have h1 : laidMet Tryd.prog [("copyhold/version.limits", Lib.tabData .i64 [3, 4, 16])] W := h
  have t := Lib.tabIs_of_head (P := Tryd.prog) (g := 0) (t := 69) (e := 3) (n := 3) (by kernel_rfl) (by kernel_rfl) (by kernel_rfl) Tryd.underlying3 (by kernel_rfl) (by kernel_rfl) h1
  exact ⟨t.cell (g := 0) (by kernel_rfl) 0 (by decide), t.cell (g := 0) (by kernel_rfl) 1 (by decide), t.cell (g := 0) (by kernel_rfl) 2 (by decide)⟩
end Go.Proofs.Tryd.Vr
