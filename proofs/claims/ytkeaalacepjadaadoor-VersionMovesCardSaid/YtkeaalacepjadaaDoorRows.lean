/-
  NARROWER THAN 'FOR EVERY INPUT', by the rows' own cells (each row's printed sentence says how): VersionFinds: laid · VersionKnown: laid · VersionMoves: laid.
  DERIVED. THE GIVEN ROWS OF THIS SEAT. 3 by the template 'for every input the law returns true; each argument reads behind the call as it read before'; 0 by the template 'total and deterministic' (their statements: YtkeaalacepjadaaDoorTotals.lean).
  GIVEN WITH THE SEED: the statements are not yours to turn. If you find one false, say at which input.
  Laid BY PROGRAM, IN A SANDBOX (cutbox-rows.mjs): the forced cells as the released guide's own fill.sh prints them over the translation 336b5fdf9dd6377e… (all of the seat's roots in one cut). By AI agents, Wed Nov 11 2026. No macro, syntax, notation, axiom, sorry.
-/
import Derived.Test.YtkeaalacepjadaaDoorChecked
import GoSem.Claim
import GoSem.ClaimJoined
import GoSem.ClaimMapViews
import Derived.JoinedTies
import Derived.KernelRfl
namespace Go.Proofs.YtkeaalacepjadaaDoor
/- THE CELL 'sum', in the pinned program and in every row, IS THE sha256 OF THE DUMP (.gsa) THAT YtkeaalacepjadaaDoorProg.lean LOADS. Nothing in Lean hashes anything: it is a label: what it is worth is what the hold of that sum in a sandbox is worth. -/
noncomputable def Tryd.pinned : Pinned := { name := "ytkeaalacepjadaadoor", sum := "336b5fdf9dd6377ea1fecd68c4ad90c3ddf8056b775dfb7478b9d654be831751", checked := Tryd.checked }
namespace Rows
def none {H : Type} : Left H := { results := [], args := [] }

/- WHAT THE LISTED PACKAGE-LEVEL VARIABLES READ AS WHEN THE CALL BEGINS. Each datum BY PROGRAM (the guide's laid-datum.mjs) off the statement by which the dump's own 'gosem.cut.vars' lays the variable. In a bare row this is a premise. The card (YtkeaalacepjadaaDoorCards.lean) ties it to the program's text. -/
def laid_copyhold_version_limits {H : Type} : DataW H := .agg [.lit (.int .i64 3), .lit (.int .i64 4), .lit (.int .i64 16)]

/-- 'copyholdlaw14.VersionFinds': WHATEVER THE INPUT: true; the input reads as it did. -/
def versionFindsSpec : ChangeSpec := { name := "versionFinds", fn := fun _ => fun
  | [d1, d2, d3, d4] => { results := [.lit (.bool true)], args := [d1, d2, d3, d4] }
  | _ => none }
def versionFindsRow : OpenClaim := { program := "ytkeaalacepjadaadoor", sum := "336b5fdf9dd6377ea1fecd68c4ad90c3ddf8056b775dfb7478b9d654be831751", func := "copyhold/copyholdlaw14.VersionFinds", spec := "versionFinds", unfollowed := true, recurses := true, named := ["copyhold/version.limits"], apart := false, laid := [("copyhold/version.limits", laid_copyhold_version_limits)] }
def VersionFindsSaid : Prop := versionFindsRow.holds Tryd.pinned (OpenSpec.ofChange versionFindsSpec)

/-- ITS FALSE NEIGHBOUR: 'it returns false'. Refute it at one input. -/
def versionFindsWrong : ChangeSpec := { name := "versionFinds", fn := fun _ => fun
  | [d1, d2, d3, d4] => { results := [.lit (.bool false)], args := [d1, d2, d3, d4] }
  | _ => none }
def VersionFindsWrongFalsely : Prop := versionFindsRow.holds Tryd.pinned (OpenSpec.ofChange versionFindsWrong)

/-- 'copyholdlaw14.VersionKnown': WHATEVER THE INPUT: true; the input reads as it did. -/
def versionKnownSpec : ChangeSpec := { name := "versionKnown", fn := fun _ => fun
  | [] => { results := [.lit (.bool true)], args := [] }
  | _ => none }
def versionKnownRow : OpenClaim := { program := "ytkeaalacepjadaadoor", sum := "336b5fdf9dd6377ea1fecd68c4ad90c3ddf8056b775dfb7478b9d654be831751", func := "copyhold/copyholdlaw14.VersionKnown", spec := "versionKnown", unfollowed := true, recurses := true, named := ["copyhold/version.limits"], apart := false, laid := [("copyhold/version.limits", laid_copyhold_version_limits)] }
def VersionKnownSaid : Prop := versionKnownRow.holds Tryd.pinned (OpenSpec.ofChange versionKnownSpec)

/-- ITS FALSE NEIGHBOUR: 'it returns false'. Refute it at one input. -/
def versionKnownWrong : ChangeSpec := { name := "versionKnown", fn := fun _ => fun
  | [] => { results := [.lit (.bool false)], args := [] }
  | _ => none }
def VersionKnownWrongFalsely : Prop := versionKnownRow.holds Tryd.pinned (OpenSpec.ofChange versionKnownWrong)

/-- 'copyholdlaw14.VersionMoves': WHATEVER THE INPUT: true; the input reads as it did. -/
def versionMovesSpec : ChangeSpec := { name := "versionMoves", fn := fun _ => fun
  | [d] => { results := [.lit (.bool true)], args := [d] }
  | _ => none }
def versionMovesRow : OpenClaim := { program := "ytkeaalacepjadaadoor", sum := "336b5fdf9dd6377ea1fecd68c4ad90c3ddf8056b775dfb7478b9d654be831751", func := "copyhold/copyholdlaw14.VersionMoves", spec := "versionMoves", unfollowed := true, recurses := true, named := ["copyhold/version.limits"], apart := false, laid := [("copyhold/version.limits", laid_copyhold_version_limits)] }
def VersionMovesSaid : Prop := versionMovesRow.holds Tryd.pinned (OpenSpec.ofChange versionMovesSpec)

/-- ITS FALSE NEIGHBOUR: 'it returns false'. Refute it at one input. -/
def versionMovesWrong : ChangeSpec := { name := "versionMoves", fn := fun _ => fun
  | [d] => { results := [.lit (.bool false)], args := [d] }
  | _ => none }
def VersionMovesWrongFalsely : Prop := versionMovesRow.holds Tryd.pinned (OpenSpec.ofChange versionMovesWrong)

/- THE SECOND FORM. 'bulk': how many values and letters a reading holds, each counted each time it is reached (what is shared counts as often as it is met; a slice's spare places count too). A statement '..UptoSaid' is the law's where the arguments, and the package variables that the reading takes, are together of bulk at most 1048576: NARROWER than '..Said'. Prove '..Said' where nothing that the law and all that it calls make is longer than what came in: it says more and counts as full. Else prove '..UptoSaid'. A law counts once. -/
mutual
def uptoBulk {H : Type} : DataW H → Nat
  | .lit (.string bytes) => bytes.length + 1
  | .lit _ => 1
  | .nil => 1
  | .ptr d => uptoBulk d + 1
  | .slice elems spare => uptoBulkAll elems + uptoBulkAll spare + 1
  | .agg parts => uptoBulkAll parts + 1
  | .iface _ d => uptoBulk d + 1
  | .map entries => uptoBulkEntries entries + 1
  | .held _ => 1
def uptoBulkAll {H : Type} : List (DataW H) → Nat
  | [] => 0
  | d :: r => uptoBulk d + uptoBulkAll r
def uptoBulkEntries {H : Type} : List (Lit × DataW H) → Nat
  | [] => 0
  | x :: r => uptoBulkEntry x + uptoBulkEntries r
def uptoBulkEntry {H : Type} : Lit × DataW H → Nat
  | (.string bytes, d) => bytes.length + uptoBulk d + 1
  | (_, d) => uptoBulk d + 1
 end
def uptoSmall : (H : Type) → List (DataW H) → Bool := fun _ ds => decide (uptoBulkAll ds ≤ 1048576)
def OpenSpec.upto (s : _root_.Go.ChangeSpec) : _root_.Go.OpenSpec := { _root_.Go.OpenSpec.ofChange s with cond := some uptoSmall }

/-- 'copyholdlaw14.VersionFinds', WHERE WHAT IT READS IS OF BULK AT MOST 1048576: true; the input reads as it did. -/
def versionFindsUptoRow : OpenClaim := { program := "ytkeaalacepjadaadoor", sum := "336b5fdf9dd6377ea1fecd68c4ad90c3ddf8056b775dfb7478b9d654be831751", func := "copyhold/copyholdlaw14.VersionFinds", spec := "versionFinds", unfollowed := true, recurses := true, named := ["copyhold/version.limits"], apart := false, laid := [("copyhold/version.limits", laid_copyhold_version_limits)], narrowed := true }
def VersionFindsUptoSaid : Prop := versionFindsUptoRow.holds Tryd.pinned (OpenSpec.upto versionFindsSpec)

/-- 'copyholdlaw14.VersionKnown', WHERE WHAT IT READS IS OF BULK AT MOST 1048576: true; the input reads as it did. -/
def versionKnownUptoRow : OpenClaim := { program := "ytkeaalacepjadaadoor", sum := "336b5fdf9dd6377ea1fecd68c4ad90c3ddf8056b775dfb7478b9d654be831751", func := "copyhold/copyholdlaw14.VersionKnown", spec := "versionKnown", unfollowed := true, recurses := true, named := ["copyhold/version.limits"], apart := false, laid := [("copyhold/version.limits", laid_copyhold_version_limits)], narrowed := true }
def VersionKnownUptoSaid : Prop := versionKnownUptoRow.holds Tryd.pinned (OpenSpec.upto versionKnownSpec)

/-- 'copyholdlaw14.VersionMoves', WHERE WHAT IT READS IS OF BULK AT MOST 1048576: true; the input reads as it did. -/
def versionMovesUptoRow : OpenClaim := { program := "ytkeaalacepjadaadoor", sum := "336b5fdf9dd6377ea1fecd68c4ad90c3ddf8056b775dfb7478b9d654be831751", func := "copyhold/copyholdlaw14.VersionMoves", spec := "versionMoves", unfollowed := true, recurses := true, named := ["copyhold/version.limits"], apart := false, laid := [("copyhold/version.limits", laid_copyhold_version_limits)], narrowed := true }
def VersionMovesUptoSaid : Prop := versionMovesUptoRow.holds Tryd.pinned (OpenSpec.upto versionMovesSpec)

end Rows
end Go.Proofs.YtkeaalacepjadaaDoor
