/-
  No cell of these rows narrows 'for every input' (looked for: loops, veiled, ifaces, maps, wideKeys, modest, calm, conditions, laid).
  DERIVED. THE GIVEN ROWS OF THIS SEAT. 4 by the template 'for every input the law returns true; each argument reads behind the call as it read before'; 0 by the template 'total and deterministic' (their statements: YtkeaalacepjadaaTotals.lean).
  GIVEN WITH THE SEED: the statements are not yours to turn. If you find one false, say at which input.
  Laid BY PROGRAM, IN A SANDBOX (cutbox-rows.mjs): the forced cells as the released guide's own fill.sh prints them over the translation d0d4836306c4f47c… (all of the seat's roots in one cut). By AI agents, Wed Nov 11 2026. No macro, syntax, notation, axiom, sorry.
-/
import Derived.Test.YtkeaalacepjadaaChecked
import GoSem.Claim
import GoSem.ClaimJoined
import GoSem.ClaimMapViews
import Derived.JoinedTies
import Derived.KernelRfl
namespace Go.Proofs.Ytkeaalacepjadaa
/- THE CELL 'sum', in the pinned program and in every row, IS THE sha256 OF THE DUMP (.gsa) THAT YtkeaalacepjadaaProg.lean LOADS. Nothing in Lean hashes anything: it is a label: what it is worth is what the hold of that sum in a sandbox is worth. -/
noncomputable def Try.pinned : Pinned := { name := "ytkeaalacepjadaa", sum := "d0d4836306c4f47c3885bcd2a031b549e46d4db328c29d23d8c28598d5e57e6d", checked := Try.checked }
namespace Rows
def none {H : Type} : Left H := { results := [], args := [] }

/-- 'copyholdlaw14.VersionApplies': WHATEVER THE INPUT: true; the input reads as it did. -/
def versionAppliesSpec : ChangeSpec := { name := "versionApplies", fn := fun _ => fun
  | [d] => { results := [.lit (.bool true)], args := [d] }
  | _ => none }
def versionAppliesRow : OpenClaim := { program := "ytkeaalacepjadaa", sum := "d0d4836306c4f47c3885bcd2a031b549e46d4db328c29d23d8c28598d5e57e6d", func := "copyhold/copyholdlaw14.VersionApplies", spec := "versionApplies", unfollowed := true, recurses := true, apart := false }
def VersionAppliesSaid : Prop := versionAppliesRow.holds Try.pinned (OpenSpec.ofChange versionAppliesSpec)

/-- ITS FALSE NEIGHBOUR: 'it returns false'. Refute it at one input. -/
def versionAppliesWrong : ChangeSpec := { name := "versionApplies", fn := fun _ => fun
  | [d] => { results := [.lit (.bool false)], args := [d] }
  | _ => none }
def VersionAppliesWrongFalsely : Prop := versionAppliesRow.holds Try.pinned (OpenSpec.ofChange versionAppliesWrong)

/-- 'copyholdlaw14.VersionRight': WHATEVER THE INPUT: true; the input reads as it did. -/
def versionRightSpec : ChangeSpec := { name := "versionRight", fn := fun _ => fun
  | [d] => { results := [.lit (.bool true)], args := [d] }
  | _ => none }
def versionRightRow : OpenClaim := { program := "ytkeaalacepjadaa", sum := "d0d4836306c4f47c3885bcd2a031b549e46d4db328c29d23d8c28598d5e57e6d", func := "copyhold/copyholdlaw14.VersionRight", spec := "versionRight", unfollowed := true, recurses := true, apart := false }
def VersionRightSaid : Prop := versionRightRow.holds Try.pinned (OpenSpec.ofChange versionRightSpec)

/-- ITS FALSE NEIGHBOUR: 'it returns false'. Refute it at one input. -/
def versionRightWrong : ChangeSpec := { name := "versionRight", fn := fun _ => fun
  | [d] => { results := [.lit (.bool false)], args := [d] }
  | _ => none }
def VersionRightWrongFalsely : Prop := versionRightRow.holds Try.pinned (OpenSpec.ofChange versionRightWrong)

/-- 'copyholdlaw14.VersionHolds': WHATEVER THE INPUT: true; the input reads as it did. -/
def versionHoldsSpec : ChangeSpec := { name := "versionHolds", fn := fun _ => fun
  | [d1, d2] => { results := [.lit (.bool true)], args := [d1, d2] }
  | _ => none }
def versionHoldsRow : OpenClaim := { program := "ytkeaalacepjadaa", sum := "d0d4836306c4f47c3885bcd2a031b549e46d4db328c29d23d8c28598d5e57e6d", func := "copyhold/copyholdlaw14.VersionHolds", spec := "versionHolds", unfollowed := true, recurses := true, apart := false }
def VersionHoldsSaid : Prop := versionHoldsRow.holds Try.pinned (OpenSpec.ofChange versionHoldsSpec)

/-- ITS FALSE NEIGHBOUR: 'it returns false'. Refute it at one input. -/
def versionHoldsWrong : ChangeSpec := { name := "versionHolds", fn := fun _ => fun
  | [d1, d2] => { results := [.lit (.bool false)], args := [d1, d2] }
  | _ => none }
def VersionHoldsWrongFalsely : Prop := versionHoldsRow.holds Try.pinned (OpenSpec.ofChange versionHoldsWrong)

/-- 'copyholdlaw14.VersionBack': WHATEVER THE INPUT: true; the input reads as it did. -/
def versionBackSpec : ChangeSpec := { name := "versionBack", fn := fun _ => fun
  | [d] => { results := [.lit (.bool true)], args := [d] }
  | _ => none }
def versionBackRow : OpenClaim := { program := "ytkeaalacepjadaa", sum := "d0d4836306c4f47c3885bcd2a031b549e46d4db328c29d23d8c28598d5e57e6d", func := "copyhold/copyholdlaw14.VersionBack", spec := "versionBack", unfollowed := true, recurses := true, apart := false }
def VersionBackSaid : Prop := versionBackRow.holds Try.pinned (OpenSpec.ofChange versionBackSpec)

/-- ITS FALSE NEIGHBOUR: 'it returns false'. Refute it at one input. -/
def versionBackWrong : ChangeSpec := { name := "versionBack", fn := fun _ => fun
  | [d] => { results := [.lit (.bool false)], args := [d] }
  | _ => none }
def VersionBackWrongFalsely : Prop := versionBackRow.holds Try.pinned (OpenSpec.ofChange versionBackWrong)

/- THE SECOND FORM. 'bulk': how many values and letters a reading holds, each counted each time it is reached (what is shared counts as often as it is met; a slice's spare places count too). A statement '..UptoSaid' is the law's where the arguments, and the package variables that the reading takes, are together of bulk at most 1048576: NARROWER than '..Said'. Prove '..Said' where nothing that the law and all that it calls make is longer than what came in: it says more and counts as full. Else prove '..UptoSaid'. A law counts once. -/
mutual
def uptoBulk {H : Type} : DataW H → Nat
  | .lit (.string bytes) => bytes.length + 1
  | .lit _ => 1
  | .nil => 1
  | .ptr d => uptoBulk d + 1
  | .slice elems spare => uptoBulkAll elems + uptoBulkAll spare + 1
  | .agg parts => uptoBulkAll parts + 1
  | .iface _ d => uptoBulk d + 1
  | .map entries => uptoBulkEntries entries + 1
  | .held _ => 1
def uptoBulkAll {H : Type} : List (DataW H) → Nat
  | [] => 0
  | d :: r => uptoBulk d + uptoBulkAll r
def uptoBulkEntries {H : Type} : List (Lit × DataW H) → Nat
  | [] => 0
  | x :: r => uptoBulkEntry x + uptoBulkEntries r
def uptoBulkEntry {H : Type} : Lit × DataW H → Nat
  | (.string bytes, d) => bytes.length + uptoBulk d + 1
  | (_, d) => uptoBulk d + 1
 end
def uptoSmall : (H : Type) → List (DataW H) → Bool := fun _ ds => decide (uptoBulkAll ds ≤ 1048576)
def OpenSpec.upto (s : _root_.Go.ChangeSpec) : _root_.Go.OpenSpec := { _root_.Go.OpenSpec.ofChange s with cond := some uptoSmall }

/-- 'copyholdlaw14.VersionApplies', WHERE WHAT IT READS IS OF BULK AT MOST 1048576: true; the input reads as it did. -/
def versionAppliesUptoRow : OpenClaim := { program := "ytkeaalacepjadaa", sum := "d0d4836306c4f47c3885bcd2a031b549e46d4db328c29d23d8c28598d5e57e6d", func := "copyhold/copyholdlaw14.VersionApplies", spec := "versionApplies", unfollowed := true, recurses := true, apart := false, narrowed := true }
def VersionAppliesUptoSaid : Prop := versionAppliesUptoRow.holds Try.pinned (OpenSpec.upto versionAppliesSpec)

/-- 'copyholdlaw14.VersionRight', WHERE WHAT IT READS IS OF BULK AT MOST 1048576: true; the input reads as it did. -/
def versionRightUptoRow : OpenClaim := { program := "ytkeaalacepjadaa", sum := "d0d4836306c4f47c3885bcd2a031b549e46d4db328c29d23d8c28598d5e57e6d", func := "copyhold/copyholdlaw14.VersionRight", spec := "versionRight", unfollowed := true, recurses := true, apart := false, narrowed := true }
def VersionRightUptoSaid : Prop := versionRightUptoRow.holds Try.pinned (OpenSpec.upto versionRightSpec)

/-- 'copyholdlaw14.VersionHolds', WHERE WHAT IT READS IS OF BULK AT MOST 1048576: true; the input reads as it did. -/
def versionHoldsUptoRow : OpenClaim := { program := "ytkeaalacepjadaa", sum := "d0d4836306c4f47c3885bcd2a031b549e46d4db328c29d23d8c28598d5e57e6d", func := "copyhold/copyholdlaw14.VersionHolds", spec := "versionHolds", unfollowed := true, recurses := true, apart := false, narrowed := true }
def VersionHoldsUptoSaid : Prop := versionHoldsUptoRow.holds Try.pinned (OpenSpec.upto versionHoldsSpec)

/-- 'copyholdlaw14.VersionBack', WHERE WHAT IT READS IS OF BULK AT MOST 1048576: true; the input reads as it did. -/
def versionBackUptoRow : OpenClaim := { program := "ytkeaalacepjadaa", sum := "d0d4836306c4f47c3885bcd2a031b549e46d4db328c29d23d8c28598d5e57e6d", func := "copyhold/copyholdlaw14.VersionBack", spec := "versionBack", unfollowed := true, recurses := true, apart := false, narrowed := true }
def VersionBackUptoSaid : Prop := versionBackUptoRow.holds Try.pinned (OpenSpec.upto versionBackSpec)

end Rows
end Go.Proofs.Ytkeaalacepjadaa
