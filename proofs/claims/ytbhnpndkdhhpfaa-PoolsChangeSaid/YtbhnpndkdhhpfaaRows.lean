/-
  No cell of these rows narrows 'for every input' (looked for: loops, veiled, ifaces, maps, wideKeys, modest, calm, conditions, laid).
  DERIVED. THE GIVEN ROWS OF THIS SEAT. 6 by the template 'for every input the law returns true; each argument reads behind the call as it read before'; 0 by the template 'total and deterministic' (their statements: YtbhnpndkdhhpfaaTotals.lean).
  GIVEN WITH THE SEED: the statements are not yours to turn. If you find one false, say at which input.
  Laid BY PROGRAM, IN A SANDBOX (cutbox-rows.mjs): the forced cells as the released guide's own fill.sh prints them over the translation 939d56f2547d6175… (all of the seat's roots in one cut). By AI agents, Wed Nov 11 2026. No macro, syntax, notation, axiom, sorry.
-/
import Derived.Test.YtbhnpndkdhhpfaaChecked
import GoSem.Claim
import GoSem.ClaimJoined
import GoSem.ClaimMapViews
import Derived.JoinedTies
import Derived.KernelRfl
namespace Go.Proofs.Ytbhnpndkdhhpfaa
/- THE CELL 'sum', in the pinned program and in every row, IS THE sha256 OF THE DUMP (.gsa) THAT YtbhnpndkdhhpfaaProg.lean LOADS. Nothing in Lean hashes anything: it is a label: what it is worth is what the hold of that sum in a sandbox is worth. -/
noncomputable def Try.pinned : Pinned := { name := "ytbhnpndkdhhpfaa", sum := "939d56f2547d61751baa2d8608c508599963a2b4ffa0dc98483484848324bf1b", checked := Try.checked }
namespace Rows
def none {H : Type} : Left H := { results := [], args := [] }

/-- 'copyholdlaw22.PoolsFind': WHATEVER THE INPUT: true; the input reads as it did. -/
def poolsFindSpec : ChangeSpec := { name := "poolsFind", fn := fun _ => fun
  | [d1, d2, d3] => { results := [.lit (.bool true)], args := [d1, d2, d3] }
  | _ => none }
def poolsFindRow : OpenClaim := { program := "ytbhnpndkdhhpfaa", sum := "939d56f2547d61751baa2d8608c508599963a2b4ffa0dc98483484848324bf1b", func := "copyhold/copyholdlaw22.PoolsFind", spec := "poolsFind", inPlace := ["slices.overlaps[copyhold/cidr.Prefix]"], unfollowed := true, recurses := true, apart := false }
def PoolsFindSaid : Prop := poolsFindRow.holds Try.pinned (OpenSpec.ofChange poolsFindSpec)

/-- ITS FALSE NEIGHBOUR: 'it returns false'. Refute it at one input. -/
def poolsFindWrong : ChangeSpec := { name := "poolsFind", fn := fun _ => fun
  | [d1, d2, d3] => { results := [.lit (.bool false)], args := [d1, d2, d3] }
  | _ => none }
def PoolsFindWrongFalsely : Prop := poolsFindRow.holds Try.pinned (OpenSpec.ofChange poolsFindWrong)

/-- 'copyholdlaw22.PoolsOne': WHATEVER THE INPUT: true; the input reads as it did. -/
def poolsOneSpec : ChangeSpec := { name := "poolsOne", fn := fun _ => fun
  | [d1, d2, d3] => { results := [.lit (.bool true)], args := [d1, d2, d3] }
  | _ => none }
def poolsOneRow : OpenClaim := { program := "ytbhnpndkdhhpfaa", sum := "939d56f2547d61751baa2d8608c508599963a2b4ffa0dc98483484848324bf1b", func := "copyhold/copyholdlaw22.PoolsOne", spec := "poolsOne", inPlace := ["slices.overlaps[copyhold/cidr.Prefix]"], unfollowed := true, recurses := true, apart := false }
def PoolsOneSaid : Prop := poolsOneRow.holds Try.pinned (OpenSpec.ofChange poolsOneSpec)

/-- ITS FALSE NEIGHBOUR: 'it returns false'. Refute it at one input. -/
def poolsOneWrong : ChangeSpec := { name := "poolsOne", fn := fun _ => fun
  | [d1, d2, d3] => { results := [.lit (.bool false)], args := [d1, d2, d3] }
  | _ => none }
def PoolsOneWrongFalsely : Prop := poolsOneRow.holds Try.pinned (OpenSpec.ofChange poolsOneWrong)

/-- 'copyholdlaw22.PoolsChildren': WHATEVER THE INPUT: true; the input reads as it did. -/
def poolsChildrenSpec : ChangeSpec := { name := "poolsChildren", fn := fun _ => fun
  | [d1, d2] => { results := [.lit (.bool true)], args := [d1, d2] }
  | _ => none }
def poolsChildrenRow : OpenClaim := { program := "ytbhnpndkdhhpfaa", sum := "939d56f2547d61751baa2d8608c508599963a2b4ffa0dc98483484848324bf1b", func := "copyhold/copyholdlaw22.PoolsChildren", spec := "poolsChildren", inPlace := ["slices.overlaps[copyhold/cidr.Prefix]"], unfollowed := true, recurses := true, apart := false }
def PoolsChildrenSaid : Prop := poolsChildrenRow.holds Try.pinned (OpenSpec.ofChange poolsChildrenSpec)

/-- ITS FALSE NEIGHBOUR: 'it returns false'. Refute it at one input. -/
def poolsChildrenWrong : ChangeSpec := { name := "poolsChildren", fn := fun _ => fun
  | [d1, d2] => { results := [.lit (.bool false)], args := [d1, d2] }
  | _ => none }
def PoolsChildrenWrongFalsely : Prop := poolsChildrenRow.holds Try.pinned (OpenSpec.ofChange poolsChildrenWrong)

/-- 'copyholdlaw22.PoolsKnown': WHATEVER THE INPUT: true; the input reads as it did. -/
def poolsKnownSpec : ChangeSpec := { name := "poolsKnown", fn := fun _ => fun
  | [] => { results := [.lit (.bool true)], args := [] }
  | _ => none }
def poolsKnownRow : OpenClaim := { program := "ytbhnpndkdhhpfaa", sum := "939d56f2547d61751baa2d8608c508599963a2b4ffa0dc98483484848324bf1b", func := "copyhold/copyholdlaw22.PoolsKnown", spec := "poolsKnown", inPlace := ["slices.overlaps[copyhold/cidr.Prefix]"], unfollowed := true, recurses := true, apart := false }
def PoolsKnownSaid : Prop := poolsKnownRow.holds Try.pinned (OpenSpec.ofChange poolsKnownSpec)

/-- ITS FALSE NEIGHBOUR: 'it returns false'. Refute it at one input. -/
def poolsKnownWrong : ChangeSpec := { name := "poolsKnown", fn := fun _ => fun
  | [] => { results := [.lit (.bool false)], args := [] }
  | _ => none }
def PoolsKnownWrongFalsely : Prop := poolsKnownRow.holds Try.pinned (OpenSpec.ofChange poolsKnownWrong)

/-- 'copyholdlaw22.PoolsChange': WHATEVER THE INPUT: true; the input reads as it did. -/
def poolsChangeSpec : ChangeSpec := { name := "poolsChange", fn := fun _ => fun
  | [d1, d2] => { results := [.lit (.bool true)], args := [d1, d2] }
  | _ => none }
def poolsChangeRow : OpenClaim := { program := "ytbhnpndkdhhpfaa", sum := "939d56f2547d61751baa2d8608c508599963a2b4ffa0dc98483484848324bf1b", func := "copyhold/copyholdlaw22.PoolsChange", spec := "poolsChange", inPlace := ["slices.overlaps[copyhold/cidr.Prefix]"], unfollowed := true, recurses := true, apart := false }
def PoolsChangeSaid : Prop := poolsChangeRow.holds Try.pinned (OpenSpec.ofChange poolsChangeSpec)

/-- ITS FALSE NEIGHBOUR: 'it returns false'. Refute it at one input. -/
def poolsChangeWrong : ChangeSpec := { name := "poolsChange", fn := fun _ => fun
  | [d1, d2] => { results := [.lit (.bool false)], args := [d1, d2] }
  | _ => none }
def PoolsChangeWrongFalsely : Prop := poolsChangeRow.holds Try.pinned (OpenSpec.ofChange poolsChangeWrong)

/-- 'copyholdlaw22.PoolsRow': WHATEVER THE INPUT: true; the input reads as it did. -/
def poolsRowSpec : ChangeSpec := { name := "poolsRow", fn := fun _ => fun
  | [d1, d2, d3] => { results := [.lit (.bool true)], args := [d1, d2, d3] }
  | _ => none }
def poolsRowRow : OpenClaim := { program := "ytbhnpndkdhhpfaa", sum := "939d56f2547d61751baa2d8608c508599963a2b4ffa0dc98483484848324bf1b", func := "copyhold/copyholdlaw22.PoolsRow", spec := "poolsRow", inPlace := ["slices.overlaps[copyhold/cidr.Prefix]"], unfollowed := true, recurses := true, apart := false }
def PoolsRowSaid : Prop := poolsRowRow.holds Try.pinned (OpenSpec.ofChange poolsRowSpec)

/-- ITS FALSE NEIGHBOUR: 'it returns false'. Refute it at one input. -/
def poolsRowWrong : ChangeSpec := { name := "poolsRow", fn := fun _ => fun
  | [d1, d2, d3] => { results := [.lit (.bool false)], args := [d1, d2, d3] }
  | _ => none }
def PoolsRowWrongFalsely : Prop := poolsRowRow.holds Try.pinned (OpenSpec.ofChange poolsRowWrong)

/- THE SECOND FORM. 'bulk': how many values and letters a reading holds, each counted each time it is reached (what is shared counts as often as it is met; a slice's spare places count too). A statement '..UptoSaid' is the law's where the arguments, and the package variables that the reading takes, are together of bulk at most 1048576: NARROWER than '..Said'. Prove '..Said' where nothing that the law and all that it calls make is longer than what came in: it says more and counts as full. Else prove '..UptoSaid'. A law counts once. -/
mutual
def uptoBulk {H : Type} : DataW H → Nat
  | .lit (.string bytes) => bytes.length + 1
  | .lit _ => 1
  | .nil => 1
  | .ptr d => uptoBulk d + 1
  | .slice elems spare => uptoBulkAll elems + uptoBulkAll spare + 1
  | .agg parts => uptoBulkAll parts + 1
  | .iface _ d => uptoBulk d + 1
  | .map entries => uptoBulkEntries entries + 1
  | .held _ => 1
def uptoBulkAll {H : Type} : List (DataW H) → Nat
  | [] => 0
  | d :: r => uptoBulk d + uptoBulkAll r
def uptoBulkEntries {H : Type} : List (Lit × DataW H) → Nat
  | [] => 0
  | x :: r => uptoBulkEntry x + uptoBulkEntries r
def uptoBulkEntry {H : Type} : Lit × DataW H → Nat
  | (.string bytes, d) => bytes.length + uptoBulk d + 1
  | (_, d) => uptoBulk d + 1
 end
def uptoSmall : (H : Type) → List (DataW H) → Bool := fun _ ds => decide (uptoBulkAll ds ≤ 1048576)
def OpenSpec.upto (s : _root_.Go.ChangeSpec) : _root_.Go.OpenSpec := { _root_.Go.OpenSpec.ofChange s with cond := some uptoSmall }

/-- 'copyholdlaw22.PoolsFind', WHERE WHAT IT READS IS OF BULK AT MOST 1048576: true; the input reads as it did. -/
def poolsFindUptoRow : OpenClaim := { program := "ytbhnpndkdhhpfaa", sum := "939d56f2547d61751baa2d8608c508599963a2b4ffa0dc98483484848324bf1b", func := "copyhold/copyholdlaw22.PoolsFind", spec := "poolsFind", inPlace := ["slices.overlaps[copyhold/cidr.Prefix]"], unfollowed := true, recurses := true, apart := false, narrowed := true }
def PoolsFindUptoSaid : Prop := poolsFindUptoRow.holds Try.pinned (OpenSpec.upto poolsFindSpec)

/-- 'copyholdlaw22.PoolsOne', WHERE WHAT IT READS IS OF BULK AT MOST 1048576: true; the input reads as it did. -/
def poolsOneUptoRow : OpenClaim := { program := "ytbhnpndkdhhpfaa", sum := "939d56f2547d61751baa2d8608c508599963a2b4ffa0dc98483484848324bf1b", func := "copyhold/copyholdlaw22.PoolsOne", spec := "poolsOne", inPlace := ["slices.overlaps[copyhold/cidr.Prefix]"], unfollowed := true, recurses := true, apart := false, narrowed := true }
def PoolsOneUptoSaid : Prop := poolsOneUptoRow.holds Try.pinned (OpenSpec.upto poolsOneSpec)

/-- 'copyholdlaw22.PoolsChildren', WHERE WHAT IT READS IS OF BULK AT MOST 1048576: true; the input reads as it did. -/
def poolsChildrenUptoRow : OpenClaim := { program := "ytbhnpndkdhhpfaa", sum := "939d56f2547d61751baa2d8608c508599963a2b4ffa0dc98483484848324bf1b", func := "copyhold/copyholdlaw22.PoolsChildren", spec := "poolsChildren", inPlace := ["slices.overlaps[copyhold/cidr.Prefix]"], unfollowed := true, recurses := true, apart := false, narrowed := true }
def PoolsChildrenUptoSaid : Prop := poolsChildrenUptoRow.holds Try.pinned (OpenSpec.upto poolsChildrenSpec)

/-- 'copyholdlaw22.PoolsKnown', WHERE WHAT IT READS IS OF BULK AT MOST 1048576: true; the input reads as it did. -/
def poolsKnownUptoRow : OpenClaim := { program := "ytbhnpndkdhhpfaa", sum := "939d56f2547d61751baa2d8608c508599963a2b4ffa0dc98483484848324bf1b", func := "copyhold/copyholdlaw22.PoolsKnown", spec := "poolsKnown", inPlace := ["slices.overlaps[copyhold/cidr.Prefix]"], unfollowed := true, recurses := true, apart := false, narrowed := true }
def PoolsKnownUptoSaid : Prop := poolsKnownUptoRow.holds Try.pinned (OpenSpec.upto poolsKnownSpec)

/-- 'copyholdlaw22.PoolsChange', WHERE WHAT IT READS IS OF BULK AT MOST 1048576: true; the input reads as it did. -/
def poolsChangeUptoRow : OpenClaim := { program := "ytbhnpndkdhhpfaa", sum := "939d56f2547d61751baa2d8608c508599963a2b4ffa0dc98483484848324bf1b", func := "copyhold/copyholdlaw22.PoolsChange", spec := "poolsChange", inPlace := ["slices.overlaps[copyhold/cidr.Prefix]"], unfollowed := true, recurses := true, apart := false, narrowed := true }
def PoolsChangeUptoSaid : Prop := poolsChangeUptoRow.holds Try.pinned (OpenSpec.upto poolsChangeSpec)

/-- 'copyholdlaw22.PoolsRow', WHERE WHAT IT READS IS OF BULK AT MOST 1048576: true; the input reads as it did. -/
def poolsRowUptoRow : OpenClaim := { program := "ytbhnpndkdhhpfaa", sum := "939d56f2547d61751baa2d8608c508599963a2b4ffa0dc98483484848324bf1b", func := "copyhold/copyholdlaw22.PoolsRow", spec := "poolsRow", inPlace := ["slices.overlaps[copyhold/cidr.Prefix]"], unfollowed := true, recurses := true, apart := false, narrowed := true }
def PoolsRowUptoSaid : Prop := poolsRowUptoRow.holds Try.pinned (OpenSpec.upto poolsRowSpec)

end Rows
end Go.Proofs.Ytbhnpndkdhhpfaa
