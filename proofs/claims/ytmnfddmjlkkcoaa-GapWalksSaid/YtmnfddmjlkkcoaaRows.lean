/-
  No cell of these rows narrows 'for every input' (looked for: loops, veiled, ifaces, maps, wideKeys, modest, calm, conditions, laid).
  DERIVED. THE GIVEN ROWS OF THIS SEAT. 6 by the template 'for every input the law returns true; each argument reads behind the call as it read before'; 0 by the template 'total and deterministic' (their statements: YtmnfddmjlkkcoaaTotals.lean).
  GIVEN WITH THE SEED: the statements are not yours to turn. If you find one false, say at which input.
  Laid BY PROGRAM, IN A SANDBOX (cutbox-rows.mjs): the forced cells as the released guide's own fill.sh prints them over the translation 9ddf3600e46dbee7… (all of the seat's roots in one cut). By AI agents, Wed Nov 11 2026. No macro, syntax, notation, axiom, sorry.
-/
import Derived.Test.YtmnfddmjlkkcoaaChecked
import GoSem.Claim
import GoSem.ClaimJoined
import GoSem.ClaimMapViews
import Derived.JoinedTies
import Derived.KernelRfl
namespace Go.Proofs.Ytmnfddmjlkkcoaa
/- THE CELL 'sum', in the pinned program and in every row, IS THE sha256 OF THE DUMP (.gsa) THAT YtmnfddmjlkkcoaaProg.lean LOADS. Nothing in Lean hashes anything: it is a label: what it is worth is what the hold of that sum in a sandbox is worth. -/
noncomputable def Try.pinned : Pinned := { name := "ytmnfddmjlkkcoaa", sum := "9ddf3600e46dbee7811873a6a6bd16ffe3f94e6ecb1141dbe1b93cef3441700b", checked := Try.checked }
namespace Rows
def none {H : Type} : Left H := { results := [], args := [] }

/-- 'copyholdlaw21.GapFrees': WHATEVER THE INPUT: true; the input reads as it did. -/
def gapFreesSpec : ChangeSpec := { name := "gapFrees", fn := fun _ => fun
  | [d1, d2, d3] => { results := [.lit (.bool true)], args := [d1, d2, d3] }
  | _ => none }
def gapFreesRow : OpenClaim := { program := "ytmnfddmjlkkcoaa", sum := "9ddf3600e46dbee7811873a6a6bd16ffe3f94e6ecb1141dbe1b93cef3441700b", func := "copyhold/copyholdlaw21.GapFrees", spec := "gapFrees", inPlace := ["math/bits.Add64"], unfollowed := true, recurses := true, apart := false }
def GapFreesSaid : Prop := gapFreesRow.holds Try.pinned (OpenSpec.ofChange gapFreesSpec)

/-- ITS FALSE NEIGHBOUR: 'it returns false'. Refute it at one input. -/
def gapFreesWrong : ChangeSpec := { name := "gapFrees", fn := fun _ => fun
  | [d1, d2, d3] => { results := [.lit (.bool false)], args := [d1, d2, d3] }
  | _ => none }
def GapFreesWrongFalsely : Prop := gapFreesRow.holds Try.pinned (OpenSpec.ofChange gapFreesWrong)

/-- 'copyholdlaw21.GapTurned': WHATEVER THE INPUT: true; the input reads as it did. -/
def gapTurnedSpec : ChangeSpec := { name := "gapTurned", fn := fun _ => fun
  | [d1, d2, d3] => { results := [.lit (.bool true)], args := [d1, d2, d3] }
  | _ => none }
def gapTurnedRow : OpenClaim := { program := "ytmnfddmjlkkcoaa", sum := "9ddf3600e46dbee7811873a6a6bd16ffe3f94e6ecb1141dbe1b93cef3441700b", func := "copyhold/copyholdlaw21.GapTurned", spec := "gapTurned", inPlace := ["math/bits.Add64"], unfollowed := true, recurses := true, apart := false }
def GapTurnedSaid : Prop := gapTurnedRow.holds Try.pinned (OpenSpec.ofChange gapTurnedSpec)

/-- ITS FALSE NEIGHBOUR: 'it returns false'. Refute it at one input. -/
def gapTurnedWrong : ChangeSpec := { name := "gapTurned", fn := fun _ => fun
  | [d1, d2, d3] => { results := [.lit (.bool false)], args := [d1, d2, d3] }
  | _ => none }
def GapTurnedWrongFalsely : Prop := gapTurnedRow.holds Try.pinned (OpenSpec.ofChange gapTurnedWrong)

/-- 'copyholdlaw21.GapLeast': WHATEVER THE INPUT: true; the input reads as it did. -/
def gapLeastSpec : ChangeSpec := { name := "gapLeast", fn := fun _ => fun
  | [d1, d2, d3] => { results := [.lit (.bool true)], args := [d1, d2, d3] }
  | _ => none }
def gapLeastRow : OpenClaim := { program := "ytmnfddmjlkkcoaa", sum := "9ddf3600e46dbee7811873a6a6bd16ffe3f94e6ecb1141dbe1b93cef3441700b", func := "copyhold/copyholdlaw21.GapLeast", spec := "gapLeast", inPlace := ["math/bits.Add64"], unfollowed := true, recurses := true, apart := false }
def GapLeastSaid : Prop := gapLeastRow.holds Try.pinned (OpenSpec.ofChange gapLeastSpec)

/-- ITS FALSE NEIGHBOUR: 'it returns false'. Refute it at one input. -/
def gapLeastWrong : ChangeSpec := { name := "gapLeast", fn := fun _ => fun
  | [d1, d2, d3] => { results := [.lit (.bool false)], args := [d1, d2, d3] }
  | _ => none }
def GapLeastWrongFalsely : Prop := gapLeastRow.holds Try.pinned (OpenSpec.ofChange gapLeastWrong)

/-- 'copyholdlaw21.GapKnown': WHATEVER THE INPUT: true; the input reads as it did. -/
def gapKnownSpec : ChangeSpec := { name := "gapKnown", fn := fun _ => fun
  | [] => { results := [.lit (.bool true)], args := [] }
  | _ => none }
def gapKnownRow : OpenClaim := { program := "ytmnfddmjlkkcoaa", sum := "9ddf3600e46dbee7811873a6a6bd16ffe3f94e6ecb1141dbe1b93cef3441700b", func := "copyhold/copyholdlaw21.GapKnown", spec := "gapKnown", inPlace := ["math/bits.Add64"], unfollowed := true, recurses := true, apart := false }
def GapKnownSaid : Prop := gapKnownRow.holds Try.pinned (OpenSpec.ofChange gapKnownSpec)

/-- ITS FALSE NEIGHBOUR: 'it returns false'. Refute it at one input. -/
def gapKnownWrong : ChangeSpec := { name := "gapKnown", fn := fun _ => fun
  | [] => { results := [.lit (.bool false)], args := [] }
  | _ => none }
def GapKnownWrongFalsely : Prop := gapKnownRow.holds Try.pinned (OpenSpec.ofChange gapKnownWrong)

/-- 'copyholdlaw21.GapParts': WHATEVER THE INPUT: true; the input reads as it did. -/
def gapPartsSpec : ChangeSpec := { name := "gapParts", fn := fun _ => fun
  | [d1, d2, d3, d4] => { results := [.lit (.bool true)], args := [d1, d2, d3, d4] }
  | _ => none }
def gapPartsRow : OpenClaim := { program := "ytmnfddmjlkkcoaa", sum := "9ddf3600e46dbee7811873a6a6bd16ffe3f94e6ecb1141dbe1b93cef3441700b", func := "copyhold/copyholdlaw21.GapParts", spec := "gapParts", inPlace := ["math/bits.Add64"], unfollowed := true, recurses := true, apart := false }
def GapPartsSaid : Prop := gapPartsRow.holds Try.pinned (OpenSpec.ofChange gapPartsSpec)

/-- ITS FALSE NEIGHBOUR: 'it returns false'. Refute it at one input. -/
def gapPartsWrong : ChangeSpec := { name := "gapParts", fn := fun _ => fun
  | [d1, d2, d3, d4] => { results := [.lit (.bool false)], args := [d1, d2, d3, d4] }
  | _ => none }
def GapPartsWrongFalsely : Prop := gapPartsRow.holds Try.pinned (OpenSpec.ofChange gapPartsWrong)

/-- 'copyholdlaw21.GapWalks': WHATEVER THE INPUT: true; the input reads as it did. -/
def gapWalksSpec : ChangeSpec := { name := "gapWalks", fn := fun _ => fun
  | [d1, d2, d3] => { results := [.lit (.bool true)], args := [d1, d2, d3] }
  | _ => none }
def gapWalksRow : OpenClaim := { program := "ytmnfddmjlkkcoaa", sum := "9ddf3600e46dbee7811873a6a6bd16ffe3f94e6ecb1141dbe1b93cef3441700b", func := "copyhold/copyholdlaw21.GapWalks", spec := "gapWalks", inPlace := ["math/bits.Add64"], unfollowed := true, recurses := true, apart := false }
def GapWalksSaid : Prop := gapWalksRow.holds Try.pinned (OpenSpec.ofChange gapWalksSpec)

/-- ITS FALSE NEIGHBOUR: 'it returns false'. Refute it at one input. -/
def gapWalksWrong : ChangeSpec := { name := "gapWalks", fn := fun _ => fun
  | [d1, d2, d3] => { results := [.lit (.bool false)], args := [d1, d2, d3] }
  | _ => none }
def GapWalksWrongFalsely : Prop := gapWalksRow.holds Try.pinned (OpenSpec.ofChange gapWalksWrong)

/- THE SECOND FORM. 'bulk': how many values and letters a reading holds, each counted each time it is reached (what is shared counts as often as it is met; a slice's spare places count too). A statement '..UptoSaid' is the law's where the arguments, and the package variables that the reading takes, are together of bulk at most 1048576: NARROWER than '..Said'. Prove '..Said' where nothing that the law and all that it calls make is longer than what came in: it says more and counts as full. Else prove '..UptoSaid'. A law counts once. -/
mutual
def uptoBulk {H : Type} : DataW H → Nat
  | .lit (.string bytes) => bytes.length + 1
  | .lit _ => 1
  | .nil => 1
  | .ptr d => uptoBulk d + 1
  | .slice elems spare => uptoBulkAll elems + uptoBulkAll spare + 1
  | .agg parts => uptoBulkAll parts + 1
  | .iface _ d => uptoBulk d + 1
  | .map entries => uptoBulkEntries entries + 1
  | .held _ => 1
def uptoBulkAll {H : Type} : List (DataW H) → Nat
  | [] => 0
  | d :: r => uptoBulk d + uptoBulkAll r
def uptoBulkEntries {H : Type} : List (Lit × DataW H) → Nat
  | [] => 0
  | x :: r => uptoBulkEntry x + uptoBulkEntries r
def uptoBulkEntry {H : Type} : Lit × DataW H → Nat
  | (.string bytes, d) => bytes.length + uptoBulk d + 1
  | (_, d) => uptoBulk d + 1
 end
def uptoSmall : (H : Type) → List (DataW H) → Bool := fun _ ds => decide (uptoBulkAll ds ≤ 1048576)
def OpenSpec.upto (s : _root_.Go.ChangeSpec) : _root_.Go.OpenSpec := { _root_.Go.OpenSpec.ofChange s with cond := some uptoSmall }

/-- 'copyholdlaw21.GapFrees', WHERE WHAT IT READS IS OF BULK AT MOST 1048576: true; the input reads as it did. -/
def gapFreesUptoRow : OpenClaim := { program := "ytmnfddmjlkkcoaa", sum := "9ddf3600e46dbee7811873a6a6bd16ffe3f94e6ecb1141dbe1b93cef3441700b", func := "copyhold/copyholdlaw21.GapFrees", spec := "gapFrees", inPlace := ["math/bits.Add64"], unfollowed := true, recurses := true, apart := false, narrowed := true }
def GapFreesUptoSaid : Prop := gapFreesUptoRow.holds Try.pinned (OpenSpec.upto gapFreesSpec)

/-- 'copyholdlaw21.GapTurned', WHERE WHAT IT READS IS OF BULK AT MOST 1048576: true; the input reads as it did. -/
def gapTurnedUptoRow : OpenClaim := { program := "ytmnfddmjlkkcoaa", sum := "9ddf3600e46dbee7811873a6a6bd16ffe3f94e6ecb1141dbe1b93cef3441700b", func := "copyhold/copyholdlaw21.GapTurned", spec := "gapTurned", inPlace := ["math/bits.Add64"], unfollowed := true, recurses := true, apart := false, narrowed := true }
def GapTurnedUptoSaid : Prop := gapTurnedUptoRow.holds Try.pinned (OpenSpec.upto gapTurnedSpec)

/-- 'copyholdlaw21.GapLeast', WHERE WHAT IT READS IS OF BULK AT MOST 1048576: true; the input reads as it did. -/
def gapLeastUptoRow : OpenClaim := { program := "ytmnfddmjlkkcoaa", sum := "9ddf3600e46dbee7811873a6a6bd16ffe3f94e6ecb1141dbe1b93cef3441700b", func := "copyhold/copyholdlaw21.GapLeast", spec := "gapLeast", inPlace := ["math/bits.Add64"], unfollowed := true, recurses := true, apart := false, narrowed := true }
def GapLeastUptoSaid : Prop := gapLeastUptoRow.holds Try.pinned (OpenSpec.upto gapLeastSpec)

/-- 'copyholdlaw21.GapKnown', WHERE WHAT IT READS IS OF BULK AT MOST 1048576: true; the input reads as it did. -/
def gapKnownUptoRow : OpenClaim := { program := "ytmnfddmjlkkcoaa", sum := "9ddf3600e46dbee7811873a6a6bd16ffe3f94e6ecb1141dbe1b93cef3441700b", func := "copyhold/copyholdlaw21.GapKnown", spec := "gapKnown", inPlace := ["math/bits.Add64"], unfollowed := true, recurses := true, apart := false, narrowed := true }
def GapKnownUptoSaid : Prop := gapKnownUptoRow.holds Try.pinned (OpenSpec.upto gapKnownSpec)

/-- 'copyholdlaw21.GapParts', WHERE WHAT IT READS IS OF BULK AT MOST 1048576: true; the input reads as it did. -/
def gapPartsUptoRow : OpenClaim := { program := "ytmnfddmjlkkcoaa", sum := "9ddf3600e46dbee7811873a6a6bd16ffe3f94e6ecb1141dbe1b93cef3441700b", func := "copyhold/copyholdlaw21.GapParts", spec := "gapParts", inPlace := ["math/bits.Add64"], unfollowed := true, recurses := true, apart := false, narrowed := true }
def GapPartsUptoSaid : Prop := gapPartsUptoRow.holds Try.pinned (OpenSpec.upto gapPartsSpec)

/-- 'copyholdlaw21.GapWalks', WHERE WHAT IT READS IS OF BULK AT MOST 1048576: true; the input reads as it did. -/
def gapWalksUptoRow : OpenClaim := { program := "ytmnfddmjlkkcoaa", sum := "9ddf3600e46dbee7811873a6a6bd16ffe3f94e6ecb1141dbe1b93cef3441700b", func := "copyhold/copyholdlaw21.GapWalks", spec := "gapWalks", inPlace := ["math/bits.Add64"], unfollowed := true, recurses := true, apart := false, narrowed := true }
def GapWalksUptoSaid : Prop := gapWalksUptoRow.holds Try.pinned (OpenSpec.upto gapWalksSpec)

end Rows
end Go.Proofs.Ytmnfddmjlkkcoaa
