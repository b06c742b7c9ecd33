/-
  No cell of these rows narrows 'for every input' (looked for: loops, veiled, ifaces, maps, wideKeys, modest, calm, conditions, laid).
  DERIVED. THE GIVEN ROWS OF THIS SEAT. 6 by the template 'for every input the law returns true; each argument reads behind the call as it read before'; 0 by the template 'total and deterministic' (their statements: YthcakgnendnekaaTotals.lean).
  GIVEN WITH THE SEED: the statements are not yours to turn. If you find one false, say at which input.
  Laid BY PROGRAM, IN A SANDBOX (cutbox-rows.mjs): the forced cells as the released guide's own fill.sh prints them over the translation 16e85af7d39a5f75… (all of the seat's roots in one cut). By AI agents, Wed Nov 11 2026. No macro, syntax, notation, axiom, sorry.
-/
import Derived.Test.YthcakgnendnekaaChecked
import GoSem.Claim
import GoSem.ClaimJoined
import GoSem.ClaimMapViews
import Derived.JoinedTies
import Derived.KernelRfl
namespace Go.Proofs.Ythcakgnendnekaa
/- THE CELL 'sum', in the pinned program and in every row, IS THE sha256 OF THE DUMP (.gsa) THAT YthcakgnendnekaaProg.lean LOADS. Nothing in Lean hashes anything: it is a label: what it is worth is what the hold of that sum in a sandbox is worth. -/
noncomputable def Try.pinned : Pinned := { name := "ythcakgnendnekaa", sum := "16e85af7d39a5f75a5783d049da0f5c8d80077fa72b48483f4a2cf146b3ceddf", checked := Try.checked }
namespace Rows
def none {H : Type} : Left H := { results := [], args := [] }

/-- 'copyholdlaw08.SkipBetween': WHATEVER THE INPUT: true; the input reads as it did. -/
def skipBetweenSpec : ChangeSpec := { name := "skipBetween", fn := fun _ => fun
  | [d1, d2, d3] => { results := [.lit (.bool true)], args := [d1, d2, d3] }
  | _ => none }
def skipBetweenRow : OpenClaim := { program := "ythcakgnendnekaa", sum := "16e85af7d39a5f75a5783d049da0f5c8d80077fa72b48483f4a2cf146b3ceddf", func := "copyhold/copyholdlaw08.SkipBetween", spec := "skipBetween", apart := false }
def SkipBetweenSaid : Prop := skipBetweenRow.holds Try.pinned (OpenSpec.ofChange skipBetweenSpec)

/-- ITS FALSE NEIGHBOUR: 'it returns false'. Refute it at one input. -/
def skipBetweenWrong : ChangeSpec := { name := "skipBetween", fn := fun _ => fun
  | [d1, d2, d3] => { results := [.lit (.bool false)], args := [d1, d2, d3] }
  | _ => none }
def SkipBetweenWrongFalsely : Prop := skipBetweenRow.holds Try.pinned (OpenSpec.ofChange skipBetweenWrong)

/-- 'copyholdlaw08.SkipFrom': WHATEVER THE INPUT: true; the input reads as it did. -/
def skipFromSpec : ChangeSpec := { name := "skipFrom", fn := fun _ => fun
  | [d1, d2, d3, d4] => { results := [.lit (.bool true)], args := [d1, d2, d3, d4] }
  | _ => none }
def skipFromRow : OpenClaim := { program := "ythcakgnendnekaa", sum := "16e85af7d39a5f75a5783d049da0f5c8d80077fa72b48483f4a2cf146b3ceddf", func := "copyhold/copyholdlaw08.SkipFrom", spec := "skipFrom", unfollowed := true, recurses := true, apart := false }
def SkipFromSaid : Prop := skipFromRow.holds Try.pinned (OpenSpec.ofChange skipFromSpec)

/-- ITS FALSE NEIGHBOUR: 'it returns false'. Refute it at one input. -/
def skipFromWrong : ChangeSpec := { name := "skipFrom", fn := fun _ => fun
  | [d1, d2, d3, d4] => { results := [.lit (.bool false)], args := [d1, d2, d3, d4] }
  | _ => none }
def SkipFromWrongFalsely : Prop := skipFromRow.holds Try.pinned (OpenSpec.ofChange skipFromWrong)

/-- 'copyholdlaw08.SkipSame': WHATEVER THE INPUT: true; the input reads as it did. -/
def skipSameSpec : ChangeSpec := { name := "skipSame", fn := fun _ => fun
  | [d1, d2, d3, d4] => { results := [.lit (.bool true)], args := [d1, d2, d3, d4] }
  | _ => none }
def skipSameRow : OpenClaim := { program := "ythcakgnendnekaa", sum := "16e85af7d39a5f75a5783d049da0f5c8d80077fa72b48483f4a2cf146b3ceddf", func := "copyhold/copyholdlaw08.SkipSame", spec := "skipSame", unfollowed := true, recurses := true, apart := false }
def SkipSameSaid : Prop := skipSameRow.holds Try.pinned (OpenSpec.ofChange skipSameSpec)

/-- ITS FALSE NEIGHBOUR: 'it returns false'. Refute it at one input. -/
def skipSameWrong : ChangeSpec := { name := "skipSame", fn := fun _ => fun
  | [d1, d2, d3, d4] => { results := [.lit (.bool false)], args := [d1, d2, d3, d4] }
  | _ => none }
def SkipSameWrongFalsely : Prop := skipSameRow.holds Try.pinned (OpenSpec.ofChange skipSameWrong)

/-- 'copyholdlaw08.SkipRows': WHATEVER THE INPUT: true; the input reads as it did. -/
def skipRowsSpec : ChangeSpec := { name := "skipRows", fn := fun _ => fun
  | [d] => { results := [.lit (.bool true)], args := [d] }
  | _ => none }
def skipRowsRow : OpenClaim := { program := "ythcakgnendnekaa", sum := "16e85af7d39a5f75a5783d049da0f5c8d80077fa72b48483f4a2cf146b3ceddf", func := "copyhold/copyholdlaw08.SkipRows", spec := "skipRows", apart := false }
def SkipRowsSaid : Prop := skipRowsRow.holds Try.pinned (OpenSpec.ofChange skipRowsSpec)

/-- ITS FALSE NEIGHBOUR: 'it returns false'. Refute it at one input. -/
def skipRowsWrong : ChangeSpec := { name := "skipRows", fn := fun _ => fun
  | [d] => { results := [.lit (.bool false)], args := [d] }
  | _ => none }
def SkipRowsWrongFalsely : Prop := skipRowsRow.holds Try.pinned (OpenSpec.ofChange skipRowsWrong)

/-- 'copyholdlaw08.SkipKnown': WHATEVER THE INPUT: true; the input reads as it did. -/
def skipKnownSpec : ChangeSpec := { name := "skipKnown", fn := fun _ => fun
  | [] => { results := [.lit (.bool true)], args := [] }
  | _ => none }
def skipKnownRow : OpenClaim := { program := "ythcakgnendnekaa", sum := "16e85af7d39a5f75a5783d049da0f5c8d80077fa72b48483f4a2cf146b3ceddf", func := "copyhold/copyholdlaw08.SkipKnown", spec := "skipKnown", apart := false }
def SkipKnownSaid : Prop := skipKnownRow.holds Try.pinned (OpenSpec.ofChange skipKnownSpec)

/-- ITS FALSE NEIGHBOUR: 'it returns false'. Refute it at one input. -/
def skipKnownWrong : ChangeSpec := { name := "skipKnown", fn := fun _ => fun
  | [] => { results := [.lit (.bool false)], args := [] }
  | _ => none }
def SkipKnownWrongFalsely : Prop := skipKnownRow.holds Try.pinned (OpenSpec.ofChange skipKnownWrong)

/-- 'copyholdlaw08.SkipPlays': WHATEVER THE INPUT: true; the input reads as it did. -/
def skipPlaysSpec : ChangeSpec := { name := "skipPlays", fn := fun _ => fun
  | [d1, d2] => { results := [.lit (.bool true)], args := [d1, d2] }
  | _ => none }
def skipPlaysRow : OpenClaim := { program := "ythcakgnendnekaa", sum := "16e85af7d39a5f75a5783d049da0f5c8d80077fa72b48483f4a2cf146b3ceddf", func := "copyhold/copyholdlaw08.SkipPlays", spec := "skipPlays", unfollowed := true, recurses := true, apart := false }
def SkipPlaysSaid : Prop := skipPlaysRow.holds Try.pinned (OpenSpec.ofChange skipPlaysSpec)

/-- ITS FALSE NEIGHBOUR: 'it returns false'. Refute it at one input. -/
def skipPlaysWrong : ChangeSpec := { name := "skipPlays", fn := fun _ => fun
  | [d1, d2] => { results := [.lit (.bool false)], args := [d1, d2] }
  | _ => none }
def SkipPlaysWrongFalsely : Prop := skipPlaysRow.holds Try.pinned (OpenSpec.ofChange skipPlaysWrong)

/- THE SECOND FORM. 'bulk': how many values and letters a reading holds, each counted each time it is reached (what is shared counts as often as it is met; a slice's spare places count too). A statement '..UptoSaid' is the law's where the arguments, and the package variables that the reading takes, are together of bulk at most 1048576: NARROWER than '..Said'. Prove '..Said' where nothing that the law and all that it calls make is longer than what came in: it says more and counts as full. Else prove '..UptoSaid'. A law counts once. -/
mutual
def uptoBulk {H : Type} : DataW H → Nat
  | .lit (.string bytes) => bytes.length + 1
  | .lit _ => 1
  | .nil => 1
  | .ptr d => uptoBulk d + 1
  | .slice elems spare => uptoBulkAll elems + uptoBulkAll spare + 1
  | .agg parts => uptoBulkAll parts + 1
  | .iface _ d => uptoBulk d + 1
  | .map entries => uptoBulkEntries entries + 1
  | .held _ => 1
def uptoBulkAll {H : Type} : List (DataW H) → Nat
  | [] => 0
  | d :: r => uptoBulk d + uptoBulkAll r
def uptoBulkEntries {H : Type} : List (Lit × DataW H) → Nat
  | [] => 0
  | x :: r => uptoBulkEntry x + uptoBulkEntries r
def uptoBulkEntry {H : Type} : Lit × DataW H → Nat
  | (.string bytes, d) => bytes.length + uptoBulk d + 1
  | (_, d) => uptoBulk d + 1
 end
def uptoSmall : (H : Type) → List (DataW H) → Bool := fun _ ds => decide (uptoBulkAll ds ≤ 1048576)
def OpenSpec.upto (s : _root_.Go.ChangeSpec) : _root_.Go.OpenSpec := { _root_.Go.OpenSpec.ofChange s with cond := some uptoSmall }

/-- 'copyholdlaw08.SkipBetween', WHERE WHAT IT READS IS OF BULK AT MOST 1048576: true; the input reads as it did. -/
def skipBetweenUptoRow : OpenClaim := { program := "ythcakgnendnekaa", sum := "16e85af7d39a5f75a5783d049da0f5c8d80077fa72b48483f4a2cf146b3ceddf", func := "copyhold/copyholdlaw08.SkipBetween", spec := "skipBetween", apart := false, narrowed := true }
def SkipBetweenUptoSaid : Prop := skipBetweenUptoRow.holds Try.pinned (OpenSpec.upto skipBetweenSpec)

/-- 'copyholdlaw08.SkipFrom', WHERE WHAT IT READS IS OF BULK AT MOST 1048576: true; the input reads as it did. -/
def skipFromUptoRow : OpenClaim := { program := "ythcakgnendnekaa", sum := "16e85af7d39a5f75a5783d049da0f5c8d80077fa72b48483f4a2cf146b3ceddf", func := "copyhold/copyholdlaw08.SkipFrom", spec := "skipFrom", unfollowed := true, recurses := true, apart := false, narrowed := true }
def SkipFromUptoSaid : Prop := skipFromUptoRow.holds Try.pinned (OpenSpec.upto skipFromSpec)

/-- 'copyholdlaw08.SkipSame', WHERE WHAT IT READS IS OF BULK AT MOST 1048576: true; the input reads as it did. -/
def skipSameUptoRow : OpenClaim := { program := "ythcakgnendnekaa", sum := "16e85af7d39a5f75a5783d049da0f5c8d80077fa72b48483f4a2cf146b3ceddf", func := "copyhold/copyholdlaw08.SkipSame", spec := "skipSame", unfollowed := true, recurses := true, apart := false, narrowed := true }
def SkipSameUptoSaid : Prop := skipSameUptoRow.holds Try.pinned (OpenSpec.upto skipSameSpec)

/-- 'copyholdlaw08.SkipRows', WHERE WHAT IT READS IS OF BULK AT MOST 1048576: true; the input reads as it did. -/
def skipRowsUptoRow : OpenClaim := { program := "ythcakgnendnekaa", sum := "16e85af7d39a5f75a5783d049da0f5c8d80077fa72b48483f4a2cf146b3ceddf", func := "copyhold/copyholdlaw08.SkipRows", spec := "skipRows", apart := false, narrowed := true }
def SkipRowsUptoSaid : Prop := skipRowsUptoRow.holds Try.pinned (OpenSpec.upto skipRowsSpec)

/-- 'copyholdlaw08.SkipKnown', WHERE WHAT IT READS IS OF BULK AT MOST 1048576: true; the input reads as it did. -/
def skipKnownUptoRow : OpenClaim := { program := "ythcakgnendnekaa", sum := "16e85af7d39a5f75a5783d049da0f5c8d80077fa72b48483f4a2cf146b3ceddf", func := "copyhold/copyholdlaw08.SkipKnown", spec := "skipKnown", apart := false, narrowed := true }
def SkipKnownUptoSaid : Prop := skipKnownUptoRow.holds Try.pinned (OpenSpec.upto skipKnownSpec)

/-- 'copyholdlaw08.SkipPlays', WHERE WHAT IT READS IS OF BULK AT MOST 1048576: true; the input reads as it did. -/
def skipPlaysUptoRow : OpenClaim := { program := "ythcakgnendnekaa", sum := "16e85af7d39a5f75a5783d049da0f5c8d80077fa72b48483f4a2cf146b3ceddf", func := "copyhold/copyholdlaw08.SkipPlays", spec := "skipPlays", unfollowed := true, recurses := true, apart := false, narrowed := true }
def SkipPlaysUptoSaid : Prop := skipPlaysUptoRow.holds Try.pinned (OpenSpec.upto skipPlaysSpec)

end Rows
end Go.Proofs.Ythcakgnendnekaa
