/-
  NARROWER THAN 'FOR EVERY INPUT', by the rows' own cells (each row's printed sentence says how): RowsKeys: laid · RowsPuts: laid · RowsOf: laid · RowsKnown: laid · RowsReads: laid · RowsApart: laid.
  DERIVED. THE GIVEN ROWS OF THIS SEAT. 6 by the template 'for every input the law returns true; each argument reads behind the call as it read before'; 0 by the template 'total and deterministic' (their statements: YtccopljpceolcaaDoorTotals.lean).
  GIVEN WITH THE SEED: the statements are not yours to turn. If you find one false, say at which input.
  Laid BY PROGRAM, IN A SANDBOX (cutbox-rows.mjs): the forced cells as the released guide's own fill.sh prints them over the translation 5ea845d87141a72d… (all of the seat's roots in one cut). By AI agents, Wed Nov 11 2026. No macro, syntax, notation, axiom, sorry.
-/
import Derived.Test.YtccopljpceolcaaDoorChecked
import GoSem.PinnedTables
import GoSem.Claim
import GoSem.ClaimJoined
import GoSem.ClaimMapViews
import Derived.JoinedTies
import Derived.KernelRfl
namespace Go.Proofs.YtccopljpceolcaaDoor
/- THE CELL 'sum', in the pinned program and in every row, IS THE sha256 OF THE DUMP (.gsa) THAT YtccopljpceolcaaDoorProg.lean LOADS. Nothing in Lean hashes anything: it is a label: what it is worth is what the hold of that sum in a sandbox is worth. -/
noncomputable def Tryd.pinned : Pinned := { name := "ytccopljpceolcaadoor", sum := "5ea845d87141a72ded3750ffc68f0ea8c30207eccb85956cd000853b1f933613", checked := Tryd.checked }
namespace Rows
def none {H : Type} : Left H := { results := [], args := [] }

/- WHAT THE LISTED PACKAGE-LEVEL VARIABLES READ AS WHEN THE CALL BEGINS. Each datum BY PROGRAM (the guide's laid-datum.mjs) off the statement by which the dump's own 'gosem.cut.vars' lays the variable. In a bare row this is a premise. The card (YtccopljpceolcaaDoorCards.lean) ties it to the program's text. -/
def laid_unicode_utf8_acceptRanges {H : Type} : DataW H := .agg [.agg [.lit (.int .u8 128), .lit (.int .u8 191)], .agg [.lit (.int .u8 160), .lit (.int .u8 191)], .agg [.lit (.int .u8 128), .lit (.int .u8 159)], .agg [.lit (.int .u8 144), .lit (.int .u8 191)], .agg [.lit (.int .u8 128), .lit (.int .u8 143)], .agg [.lit (.int .u8 0), .lit (.int .u8 0)], .agg [.lit (.int .u8 0), .lit (.int .u8 0)], .agg [.lit (.int .u8 0), .lit (.int .u8 0)], .agg [.lit (.int .u8 0), .lit (.int .u8 0)], .agg [.lit (.int .u8 0), .lit (.int .u8 0)], .agg [.lit (.int .u8 0), .lit (.int .u8 0)], .agg [.lit (.int .u8 0), .lit (.int .u8 0)], .agg [.lit (.int .u8 0), .lit (.int .u8 0)], .agg [.lit (.int .u8 0), .lit (.int .u8 0)], .agg [.lit (.int .u8 0), .lit (.int .u8 0)], .agg [.lit (.int .u8 0), .lit (.int .u8 0)]]
/-- One of Go's own tables, pinned by name: the form's constant. -/
def laid_unicode_utf8_first : DataW Unit := Go.Pinned.utf8First

/-- 'copyholdlaw23.RowsKeys': WHATEVER THE INPUT: true; the input reads as it did. -/
def rowsKeysSpec : ChangeSpec := { name := "rowsKeys", fn := fun _ => fun
  | [d1, d2, d3, d4] => { results := [.lit (.bool true)], args := [d1, d2, d3, d4] }
  | _ => none }
def rowsKeysRow : OpenClaim := { program := "ytccopljpceolcaadoor", sum := "5ea845d87141a72ded3750ffc68f0ea8c30207eccb85956cd000853b1f933613", func := "copyhold/copyholdlaw23.RowsKeys", spec := "rowsKeys", inPlace := ["internal/bytealg.CountString", "internal/bytealg.IndexByteString", "internal/bytealg.IndexString", "internal/abi.NoEscape", "internal/bytealg.MakeNoZero"], named := ["internal/bytealg.MaxLen", "unicode/utf8.first", "unicode/utf8.acceptRanges"], apart := false, laid := [("unicode/utf8.acceptRanges", laid_unicode_utf8_acceptRanges), ("unicode/utf8.first", laid_unicode_utf8_first)] }
def RowsKeysSaid : Prop := rowsKeysRow.holds Tryd.pinned (OpenSpec.ofChange rowsKeysSpec)

/-- ITS FALSE NEIGHBOUR: 'it returns false'. Refute it at one input. -/
def rowsKeysWrong : ChangeSpec := { name := "rowsKeys", fn := fun _ => fun
  | [d1, d2, d3, d4] => { results := [.lit (.bool false)], args := [d1, d2, d3, d4] }
  | _ => none }
def RowsKeysWrongFalsely : Prop := rowsKeysRow.holds Tryd.pinned (OpenSpec.ofChange rowsKeysWrong)

/-- 'copyholdlaw23.RowsPuts': WHATEVER THE INPUT: true; the input reads as it did. -/
def rowsPutsSpec : ChangeSpec := { name := "rowsPuts", fn := fun _ => fun
  | [d1, d2, d3, d4, d5] => { results := [.lit (.bool true)], args := [d1, d2, d3, d4, d5] }
  | _ => none }
def rowsPutsRow : OpenClaim := { program := "ytccopljpceolcaadoor", sum := "5ea845d87141a72ded3750ffc68f0ea8c30207eccb85956cd000853b1f933613", func := "copyhold/copyholdlaw23.RowsPuts", spec := "rowsPuts", inPlace := ["internal/bytealg.CountString", "internal/bytealg.IndexByteString", "internal/bytealg.IndexString", "internal/abi.NoEscape", "internal/bytealg.MakeNoZero"], named := ["internal/bytealg.MaxLen", "unicode/utf8.first", "unicode/utf8.acceptRanges"], apart := false, laid := [("unicode/utf8.acceptRanges", laid_unicode_utf8_acceptRanges), ("unicode/utf8.first", laid_unicode_utf8_first)] }
def RowsPutsSaid : Prop := rowsPutsRow.holds Tryd.pinned (OpenSpec.ofChange rowsPutsSpec)

/-- ITS FALSE NEIGHBOUR: 'it returns false'. Refute it at one input. -/
def rowsPutsWrong : ChangeSpec := { name := "rowsPuts", fn := fun _ => fun
  | [d1, d2, d3, d4, d5] => { results := [.lit (.bool false)], args := [d1, d2, d3, d4, d5] }
  | _ => none }
def RowsPutsWrongFalsely : Prop := rowsPutsRow.holds Tryd.pinned (OpenSpec.ofChange rowsPutsWrong)

/-- 'copyholdlaw23.RowsOf': WHATEVER THE INPUT: true; the input reads as it did. -/
def rowsOfSpec : ChangeSpec := { name := "rowsOf", fn := fun _ => fun
  | [d] => { results := [.lit (.bool true)], args := [d] }
  | _ => none }
def rowsOfRow : OpenClaim := { program := "ytccopljpceolcaadoor", sum := "5ea845d87141a72ded3750ffc68f0ea8c30207eccb85956cd000853b1f933613", func := "copyhold/copyholdlaw23.RowsOf", spec := "rowsOf", inPlace := ["internal/bytealg.IndexByteString", "internal/abi.NoEscape", "internal/bytealg.CountString", "internal/bytealg.IndexString", "internal/bytealg.MakeNoZero"], named := ["internal/bytealg.MaxLen", "unicode/utf8.first", "unicode/utf8.acceptRanges"], apart := false, laid := [("unicode/utf8.acceptRanges", laid_unicode_utf8_acceptRanges), ("unicode/utf8.first", laid_unicode_utf8_first)] }
def RowsOfSaid : Prop := rowsOfRow.holds Tryd.pinned (OpenSpec.ofChange rowsOfSpec)

/-- ITS FALSE NEIGHBOUR: 'it returns false'. Refute it at one input. -/
def rowsOfWrong : ChangeSpec := { name := "rowsOf", fn := fun _ => fun
  | [d] => { results := [.lit (.bool false)], args := [d] }
  | _ => none }
def RowsOfWrongFalsely : Prop := rowsOfRow.holds Tryd.pinned (OpenSpec.ofChange rowsOfWrong)

/-- 'copyholdlaw23.RowsKnown': WHATEVER THE INPUT: true; the input reads as it did. -/
def rowsKnownSpec : ChangeSpec := { name := "rowsKnown", fn := fun _ => fun
  | [] => { results := [.lit (.bool true)], args := [] }
  | _ => none }
def rowsKnownRow : OpenClaim := { program := "ytccopljpceolcaadoor", sum := "5ea845d87141a72ded3750ffc68f0ea8c30207eccb85956cd000853b1f933613", func := "copyhold/copyholdlaw23.RowsKnown", spec := "rowsKnown", inPlace := ["internal/bytealg.CountString", "internal/bytealg.IndexByteString", "internal/bytealg.IndexString", "internal/abi.NoEscape", "internal/bytealg.MakeNoZero"], named := ["internal/bytealg.MaxLen", "unicode/utf8.first", "unicode/utf8.acceptRanges"], apart := false, laid := [("unicode/utf8.acceptRanges", laid_unicode_utf8_acceptRanges), ("unicode/utf8.first", laid_unicode_utf8_first)] }
def RowsKnownSaid : Prop := rowsKnownRow.holds Tryd.pinned (OpenSpec.ofChange rowsKnownSpec)

/-- ITS FALSE NEIGHBOUR: 'it returns false'. Refute it at one input. -/
def rowsKnownWrong : ChangeSpec := { name := "rowsKnown", fn := fun _ => fun
  | [] => { results := [.lit (.bool false)], args := [] }
  | _ => none }
def RowsKnownWrongFalsely : Prop := rowsKnownRow.holds Tryd.pinned (OpenSpec.ofChange rowsKnownWrong)

/-- 'copyholdlaw23.RowsReads': WHATEVER THE INPUT: true; the input reads as it did. -/
def rowsReadsSpec : ChangeSpec := { name := "rowsReads", fn := fun _ => fun
  | [d] => { results := [.lit (.bool true)], args := [d] }
  | _ => none }
def rowsReadsRow : OpenClaim := { program := "ytccopljpceolcaadoor", sum := "5ea845d87141a72ded3750ffc68f0ea8c30207eccb85956cd000853b1f933613", func := "copyhold/copyholdlaw23.RowsReads", spec := "rowsReads", inPlace := ["internal/bytealg.CountString", "internal/bytealg.IndexByteString", "internal/bytealg.IndexString", "internal/abi.NoEscape", "internal/bytealg.MakeNoZero"], named := ["internal/bytealg.MaxLen", "unicode/utf8.first", "unicode/utf8.acceptRanges"], apart := false, laid := [("unicode/utf8.acceptRanges", laid_unicode_utf8_acceptRanges), ("unicode/utf8.first", laid_unicode_utf8_first)] }
def RowsReadsSaid : Prop := rowsReadsRow.holds Tryd.pinned (OpenSpec.ofChange rowsReadsSpec)

/-- ITS FALSE NEIGHBOUR: 'it returns false'. Refute it at one input. -/
def rowsReadsWrong : ChangeSpec := { name := "rowsReads", fn := fun _ => fun
  | [d] => { results := [.lit (.bool false)], args := [d] }
  | _ => none }
def RowsReadsWrongFalsely : Prop := rowsReadsRow.holds Tryd.pinned (OpenSpec.ofChange rowsReadsWrong)

/-- 'copyholdlaw23.RowsApart': WHATEVER THE INPUT: true; the input reads as it did. -/
def rowsApartSpec : ChangeSpec := { name := "rowsApart", fn := fun _ => fun
  | [d1, d2, d3, d4, d5, d6, d7] => { results := [.lit (.bool true)], args := [d1, d2, d3, d4, d5, d6, d7] }
  | _ => none }
def rowsApartRow : OpenClaim := { program := "ytccopljpceolcaadoor", sum := "5ea845d87141a72ded3750ffc68f0ea8c30207eccb85956cd000853b1f933613", func := "copyhold/copyholdlaw23.RowsApart", spec := "rowsApart", inPlace := ["internal/bytealg.CountString", "internal/bytealg.IndexByteString", "internal/bytealg.IndexString", "internal/abi.NoEscape", "internal/bytealg.MakeNoZero"], named := ["internal/bytealg.MaxLen", "unicode/utf8.first", "unicode/utf8.acceptRanges"], apart := false, laid := [("unicode/utf8.acceptRanges", laid_unicode_utf8_acceptRanges), ("unicode/utf8.first", laid_unicode_utf8_first)] }
def RowsApartSaid : Prop := rowsApartRow.holds Tryd.pinned (OpenSpec.ofChange rowsApartSpec)

/-- ITS FALSE NEIGHBOUR: 'it returns false'. Refute it at one input. -/
def rowsApartWrong : ChangeSpec := { name := "rowsApart", fn := fun _ => fun
  | [d1, d2, d3, d4, d5, d6, d7] => { results := [.lit (.bool false)], args := [d1, d2, d3, d4, d5, d6, d7] }
  | _ => none }
def RowsApartWrongFalsely : Prop := rowsApartRow.holds Tryd.pinned (OpenSpec.ofChange rowsApartWrong)

/- THE SECOND FORM. 'bulk': how many values and letters a reading holds, each counted each time it is reached (what is shared counts as often as it is met; a slice's spare places count too). A statement '..UptoSaid' is the law's where the arguments, and the package variables that the reading takes, are together of bulk at most 1048576: NARROWER than '..Said'. Prove '..Said' where nothing that the law and all that it calls make is longer than what came in: it says more and counts as full. Else prove '..UptoSaid'. A law counts once. -/
mutual
def uptoBulk {H : Type} : DataW H → Nat
  | .lit (.string bytes) => bytes.length + 1
  | .lit _ => 1
  | .nil => 1
  | .ptr d => uptoBulk d + 1
  | .slice elems spare => uptoBulkAll elems + uptoBulkAll spare + 1
  | .agg parts => uptoBulkAll parts + 1
  | .iface _ d => uptoBulk d + 1
  | .map entries => uptoBulkEntries entries + 1
  | .held _ => 1
def uptoBulkAll {H : Type} : List (DataW H) → Nat
  | [] => 0
  | d :: r => uptoBulk d + uptoBulkAll r
def uptoBulkEntries {H : Type} : List (Lit × DataW H) → Nat
  | [] => 0
  | x :: r => uptoBulkEntry x + uptoBulkEntries r
def uptoBulkEntry {H : Type} : Lit × DataW H → Nat
  | (.string bytes, d) => bytes.length + uptoBulk d + 1
  | (_, d) => uptoBulk d + 1
 end
def uptoSmall : (H : Type) → List (DataW H) → Bool := fun _ ds => decide (uptoBulkAll ds ≤ 1048576)
def OpenSpec.upto (s : _root_.Go.ChangeSpec) : _root_.Go.OpenSpec := { _root_.Go.OpenSpec.ofChange s with cond := some uptoSmall }

/-- 'copyholdlaw23.RowsKeys', WHERE WHAT IT READS IS OF BULK AT MOST 1048576: true; the input reads as it did. -/
def rowsKeysUptoRow : OpenClaim := { program := "ytccopljpceolcaadoor", sum := "5ea845d87141a72ded3750ffc68f0ea8c30207eccb85956cd000853b1f933613", func := "copyhold/copyholdlaw23.RowsKeys", spec := "rowsKeys", inPlace := ["internal/bytealg.CountString", "internal/bytealg.IndexByteString", "internal/bytealg.IndexString", "internal/abi.NoEscape", "internal/bytealg.MakeNoZero"], named := ["internal/bytealg.MaxLen", "unicode/utf8.first", "unicode/utf8.acceptRanges"], apart := false, laid := [("unicode/utf8.acceptRanges", laid_unicode_utf8_acceptRanges), ("unicode/utf8.first", laid_unicode_utf8_first)], narrowed := true }
def RowsKeysUptoSaid : Prop := rowsKeysUptoRow.holds Tryd.pinned (OpenSpec.upto rowsKeysSpec)

/-- 'copyholdlaw23.RowsPuts', WHERE WHAT IT READS IS OF BULK AT MOST 1048576: true; the input reads as it did. -/
def rowsPutsUptoRow : OpenClaim := { program := "ytccopljpceolcaadoor", sum := "5ea845d87141a72ded3750ffc68f0ea8c30207eccb85956cd000853b1f933613", func := "copyhold/copyholdlaw23.RowsPuts", spec := "rowsPuts", inPlace := ["internal/bytealg.CountString", "internal/bytealg.IndexByteString", "internal/bytealg.IndexString", "internal/abi.NoEscape", "internal/bytealg.MakeNoZero"], named := ["internal/bytealg.MaxLen", "unicode/utf8.first", "unicode/utf8.acceptRanges"], apart := false, laid := [("unicode/utf8.acceptRanges", laid_unicode_utf8_acceptRanges), ("unicode/utf8.first", laid_unicode_utf8_first)], narrowed := true }
def RowsPutsUptoSaid : Prop := rowsPutsUptoRow.holds Tryd.pinned (OpenSpec.upto rowsPutsSpec)

/-- 'copyholdlaw23.RowsOf', WHERE WHAT IT READS IS OF BULK AT MOST 1048576: true; the input reads as it did. -/
def rowsOfUptoRow : OpenClaim := { program := "ytccopljpceolcaadoor", sum := "5ea845d87141a72ded3750ffc68f0ea8c30207eccb85956cd000853b1f933613", func := "copyhold/copyholdlaw23.RowsOf", spec := "rowsOf", inPlace := ["internal/bytealg.IndexByteString", "internal/abi.NoEscape", "internal/bytealg.CountString", "internal/bytealg.IndexString", "internal/bytealg.MakeNoZero"], named := ["internal/bytealg.MaxLen", "unicode/utf8.first", "unicode/utf8.acceptRanges"], apart := false, laid := [("unicode/utf8.acceptRanges", laid_unicode_utf8_acceptRanges), ("unicode/utf8.first", laid_unicode_utf8_first)], narrowed := true }
def RowsOfUptoSaid : Prop := rowsOfUptoRow.holds Tryd.pinned (OpenSpec.upto rowsOfSpec)

/-- 'copyholdlaw23.RowsKnown', WHERE WHAT IT READS IS OF BULK AT MOST 1048576: true; the input reads as it did. -/
def rowsKnownUptoRow : OpenClaim := { program := "ytccopljpceolcaadoor", sum := "5ea845d87141a72ded3750ffc68f0ea8c30207eccb85956cd000853b1f933613", func := "copyhold/copyholdlaw23.RowsKnown", spec := "rowsKnown", inPlace := ["internal/bytealg.CountString", "internal/bytealg.IndexByteString", "internal/bytealg.IndexString", "internal/abi.NoEscape", "internal/bytealg.MakeNoZero"], named := ["internal/bytealg.MaxLen", "unicode/utf8.first", "unicode/utf8.acceptRanges"], apart := false, laid := [("unicode/utf8.acceptRanges", laid_unicode_utf8_acceptRanges), ("unicode/utf8.first", laid_unicode_utf8_first)], narrowed := true }
def RowsKnownUptoSaid : Prop := rowsKnownUptoRow.holds Tryd.pinned (OpenSpec.upto rowsKnownSpec)

/-- 'copyholdlaw23.RowsReads', WHERE WHAT IT READS IS OF BULK AT MOST 1048576: true; the input reads as it did. -/
def rowsReadsUptoRow : OpenClaim := { program := "ytccopljpceolcaadoor", sum := "5ea845d87141a72ded3750ffc68f0ea8c30207eccb85956cd000853b1f933613", func := "copyhold/copyholdlaw23.RowsReads", spec := "rowsReads", inPlace := ["internal/bytealg.CountString", "internal/bytealg.IndexByteString", "internal/bytealg.IndexString", "internal/abi.NoEscape", "internal/bytealg.MakeNoZero"], named := ["internal/bytealg.MaxLen", "unicode/utf8.first", "unicode/utf8.acceptRanges"], apart := false, laid := [("unicode/utf8.acceptRanges", laid_unicode_utf8_acceptRanges), ("unicode/utf8.first", laid_unicode_utf8_first)], narrowed := true }
def RowsReadsUptoSaid : Prop := rowsReadsUptoRow.holds Tryd.pinned (OpenSpec.upto rowsReadsSpec)

/-- 'copyholdlaw23.RowsApart', WHERE WHAT IT READS IS OF BULK AT MOST 1048576: true; the input reads as it did. -/
def rowsApartUptoRow : OpenClaim := { program := "ytccopljpceolcaadoor", sum := "5ea845d87141a72ded3750ffc68f0ea8c30207eccb85956cd000853b1f933613", func := "copyhold/copyholdlaw23.RowsApart", spec := "rowsApart", inPlace := ["internal/bytealg.CountString", "internal/bytealg.IndexByteString", "internal/bytealg.IndexString", "internal/abi.NoEscape", "internal/bytealg.MakeNoZero"], named := ["internal/bytealg.MaxLen", "unicode/utf8.first", "unicode/utf8.acceptRanges"], apart := false, laid := [("unicode/utf8.acceptRanges", laid_unicode_utf8_acceptRanges), ("unicode/utf8.first", laid_unicode_utf8_first)], narrowed := true }
def RowsApartUptoSaid : Prop := rowsApartUptoRow.holds Tryd.pinned (OpenSpec.upto rowsApartSpec)

end Rows
end Go.Proofs.YtccopljpceolcaaDoor
