/-
  NARROWER THAN 'FOR EVERY INPUT', by the rows' own cells (each row's printed sentence says how): OkeyKeys: laid · OkeyOrder: laid · OkeyBack: laid · OkeyKnown: laid · OkeyCompares: laid · OkeyRange: laid.
  DERIVED. THE GIVEN ROWS OF THIS SEAT. 6 by the template 'for every input the law returns true; each argument reads behind the call as it read before'; 0 by the template 'total and deterministic' (their statements: YtfijbfnhjnbjeaaDoorTotals.lean).
  GIVEN WITH THE SEED: the statements are not yours to turn. If you find one false, say at which input.
  Laid BY PROGRAM, IN A SANDBOX (cutbox-rows.mjs): the forced cells as the released guide's own fill.sh prints them over the translation d98c214b4cc81ad4… (all of the seat's roots in one cut). By AI agents, Wed Nov 11 2026. No macro, syntax, notation, axiom, sorry.
-/
import Derived.Test.YtfijbfnhjnbjeaaDoorChecked
import GoSem.PinnedTables
import GoSem.Claim
import GoSem.ClaimJoined
import GoSem.ClaimMapViews
import Derived.JoinedTies
import Derived.KernelRfl
namespace Go.Proofs.YtfijbfnhjnbjeaaDoor
/- THE CELL 'sum', in the pinned program and in every row, IS THE sha256 OF THE DUMP (.gsa) THAT YtfijbfnhjnbjeaaDoorProg.lean LOADS. Nothing in Lean hashes anything: it is a label: what it is worth is what the hold of that sum in a sandbox is worth. -/
noncomputable def Tryd.pinned : Pinned := { name := "ytfijbfnhjnbjeaadoor", sum := "d98c214b4cc81ad48ab9b99ff4f7497dcc138a966f16bb327a1dd7203b5786cf", checked := Tryd.checked }
namespace Rows
def none {H : Type} : Left H := { results := [], args := [] }

/- WHAT THE LISTED PACKAGE-LEVEL VARIABLES READ AS WHEN THE CALL BEGINS. Each datum BY PROGRAM (the guide's laid-datum.mjs) off the statement by which the dump's own 'gosem.cut.vars' lays the variable. In a bare row this is a premise. The card (YtfijbfnhjnbjeaaDoorCards.lean) ties it to the program's text. -/
def laid_unicode_utf8_acceptRanges {H : Type} : DataW H := .agg [.agg [.lit (.int .u8 128), .lit (.int .u8 191)], .agg [.lit (.int .u8 160), .lit (.int .u8 191)], .agg [.lit (.int .u8 128), .lit (.int .u8 159)], .agg [.lit (.int .u8 144), .lit (.int .u8 191)], .agg [.lit (.int .u8 128), .lit (.int .u8 143)], .agg [.lit (.int .u8 0), .lit (.int .u8 0)], .agg [.lit (.int .u8 0), .lit (.int .u8 0)], .agg [.lit (.int .u8 0), .lit (.int .u8 0)], .agg [.lit (.int .u8 0), .lit (.int .u8 0)], .agg [.lit (.int .u8 0), .lit (.int .u8 0)], .agg [.lit (.int .u8 0), .lit (.int .u8 0)], .agg [.lit (.int .u8 0), .lit (.int .u8 0)], .agg [.lit (.int .u8 0), .lit (.int .u8 0)], .agg [.lit (.int .u8 0), .lit (.int .u8 0)], .agg [.lit (.int .u8 0), .lit (.int .u8 0)], .agg [.lit (.int .u8 0), .lit (.int .u8 0)]]
/-- One of Go's own tables, pinned by name: the form's constant. -/
def laid_unicode_utf8_first : DataW Unit := Go.Pinned.utf8First

/-- 'copyholdlaw02.OkeyKeys': WHATEVER THE INPUT: true; the input reads as it did. -/
def okeyKeysSpec : ChangeSpec := { name := "okeyKeys", fn := fun _ => fun
  | [d1, d2] => { results := [.lit (.bool true)], args := [d1, d2] }
  | _ => none }
def okeyKeysRow : OpenClaim := { program := "ytfijbfnhjnbjeaadoor", sum := "d98c214b4cc81ad48ab9b99ff4f7497dcc138a966f16bb327a1dd7203b5786cf", func := "copyhold/copyholdlaw02.OkeyKeys", spec := "okeyKeys", inPlace := ["internal/bytealg.CountString", "internal/bytealg.IndexByteString", "internal/bytealg.IndexString", "internal/abi.NoEscape", "internal/bytealg.MakeNoZero"], unfollowed := true, recurses := true, named := ["internal/bytealg.MaxLen", "unicode/utf8.first", "unicode/utf8.acceptRanges"], apart := false, laid := [("unicode/utf8.acceptRanges", laid_unicode_utf8_acceptRanges), ("unicode/utf8.first", laid_unicode_utf8_first)] }
def OkeyKeysSaid : Prop := okeyKeysRow.holds Tryd.pinned (OpenSpec.ofChange okeyKeysSpec)

/-- ITS FALSE NEIGHBOUR: 'it returns false'. Refute it at one input. -/
def okeyKeysWrong : ChangeSpec := { name := "okeyKeys", fn := fun _ => fun
  | [d1, d2] => { results := [.lit (.bool false)], args := [d1, d2] }
  | _ => none }
def OkeyKeysWrongFalsely : Prop := okeyKeysRow.holds Tryd.pinned (OpenSpec.ofChange okeyKeysWrong)

/-- 'copyholdlaw02.OkeyOrder': WHATEVER THE INPUT: true; the input reads as it did. -/
def okeyOrderSpec : ChangeSpec := { name := "okeyOrder", fn := fun _ => fun
  | [d1, d2] => { results := [.lit (.bool true)], args := [d1, d2] }
  | _ => none }
def okeyOrderRow : OpenClaim := { program := "ytfijbfnhjnbjeaadoor", sum := "d98c214b4cc81ad48ab9b99ff4f7497dcc138a966f16bb327a1dd7203b5786cf", func := "copyhold/copyholdlaw02.OkeyOrder", spec := "okeyOrder", inPlace := ["internal/bytealg.CountString", "internal/bytealg.IndexByteString", "internal/bytealg.IndexString", "internal/abi.NoEscape", "internal/bytealg.MakeNoZero"], unfollowed := true, recurses := true, named := ["internal/bytealg.MaxLen", "unicode/utf8.first", "unicode/utf8.acceptRanges"], apart := false, laid := [("unicode/utf8.acceptRanges", laid_unicode_utf8_acceptRanges), ("unicode/utf8.first", laid_unicode_utf8_first)] }
def OkeyOrderSaid : Prop := okeyOrderRow.holds Tryd.pinned (OpenSpec.ofChange okeyOrderSpec)

/-- ITS FALSE NEIGHBOUR: 'it returns false'. Refute it at one input. -/
def okeyOrderWrong : ChangeSpec := { name := "okeyOrder", fn := fun _ => fun
  | [d1, d2] => { results := [.lit (.bool false)], args := [d1, d2] }
  | _ => none }
def OkeyOrderWrongFalsely : Prop := okeyOrderRow.holds Tryd.pinned (OpenSpec.ofChange okeyOrderWrong)

/-- 'copyholdlaw02.OkeyBack': WHATEVER THE INPUT: true; the input reads as it did. -/
def okeyBackSpec : ChangeSpec := { name := "okeyBack", fn := fun _ => fun
  | [d1, d2] => { results := [.lit (.bool true)], args := [d1, d2] }
  | _ => none }
def okeyBackRow : OpenClaim := { program := "ytfijbfnhjnbjeaadoor", sum := "d98c214b4cc81ad48ab9b99ff4f7497dcc138a966f16bb327a1dd7203b5786cf", func := "copyhold/copyholdlaw02.OkeyBack", spec := "okeyBack", inPlace := ["internal/bytealg.CountString", "internal/bytealg.IndexByteString", "internal/bytealg.IndexString", "internal/abi.NoEscape", "internal/bytealg.MakeNoZero"], unfollowed := true, recurses := true, named := ["internal/bytealg.MaxLen", "unicode/utf8.first", "unicode/utf8.acceptRanges"], apart := false, laid := [("unicode/utf8.acceptRanges", laid_unicode_utf8_acceptRanges), ("unicode/utf8.first", laid_unicode_utf8_first)] }
def OkeyBackSaid : Prop := okeyBackRow.holds Tryd.pinned (OpenSpec.ofChange okeyBackSpec)

/-- ITS FALSE NEIGHBOUR: 'it returns false'. Refute it at one input. -/
def okeyBackWrong : ChangeSpec := { name := "okeyBack", fn := fun _ => fun
  | [d1, d2] => { results := [.lit (.bool false)], args := [d1, d2] }
  | _ => none }
def OkeyBackWrongFalsely : Prop := okeyBackRow.holds Tryd.pinned (OpenSpec.ofChange okeyBackWrong)

/-- 'copyholdlaw02.OkeyKnown': WHATEVER THE INPUT: true; the input reads as it did. -/
def okeyKnownSpec : ChangeSpec := { name := "okeyKnown", fn := fun _ => fun
  | [] => { results := [.lit (.bool true)], args := [] }
  | _ => none }
def okeyKnownRow : OpenClaim := { program := "ytfijbfnhjnbjeaadoor", sum := "d98c214b4cc81ad48ab9b99ff4f7497dcc138a966f16bb327a1dd7203b5786cf", func := "copyhold/copyholdlaw02.OkeyKnown", spec := "okeyKnown", inPlace := ["internal/bytealg.IndexByteString", "internal/abi.NoEscape", "internal/bytealg.CountString", "internal/bytealg.IndexString", "internal/bytealg.MakeNoZero"], unfollowed := true, recurses := true, named := ["internal/bytealg.MaxLen", "unicode/utf8.first", "unicode/utf8.acceptRanges"], apart := false, laid := [("unicode/utf8.acceptRanges", laid_unicode_utf8_acceptRanges), ("unicode/utf8.first", laid_unicode_utf8_first)] }
def OkeyKnownSaid : Prop := okeyKnownRow.holds Tryd.pinned (OpenSpec.ofChange okeyKnownSpec)

/-- ITS FALSE NEIGHBOUR: 'it returns false'. Refute it at one input. -/
def okeyKnownWrong : ChangeSpec := { name := "okeyKnown", fn := fun _ => fun
  | [] => { results := [.lit (.bool false)], args := [] }
  | _ => none }
def OkeyKnownWrongFalsely : Prop := okeyKnownRow.holds Tryd.pinned (OpenSpec.ofChange okeyKnownWrong)

/-- 'copyholdlaw02.OkeyCompares': WHATEVER THE INPUT: true; the input reads as it did. -/
def okeyComparesSpec : ChangeSpec := { name := "okeyCompares", fn := fun _ => fun
  | [d1, d2] => { results := [.lit (.bool true)], args := [d1, d2] }
  | _ => none }
def okeyComparesRow : OpenClaim := { program := "ytfijbfnhjnbjeaadoor", sum := "d98c214b4cc81ad48ab9b99ff4f7497dcc138a966f16bb327a1dd7203b5786cf", func := "copyhold/copyholdlaw02.OkeyCompares", spec := "okeyCompares", inPlace := ["internal/bytealg.CountString", "internal/bytealg.IndexByteString", "internal/bytealg.IndexString", "internal/abi.NoEscape", "internal/bytealg.MakeNoZero"], unfollowed := true, recurses := true, named := ["internal/bytealg.MaxLen", "unicode/utf8.first", "unicode/utf8.acceptRanges"], apart := false, laid := [("unicode/utf8.acceptRanges", laid_unicode_utf8_acceptRanges), ("unicode/utf8.first", laid_unicode_utf8_first)] }
def OkeyComparesSaid : Prop := okeyComparesRow.holds Tryd.pinned (OpenSpec.ofChange okeyComparesSpec)

/-- ITS FALSE NEIGHBOUR: 'it returns false'. Refute it at one input. -/
def okeyComparesWrong : ChangeSpec := { name := "okeyCompares", fn := fun _ => fun
  | [d1, d2] => { results := [.lit (.bool false)], args := [d1, d2] }
  | _ => none }
def OkeyComparesWrongFalsely : Prop := okeyComparesRow.holds Tryd.pinned (OpenSpec.ofChange okeyComparesWrong)

/-- 'copyholdlaw02.OkeyRange': WHATEVER THE INPUT: true; the input reads as it did. -/
def okeyRangeSpec : ChangeSpec := { name := "okeyRange", fn := fun _ => fun
  | [d1, d2] => { results := [.lit (.bool true)], args := [d1, d2] }
  | _ => none }
def okeyRangeRow : OpenClaim := { program := "ytfijbfnhjnbjeaadoor", sum := "d98c214b4cc81ad48ab9b99ff4f7497dcc138a966f16bb327a1dd7203b5786cf", func := "copyhold/copyholdlaw02.OkeyRange", spec := "okeyRange", inPlace := ["internal/bytealg.CountString", "internal/bytealg.IndexByteString", "internal/bytealg.IndexString", "internal/abi.NoEscape", "internal/bytealg.MakeNoZero"], unfollowed := true, recurses := true, named := ["internal/bytealg.MaxLen", "unicode/utf8.first", "unicode/utf8.acceptRanges"], apart := false, laid := [("unicode/utf8.acceptRanges", laid_unicode_utf8_acceptRanges), ("unicode/utf8.first", laid_unicode_utf8_first)] }
def OkeyRangeSaid : Prop := okeyRangeRow.holds Tryd.pinned (OpenSpec.ofChange okeyRangeSpec)

/-- ITS FALSE NEIGHBOUR: 'it returns false'. Refute it at one input. -/
def okeyRangeWrong : ChangeSpec := { name := "okeyRange", fn := fun _ => fun
  | [d1, d2] => { results := [.lit (.bool false)], args := [d1, d2] }
  | _ => none }
def OkeyRangeWrongFalsely : Prop := okeyRangeRow.holds Tryd.pinned (OpenSpec.ofChange okeyRangeWrong)

/- THE SECOND FORM. 'bulk': how many values and letters a reading holds, each counted each time it is reached (what is shared counts as often as it is met; a slice's spare places count too). A statement '..UptoSaid' is the law's where the arguments, and the package variables that the reading takes, are together of bulk at most 1048576: NARROWER than '..Said'. Prove '..Said' where nothing that the law and all that it calls make is longer than what came in: it says more and counts as full. Else prove '..UptoSaid'. A law counts once. -/
mutual
def uptoBulk {H : Type} : DataW H → Nat
  | .lit (.string bytes) => bytes.length + 1
  | .lit _ => 1
  | .nil => 1
  | .ptr d => uptoBulk d + 1
  | .slice elems spare => uptoBulkAll elems + uptoBulkAll spare + 1
  | .agg parts => uptoBulkAll parts + 1
  | .iface _ d => uptoBulk d + 1
  | .map entries => uptoBulkEntries entries + 1
  | .held _ => 1
def uptoBulkAll {H : Type} : List (DataW H) → Nat
  | [] => 0
  | d :: r => uptoBulk d + uptoBulkAll r
def uptoBulkEntries {H : Type} : List (Lit × DataW H) → Nat
  | [] => 0
  | x :: r => uptoBulkEntry x + uptoBulkEntries r
def uptoBulkEntry {H : Type} : Lit × DataW H → Nat
  | (.string bytes, d) => bytes.length + uptoBulk d + 1
  | (_, d) => uptoBulk d + 1
 end
def uptoSmall : (H : Type) → List (DataW H) → Bool := fun _ ds => decide (uptoBulkAll ds ≤ 1048576)
def OpenSpec.upto (s : _root_.Go.ChangeSpec) : _root_.Go.OpenSpec := { _root_.Go.OpenSpec.ofChange s with cond := some uptoSmall }

/-- 'copyholdlaw02.OkeyKeys', WHERE WHAT IT READS IS OF BULK AT MOST 1048576: true; the input reads as it did. -/
def okeyKeysUptoRow : OpenClaim := { program := "ytfijbfnhjnbjeaadoor", sum := "d98c214b4cc81ad48ab9b99ff4f7497dcc138a966f16bb327a1dd7203b5786cf", func := "copyhold/copyholdlaw02.OkeyKeys", spec := "okeyKeys", inPlace := ["internal/bytealg.CountString", "internal/bytealg.IndexByteString", "internal/bytealg.IndexString", "internal/abi.NoEscape", "internal/bytealg.MakeNoZero"], unfollowed := true, recurses := true, named := ["internal/bytealg.MaxLen", "unicode/utf8.first", "unicode/utf8.acceptRanges"], apart := false, laid := [("unicode/utf8.acceptRanges", laid_unicode_utf8_acceptRanges), ("unicode/utf8.first", laid_unicode_utf8_first)], narrowed := true }
def OkeyKeysUptoSaid : Prop := okeyKeysUptoRow.holds Tryd.pinned (OpenSpec.upto okeyKeysSpec)

/-- 'copyholdlaw02.OkeyOrder', WHERE WHAT IT READS IS OF BULK AT MOST 1048576: true; the input reads as it did. -/
def okeyOrderUptoRow : OpenClaim := { program := "ytfijbfnhjnbjeaadoor", sum := "d98c214b4cc81ad48ab9b99ff4f7497dcc138a966f16bb327a1dd7203b5786cf", func := "copyhold/copyholdlaw02.OkeyOrder", spec := "okeyOrder", inPlace := ["internal/bytealg.CountString", "internal/bytealg.IndexByteString", "internal/bytealg.IndexString", "internal/abi.NoEscape", "internal/bytealg.MakeNoZero"], unfollowed := true, recurses := true, named := ["internal/bytealg.MaxLen", "unicode/utf8.first", "unicode/utf8.acceptRanges"], apart := false, laid := [("unicode/utf8.acceptRanges", laid_unicode_utf8_acceptRanges), ("unicode/utf8.first", laid_unicode_utf8_first)], narrowed := true }
def OkeyOrderUptoSaid : Prop := okeyOrderUptoRow.holds Tryd.pinned (OpenSpec.upto okeyOrderSpec)

/-- 'copyholdlaw02.OkeyBack', WHERE WHAT IT READS IS OF BULK AT MOST 1048576: true; the input reads as it did. -/
def okeyBackUptoRow : OpenClaim := { program := "ytfijbfnhjnbjeaadoor", sum := "d98c214b4cc81ad48ab9b99ff4f7497dcc138a966f16bb327a1dd7203b5786cf", func := "copyhold/copyholdlaw02.OkeyBack", spec := "okeyBack", inPlace := ["internal/bytealg.CountString", "internal/bytealg.IndexByteString", "internal/bytealg.IndexString", "internal/abi.NoEscape", "internal/bytealg.MakeNoZero"], unfollowed := true, recurses := true, named := ["internal/bytealg.MaxLen", "unicode/utf8.first", "unicode/utf8.acceptRanges"], apart := false, laid := [("unicode/utf8.acceptRanges", laid_unicode_utf8_acceptRanges), ("unicode/utf8.first", laid_unicode_utf8_first)], narrowed := true }
def OkeyBackUptoSaid : Prop := okeyBackUptoRow.holds Tryd.pinned (OpenSpec.upto okeyBackSpec)

/-- 'copyholdlaw02.OkeyKnown', WHERE WHAT IT READS IS OF BULK AT MOST 1048576: true; the input reads as it did. -/
def okeyKnownUptoRow : OpenClaim := { program := "ytfijbfnhjnbjeaadoor", sum := "d98c214b4cc81ad48ab9b99ff4f7497dcc138a966f16bb327a1dd7203b5786cf", func := "copyhold/copyholdlaw02.OkeyKnown", spec := "okeyKnown", inPlace := ["internal/bytealg.IndexByteString", "internal/abi.NoEscape", "internal/bytealg.CountString", "internal/bytealg.IndexString", "internal/bytealg.MakeNoZero"], unfollowed := true, recurses := true, named := ["internal/bytealg.MaxLen", "unicode/utf8.first", "unicode/utf8.acceptRanges"], apart := false, laid := [("unicode/utf8.acceptRanges", laid_unicode_utf8_acceptRanges), ("unicode/utf8.first", laid_unicode_utf8_first)], narrowed := true }
def OkeyKnownUptoSaid : Prop := okeyKnownUptoRow.holds Tryd.pinned (OpenSpec.upto okeyKnownSpec)

/-- 'copyholdlaw02.OkeyCompares', WHERE WHAT IT READS IS OF BULK AT MOST 1048576: true; the input reads as it did. -/
def okeyComparesUptoRow : OpenClaim := { program := "ytfijbfnhjnbjeaadoor", sum := "d98c214b4cc81ad48ab9b99ff4f7497dcc138a966f16bb327a1dd7203b5786cf", func := "copyhold/copyholdlaw02.OkeyCompares", spec := "okeyCompares", inPlace := ["internal/bytealg.CountString", "internal/bytealg.IndexByteString", "internal/bytealg.IndexString", "internal/abi.NoEscape", "internal/bytealg.MakeNoZero"], unfollowed := true, recurses := true, named := ["internal/bytealg.MaxLen", "unicode/utf8.first", "unicode/utf8.acceptRanges"], apart := false, laid := [("unicode/utf8.acceptRanges", laid_unicode_utf8_acceptRanges), ("unicode/utf8.first", laid_unicode_utf8_first)], narrowed := true }
def OkeyComparesUptoSaid : Prop := okeyComparesUptoRow.holds Tryd.pinned (OpenSpec.upto okeyComparesSpec)

/-- 'copyholdlaw02.OkeyRange', WHERE WHAT IT READS IS OF BULK AT MOST 1048576: true; the input reads as it did. -/
def okeyRangeUptoRow : OpenClaim := { program := "ytfijbfnhjnbjeaadoor", sum := "d98c214b4cc81ad48ab9b99ff4f7497dcc138a966f16bb327a1dd7203b5786cf", func := "copyhold/copyholdlaw02.OkeyRange", spec := "okeyRange", inPlace := ["internal/bytealg.CountString", "internal/bytealg.IndexByteString", "internal/bytealg.IndexString", "internal/abi.NoEscape", "internal/bytealg.MakeNoZero"], unfollowed := true, recurses := true, named := ["internal/bytealg.MaxLen", "unicode/utf8.first", "unicode/utf8.acceptRanges"], apart := false, laid := [("unicode/utf8.acceptRanges", laid_unicode_utf8_acceptRanges), ("unicode/utf8.first", laid_unicode_utf8_first)], narrowed := true }
def OkeyRangeUptoSaid : Prop := okeyRangeUptoRow.holds Tryd.pinned (OpenSpec.upto okeyRangeSpec)

end Rows
end Go.Proofs.YtfijbfnhjnbjeaaDoor
