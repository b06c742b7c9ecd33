/-
  No cell of these rows narrows 'for every input' (looked for: loops, veiled, ifaces, maps, wideKeys, modest, calm, conditions, laid).
  DERIVED. THE GIVEN ROWS OF THIS SEAT. 6 by the template 'for every input the law returns true; each argument reads behind the call as it read before'; 0 by the template 'total and deterministic' (their statements: YtgpogkibldlgbaaTotals.lean).
  GIVEN WITH THE SEED: the statements are not yours to turn. If you find one false, say at which input.
  Laid BY PROGRAM, IN A SANDBOX (cutbox-rows.mjs): the forced cells as the released guide's own fill.sh prints them over the translation e6a25bf703a8749c… (all of the seat's roots in one cut). By AI agents, Wed Nov 11 2026. No macro, syntax, notation, axiom, sorry.
-/
import Derived.Test.YtgpogkibldlgbaaChecked
import GoSem.Claim
import GoSem.ClaimJoined
import GoSem.ClaimMapViews
import Derived.JoinedTies
import Derived.KernelRfl
namespace Go.Proofs.Ytgpogkibldlgbaa
/- THE CELL 'sum', in the pinned program and in every row, IS THE sha256 OF THE DUMP (.gsa) THAT YtgpogkibldlgbaaProg.lean LOADS. Nothing in Lean hashes anything: it is a label: what it is worth is what the hold of that sum in a sandbox is worth. -/
noncomputable def Try.pinned : Pinned := { name := "ytgpogkibldlgbaa", sum := "e6a25bf703a8749c85cc82ab1bf6cb6d77646d3d6e832059beabca7a452f052f", checked := Try.checked }
namespace Rows
def none {H : Type} : Left H := { results := [], args := [] }

/-- 'copyholdlaw10.BloomKnown': WHATEVER THE INPUT: true; the input reads as it did. -/
def bloomKnownSpec : ChangeSpec := { name := "bloomKnown", fn := fun _ => fun
  | [] => { results := [.lit (.bool true)], args := [] }
  | _ => none }
def bloomKnownRow : OpenClaim := { program := "ytgpogkibldlgbaa", sum := "e6a25bf703a8749c85cc82ab1bf6cb6d77646d3d6e832059beabca7a452f052f", func := "copyhold/copyholdlaw10.BloomKnown", spec := "bloomKnown", apart := false }
def BloomKnownSaid : Prop := bloomKnownRow.holds Try.pinned (OpenSpec.ofChange bloomKnownSpec)

/-- ITS FALSE NEIGHBOUR: 'it returns false'. Refute it at one input. -/
def bloomKnownWrong : ChangeSpec := { name := "bloomKnown", fn := fun _ => fun
  | [] => { results := [.lit (.bool false)], args := [] }
  | _ => none }
def BloomKnownWrongFalsely : Prop := bloomKnownRow.holds Try.pinned (OpenSpec.ofChange bloomKnownWrong)

/-- 'copyholdlaw10.BloomMakes': WHATEVER THE INPUT: true; the input reads as it did. -/
def bloomMakesSpec : ChangeSpec := { name := "bloomMakes", fn := fun _ => fun
  | [d] => { results := [.lit (.bool true)], args := [d] }
  | _ => none }
def bloomMakesRow : OpenClaim := { program := "ytgpogkibldlgbaa", sum := "e6a25bf703a8749c85cc82ab1bf6cb6d77646d3d6e832059beabca7a452f052f", func := "copyhold/copyholdlaw10.BloomMakes", spec := "bloomMakes", apart := false }
def BloomMakesSaid : Prop := bloomMakesRow.holds Try.pinned (OpenSpec.ofChange bloomMakesSpec)

/-- ITS FALSE NEIGHBOUR: 'it returns false'. Refute it at one input. -/
def bloomMakesWrong : ChangeSpec := { name := "bloomMakes", fn := fun _ => fun
  | [d] => { results := [.lit (.bool false)], args := [d] }
  | _ => none }
def BloomMakesWrongFalsely : Prop := bloomMakesRow.holds Try.pinned (OpenSpec.ofChange bloomMakesWrong)

/-- 'copyholdlaw10.BloomMays': WHATEVER THE INPUT: true; the input reads as it did. -/
def bloomMaysSpec : ChangeSpec := { name := "bloomMays", fn := fun _ => fun
  | [d1, d2] => { results := [.lit (.bool true)], args := [d1, d2] }
  | _ => none }
def bloomMaysRow : OpenClaim := { program := "ytgpogkibldlgbaa", sum := "e6a25bf703a8749c85cc82ab1bf6cb6d77646d3d6e832059beabca7a452f052f", func := "copyhold/copyholdlaw10.BloomMays", spec := "bloomMays", apart := false }
def BloomMaysSaid : Prop := bloomMaysRow.holds Try.pinned (OpenSpec.ofChange bloomMaysSpec)

/-- ITS FALSE NEIGHBOUR: 'it returns false'. Refute it at one input. -/
def bloomMaysWrong : ChangeSpec := { name := "bloomMays", fn := fun _ => fun
  | [d1, d2] => { results := [.lit (.bool false)], args := [d1, d2] }
  | _ => none }
def BloomMaysWrongFalsely : Prop := bloomMaysRow.holds Try.pinned (OpenSpec.ofChange bloomMaysWrong)

/-- 'copyholdlaw10.BloomHas': WHATEVER THE INPUT: true; the input reads as it did. -/
def bloomHasSpec : ChangeSpec := { name := "bloomHas", fn := fun _ => fun
  | [d] => { results := [.lit (.bool true)], args := [d] }
  | _ => none }
def bloomHasRow : OpenClaim := { program := "ytgpogkibldlgbaa", sum := "e6a25bf703a8749c85cc82ab1bf6cb6d77646d3d6e832059beabca7a452f052f", func := "copyhold/copyholdlaw10.BloomHas", spec := "bloomHas", apart := false }
def BloomHasSaid : Prop := bloomHasRow.holds Try.pinned (OpenSpec.ofChange bloomHasSpec)

/-- ITS FALSE NEIGHBOUR: 'it returns false'. Refute it at one input. -/
def bloomHasWrong : ChangeSpec := { name := "bloomHas", fn := fun _ => fun
  | [d] => { results := [.lit (.bool false)], args := [d] }
  | _ => none }
def BloomHasWrongFalsely : Prop := bloomHasRow.holds Try.pinned (OpenSpec.ofChange bloomHasWrong)

/-- 'copyholdlaw10.BloomRow': WHATEVER THE INPUT: true; the input reads as it did. -/
def bloomRowSpec : ChangeSpec := { name := "bloomRow", fn := fun _ => fun
  | [d1, d2, d3] => { results := [.lit (.bool true)], args := [d1, d2, d3] }
  | _ => none }
def bloomRowRow : OpenClaim := { program := "ytgpogkibldlgbaa", sum := "e6a25bf703a8749c85cc82ab1bf6cb6d77646d3d6e832059beabca7a452f052f", func := "copyhold/copyholdlaw10.BloomRow", spec := "bloomRow", apart := false }
def BloomRowSaid : Prop := bloomRowRow.holds Try.pinned (OpenSpec.ofChange bloomRowSpec)

/-- ITS FALSE NEIGHBOUR: 'it returns false'. Refute it at one input. -/
def bloomRowWrong : ChangeSpec := { name := "bloomRow", fn := fun _ => fun
  | [d1, d2, d3] => { results := [.lit (.bool false)], args := [d1, d2, d3] }
  | _ => none }
def BloomRowWrongFalsely : Prop := bloomRowRow.holds Try.pinned (OpenSpec.ofChange bloomRowWrong)

/-- 'copyholdlaw10.BloomMore': WHATEVER THE INPUT: true; the input reads as it did. -/
def bloomMoreSpec : ChangeSpec := { name := "bloomMore", fn := fun _ => fun
  | [d1, d2, d3] => { results := [.lit (.bool true)], args := [d1, d2, d3] }
  | _ => none }
def bloomMoreRow : OpenClaim := { program := "ytgpogkibldlgbaa", sum := "e6a25bf703a8749c85cc82ab1bf6cb6d77646d3d6e832059beabca7a452f052f", func := "copyhold/copyholdlaw10.BloomMore", spec := "bloomMore", apart := false }
def BloomMoreSaid : Prop := bloomMoreRow.holds Try.pinned (OpenSpec.ofChange bloomMoreSpec)

/-- ITS FALSE NEIGHBOUR: 'it returns false'. Refute it at one input. -/
def bloomMoreWrong : ChangeSpec := { name := "bloomMore", fn := fun _ => fun
  | [d1, d2, d3] => { results := [.lit (.bool false)], args := [d1, d2, d3] }
  | _ => none }
def BloomMoreWrongFalsely : Prop := bloomMoreRow.holds Try.pinned (OpenSpec.ofChange bloomMoreWrong)

/- THE SECOND FORM. 'bulk': how many values and letters a reading holds, each counted each time it is reached (what is shared counts as often as it is met; a slice's spare places count too). A statement '..UptoSaid' is the law's where the arguments, and the package variables that the reading takes, are together of bulk at most 1048576: NARROWER than '..Said'. Prove '..Said' where nothing that the law and all that it calls make is longer than what came in: it says more and counts as full. Else prove '..UptoSaid'. A law counts once. -/
mutual
def uptoBulk {H : Type} : DataW H → Nat
  | .lit (.string bytes) => bytes.length + 1
  | .lit _ => 1
  | .nil => 1
  | .ptr d => uptoBulk d + 1
  | .slice elems spare => uptoBulkAll elems + uptoBulkAll spare + 1
  | .agg parts => uptoBulkAll parts + 1
  | .iface _ d => uptoBulk d + 1
  | .map entries => uptoBulkEntries entries + 1
  | .held _ => 1
def uptoBulkAll {H : Type} : List (DataW H) → Nat
  | [] => 0
  | d :: r => uptoBulk d + uptoBulkAll r
def uptoBulkEntries {H : Type} : List (Lit × DataW H) → Nat
  | [] => 0
  | x :: r => uptoBulkEntry x + uptoBulkEntries r
def uptoBulkEntry {H : Type} : Lit × DataW H → Nat
  | (.string bytes, d) => bytes.length + uptoBulk d + 1
  | (_, d) => uptoBulk d + 1
 end
def uptoSmall : (H : Type) → List (DataW H) → Bool := fun _ ds => decide (uptoBulkAll ds ≤ 1048576)
def OpenSpec.upto (s : _root_.Go.ChangeSpec) : _root_.Go.OpenSpec := { _root_.Go.OpenSpec.ofChange s with cond := some uptoSmall }

/-- 'copyholdlaw10.BloomKnown', WHERE WHAT IT READS IS OF BULK AT MOST 1048576: true; the input reads as it did. -/
def bloomKnownUptoRow : OpenClaim := { program := "ytgpogkibldlgbaa", sum := "e6a25bf703a8749c85cc82ab1bf6cb6d77646d3d6e832059beabca7a452f052f", func := "copyhold/copyholdlaw10.BloomKnown", spec := "bloomKnown", apart := false, narrowed := true }
def BloomKnownUptoSaid : Prop := bloomKnownUptoRow.holds Try.pinned (OpenSpec.upto bloomKnownSpec)

/-- 'copyholdlaw10.BloomMakes', WHERE WHAT IT READS IS OF BULK AT MOST 1048576: true; the input reads as it did. -/
def bloomMakesUptoRow : OpenClaim := { program := "ytgpogkibldlgbaa", sum := "e6a25bf703a8749c85cc82ab1bf6cb6d77646d3d6e832059beabca7a452f052f", func := "copyhold/copyholdlaw10.BloomMakes", spec := "bloomMakes", apart := false, narrowed := true }
def BloomMakesUptoSaid : Prop := bloomMakesUptoRow.holds Try.pinned (OpenSpec.upto bloomMakesSpec)

/-- 'copyholdlaw10.BloomMays', WHERE WHAT IT READS IS OF BULK AT MOST 1048576: true; the input reads as it did. -/
def bloomMaysUptoRow : OpenClaim := { program := "ytgpogkibldlgbaa", sum := "e6a25bf703a8749c85cc82ab1bf6cb6d77646d3d6e832059beabca7a452f052f", func := "copyhold/copyholdlaw10.BloomMays", spec := "bloomMays", apart := false, narrowed := true }
def BloomMaysUptoSaid : Prop := bloomMaysUptoRow.holds Try.pinned (OpenSpec.upto bloomMaysSpec)

/-- 'copyholdlaw10.BloomHas', WHERE WHAT IT READS IS OF BULK AT MOST 1048576: true; the input reads as it did. -/
def bloomHasUptoRow : OpenClaim := { program := "ytgpogkibldlgbaa", sum := "e6a25bf703a8749c85cc82ab1bf6cb6d77646d3d6e832059beabca7a452f052f", func := "copyhold/copyholdlaw10.BloomHas", spec := "bloomHas", apart := false, narrowed := true }
def BloomHasUptoSaid : Prop := bloomHasUptoRow.holds Try.pinned (OpenSpec.upto bloomHasSpec)

/-- 'copyholdlaw10.BloomRow', WHERE WHAT IT READS IS OF BULK AT MOST 1048576: true; the input reads as it did. -/
def bloomRowUptoRow : OpenClaim := { program := "ytgpogkibldlgbaa", sum := "e6a25bf703a8749c85cc82ab1bf6cb6d77646d3d6e832059beabca7a452f052f", func := "copyhold/copyholdlaw10.BloomRow", spec := "bloomRow", apart := false, narrowed := true }
def BloomRowUptoSaid : Prop := bloomRowUptoRow.holds Try.pinned (OpenSpec.upto bloomRowSpec)

/-- 'copyholdlaw10.BloomMore', WHERE WHAT IT READS IS OF BULK AT MOST 1048576: true; the input reads as it did. -/
def bloomMoreUptoRow : OpenClaim := { program := "ytgpogkibldlgbaa", sum := "e6a25bf703a8749c85cc82ab1bf6cb6d77646d3d6e832059beabca7a452f052f", func := "copyhold/copyholdlaw10.BloomMore", spec := "bloomMore", apart := false, narrowed := true }
def BloomMoreUptoSaid : Prop := bloomMoreUptoRow.holds Try.pinned (OpenSpec.upto bloomMoreSpec)

end Rows
end Go.Proofs.Ytgpogkibldlgbaa
