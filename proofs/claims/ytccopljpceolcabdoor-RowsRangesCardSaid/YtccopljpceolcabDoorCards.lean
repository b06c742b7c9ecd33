/-
  DERIVED. GIVEN WITH THE SEED: THE CARDS: each row of YtccopljpceolcabDoorRows.lean that lists a variable, with what it lists TIED to the program's text (the seventh form; the later family's looks); each row that meets fmt, with fmt's text TOLD by the authors' own Lean function (tested against real Go, not proved from fmt's source: count such statements apart). THE CARD IS WHAT COUNTS. Prove the row's statement (the work); the ties are given (YtccopljpceolcabDoorTie.lean); close each card by the builder's one call (the guide's Derived/Test/ToyasCard.lean, 'card_holds'). Laid BY PROGRAM, IN A SANDBOX (cutbox-door.mjs). By AI agents, Wed Nov 11 2026. No macro, syntax, notation, axiom, sorry.
-/
import Derived.Test.YtccopljpceolcabDoorRows
import GoSem.ClaimSeven
namespace Go.Proofs.YtccopljpceolcabDoor
namespace Rows

/-- THE TIED CARD OF 'copyholdlaw23.RowsBack'. -/
def rowsBackCard : Claim7 := { stood := { row := rowsBackRow, standIns := [], harness := (true, "9d5db5ef620a9068569579317b821dd9c4ce5ad73508dcf5cd9a6d9233eee0d9"), looks := false }, kinds := [], alts := [], laidByText := true, laidKinds := [.data, .pinned], laidTests := true, laidLooks := .later }
def RowsBackCardSaid : Prop := Claim7.holds Tryd.pinned (.plain (OpenSpec.ofChange rowsBackSpec)) rowsBackCard

/-- THE TIED CARD OF 'copyholdlaw23.RowsRanges'. -/
def rowsRangesCard : Claim7 := { stood := { row := rowsRangesRow, standIns := [], harness := (true, "9d5db5ef620a9068569579317b821dd9c4ce5ad73508dcf5cd9a6d9233eee0d9"), looks := false }, kinds := [], alts := [], laidByText := true, laidKinds := [.data, .pinned], laidTests := true, laidLooks := .later }
def RowsRangesCardSaid : Prop := Claim7.holds Tryd.pinned (.plain (OpenSpec.ofChange rowsRangesSpec)) rowsRangesCard

/-- THE SECOND FORM's CARD OF 'copyholdlaw23.RowsBack'. -/
def rowsBackUptoCard : Claim7 := { stood := { row := rowsBackUptoRow, standIns := [], harness := (true, "9d5db5ef620a9068569579317b821dd9c4ce5ad73508dcf5cd9a6d9233eee0d9"), looks := false }, kinds := [], alts := [], laidByText := true, laidKinds := [.data, .pinned], laidTests := true, laidLooks := .later }
def RowsBackUptoCardSaid : Prop := Claim7.holds Tryd.pinned (.plain (OpenSpec.upto rowsBackSpec)) rowsBackUptoCard

/-- THE SECOND FORM's CARD OF 'copyholdlaw23.RowsRanges'. -/
def rowsRangesUptoCard : Claim7 := { stood := { row := rowsRangesUptoRow, standIns := [], harness := (true, "9d5db5ef620a9068569579317b821dd9c4ce5ad73508dcf5cd9a6d9233eee0d9"), looks := false }, kinds := [], alts := [], laidByText := true, laidKinds := [.data, .pinned], laidTests := true, laidLooks := .later }
def RowsRangesUptoCardSaid : Prop := Claim7.holds Tryd.pinned (.plain (OpenSpec.upto rowsRangesSpec)) rowsRangesUptoCard
end Rows
end Go.Proofs.YtccopljpceolcabDoor
