/-
  DERIVED. GIVEN WITH THE SEED: THE CARDS: each row of YtccopljpceolcaaDoorRows.lean that lists a variable, with what it lists TIED to the program's text (the seventh form; the later family's looks); each row that meets fmt, with fmt's text TOLD by the authors' own Lean function (tested against real Go, not proved from fmt's source: count such statements apart). THE CARD IS WHAT COUNTS. Prove the row's statement (the work); the ties are given (YtccopljpceolcaaDoorTie.lean); close each card by the builder's one call (the guide's Derived/Test/ToyasCard.lean, 'card_holds'). Laid BY PROGRAM, IN A SANDBOX (cutbox-door.mjs). By AI agents, Wed Nov 11 2026. No macro, syntax, notation, axiom, sorry.
-/
import Derived.Test.YtccopljpceolcaaDoorRows
import GoSem.ClaimSeven
namespace Go.Proofs.YtccopljpceolcaaDoor
namespace Rows

/-- THE TIED CARD OF 'copyholdlaw23.RowsKeys'. -/
def rowsKeysCard : Claim7 := { stood := { row := rowsKeysRow, standIns := [], harness := (true, "c898610023ce1cd58334f3856725f61b258b423cb7d98043a8704680ac886da9"), looks := false }, kinds := [], alts := [], laidByText := true, laidKinds := [.data, .pinned], laidTests := true, laidLooks := .later }
def RowsKeysCardSaid : Prop := Claim7.holds Tryd.pinned (.plain (OpenSpec.ofChange rowsKeysSpec)) rowsKeysCard

/-- THE TIED CARD OF 'copyholdlaw23.RowsPuts'. -/
def rowsPutsCard : Claim7 := { stood := { row := rowsPutsRow, standIns := [], harness := (true, "c898610023ce1cd58334f3856725f61b258b423cb7d98043a8704680ac886da9"), looks := false }, kinds := [], alts := [], laidByText := true, laidKinds := [.data, .pinned], laidTests := true, laidLooks := .later }
def RowsPutsCardSaid : Prop := Claim7.holds Tryd.pinned (.plain (OpenSpec.ofChange rowsPutsSpec)) rowsPutsCard

/-- THE TIED CARD OF 'copyholdlaw23.RowsOf'. -/
def rowsOfCard : Claim7 := { stood := { row := rowsOfRow, standIns := [], harness := (true, "c898610023ce1cd58334f3856725f61b258b423cb7d98043a8704680ac886da9"), looks := false }, kinds := [], alts := [], laidByText := true, laidKinds := [.data, .pinned], laidTests := true, laidLooks := .later }
def RowsOfCardSaid : Prop := Claim7.holds Tryd.pinned (.plain (OpenSpec.ofChange rowsOfSpec)) rowsOfCard

/-- THE TIED CARD OF 'copyholdlaw23.RowsKnown'. -/
def rowsKnownCard : Claim7 := { stood := { row := rowsKnownRow, standIns := [], harness := (true, "c898610023ce1cd58334f3856725f61b258b423cb7d98043a8704680ac886da9"), looks := false }, kinds := [], alts := [], laidByText := true, laidKinds := [.data, .pinned], laidTests := true, laidLooks := .later }
def RowsKnownCardSaid : Prop := Claim7.holds Tryd.pinned (.plain (OpenSpec.ofChange rowsKnownSpec)) rowsKnownCard

/-- THE TIED CARD OF 'copyholdlaw23.RowsReads'. -/
def rowsReadsCard : Claim7 := { stood := { row := rowsReadsRow, standIns := [], harness := (true, "c898610023ce1cd58334f3856725f61b258b423cb7d98043a8704680ac886da9"), looks := false }, kinds := [], alts := [], laidByText := true, laidKinds := [.data, .pinned], laidTests := true, laidLooks := .later }
def RowsReadsCardSaid : Prop := Claim7.holds Tryd.pinned (.plain (OpenSpec.ofChange rowsReadsSpec)) rowsReadsCard

/-- THE TIED CARD OF 'copyholdlaw23.RowsApart'. -/
def rowsApartCard : Claim7 := { stood := { row := rowsApartRow, standIns := [], harness := (true, "c898610023ce1cd58334f3856725f61b258b423cb7d98043a8704680ac886da9"), looks := false }, kinds := [], alts := [], laidByText := true, laidKinds := [.data, .pinned], laidTests := true, laidLooks := .later }
def RowsApartCardSaid : Prop := Claim7.holds Tryd.pinned (.plain (OpenSpec.ofChange rowsApartSpec)) rowsApartCard

/-- THE SECOND FORM's CARD OF 'copyholdlaw23.RowsKeys'. -/
def rowsKeysUptoCard : Claim7 := { stood := { row := rowsKeysUptoRow, standIns := [], harness := (true, "c898610023ce1cd58334f3856725f61b258b423cb7d98043a8704680ac886da9"), looks := false }, kinds := [], alts := [], laidByText := true, laidKinds := [.data, .pinned], laidTests := true, laidLooks := .later }
def RowsKeysUptoCardSaid : Prop := Claim7.holds Tryd.pinned (.plain (OpenSpec.upto rowsKeysSpec)) rowsKeysUptoCard

/-- THE SECOND FORM's CARD OF 'copyholdlaw23.RowsPuts'. -/
def rowsPutsUptoCard : Claim7 := { stood := { row := rowsPutsUptoRow, standIns := [], harness := (true, "c898610023ce1cd58334f3856725f61b258b423cb7d98043a8704680ac886da9"), looks := false }, kinds := [], alts := [], laidByText := true, laidKinds := [.data, .pinned], laidTests := true, laidLooks := .later }
def RowsPutsUptoCardSaid : Prop := Claim7.holds Tryd.pinned (.plain (OpenSpec.upto rowsPutsSpec)) rowsPutsUptoCard

/-- THE SECOND FORM's CARD OF 'copyholdlaw23.RowsOf'. -/
def rowsOfUptoCard : Claim7 := { stood := { row := rowsOfUptoRow, standIns := [], harness := (true, "c898610023ce1cd58334f3856725f61b258b423cb7d98043a8704680ac886da9"), looks := false }, kinds := [], alts := [], laidByText := true, laidKinds := [.data, .pinned], laidTests := true, laidLooks := .later }
def RowsOfUptoCardSaid : Prop := Claim7.holds Tryd.pinned (.plain (OpenSpec.upto rowsOfSpec)) rowsOfUptoCard

/-- THE SECOND FORM's CARD OF 'copyholdlaw23.RowsKnown'. -/
def rowsKnownUptoCard : Claim7 := { stood := { row := rowsKnownUptoRow, standIns := [], harness := (true, "c898610023ce1cd58334f3856725f61b258b423cb7d98043a8704680ac886da9"), looks := false }, kinds := [], alts := [], laidByText := true, laidKinds := [.data, .pinned], laidTests := true, laidLooks := .later }
def RowsKnownUptoCardSaid : Prop := Claim7.holds Tryd.pinned (.plain (OpenSpec.upto rowsKnownSpec)) rowsKnownUptoCard

/-- THE SECOND FORM's CARD OF 'copyholdlaw23.RowsReads'. -/
def rowsReadsUptoCard : Claim7 := { stood := { row := rowsReadsUptoRow, standIns := [], harness := (true, "c898610023ce1cd58334f3856725f61b258b423cb7d98043a8704680ac886da9"), looks := false }, kinds := [], alts := [], laidByText := true, laidKinds := [.data, .pinned], laidTests := true, laidLooks := .later }
def RowsReadsUptoCardSaid : Prop := Claim7.holds Tryd.pinned (.plain (OpenSpec.upto rowsReadsSpec)) rowsReadsUptoCard

/-- THE SECOND FORM's CARD OF 'copyholdlaw23.RowsApart'. -/
def rowsApartUptoCard : Claim7 := { stood := { row := rowsApartUptoRow, standIns := [], harness := (true, "c898610023ce1cd58334f3856725f61b258b423cb7d98043a8704680ac886da9"), looks := false }, kinds := [], alts := [], laidByText := true, laidKinds := [.data, .pinned], laidTests := true, laidLooks := .later }
def RowsApartUptoCardSaid : Prop := Claim7.holds Tryd.pinned (.plain (OpenSpec.upto rowsApartSpec)) rowsApartUptoCard
end Rows
end Go.Proofs.YtccopljpceolcaaDoor
