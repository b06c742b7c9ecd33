/-
  DERIVED. GIVEN WITH THE SEED: THE CARDS: each row of YtpikpfbpoihioaaDoorRows.lean that lists a variable, with what it lists TIED to the program's text (the seventh form; the later family's looks); each row that meets fmt, with fmt's text TOLD by the authors' own Lean function (tested against real Go, not proved from fmt's source: count such statements apart). THE CARD IS WHAT COUNTS. Prove the row's statement (the work); the ties are given (YtpikpfbpoihioaaDoorTie.lean); close each card by the builder's one call (the guide's Derived/Test/ToyasCard.lean, 'card_holds'). Laid BY PROGRAM, IN A SANDBOX (cutbox-door.mjs). By AI agents, Wed Nov 11 2026. No macro, syntax, notation, axiom, sorry.
-/
import Derived.Test.YtpikpfbpoihioaaDoorRows
import GoSem.ClaimSeven
namespace Go.Proofs.YtpikpfbpoihioaaDoor
namespace Rows

/-- THE TIED CARD OF 'copyholdlaw19.AddrOrder'. -/
def addrOrderCard : Claim7 := { stood := { row := addrOrderRow, standIns := [], harness := (true, "39173c54098b112cc51cc510cf93abd55c03fd972d54f72fa4aa17f7fb7977ed"), looks := true }, kinds := [], alts := [], laidByText := true, laidKinds := [.data, .data, .data, .data, .sentinel, .sentinel, .pinned], laidTests := true, laidLooks := .later }
def AddrOrderCardSaid : Prop := Claim7.holds Tryd.pinned (.plain (OpenSpec.ofChange addrOrderSpec)) addrOrderCard

/-- THE TIED CARD OF 'copyholdlaw19.AddrKnown'. -/
def addrKnownCard : Claim7 := { stood := { row := addrKnownRow, standIns := [], harness := (true, "39173c54098b112cc51cc510cf93abd55c03fd972d54f72fa4aa17f7fb7977ed"), looks := true }, kinds := [], alts := [], laidByText := true, laidKinds := [.data, .data, .data, .data, .sentinel, .sentinel, .pinned], laidTests := true, laidLooks := .later }
def AddrKnownCardSaid : Prop := Claim7.holds Tryd.pinned (.plain (OpenSpec.ofChange addrKnownSpec)) addrKnownCard

/-- THE TIED CARD OF 'copyholdlaw19.AddrTells'. -/
def addrTellsCard : Claim7 := { stood := { row := addrTellsRow, standIns := [], harness := (true, "39173c54098b112cc51cc510cf93abd55c03fd972d54f72fa4aa17f7fb7977ed"), looks := true }, kinds := [], alts := [], laidByText := true, laidKinds := [.data, .data, .data, .data, .sentinel, .sentinel, .pinned], laidTests := true, laidLooks := .later }
def AddrTellsCardSaid : Prop := Claim7.holds Tryd.pinned (.plain (OpenSpec.ofChange addrTellsSpec)) addrTellsCard

/-- THE TIED CARD OF 'copyholdlaw19.AddrNear'. -/
def addrNearCard : Claim7 := { stood := { row := addrNearRow, standIns := [], harness := (true, "39173c54098b112cc51cc510cf93abd55c03fd972d54f72fa4aa17f7fb7977ed"), looks := true }, kinds := [], alts := [], laidByText := true, laidKinds := [.data, .data, .data, .data, .sentinel, .sentinel, .pinned], laidTests := true, laidLooks := .later }
def AddrNearCardSaid : Prop := Claim7.holds Tryd.pinned (.plain (OpenSpec.ofChange addrNearSpec)) addrNearCard

/-- THE TIED CARD OF 'copyholdlaw19.AddrReads'. -/
def addrReadsCard : Claim7 := { stood := { row := addrReadsRow, standIns := [], harness := (true, "39173c54098b112cc51cc510cf93abd55c03fd972d54f72fa4aa17f7fb7977ed"), looks := true }, kinds := [], alts := [], laidByText := true, laidKinds := [.data, .data, .data, .data, .sentinel, .sentinel, .pinned], laidTests := true, laidLooks := .later }
def AddrReadsCardSaid : Prop := Claim7.holds Tryd.pinned (.plain (OpenSpec.ofChange addrReadsSpec)) addrReadsCard

/-- THE TIED CARD OF 'copyholdlaw19.AddrBack'. -/
def addrBackCard : Claim7 := { stood := { row := addrBackRow, standIns := [], harness := (true, "39173c54098b112cc51cc510cf93abd55c03fd972d54f72fa4aa17f7fb7977ed"), looks := true }, kinds := [], alts := [], laidByText := true, laidKinds := [.data, .data, .data, .data, .sentinel, .sentinel, .pinned], laidTests := true, laidLooks := .later }
def AddrBackCardSaid : Prop := Claim7.holds Tryd.pinned (.plain (OpenSpec.ofChange addrBackSpec)) addrBackCard

/-- THE SECOND FORM's CARD OF 'copyholdlaw19.AddrOrder'. -/
def addrOrderUptoCard : Claim7 := { stood := { row := addrOrderUptoRow, standIns := [], harness := (true, "39173c54098b112cc51cc510cf93abd55c03fd972d54f72fa4aa17f7fb7977ed"), looks := true }, kinds := [], alts := [], laidByText := true, laidKinds := [.data, .data, .data, .data, .sentinel, .sentinel, .pinned], laidTests := true, laidLooks := .later }
def AddrOrderUptoCardSaid : Prop := Claim7.holds Tryd.pinned (.plain (OpenSpec.upto addrOrderSpec)) addrOrderUptoCard

/-- THE SECOND FORM's CARD OF 'copyholdlaw19.AddrKnown'. -/
def addrKnownUptoCard : Claim7 := { stood := { row := addrKnownUptoRow, standIns := [], harness := (true, "39173c54098b112cc51cc510cf93abd55c03fd972d54f72fa4aa17f7fb7977ed"), looks := true }, kinds := [], alts := [], laidByText := true, laidKinds := [.data, .data, .data, .data, .sentinel, .sentinel, .pinned], laidTests := true, laidLooks := .later }
def AddrKnownUptoCardSaid : Prop := Claim7.holds Tryd.pinned (.plain (OpenSpec.upto addrKnownSpec)) addrKnownUptoCard

/-- THE SECOND FORM's CARD OF 'copyholdlaw19.AddrTells'. -/
def addrTellsUptoCard : Claim7 := { stood := { row := addrTellsUptoRow, standIns := [], harness := (true, "39173c54098b112cc51cc510cf93abd55c03fd972d54f72fa4aa17f7fb7977ed"), looks := true }, kinds := [], alts := [], laidByText := true, laidKinds := [.data, .data, .data, .data, .sentinel, .sentinel, .pinned], laidTests := true, laidLooks := .later }
def AddrTellsUptoCardSaid : Prop := Claim7.holds Tryd.pinned (.plain (OpenSpec.upto addrTellsSpec)) addrTellsUptoCard

/-- THE SECOND FORM's CARD OF 'copyholdlaw19.AddrNear'. -/
def addrNearUptoCard : Claim7 := { stood := { row := addrNearUptoRow, standIns := [], harness := (true, "39173c54098b112cc51cc510cf93abd55c03fd972d54f72fa4aa17f7fb7977ed"), looks := true }, kinds := [], alts := [], laidByText := true, laidKinds := [.data, .data, .data, .data, .sentinel, .sentinel, .pinned], laidTests := true, laidLooks := .later }
def AddrNearUptoCardSaid : Prop := Claim7.holds Tryd.pinned (.plain (OpenSpec.upto addrNearSpec)) addrNearUptoCard

/-- THE SECOND FORM's CARD OF 'copyholdlaw19.AddrReads'. -/
def addrReadsUptoCard : Claim7 := { stood := { row := addrReadsUptoRow, standIns := [], harness := (true, "39173c54098b112cc51cc510cf93abd55c03fd972d54f72fa4aa17f7fb7977ed"), looks := true }, kinds := [], alts := [], laidByText := true, laidKinds := [.data, .data, .data, .data, .sentinel, .sentinel, .pinned], laidTests := true, laidLooks := .later }
def AddrReadsUptoCardSaid : Prop := Claim7.holds Tryd.pinned (.plain (OpenSpec.upto addrReadsSpec)) addrReadsUptoCard

/-- THE SECOND FORM's CARD OF 'copyholdlaw19.AddrBack'. -/
def addrBackUptoCard : Claim7 := { stood := { row := addrBackUptoRow, standIns := [], harness := (true, "39173c54098b112cc51cc510cf93abd55c03fd972d54f72fa4aa17f7fb7977ed"), looks := true }, kinds := [], alts := [], laidByText := true, laidKinds := [.data, .data, .data, .data, .sentinel, .sentinel, .pinned], laidTests := true, laidLooks := .later }
def AddrBackUptoCardSaid : Prop := Claim7.holds Tryd.pinned (.plain (OpenSpec.upto addrBackSpec)) addrBackUptoCard
end Rows
end Go.Proofs.YtpikpfbpoihioaaDoor
