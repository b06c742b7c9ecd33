/-
  DERIVED. GIVEN WITH THE SEED: THE CARDS: each row of YtmjjhnfdpiclfaaGreatDoorRows.lean that lists a variable, with what it lists TIED to the program's text (the seventh form; the later family's looks); each row that meets fmt, with fmt's text TOLD by the authors' own Lean function (tested against real Go, not proved from fmt's source: count such statements apart). THE CARD IS WHAT COUNTS. Prove the row's statement (the work); the ties are given (YtmjjhnfdpiclfaaGreatDoorTie.lean); close each card by the builder's one call (the guide's Derived/Test/ToyasCard.lean, 'card_holds'). Laid BY PROGRAM, IN A SANDBOX (cutbox-door.mjs). By AI agents, Wed Nov 11 2026. No macro, syntax, notation, axiom, sorry.
-/
import Derived.Test.YtmjjhnfdpiclfaaGreatDoorRows
import GoSem.ClaimSeven
namespace Go.Proofs.YtmjjhnfdpiclfaaGreatDoor
namespace Rows

/-- THE TIED CARD OF 'copyholdlaw20.CidrReads'. -/
def cidrReadsCard : Claim7 := { stood := { row := cidrReadsRow, standIns := [], harness := (true, "1e2fc29871da54edc17717a7d8c4a02f817b13b662f6eb15a95fcfb10b22dec8"), looks := true }, kinds := [], alts := [], laidByText := true, laidKinds := [.data, .data, .data, .data, .sentinel, .sentinel, .pinned], laidTests := true, laidLooks := .later }
def CidrReadsCardSaid : Prop := Claim7.holds Tryz.pinned (.plain (OpenSpec.ofChange cidrReadsSpec)) cidrReadsCard

/-- THE TIED CARD OF 'copyholdlaw20.CidrCovers'. -/
def cidrCoversCard : Claim7 := { stood := { row := cidrCoversRow, standIns := [], harness := (true, "1e2fc29871da54edc17717a7d8c4a02f817b13b662f6eb15a95fcfb10b22dec8"), looks := true }, kinds := [], alts := [], laidByText := true, laidKinds := [.data, .data, .data, .data, .sentinel, .sentinel, .pinned], laidTests := true, laidLooks := .later }
def CidrCoversCardSaid : Prop := Claim7.holds Tryz.pinned (.plain (OpenSpec.ofChange cidrCoversSpec)) cidrCoversCard

/-- THE TIED CARD OF 'copyholdlaw20.CidrTells'. -/
def cidrTellsCard : Claim7 := { stood := { row := cidrTellsRow, standIns := [], harness := (true, "1e2fc29871da54edc17717a7d8c4a02f817b13b662f6eb15a95fcfb10b22dec8"), looks := true }, kinds := [], alts := [], laidByText := true, laidKinds := [.data, .data, .data, .data, .sentinel, .sentinel, .pinned], laidTests := true, laidLooks := .later }
def CidrTellsCardSaid : Prop := Claim7.holds Tryz.pinned (.plain (OpenSpec.ofChange cidrTellsSpec)) cidrTellsCard

/-- THE SECOND FORM's CARD OF 'copyholdlaw20.CidrReads'. -/
def cidrReadsUptoCard : Claim7 := { stood := { row := cidrReadsUptoRow, standIns := [], harness := (true, "1e2fc29871da54edc17717a7d8c4a02f817b13b662f6eb15a95fcfb10b22dec8"), looks := true }, kinds := [], alts := [], laidByText := true, laidKinds := [.data, .data, .data, .data, .sentinel, .sentinel, .pinned], laidTests := true, laidLooks := .later }
def CidrReadsUptoCardSaid : Prop := Claim7.holds Tryz.pinned (.plain (OpenSpec.upto cidrReadsSpec)) cidrReadsUptoCard

/-- THE SECOND FORM's CARD OF 'copyholdlaw20.CidrCovers'. -/
def cidrCoversUptoCard : Claim7 := { stood := { row := cidrCoversUptoRow, standIns := [], harness := (true, "1e2fc29871da54edc17717a7d8c4a02f817b13b662f6eb15a95fcfb10b22dec8"), looks := true }, kinds := [], alts := [], laidByText := true, laidKinds := [.data, .data, .data, .data, .sentinel, .sentinel, .pinned], laidTests := true, laidLooks := .later }
def CidrCoversUptoCardSaid : Prop := Claim7.holds Tryz.pinned (.plain (OpenSpec.upto cidrCoversSpec)) cidrCoversUptoCard

/-- THE SECOND FORM's CARD OF 'copyholdlaw20.CidrTells'. -/
def cidrTellsUptoCard : Claim7 := { stood := { row := cidrTellsUptoRow, standIns := [], harness := (true, "1e2fc29871da54edc17717a7d8c4a02f817b13b662f6eb15a95fcfb10b22dec8"), looks := true }, kinds := [], alts := [], laidByText := true, laidKinds := [.data, .data, .data, .data, .sentinel, .sentinel, .pinned], laidTests := true, laidLooks := .later }
def CidrTellsUptoCardSaid : Prop := Claim7.holds Tryz.pinned (.plain (OpenSpec.upto cidrTellsSpec)) cidrTellsUptoCard
end Rows
end Go.Proofs.YtmjjhnfdpiclfaaGreatDoor
