/-
  DERIVED. GIVEN WITH THE SEED: THE CARDS: each row of YtmjjhnfdpiclfaaDoorRows.lean that lists a variable, with what it lists TIED to the program's text (the seventh form; the later family's looks); each row that meets fmt, with fmt's text TOLD by the authors' own Lean function (tested against real Go, not proved from fmt's source: count such statements apart). THE CARD IS WHAT COUNTS. Prove the row's statement (the work); the ties are given (YtmjjhnfdpiclfaaDoorTie.lean); close each card by the builder's one call (the guide's Derived/Test/ToyasCard.lean, 'card_holds'). Laid BY PROGRAM, IN A SANDBOX (cutbox-door.mjs). By AI agents, Wed Nov 11 2026. No macro, syntax, notation, axiom, sorry.
-/
import Derived.Test.YtmjjhnfdpiclfaaDoorRows
import GoSem.ClaimSeven
namespace Go.Proofs.YtmjjhnfdpiclfaaDoor
namespace Rows

/-- THE TIED CARD OF 'copyholdlaw20.CidrNested'. -/
def cidrNestedCard : Claim7 := { stood := { row := cidrNestedRow, standIns := [], harness := (true, "d996b7b81ca47dc2ad17abc799c5b152aaf34075ad81a3894e4cdc755def7557"), looks := true }, kinds := [], alts := [], laidByText := true, laidKinds := [.data, .data, .data, .data, .sentinel, .sentinel, .pinned], laidTests := true, laidLooks := .later }
def CidrNestedCardSaid : Prop := Claim7.holds Tryd.pinned (.plain (OpenSpec.ofChange cidrNestedSpec)) cidrNestedCard

/-- THE TIED CARD OF 'copyholdlaw20.CidrSide'. -/
def cidrSideCard : Claim7 := { stood := { row := cidrSideRow, standIns := [], harness := (true, "d996b7b81ca47dc2ad17abc799c5b152aaf34075ad81a3894e4cdc755def7557"), looks := true }, kinds := [], alts := [], laidByText := true, laidKinds := [.data, .data, .data, .data, .sentinel, .sentinel, .pinned], laidTests := true, laidLooks := .later }
def CidrSideCardSaid : Prop := Claim7.holds Tryd.pinned (.plain (OpenSpec.ofChange cidrSideSpec)) cidrSideCard

/-- THE TIED CARD OF 'copyholdlaw20.CidrBack'. -/
def cidrBackCard : Claim7 := { stood := { row := cidrBackRow, standIns := [], harness := (true, "d996b7b81ca47dc2ad17abc799c5b152aaf34075ad81a3894e4cdc755def7557"), looks := true }, kinds := [], alts := [], laidByText := true, laidKinds := [.data, .data, .data, .data, .sentinel, .sentinel, .pinned], laidTests := true, laidLooks := .later }
def CidrBackCardSaid : Prop := Claim7.holds Tryd.pinned (.plain (OpenSpec.ofChange cidrBackSpec)) cidrBackCard

/-- THE TIED CARD OF 'copyholdlaw20.CidrKnown'. -/
def cidrKnownCard : Claim7 := { stood := { row := cidrKnownRow, standIns := [], harness := (true, "d996b7b81ca47dc2ad17abc799c5b152aaf34075ad81a3894e4cdc755def7557"), looks := true }, kinds := [], alts := [], laidByText := true, laidKinds := [.data, .data, .data, .data, .sentinel, .sentinel, .pinned], laidTests := true, laidLooks := .later }
def CidrKnownCardSaid : Prop := Claim7.holds Tryd.pinned (.plain (OpenSpec.ofChange cidrKnownSpec)) cidrKnownCard

/-- THE TIED CARD OF 'copyholdlaw20.CidrHalves'. -/
def cidrHalvesCard : Claim7 := { stood := { row := cidrHalvesRow, standIns := [], harness := (true, "d996b7b81ca47dc2ad17abc799c5b152aaf34075ad81a3894e4cdc755def7557"), looks := true }, kinds := [], alts := [], laidByText := true, laidKinds := [.data, .data, .data, .data, .sentinel, .sentinel, .pinned], laidTests := true, laidLooks := .later }
def CidrHalvesCardSaid : Prop := Claim7.holds Tryd.pinned (.plain (OpenSpec.ofChange cidrHalvesSpec)) cidrHalvesCard

/-- THE SECOND FORM's CARD OF 'copyholdlaw20.CidrNested'. -/
def cidrNestedUptoCard : Claim7 := { stood := { row := cidrNestedUptoRow, standIns := [], harness := (true, "d996b7b81ca47dc2ad17abc799c5b152aaf34075ad81a3894e4cdc755def7557"), looks := true }, kinds := [], alts := [], laidByText := true, laidKinds := [.data, .data, .data, .data, .sentinel, .sentinel, .pinned], laidTests := true, laidLooks := .later }
def CidrNestedUptoCardSaid : Prop := Claim7.holds Tryd.pinned (.plain (OpenSpec.upto cidrNestedSpec)) cidrNestedUptoCard

/-- THE SECOND FORM's CARD OF 'copyholdlaw20.CidrSide'. -/
def cidrSideUptoCard : Claim7 := { stood := { row := cidrSideUptoRow, standIns := [], harness := (true, "d996b7b81ca47dc2ad17abc799c5b152aaf34075ad81a3894e4cdc755def7557"), looks := true }, kinds := [], alts := [], laidByText := true, laidKinds := [.data, .data, .data, .data, .sentinel, .sentinel, .pinned], laidTests := true, laidLooks := .later }
def CidrSideUptoCardSaid : Prop := Claim7.holds Tryd.pinned (.plain (OpenSpec.upto cidrSideSpec)) cidrSideUptoCard

/-- THE SECOND FORM's CARD OF 'copyholdlaw20.CidrBack'. -/
def cidrBackUptoCard : Claim7 := { stood := { row := cidrBackUptoRow, standIns := [], harness := (true, "d996b7b81ca47dc2ad17abc799c5b152aaf34075ad81a3894e4cdc755def7557"), looks := true }, kinds := [], alts := [], laidByText := true, laidKinds := [.data, .data, .data, .data, .sentinel, .sentinel, .pinned], laidTests := true, laidLooks := .later }
def CidrBackUptoCardSaid : Prop := Claim7.holds Tryd.pinned (.plain (OpenSpec.upto cidrBackSpec)) cidrBackUptoCard

/-- THE SECOND FORM's CARD OF 'copyholdlaw20.CidrKnown'. -/
def cidrKnownUptoCard : Claim7 := { stood := { row := cidrKnownUptoRow, standIns := [], harness := (true, "d996b7b81ca47dc2ad17abc799c5b152aaf34075ad81a3894e4cdc755def7557"), looks := true }, kinds := [], alts := [], laidByText := true, laidKinds := [.data, .data, .data, .data, .sentinel, .sentinel, .pinned], laidTests := true, laidLooks := .later }
def CidrKnownUptoCardSaid : Prop := Claim7.holds Tryd.pinned (.plain (OpenSpec.upto cidrKnownSpec)) cidrKnownUptoCard

/-- THE SECOND FORM's CARD OF 'copyholdlaw20.CidrHalves'. -/
def cidrHalvesUptoCard : Claim7 := { stood := { row := cidrHalvesUptoRow, standIns := [], harness := (true, "d996b7b81ca47dc2ad17abc799c5b152aaf34075ad81a3894e4cdc755def7557"), looks := true }, kinds := [], alts := [], laidByText := true, laidKinds := [.data, .data, .data, .data, .sentinel, .sentinel, .pinned], laidTests := true, laidLooks := .later }
def CidrHalvesUptoCardSaid : Prop := Claim7.holds Tryd.pinned (.plain (OpenSpec.upto cidrHalvesSpec)) cidrHalvesUptoCard
end Rows
end Go.Proofs.YtmjjhnfdpiclfaaDoor
