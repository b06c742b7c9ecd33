/-
  DERIVED. GIVEN WITH THE SEED: THE CARDS: each row of YtkikjbcmdlghnaaDoorRows.lean that lists a variable, with what it lists TIED to the program's text (the seventh form; the later family's looks); each row that meets fmt, with fmt's text TOLD by the authors' own Lean function (tested against real Go, not proved from fmt's source: count such statements apart). THE CARD IS WHAT COUNTS. Prove the row's statement (the work); the ties are given (YtkikjbcmdlghnaaDoorTie.lean); close each card by the builder's one call (the guide's Derived/Test/ToyasCard.lean, 'card_holds'). Laid BY PROGRAM, IN A SANDBOX (cutbox-door.mjs). By AI agents, Wed Nov 11 2026. No macro, syntax, notation, axiom, sorry.
-/
import Derived.Test.YtkikjbcmdlghnaaDoorRows
import GoSem.ClaimSeven
namespace Go.Proofs.YtkikjbcmdlghnaaDoor
namespace Rows

/-- THE TIED CARD OF 'copyholdlaw09.MemPlaces'. -/
def memPlacesCard : Claim7 := { stood := { row := memPlacesRow, standIns := [], harness := (true, "7e88d2e3598af0ceca19f3e44552b97480a7a91f263e02b010be4907f4679c74"), looks := false }, kinds := [], alts := [], laidByText := true, laidKinds := [.data, .pinned], laidTests := true, laidLooks := .later }
def MemPlacesCardSaid : Prop := Claim7.holds Tryd.pinned (.plain (OpenSpec.ofChange memPlacesSpec)) memPlacesCard

/-- THE TIED CARD OF 'copyholdlaw09.MemStill'. -/
def memStillCard : Claim7 := { stood := { row := memStillRow, standIns := [], harness := (true, "7e88d2e3598af0ceca19f3e44552b97480a7a91f263e02b010be4907f4679c74"), looks := false }, kinds := [], alts := [], laidByText := true, laidKinds := [.data, .pinned], laidTests := true, laidLooks := .later }
def MemStillCardSaid : Prop := Claim7.holds Tryd.pinned (.plain (OpenSpec.ofChange memStillSpec)) memStillCard

/-- THE TIED CARD OF 'copyholdlaw09.MemPlays'. -/
def memPlaysCard : Claim7 := { stood := { row := memPlaysRow, standIns := [], harness := (true, "7e88d2e3598af0ceca19f3e44552b97480a7a91f263e02b010be4907f4679c74"), looks := false }, kinds := [], alts := [], laidByText := true, laidKinds := [.data, .pinned], laidTests := true, laidLooks := .later }
def MemPlaysCardSaid : Prop := Claim7.holds Tryd.pinned (.plain (OpenSpec.ofChange memPlaysSpec)) memPlaysCard

/-- THE TIED CARD OF 'copyholdlaw09.MemKnown'. -/
def memKnownCard : Claim7 := { stood := { row := memKnownRow, standIns := [], harness := (true, "7e88d2e3598af0ceca19f3e44552b97480a7a91f263e02b010be4907f4679c74"), looks := false }, kinds := [], alts := [], laidByText := true, laidKinds := [.data, .pinned], laidTests := true, laidLooks := .later }
def MemKnownCardSaid : Prop := Claim7.holds Tryd.pinned (.plain (OpenSpec.ofChange memKnownSpec)) memKnownCard

/-- THE SECOND FORM's CARD OF 'copyholdlaw09.MemPlaces'. -/
def memPlacesUptoCard : Claim7 := { stood := { row := memPlacesUptoRow, standIns := [], harness := (true, "7e88d2e3598af0ceca19f3e44552b97480a7a91f263e02b010be4907f4679c74"), looks := false }, kinds := [], alts := [], laidByText := true, laidKinds := [.data, .pinned], laidTests := true, laidLooks := .later }
def MemPlacesUptoCardSaid : Prop := Claim7.holds Tryd.pinned (.plain (OpenSpec.upto memPlacesSpec)) memPlacesUptoCard

/-- THE SECOND FORM's CARD OF 'copyholdlaw09.MemStill'. -/
def memStillUptoCard : Claim7 := { stood := { row := memStillUptoRow, standIns := [], harness := (true, "7e88d2e3598af0ceca19f3e44552b97480a7a91f263e02b010be4907f4679c74"), looks := false }, kinds := [], alts := [], laidByText := true, laidKinds := [.data, .pinned], laidTests := true, laidLooks := .later }
def MemStillUptoCardSaid : Prop := Claim7.holds Tryd.pinned (.plain (OpenSpec.upto memStillSpec)) memStillUptoCard

/-- THE SECOND FORM's CARD OF 'copyholdlaw09.MemPlays'. -/
def memPlaysUptoCard : Claim7 := { stood := { row := memPlaysUptoRow, standIns := [], harness := (true, "7e88d2e3598af0ceca19f3e44552b97480a7a91f263e02b010be4907f4679c74"), looks := false }, kinds := [], alts := [], laidByText := true, laidKinds := [.data, .pinned], laidTests := true, laidLooks := .later }
def MemPlaysUptoCardSaid : Prop := Claim7.holds Tryd.pinned (.plain (OpenSpec.upto memPlaysSpec)) memPlaysUptoCard

/-- THE SECOND FORM's CARD OF 'copyholdlaw09.MemKnown'. -/
def memKnownUptoCard : Claim7 := { stood := { row := memKnownUptoRow, standIns := [], harness := (true, "7e88d2e3598af0ceca19f3e44552b97480a7a91f263e02b010be4907f4679c74"), looks := false }, kinds := [], alts := [], laidByText := true, laidKinds := [.data, .pinned], laidTests := true, laidLooks := .later }
def MemKnownUptoCardSaid : Prop := Claim7.holds Tryd.pinned (.plain (OpenSpec.upto memKnownSpec)) memKnownUptoCard
end Rows
end Go.Proofs.YtkikjbcmdlghnaaDoor
