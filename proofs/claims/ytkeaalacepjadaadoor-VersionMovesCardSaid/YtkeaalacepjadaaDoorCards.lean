/-
  DERIVED. GIVEN WITH THE SEED: THE CARDS: each row of YtkeaalacepjadaaDoorRows.lean that lists a variable, with what it lists TIED to the program's text (the seventh form; the later family's looks); each row that meets fmt, with fmt's text TOLD by the authors' own Lean function (tested against real Go, not proved from fmt's source: count such statements apart). THE CARD IS WHAT COUNTS. Prove the row's statement (the work); the ties are given (YtkeaalacepjadaaDoorTie.lean); close each card by the builder's one call (the guide's Derived/Test/ToyasCard.lean, 'card_holds'). Laid BY PROGRAM, IN A SANDBOX (cutbox-door.mjs). By AI agents, Wed Nov 11 2026. No macro, syntax, notation, axiom, sorry.
-/
import Derived.Test.YtkeaalacepjadaaDoorRows
import GoSem.ClaimSeven
namespace Go.Proofs.YtkeaalacepjadaaDoor
namespace Rows

/-- THE TIED CARD OF 'copyholdlaw14.VersionFinds'. -/
def versionFindsCard : Claim7 := { stood := { row := versionFindsRow, standIns := [], harness := (true, "aefb58c46982b2e01677956fd615057d9f50492d84b8b00a4e462c4efee74352"), looks := false }, kinds := [], alts := [], laidByText := true, laidKinds := [.data], laidTests := true, laidLooks := .later }
def VersionFindsCardSaid : Prop := Claim7.holds Tryd.pinned (.plain (OpenSpec.ofChange versionFindsSpec)) versionFindsCard

/-- THE TIED CARD OF 'copyholdlaw14.VersionKnown'. -/
def versionKnownCard : Claim7 := { stood := { row := versionKnownRow, standIns := [], harness := (true, "aefb58c46982b2e01677956fd615057d9f50492d84b8b00a4e462c4efee74352"), looks := false }, kinds := [], alts := [], laidByText := true, laidKinds := [.data], laidTests := true, laidLooks := .later }
def VersionKnownCardSaid : Prop := Claim7.holds Tryd.pinned (.plain (OpenSpec.ofChange versionKnownSpec)) versionKnownCard

/-- THE TIED CARD OF 'copyholdlaw14.VersionMoves'. -/
def versionMovesCard : Claim7 := { stood := { row := versionMovesRow, standIns := [], harness := (true, "aefb58c46982b2e01677956fd615057d9f50492d84b8b00a4e462c4efee74352"), looks := false }, kinds := [], alts := [], laidByText := true, laidKinds := [.data], laidTests := true, laidLooks := .later }
def VersionMovesCardSaid : Prop := Claim7.holds Tryd.pinned (.plain (OpenSpec.ofChange versionMovesSpec)) versionMovesCard

/-- THE SECOND FORM's CARD OF 'copyholdlaw14.VersionFinds'. -/
def versionFindsUptoCard : Claim7 := { stood := { row := versionFindsUptoRow, standIns := [], harness := (true, "aefb58c46982b2e01677956fd615057d9f50492d84b8b00a4e462c4efee74352"), looks := false }, kinds := [], alts := [], laidByText := true, laidKinds := [.data], laidTests := true, laidLooks := .later }
def VersionFindsUptoCardSaid : Prop := Claim7.holds Tryd.pinned (.plain (OpenSpec.upto versionFindsSpec)) versionFindsUptoCard

/-- THE SECOND FORM's CARD OF 'copyholdlaw14.VersionKnown'. -/
def versionKnownUptoCard : Claim7 := { stood := { row := versionKnownUptoRow, standIns := [], harness := (true, "aefb58c46982b2e01677956fd615057d9f50492d84b8b00a4e462c4efee74352"), looks := false }, kinds := [], alts := [], laidByText := true, laidKinds := [.data], laidTests := true, laidLooks := .later }
def VersionKnownUptoCardSaid : Prop := Claim7.holds Tryd.pinned (.plain (OpenSpec.upto versionKnownSpec)) versionKnownUptoCard

/-- THE SECOND FORM's CARD OF 'copyholdlaw14.VersionMoves'. -/
def versionMovesUptoCard : Claim7 := { stood := { row := versionMovesUptoRow, standIns := [], harness := (true, "aefb58c46982b2e01677956fd615057d9f50492d84b8b00a4e462c4efee74352"), looks := false }, kinds := [], alts := [], laidByText := true, laidKinds := [.data], laidTests := true, laidLooks := .later }
def VersionMovesUptoCardSaid : Prop := Claim7.holds Tryd.pinned (.plain (OpenSpec.upto versionMovesSpec)) versionMovesUptoCard
end Rows
end Go.Proofs.YtkeaalacepjadaaDoor
