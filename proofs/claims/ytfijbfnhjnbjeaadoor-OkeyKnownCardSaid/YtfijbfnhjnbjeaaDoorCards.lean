/-
  DERIVED. GIVEN WITH THE SEED: THE CARDS: each row of YtfijbfnhjnbjeaaDoorRows.lean that lists a variable, with what it lists TIED to the program's text (the seventh form; the later family's looks); each row that meets fmt, with fmt's text TOLD by the authors' own Lean function (tested against real Go, not proved from fmt's source: count such statements apart). THE CARD IS WHAT COUNTS. Prove the row's statement (the work); the ties are given (YtfijbfnhjnbjeaaDoorTie.lean); close each card by the builder's one call (the guide's Derived/Test/ToyasCard.lean, 'card_holds'). Laid BY PROGRAM, IN A SANDBOX (cutbox-door.mjs). By AI agents, Wed Nov 11 2026. No macro, syntax, notation, axiom, sorry.
-/
import Derived.Test.YtfijbfnhjnbjeaaDoorRows
import GoSem.ClaimSeven
namespace Go.Proofs.YtfijbfnhjnbjeaaDoor
namespace Rows

/-- THE TIED CARD OF 'copyholdlaw02.OkeyKeys'. -/
def okeyKeysCard : Claim7 := { stood := { row := okeyKeysRow, standIns := [], harness := (true, "e1f9794b95ece0f10b43b3b049679359630b424c6f1b3883245e5d33da03d55e"), looks := false }, kinds := [], alts := [], laidByText := true, laidKinds := [.data, .pinned], laidTests := true, laidLooks := .later }
def OkeyKeysCardSaid : Prop := Claim7.holds Tryd.pinned (.plain (OpenSpec.ofChange okeyKeysSpec)) okeyKeysCard

/-- THE TIED CARD OF 'copyholdlaw02.OkeyOrder'. -/
def okeyOrderCard : Claim7 := { stood := { row := okeyOrderRow, standIns := [], harness := (true, "e1f9794b95ece0f10b43b3b049679359630b424c6f1b3883245e5d33da03d55e"), looks := false }, kinds := [], alts := [], laidByText := true, laidKinds := [.data, .pinned], laidTests := true, laidLooks := .later }
def OkeyOrderCardSaid : Prop := Claim7.holds Tryd.pinned (.plain (OpenSpec.ofChange okeyOrderSpec)) okeyOrderCard

/-- THE TIED CARD OF 'copyholdlaw02.OkeyBack'. -/
def okeyBackCard : Claim7 := { stood := { row := okeyBackRow, standIns := [], harness := (true, "e1f9794b95ece0f10b43b3b049679359630b424c6f1b3883245e5d33da03d55e"), looks := false }, kinds := [], alts := [], laidByText := true, laidKinds := [.data, .pinned], laidTests := true, laidLooks := .later }
def OkeyBackCardSaid : Prop := Claim7.holds Tryd.pinned (.plain (OpenSpec.ofChange okeyBackSpec)) okeyBackCard

/-- THE TIED CARD OF 'copyholdlaw02.OkeyKnown'. -/
def okeyKnownCard : Claim7 := { stood := { row := okeyKnownRow, standIns := [], harness := (true, "e1f9794b95ece0f10b43b3b049679359630b424c6f1b3883245e5d33da03d55e"), looks := false }, kinds := [], alts := [], laidByText := true, laidKinds := [.data, .pinned], laidTests := true, laidLooks := .later }
def OkeyKnownCardSaid : Prop := Claim7.holds Tryd.pinned (.plain (OpenSpec.ofChange okeyKnownSpec)) okeyKnownCard

/-- THE TIED CARD OF 'copyholdlaw02.OkeyCompares'. -/
def okeyComparesCard : Claim7 := { stood := { row := okeyComparesRow, standIns := [], harness := (true, "e1f9794b95ece0f10b43b3b049679359630b424c6f1b3883245e5d33da03d55e"), looks := false }, kinds := [], alts := [], laidByText := true, laidKinds := [.data, .pinned], laidTests := true, laidLooks := .later }
def OkeyComparesCardSaid : Prop := Claim7.holds Tryd.pinned (.plain (OpenSpec.ofChange okeyComparesSpec)) okeyComparesCard

/-- THE TIED CARD OF 'copyholdlaw02.OkeyRange'. -/
def okeyRangeCard : Claim7 := { stood := { row := okeyRangeRow, standIns := [], harness := (true, "e1f9794b95ece0f10b43b3b049679359630b424c6f1b3883245e5d33da03d55e"), looks := false }, kinds := [], alts := [], laidByText := true, laidKinds := [.data, .pinned], laidTests := true, laidLooks := .later }
def OkeyRangeCardSaid : Prop := Claim7.holds Tryd.pinned (.plain (OpenSpec.ofChange okeyRangeSpec)) okeyRangeCard

/-- THE SECOND FORM's CARD OF 'copyholdlaw02.OkeyKeys'. -/
def okeyKeysUptoCard : Claim7 := { stood := { row := okeyKeysUptoRow, standIns := [], harness := (true, "e1f9794b95ece0f10b43b3b049679359630b424c6f1b3883245e5d33da03d55e"), looks := false }, kinds := [], alts := [], laidByText := true, laidKinds := [.data, .pinned], laidTests := true, laidLooks := .later }
def OkeyKeysUptoCardSaid : Prop := Claim7.holds Tryd.pinned (.plain (OpenSpec.upto okeyKeysSpec)) okeyKeysUptoCard

/-- THE SECOND FORM's CARD OF 'copyholdlaw02.OkeyOrder'. -/
def okeyOrderUptoCard : Claim7 := { stood := { row := okeyOrderUptoRow, standIns := [], harness := (true, "e1f9794b95ece0f10b43b3b049679359630b424c6f1b3883245e5d33da03d55e"), looks := false }, kinds := [], alts := [], laidByText := true, laidKinds := [.data, .pinned], laidTests := true, laidLooks := .later }
def OkeyOrderUptoCardSaid : Prop := Claim7.holds Tryd.pinned (.plain (OpenSpec.upto okeyOrderSpec)) okeyOrderUptoCard

/-- THE SECOND FORM's CARD OF 'copyholdlaw02.OkeyBack'. -/
def okeyBackUptoCard : Claim7 := { stood := { row := okeyBackUptoRow, standIns := [], harness := (true, "e1f9794b95ece0f10b43b3b049679359630b424c6f1b3883245e5d33da03d55e"), looks := false }, kinds := [], alts := [], laidByText := true, laidKinds := [.data, .pinned], laidTests := true, laidLooks := .later }
def OkeyBackUptoCardSaid : Prop := Claim7.holds Tryd.pinned (.plain (OpenSpec.upto okeyBackSpec)) okeyBackUptoCard

/-- THE SECOND FORM's CARD OF 'copyholdlaw02.OkeyKnown'. -/
def okeyKnownUptoCard : Claim7 := { stood := { row := okeyKnownUptoRow, standIns := [], harness := (true, "e1f9794b95ece0f10b43b3b049679359630b424c6f1b3883245e5d33da03d55e"), looks := false }, kinds := [], alts := [], laidByText := true, laidKinds := [.data, .pinned], laidTests := true, laidLooks := .later }
def OkeyKnownUptoCardSaid : Prop := Claim7.holds Tryd.pinned (.plain (OpenSpec.upto okeyKnownSpec)) okeyKnownUptoCard

/-- THE SECOND FORM's CARD OF 'copyholdlaw02.OkeyCompares'. -/
def okeyComparesUptoCard : Claim7 := { stood := { row := okeyComparesUptoRow, standIns := [], harness := (true, "e1f9794b95ece0f10b43b3b049679359630b424c6f1b3883245e5d33da03d55e"), looks := false }, kinds := [], alts := [], laidByText := true, laidKinds := [.data, .pinned], laidTests := true, laidLooks := .later }
def OkeyComparesUptoCardSaid : Prop := Claim7.holds Tryd.pinned (.plain (OpenSpec.upto okeyComparesSpec)) okeyComparesUptoCard

/-- THE SECOND FORM's CARD OF 'copyholdlaw02.OkeyRange'. -/
def okeyRangeUptoCard : Claim7 := { stood := { row := okeyRangeUptoRow, standIns := [], harness := (true, "e1f9794b95ece0f10b43b3b049679359630b424c6f1b3883245e5d33da03d55e"), looks := false }, kinds := [], alts := [], laidByText := true, laidKinds := [.data, .pinned], laidTests := true, laidLooks := .later }
def OkeyRangeUptoCardSaid : Prop := Claim7.holds Tryd.pinned (.plain (OpenSpec.upto okeyRangeSpec)) okeyRangeUptoCard
end Rows
end Go.Proofs.YtfijbfnhjnbjeaaDoor
