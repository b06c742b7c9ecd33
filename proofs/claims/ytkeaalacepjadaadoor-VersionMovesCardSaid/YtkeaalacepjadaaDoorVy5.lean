/- A slice of edits as an argument, with its capacity. -/
import Derived.Test.YtkeaalacepjadaaDoorVy1
set_option linter.unusedVariables false
set_option linter.unusedSimpArgs false
namespace Go.Proofs.Tryd.Vr
open Go.RowKit Go.Cph Go.Cph.Skip Go.Cph.So Go.Cph.Ve
theorem view_edits2 {H : Type} {enc : TypeId × Value → H} {W : World} {a0 : Option Addr} {len0 cap0 : Nat} {d : DataW H} {p : List MemPlace} {base : Nat} {held : Bool}
    (h : ∃ fuel, DataW.trod enc Tryd.prog W base (fun _ => true) held fuel 22 [.slice a0 len0 cap0] = some (d, p)) :
    ∃ (ds : List Ed) (es : List Es), EdsAt W (.slice a0 len0 cap0) es ds ∧ len0 = ds.length ∧ ds.length ≤ cap0 := by
  obtain ⟨ds, es, h1, h2⟩ := view_edits h
  obtain ⟨h5, h6⟩ := view_cap Tryd.underlying22 h
  exact ⟨ds, es, h1, h2, by omega⟩
end Go.Proofs.Tryd.Vr
