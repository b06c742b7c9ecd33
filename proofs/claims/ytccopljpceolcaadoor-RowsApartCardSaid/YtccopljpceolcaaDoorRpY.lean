/- RowsApart's walk, its numbers as the frame hands them. -/
import Derived.Test.YtccopljpceolcaaDoorRpP
set_option linter.unusedVariables false
namespace Go.Proofs.Tryd.Rows
open Go.RowKit Go.Cph Go.Cph.Ok Go.Proofs.Tryd.Nu Go.Proofs.Tryd.Ok
open Go.Cph.Px (Ad Pf)
open Go.Proofs.Tryd.Pfx (encA)
theorem apart_law_i (p q : Pf) (a b : Ad) (n k c : Int) (m : Int) (w : World) (hn : ∃ x : UInt64, n = (x.toNat : Int)) (hk : ∃ x : UInt64, k = (x.toNat : Int)) (hc : ∃ x : UInt8, c = (x.toNat : Int)) (hm : MaxAt m w) :
    Calls Tryd.prog 8 #[Pfx.encP p, Pfx.encP q, encA a, encA b, .int .u64 n, .int .u64 k, .int .u8 c] w fun e w' => e = .returned (.bool true) ∧ Below w.heap.size w w' := by
  obtain ⟨n, rfl⟩ := hn
  obtain ⟨k, rfl⟩ := hk
  obtain ⟨c, rfl⟩ := hc
  exact apart_law p q a b n k c m w hm
end Go.Proofs.Tryd.Rows
