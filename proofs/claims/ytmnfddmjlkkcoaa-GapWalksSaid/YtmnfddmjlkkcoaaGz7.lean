/- GapWalks' walk, its number as the statement hands it in. -/
import Derived.Test.YtmnfddmjlkkcoaaGz6
set_option linter.unusedVariables false
namespace Go.Proofs.Try.Gp
open Go.RowKit Go.Cph Go.Cph.Px Go.Cph.Gp Go.Cph.So
open Pfx (encA)
theorem walks_int (a : Ad) (z : Int) (hz : (Lit.int .u8 z).wf = true) (v : Value) (ls : List (List Sp)) (w : World) (h : SpsOf w v ls) (hlm : ls.length ≤ 9223372036854775807) (hls : ∀ l ∈ ls, l.length ≤ 9223372036854775807) :
    Calls Try.prog 8 #[v, encA a, .int .u8 z] w (AwPost w) := by
  obtain ⟨m, rfl⟩ := u8_of hz
  exact walks_law a m v ls w h hlm hls
end Go.Proofs.Try.Gp
