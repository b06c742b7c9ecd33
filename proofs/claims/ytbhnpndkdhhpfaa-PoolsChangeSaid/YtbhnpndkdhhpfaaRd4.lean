/- PoolsChange, whole. -/
import Derived.Test.YtbhnpndkdhhpfaaRd3
import Derived.Test.YtbhnpndkdhhpfaaPsV
set_option linter.unusedVariables false
set_option linter.unusedSimpArgs false
namespace Go.Proofs.Try.Pfx
open Go.RowKit Go.Cph Go.Cph.Px

set_option maxRecDepth 100000 in
set_option maxHeartbeats 2000000 in
theorem pools_change (ao : Option Addr) (cap : Nat) (l : List Pf) (p : Pf) (w : World) (h : PfsAt w (.slice ao l.length cap) l) (hm : l.length ≤ 9223372036854775807) :
    Calls Try.prog 7 #[.slice ao l.length cap, encP p] w (AwPost w) := by
  rcases Nat.lt_or_ge 60 l.length with hg | hn
  · have HG := Lib.hid (show decide (60 < l.length) = true by simpa using hg)
    have HB0 := Lib.hid (show Below w.heap.size w (w.alloc (.cells #[.int .u8 (p.1.1.toNat : Int), .int .u64 (p.1.2.1.toNat : Int), .int .u64 (p.1.2.2.toNat : Int), .int .i64 p.2] 27)) from (Below.refl _ _).alloc (Nat.le_refl _) _)
    have HGR := Lib.hid (fun w => great_any ao l.length cap w hm)
    clear h hg
    go_enter Try.func7, Try.ntmps7
    go_wp2_with fail
    refine (HGR.out _).mono ?_
    rintro e w0' ⟨rfl, rfl⟩
    rw [HG.out]
    go_wp2_with fail
    refine (awake _).mono ?_
    rintro e w1 ⟨rfl, hb⟩
    have HB1 := Lib.hid (below_step HB0.out hb HB0.out.size)
    clear hb
    go_wp2_with fail
    go_ret
    exact ⟨rfl, HB1.out⟩
  · exact change_small ao cap l p w h hn
end Go.Proofs.Try.Pfx
