/- The document's neighbours: their walks. -/
import Derived.Test.YtmjjhnfdpiclfaaGreatDoorBt7
import Derived.Test.YtmjjhnfdpiclfaaGreatDoorMW
set_option linter.unusedVariables false
set_option linter.unusedSimpArgs false
set_option maxRecDepth 100000
namespace Go.Proofs.Tryz.Tx
open Go.RowKit Go.Cph Go.Cph.Tx
open Go.Cph.Ok (ofBs)
open Go.Cph.Px (Ad rightA bytesA zeroA lessA fromB fromOk)
open Go.Proofs.Tryz.Pfx (encA bcell ad_eq BsAt bs_cells encB rbytes BytesPost)
open Go.Proofs.Tryz.Rows (boxZR below_set3)
open Go.Proofs.Tryz.Gp (nextA backA nearA NearPost)
theorem u8_up (c : UInt8) : IntKind.u8.wrap ((c.toNat : Int) + 1) = ((c + 1).toNat : Int) := by
  rw [IntKind.wrap_u8, UInt8.toNat_add]
  have : (1 : UInt8).toNat = 1 := rfl
  have := c.toNat_lt
  omega
theorem u8_down (c : UInt8) : IntKind.u8.wrap ((c.toNat : Int) - 1) = ((c - 1).toNat : Int) := by
  rw [IntKind.wrap_u8, UInt8.toNat_sub]
  have : (1 : UInt8).toNat = 1 := rfl
  have := c.toNat_lt
  omega
theorem u8_upm (c : UInt8) : ((c.toNat : Int) + 1) % 256 = ((c + 1).toNat : Int) := by
  rw [UInt8.toNat_add]
  have : (1 : UInt8).toNat = 1 := rfl
  have := c.toNat_lt
  omega
theorem below_set3n {B : Nat} {W0 W : World} {g : Nat} (h : Below B W0 W) (hg : B ≤ g) (a b c : Value) : Below B W0 (((W.setCell ⟨g, 0, none⟩ a).setCell ⟨g, 1, none⟩ b).setCell ⟨g, 2, none⟩ c) :=
  ((h.setCell (p := ⟨g, 0, none⟩) hg a).setCell (p := ⟨g, 1, none⟩) hg b).setCell (p := ⟨g, 2, none⟩) hg c
theorem set_mid (y : Bs) (c d : UInt8) (t : Bs) : (y ++ c :: t).set y.length d = y ++ d :: t := by simp
theorem rep_mid (y : Bs) (b : UInt8) (n : Nat) : y ++ b :: List.replicate n b = y ++ List.replicate (n + 1) b := by rw [List.replicate_succ]
theorem getD_mid (y : Bs) (c : UInt8) (t : Bs) : (y ++ c :: t).getD y.length 0 = c := by simp
end Go.Proofs.Tryz.Tx
