/- The laws of addresses: addresses held against each other; what awake tells. -/
import Derived.Test.YtmjjhnfdpiclfaaGreatDoorMV
import Derived.Test.YtmjjhnfdpiclfaaGreatDoorAa2
set_option linter.unusedVariables false
set_option linter.unusedSimpArgs false
set_option maxRecDepth 100000
namespace Go.Proofs.Tryz.Tx
open Go.RowKit Go.Cph Go.Cph.Tx
open Go.Cph.Ok (ofBs)
open Go.Cph.Px (Ad rightA bytesA zeroA lessA)
open Go.Proofs.Tryz.Pfx (encA bcell ad_eq)
open Go.Proofs.Tryz.Rows (boxZ below_set3)
open Go.Proofs.Tryz.Gp (nextA backA NearPost)
theorem ad_bool (p q : Ad) : (p == q) = (((p.1.toNat : Int) == q.1.toNat) && (((p.2.1.toNat : Int) == q.2.1.toNat) && ((p.2.2.toNat : Int) == q.2.2.toNat))) := by
  rw [Bool.eq_iff_iff, ad_eq]
  simp only [Bool.and_eq_true, beq_iff_eq]
theorem run_eqlA (p q : Ad) (w : World) : (binOp .eql 24 (encA p) (encA q)).run Tryz.prog w = .ok (.bool ((p == q))) w := by
  rw [ad_bool]
  cases b0 : ((p.1.toNat : Int) == q.1.toNat) <;> cases b1 : ((p.2.1.toNat : Int) == q.2.1.toNat) <;> cases b2 : ((p.2.2.toNat : Int) == q.2.2.toNat) <;> go_simp
theorem run_neqA (p q : Ad) (w : World) : (binOp .neq 24 (encA p) (encA q)).run Tryz.prog w = .ok (.bool (!(p == q))) w := by
  rw [ad_bool]
  cases b0 : ((p.1.toNat : Int) == q.1.toNat) <;> cases b1 : ((p.2.1.toNat : Int) == q.2.1.toNat) <;> cases b2 : ((p.2.2.toNat : Int) == q.2.2.toNat) <;> go_simp
abbrev A1 : Ad := (4, 0, 0xc0000201)
abbrev A2 : Ad := (6, 0x20010db800000000, 0x0001000000000001)
abbrev S1 : Bs := [49, 57, 50, 46, 48, 46, 50, 46, 49]
abbrev S2 : Bs := [50, 48, 48, 49, 58, 100, 98, 56, 58, 58, 49, 58, 48, 58, 48, 58, 49]
theorem text1 : textA A1 = S1 := by decide +kernel
theorem text2 : textA A2 = S2 := by decide +kernel
theorem parse1 : progParse S1 = some A1 := (prog_iff _ _).2 ⟨by decide, text1⟩
theorem parse2 : progParse S2 = some A2 := (prog_iff _ _).2 ⟨by decide, text2⟩
theorem next255 : nextA (4, 0, 255) = ((4, 0, 256), true) := by decide +kernel
end Go.Proofs.Tryz.Tx
