/- Addresses and spans held against each other, as the program's operations. -/
import Derived.Test.YtmnfddmjlkkcoaaGr5
set_option linter.unusedVariables false
set_option linter.unusedSimpArgs false
namespace Go.Proofs.Try.Gp
open Go.RowKit Go.Cph Go.Cph.Px Go.Cph.Gp Go.Cph.So
open Pfx (encA)
theorem run_eqlAa (p q : Ad) (w : World) : (binOp .eql 25 (encA p) (encA q)).run Try.prog w = .ok (.bool ((p == q))) w := by
  have hb : (p == q) = (((p.1.toNat : Int) == q.1.toNat) && (((p.2.1.toNat : Int) == q.2.1.toNat) && ((p.2.2.toNat : Int) == q.2.2.toNat))) := by
    rw [Bool.eq_iff_iff, ad_eq]
    simp only [Bool.and_eq_true, beq_iff_eq]
  rw [hb]
  cases b0 : ((p.1.toNat : Int) == q.1.toNat) <;> cases b1 : ((p.2.1.toNat : Int) == q.2.1.toNat) <;> cases b2 : ((p.2.2.toNat : Int) == q.2.2.toNat) <;> go_simp
theorem run_neqAa (p q : Ad) (w : World) : (binOp .neq 25 (encA p) (encA q)).run Try.prog w = .ok (.bool (!(p == q))) w := by
  have hb : (p == q) = (((p.1.toNat : Int) == q.1.toNat) && (((p.2.1.toNat : Int) == q.2.1.toNat) && ((p.2.2.toNat : Int) == q.2.2.toNat))) := by
    rw [Bool.eq_iff_iff, ad_eq]
    simp only [Bool.and_eq_true, beq_iff_eq]
  rw [hb]
  cases b0 : ((p.1.toNat : Int) == q.1.toNat) <;> cases b1 : ((p.2.1.toNat : Int) == q.2.1.toNat) <;> cases b2 : ((p.2.2.toNat : Int) == q.2.2.toNat) <;> go_simp
theorem run_neqAr (p q : Ad) (w : World) : (binOp .neq 36 (encA p) (encA q)).run Try.prog w = .ok (.bool (!(p == q))) w := by
  have hb : (p == q) = (((p.1.toNat : Int) == q.1.toNat) && (((p.2.1.toNat : Int) == q.2.1.toNat) && ((p.2.2.toNat : Int) == q.2.2.toNat))) := by
    rw [Bool.eq_iff_iff, ad_eq]
    simp only [Bool.and_eq_true, beq_iff_eq]
  rw [hb]
  cases b0 : ((p.1.toNat : Int) == q.1.toNat) <;> cases b1 : ((p.2.1.toNat : Int) == q.2.1.toNat) <;> cases b2 : ((p.2.2.toNat : Int) == q.2.2.toNat) <;> go_simp
set_option maxHeartbeats 4000000 in
theorem run_eqlS (p q : Sp) (w : World) : (binOp .eql 38 (encP p) (encP q)).run Try.prog w = .ok (.bool ((p == q))) w := by
  have hb : (p == q) = (((p.1.1.toNat : Int) == q.1.1.toNat) && (((p.1.2.1.toNat : Int) == q.1.2.1.toNat) && (((p.1.2.2.toNat : Int) == q.1.2.2.toNat) && (((p.2.1.toNat : Int) == q.2.1.toNat) && (((p.2.2.1.toNat : Int) == q.2.2.1.toNat) && ((p.2.2.2.toNat : Int) == q.2.2.2.toNat)))))) := by
    rw [Bool.eq_iff_iff, sp_eq]
    simp only [Bool.and_eq_true, beq_iff_eq, and_assoc]
  rw [hb]
  cases b0 : ((p.1.1.toNat : Int) == q.1.1.toNat) <;> cases b1 : ((p.1.2.1.toNat : Int) == q.1.2.1.toNat) <;> cases b2 : ((p.1.2.2.toNat : Int) == q.1.2.2.toNat) <;> cases b3 : ((p.2.1.toNat : Int) == q.2.1.toNat) <;> cases b4 : ((p.2.2.1.toNat : Int) == q.2.2.1.toNat) <;> cases b5 : ((p.2.2.2.toNat : Int) == q.2.2.2.toNat) <;> go_simp
set_option maxHeartbeats 4000000 in
theorem run_neqS (p q : Sp) (w : World) : (binOp .neq 38 (encP p) (encP q)).run Try.prog w = .ok (.bool (!(p == q))) w := by
  have hb : (p == q) = (((p.1.1.toNat : Int) == q.1.1.toNat) && (((p.1.2.1.toNat : Int) == q.1.2.1.toNat) && (((p.1.2.2.toNat : Int) == q.1.2.2.toNat) && (((p.2.1.toNat : Int) == q.2.1.toNat) && (((p.2.2.1.toNat : Int) == q.2.2.1.toNat) && ((p.2.2.2.toNat : Int) == q.2.2.2.toNat)))))) := by
    rw [Bool.eq_iff_iff, sp_eq]
    simp only [Bool.and_eq_true, beq_iff_eq, and_assoc]
  rw [hb]
  cases b0 : ((p.1.1.toNat : Int) == q.1.1.toNat) <;> cases b1 : ((p.1.2.1.toNat : Int) == q.1.2.1.toNat) <;> cases b2 : ((p.1.2.2.toNat : Int) == q.1.2.2.toNat) <;> cases b3 : ((p.2.1.toNat : Int) == q.2.1.toNat) <;> cases b4 : ((p.2.2.1.toNat : Int) == q.2.2.1.toNat) <;> cases b5 : ((p.2.2.2.toNat : Int) == q.2.2.2.toNat) <;> go_simp
end Go.Proofs.Try.Gp
