/- Two prefixes held against each other, as the program's operation. -/
import Derived.Test.YtbhnpndkdhhpfaaPsS
set_option linter.unusedVariables false
set_option linter.unusedSimpArgs false
namespace Go.Proofs.Try.Pfx
open Go.RowKit Go.Cph Go.Cph.Px

theorem run_eqlP (p q : Pf) (w : World) : (binOp .eql 27 (encP p) (encP q)).run Try.prog w = .ok (.bool (p == q)) w := by
  have hb : (p == q) = ((p.1.1.toNat : Int) == q.1.1.toNat && ((p.1.2.1.toNat : Int) == q.1.2.1.toNat && ((p.1.2.2.toNat : Int) == q.1.2.2.toNat && (p.2 == q.2)))) := by
    rw [Bool.eq_iff_iff, pf_eq]
    simp only [Bool.and_eq_true, beq_iff_eq]
  rw [hb]
  cases b0 : ((p.1.1.toNat : Int) == q.1.1.toNat) <;> cases b1 : ((p.1.2.1.toNat : Int) == q.1.2.1.toNat) <;> cases b2 : ((p.1.2.2.toNat : Int) == q.1.2.2.toNat) <;> cases b3 : (p.2 == q.2) <;> go_simp
end Go.Proofs.Try.Pfx
