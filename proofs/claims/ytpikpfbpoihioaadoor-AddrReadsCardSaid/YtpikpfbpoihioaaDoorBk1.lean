/- AddrKnown's examples, plainly. No program. -/
import Derived.Test.YtpikpfbpoihioaaDoorAt4
import Derived.Test.YtpikpfbpoihioaaDoorAz4
set_option linter.unusedVariables false
namespace Go.Cph.Tx
open Go.Cph.Px (Ad rightA)
def bs (s : String) : Bs := s.toUTF8.data.toList
def known1 : List (Ad × Bs) := [
  ((4, 0, 0), [48, 46, 48, 46, 48, 46, 48]),
  ((4, 0, 4294967295), [50, 53, 53, 46, 50, 53, 53, 46, 50, 53, 53, 46, 50, 53, 53]),
  ((6, 0, 0), [58, 58]),
  ((6, 0, 1), [58, 58, 49]),
  ((6, 281474976710658, 3), [49, 58, 48, 58, 48, 58, 50, 58, 58, 51]),
  ((6, 281483566841860, 1407400653815816), [49, 58, 50, 58, 51, 58, 52, 58, 53, 58, 54, 58, 55, 58, 56]),
  ((6, 281474976907268, 1407400653815816), [49, 58, 48, 58, 51, 58, 52, 58, 53, 58, 54, 58, 55, 58, 56]),
  ((6, 281474976710656, 0), [49, 58, 58]),
  ((6, 0, 281470698652420), [58, 58, 102, 102, 102, 102, 58, 49, 48, 50, 58, 51, 48, 52]),
  ((5, 0, 0), []), ((4, 0, 4294967296), []), ((4, 1, 0), [])]
def known2 : List Bs := [[], [48, 49, 46, 50, 46, 51, 46, 52], [49, 46, 50, 46, 51], [49, 46, 50, 46, 51, 46, 50, 53, 54], [49, 46, 50, 46, 51, 46, 52, 46, 53], [58, 58, 102, 102, 102, 102, 58, 49, 46, 50, 46, 51, 46, 52], [49, 58, 58, 48], [50, 48, 48, 49, 58, 68, 66, 56, 58, 58], [49, 58, 48, 58, 48, 58, 50, 58, 48, 58, 48, 58, 48, 58, 51], [49, 58, 50, 58, 51, 58, 52, 58, 53, 58, 54, 58, 55], [49, 58, 58, 50, 58, 58, 51], [58, 58, 58], [49, 50, 51, 52, 53, 58, 58], [49, 58, 50, 58, 51, 58, 52, 58, 53, 58, 54, 58, 55, 58, 58, 56], [32, 58, 58]]
set_option maxRecDepth 100000 in
theorem known1_all : known1.all (fun x => textA x.1 == x.2 && (rightA x.1 == !x.2.isEmpty)) = true := by decide +kernel
set_option maxRecDepth 100000 in
theorem known2_all : known2.all (fun s => (progParse s).isNone) = true := by decide +kernel
theorem known1_at {k : Nat} {a : Ad} {s : Bs} (h : known1[k]? = some (a, s)) : textA a = s ∧ rightA a = !s.isEmpty ∧ (s.isEmpty = false → progParse s = some a) := by
  have h1 := List.all_eq_true.1 known1_all _ (List.mem_of_getElem? h)
  simp only [Bool.and_eq_true, beq_iff_eq] at h1
  refine ⟨h1.1, h1.2, fun h2 => ?_⟩
  refine (prog_iff s a).2 ⟨?_, h1.1⟩
  rw [h1.2, h2]; rfl
theorem known2_at {k : Nat} {s : Bs} (h : known2[k]? = some s) : progParse s = none := by
  have h1 := List.all_eq_true.1 known2_all _ (List.mem_of_getElem? h)
  exact Option.isNone_iff_eq_none.1 h1
end Go.Cph.Tx
