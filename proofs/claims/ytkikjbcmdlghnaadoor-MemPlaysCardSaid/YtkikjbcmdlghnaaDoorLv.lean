/- Puts as arguments: what a reading of them tells. -/
import Derived.Test.YtkikjbcmdlghnaaDoorKy
import Derived.Test.YtkikjbcmdlghnaaDoorVw
set_option linter.unusedVariables false
set_option linter.unusedSimpArgs false
set_option maxRecDepth 100000
namespace Go.Proofs.Tryd.Skm
open Go.RowKit Go.Cph Go.Cph.Skip Go.Cph.Skm Go.ChangeShapes Go.WideShapes Go.ChangeAt
theorem fourOf {xs : List Value} (h : xs.length = 4) : ∃ a b c d, xs = [a, b, c, d] := by
  match xs, h with
  | [a, b, c, d], _ => exact ⟨a, b, c, d, rfl⟩
def SizesOK (e : Et) : Prop := e.1.size ≤ maxLen ∧ e.2.1.size ≤ maxLen
theorem view_ent {H : Type} {enc : TypeId × Value → H} {W : World} {base : Nat} {held : Bool} (fuel : Nat) (cs : List Value) (x : DataW H × List MemPlace)
    (h : DataW.trod enc Tryd.prog W base (fun _ => true) held fuel 34 cs = some x) : ∃ e : Et, cs = encE e ∧ SizesOK e := by
  obtain ⟨xs, n, _, _, hlen, hxl, hf⟩ := DataW.trod_struct Tryd.underlying34 h
  have hlen4 : cs.length = 4 := by rw [hlen]; kernel_rfl
  have c1 : Tryd.prog.cellsOf 9 = 1 := by kernel_rfl
  have c2 : Tryd.prog.cellsOf 22 = 1 := by kernel_rfl
  have c3 : Tryd.prog.cellsOf 4 = 1 := by kernel_rfl
  obtain ⟨v0, v1, v2, v3, rfl⟩ := fourOf hlen4
  have h0 : DataW.trod enc Tryd.prog W base (fun _ => true) held n 9 (([v0, v1, v2, v3].drop 0).take (Tryd.prog.cellsOf 9)) = xs[0]? := hf 0 _ rfl
  have h1 : DataW.trod enc Tryd.prog W base (fun _ => true) held n 9 (([v0, v1, v2, v3].drop 1).take (Tryd.prog.cellsOf 9)) = xs[1]? := hf 1 _ rfl
  have h2 : DataW.trod enc Tryd.prog W base (fun _ => true) held n 22 (([v0, v1, v2, v3].drop 2).take (Tryd.prog.cellsOf 22)) = xs[2]? := hf 2 _ rfl
  have h3 : DataW.trod enc Tryd.prog W base (fun _ => true) held n 4 (([v0, v1, v2, v3].drop 3).take (Tryd.prog.cellsOf 4)) = xs[3]? := hf 3 _ rfl
  rw [c1] at h0 h1
  rw [c2] at h2
  rw [c3] at h3
  simp only [List.drop_zero, List.drop_succ_cons, List.take_succ_cons, List.take_zero] at h0 h1 h2 h3
  have hx : ∀ i, i < 4 → ∃ y, xs[i]? = some y := fun i hi => ⟨_, List.getElem?_eq_getElem (by rw [hxl]; simpa using hi)⟩
  obtain ⟨y0, e0⟩ := hx 0 (by omega)
  obtain ⟨y1, e1⟩ := hx 1 (by omega)
  obtain ⟨y2, e2⟩ := hx 2 (by omega)
  obtain ⟨y3, e3⟩ := hx 3 (by omega)
  rw [e0] at h0; rw [e1] at h1; rw [e2] at h2; rw [e3] at h3
  obtain ⟨z0, q0, _, w0⟩ := DataW.trod_string Tryd.underlying9 h0
  obtain ⟨z1, q1, _, w1⟩ := DataW.trod_string Tryd.underlying9 h1
  obtain ⟨z2, q2, _, w2⟩ := DataW.trod_int Tryd.underlying22 h2
  obtain ⟨z3, q3, _⟩ := DataW.trod_bool Tryd.underlying4 h3
  simp only [List.cons.injEq, and_true] at q0 q1 q2 q3
  subst q0 q1 q2 q3
  obtain ⟨s, rfl⟩ := mu64_of w2
  exact ⟨(z0, z1, s, z3), rfl, w0, w1⟩
theorem view_pu {H : Type} {enc : TypeId × Value → H} {W : World} {base : Nat} {held : Bool} (fuel : Nat) (cs : List Value) (x : DataW H × List MemPlace)
    (h : DataW.trod enc Tryd.prog W base (fun _ => true) held fuel 36 cs = some x) : ∃ p : Pu, cs = encU p ∧ True := by
  obtain ⟨xs, n, _, _, hlen, hxl, hf⟩ := DataW.trod_struct Tryd.underlying36 h
  have hlen5 : cs.length = 5 := by rw [hlen]; kernel_rfl
  have c1 : Tryd.prog.cellsOf 34 = 4 := by kernel_rfl
  have c2 : Tryd.prog.cellsOf 3 = 1 := by kernel_rfl
  obtain ⟨v0, v1, v2, v3, v4, rfl⟩ : ∃ a b c d e, cs = [a, b, c, d, e] := by
    match cs, hlen5 with
    | [a, b, c, d, e], _ => exact ⟨a, b, c, d, e, rfl⟩
  have h0 : DataW.trod enc Tryd.prog W base (fun _ => true) held n 34 (([v0, v1, v2, v3, v4].drop 0).take (Tryd.prog.cellsOf 34)) = xs[0]? := hf 0 _ rfl
  have h1 : DataW.trod enc Tryd.prog W base (fun _ => true) held n 3 (([v0, v1, v2, v3, v4].drop (Tryd.prog.cellsOf 34)).take (Tryd.prog.cellsOf 3)) = xs[1]? := by
    have := hf 1 _ rfl
    refine Eq.trans ?_ this
    congr 2
  rw [c1] at h0 h1
  rw [c2] at h1
  simp only [List.drop_zero, List.drop_succ_cons, List.take_succ_cons, List.take_zero] at h0 h1
  have hx : ∀ i, i < 2 → ∃ y, xs[i]? = some y := fun i hi => ⟨_, List.getElem?_eq_getElem (by rw [hxl]; simpa using hi)⟩
  obtain ⟨y0, e0⟩ := hx 0 (by omega)
  obtain ⟨y1, e1⟩ := hx 1 (by omega)
  rw [e0] at h0; rw [e1] at h1
  obtain ⟨a, ha, _⟩ := view_ent _ _ _ h0
  obtain ⟨z1, q1, _, _⟩ := DataW.trod_int Tryd.underlying3 h1
  simp only [List.cons.injEq, and_true] at ha q1
  obtain ⟨rfl, rfl, rfl, rfl⟩ := ha
  subst q1
  exact ⟨(a, z1), rfl, trivial⟩
theorem view_puts {H : Type} {enc : TypeId × Value → H} {W : World} {a0 : Option Addr} {len0 cap0 : Nat} {d : DataW H} {p : List MemPlace} {base : Nat} {held : Bool}
    (h : ∃ fuel, DataW.trod enc Tryd.prog W base (fun _ => true) held fuel 26 [.slice a0 len0 cap0] = some (d, p)) :
    ∃ l : List Pu, PutsAt W (.slice a0 len0 cap0) l ∧ len0 = l.length ∧ l.length ≤ 9223372036854775807 := by
  obtain ⟨l, h1, h2, _, h4⟩ := view_slice encU_len (by decide) (fun _ => True) ((⟨#[]⟩, ⟨#[]⟩, 0, false), 0) Tryd.underlying26 (by kernel_rfl) (fun fuel cs x h => view_pu fuel cs x h) h
  exact ⟨l, h1, h2, h4⟩
end Go.Proofs.Tryd.Skm
