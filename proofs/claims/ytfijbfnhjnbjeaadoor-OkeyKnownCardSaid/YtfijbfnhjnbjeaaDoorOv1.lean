/- Parts as arguments: what a reading of them tells. -/
import Derived.Test.YtfijbfnhjnbjeaaDoorOk1
import Derived.Test.YtfijbfnhjnbjeaaDoorVw
set_option linter.unusedVariables false
set_option linter.unusedSimpArgs false
namespace Go.Proofs.Tryd.Ok
open Go.RowKit Go.Cph Go.Cph.Ok Go.ChangeShapes Go.WideShapes Go.ChangeAt
theorem u64_of {z : Int} (h : (Lit.int .u64 z).wf = true) : ∃ c : UInt64, z = (c.toNat : Int) := by
  have hb : 0 ≤ z ∧ z < 18446744073709551616 := by simp [Lit.wf, IntKind.min, IntKind.max, IntKind.signed, IntKind.bits] at h; omega
  exact ⟨UInt64.ofNat z.toNat, by rw [UInt64.toNat_ofNat', Nat.mod_eq_of_lt (by omega)]; omega⟩
theorem threeOf {xs : List Value} (h : xs.length = 3) : ∃ a b c, xs = [a, b, c] := by
  match xs, h with
  | [a, b, c], _ => exact ⟨a, b, c, rfl⟩
theorem view_pt {H : Type} {enc : TypeId × Value → H} {W : World} {base : Nat} {held : Bool} (fuel : Nat) (cs : List Value) (x : DataW H × List MemPlace)
    (h : DataW.trod enc Tryd.prog W base (fun _ => true) held fuel 35 cs = some x) : ∃ p : Pt, cs = encC p ∧ True := by
  obtain ⟨xs, n, _, _, hlen, hxl, hf⟩ := DataW.trod_struct Tryd.underlying35 h
  have hlen3 : cs.length = 3 := by rw [hlen]; kernel_rfl
  have c1 : Tryd.prog.cellsOf 9 = 1 := by kernel_rfl
  have c2 : Tryd.prog.cellsOf 31 = 1 := by kernel_rfl
  have c3 : Tryd.prog.cellsOf 4 = 1 := by kernel_rfl
  obtain ⟨v0, v1, v2, rfl⟩ := threeOf hlen3
  have h0 : DataW.trod enc Tryd.prog W base (fun _ => true) held n 4 (([v0, v1, v2].drop 0).take (Tryd.prog.cellsOf 4)) = xs[0]? := hf 0 _ rfl
  have h1 : DataW.trod enc Tryd.prog W base (fun _ => true) held n 9 (([v0, v1, v2].drop 1).take (Tryd.prog.cellsOf 9)) = xs[1]? := hf 1 _ rfl
  have h2 : DataW.trod enc Tryd.prog W base (fun _ => true) held n 31 (([v0, v1, v2].drop 2).take (Tryd.prog.cellsOf 31)) = xs[2]? := hf 2 _ rfl
  rw [c3] at h0
  rw [c1] at h1
  rw [c2] at h2
  simp only [List.drop_zero, List.drop_succ_cons, List.take_succ_cons, List.take_zero] at h0 h1 h2
  have hx : ∀ i, i < 3 → ∃ y, xs[i]? = some y := fun i hi => ⟨_, List.getElem?_eq_getElem (by rw [hxl]; simpa using hi)⟩
  obtain ⟨y0, e0⟩ := hx 0 (by omega)
  obtain ⟨y1, e1⟩ := hx 1 (by omega)
  obtain ⟨y2, e2⟩ := hx 2 (by omega)
  rw [e0] at h0; rw [e1] at h1; rw [e2] at h2
  obtain ⟨z0, q0, _⟩ := DataW.trod_bool Tryd.underlying4 h0
  obtain ⟨z1, q1, _, w1⟩ := DataW.trod_string Tryd.underlying9 h1
  obtain ⟨z2, q2, _, w2⟩ := DataW.trod_int Tryd.underlying31 h2
  simp only [List.cons.injEq, and_true] at q0 q1 q2
  subst q0 q1 q2
  obtain ⟨s, rfl⟩ := u64_of w2
  exact ⟨⟨z0, z1, s⟩, rfl, trivial⟩
theorem view_pts {H : Type} {enc : TypeId × Value → H} {W : World} {a0 : Option Addr} {len0 cap0 : Nat} {d : DataW H} {p : List MemPlace} {base : Nat} {held : Bool}
    (h : ∃ fuel, DataW.trod enc Tryd.prog W base (fun _ => true) held fuel 22 [.slice a0 len0 cap0] = some (d, p)) :
    ∃ l : List Pt, PtsAt W (.slice a0 len0 cap0) l ∧ len0 = l.length ∧ l.length ≤ 9223372036854775807 := by
  obtain ⟨l, h1, h2, _, h4⟩ := view_slice (encE := encC) (K := 3) encC_len (by decide) (fun _ => True) (⟨false, ByteArray.empty, 0⟩ : Pt) Tryd.underlying22 (by kernel_rfl) (fun fuel cs x h => view_pt fuel cs x h) h
  exact ⟨l, h1, h2, h4⟩
end Go.Proofs.Tryd.Ok
