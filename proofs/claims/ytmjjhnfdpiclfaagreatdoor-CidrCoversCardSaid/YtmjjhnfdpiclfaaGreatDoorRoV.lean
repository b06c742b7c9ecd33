/- Prefixes and addresses as arguments: what a reading of them tells of their cells. -/
import Derived.Test.YtmjjhnfdpiclfaaGreatDoorMC
import Derived.Test.YtmjjhnfdpiclfaaGreatDoorOpen
import Derived.Deep.Slices
open Go.RowKit Go.Cph Go.Cph.Px Go.ChangeShapes Go.WideShapes Go.ChangeAt
set_option linter.unusedVariables false
set_option maxRecDepth 100000
set_option linter.unusedSimpArgs false
namespace Go.Proofs.Tryz.Pfx

abbrev encC (p : Pf) : List Value := [.int .u8 (p.1.1.toNat : Int), .int .u64 (p.1.2.1.toNat : Int), .int .u64 (p.1.2.2.toNat : Int), .int .i64 p.2]
theorem u8_of {z : Int} (h : (Lit.int .u8 z).wf = true) : ∃ c : UInt8, z = (c.toNat : Int) := by
  have hb : 0 ≤ z ∧ z < 256 := by simp [Lit.wf, IntKind.min, IntKind.max, IntKind.signed, IntKind.bits] at h; omega
  exact ⟨UInt8.ofNat z.toNat, by rw [UInt8.toNat_ofNat', Nat.mod_eq_of_lt (by omega)]; omega⟩
theorem u64_of {z : Int} (h : (Lit.int .u64 z).wf = true) : ∃ c : UInt64, z = (c.toNat : Int) := by
  have hb : 0 ≤ z ∧ z < 18446744073709551616 := by simp [Lit.wf, IntKind.min, IntKind.max, IntKind.signed, IntKind.bits] at h; omega
  exact ⟨UInt64.ofNat z.toNat, by rw [UInt64.toNat_ofNat', Nat.mod_eq_of_lt (by omega)]; omega⟩
theorem threeOf {xs : List Value} (h : xs.length = 3) : ∃ a b c, xs = [a, b, c] := by
  match xs, h with
  | [a, b, c], _ => exact ⟨a, b, c, rfl⟩
theorem fourOf {xs : List Value} (h : xs.length = 4) : ∃ a b c d, xs = [a, b, c, d] := by
  match xs, h with
  | [a, b, c, d], _ => exact ⟨a, b, c, d, rfl⟩
theorem view_ad {H : Type} {enc : TypeId × Value → H} {W : World} {base : Nat} {held : Bool} {fuel : Nat} {cs : List Value} {x : DataW H × List MemPlace}
    (h : DataW.trod enc Tryz.prog W base (fun _ => true) held fuel 24 cs = some x) :
    ∃ a : Ad, cs = [.int .u8 (a.1.toNat : Int), .int .u64 (a.2.1.toNat : Int), .int .u64 (a.2.2.toNat : Int)] := by
  obtain ⟨xs, n, _, _, hlen, hxl, hf⟩ := DataW.trod_struct Tryz.underlying24 h
  have hlen3 : cs.length = 3 := by rw [hlen]; kernel_rfl
  have c1 : Tryz.prog.cellsOf 5 = 1 := by kernel_rfl
  have c2 : Tryz.prog.cellsOf 22 = 1 := by kernel_rfl
  obtain ⟨v0, v1, v2, rfl⟩ := threeOf hlen3
  have h0 : DataW.trod enc Tryz.prog W base (fun _ => true) held n 5 (([v0, v1, v2].drop 0).take (Tryz.prog.cellsOf 5)) = xs[0]? := hf 0 _ rfl
  have h1 : DataW.trod enc Tryz.prog W base (fun _ => true) held n 22 (([v0, v1, v2].drop 1).take (Tryz.prog.cellsOf 22)) = xs[1]? := hf 1 _ rfl
  have h2 : DataW.trod enc Tryz.prog W base (fun _ => true) held n 22 (([v0, v1, v2].drop 2).take (Tryz.prog.cellsOf 22)) = xs[2]? := hf 2 _ rfl
  rw [c1] at h0
  rw [c2] at h1 h2
  simp only [List.drop_zero, List.drop_succ_cons, List.take_succ_cons, List.take_zero] at h0 h1 h2
  have hx : ∀ i, i < 3 → ∃ y, xs[i]? = some y := fun i hi => ⟨_, List.getElem?_eq_getElem (by rw [hxl]; simpa using hi)⟩
  obtain ⟨y0, e0⟩ := hx 0 (by omega)
  obtain ⟨y1, e1⟩ := hx 1 (by omega)
  obtain ⟨y2, e2⟩ := hx 2 (by omega)
  rw [e0] at h0; rw [e1] at h1; rw [e2] at h2
  obtain ⟨z0, q0, _, w0⟩ := DataW.trod_int Tryz.underlying5 h0
  obtain ⟨z1, q1, _, w1⟩ := DataW.trod_int Tryz.underlying22 h1
  obtain ⟨z2, q2, _, w2⟩ := DataW.trod_int Tryz.underlying22 h2
  simp only [List.cons.injEq, and_true] at q0 q1 q2
  subst q0 q1 q2
  obtain ⟨f, rfl⟩ := u8_of w0
  obtain ⟨hi, rfl⟩ := u64_of w1
  obtain ⟨lo, rfl⟩ := u64_of w2
  exact ⟨(f, hi, lo), rfl⟩
theorem view_pf {H : Type} {enc : TypeId × Value → H} {W : World} {base : Nat} {held : Bool} {fuel : Nat} {cs : List Value} {x : DataW H × List MemPlace}
    (h : DataW.trod enc Tryz.prog W base (fun _ => true) held fuel 26 cs = some x) : ∃ p : Pf, cs = encC p := by
  obtain ⟨xs, n, _, _, hlen, hxl, hf⟩ := DataW.trod_struct Tryz.underlying26 h
  have hlen4 : cs.length = 4 := by rw [hlen]; kernel_rfl
  have c1 : Tryz.prog.cellsOf 24 = 3 := by kernel_rfl
  have c2 : Tryz.prog.cellsOf 3 = 1 := by kernel_rfl
  obtain ⟨v0, v1, v2, v3, rfl⟩ := fourOf hlen4
  have h0 : DataW.trod enc Tryz.prog W base (fun _ => true) held n 24 (([v0, v1, v2, v3].drop 0).take (Tryz.prog.cellsOf 24)) = xs[0]? := hf 0 _ rfl
  have h1 : DataW.trod enc Tryz.prog W base (fun _ => true) held n 3 (([v0, v1, v2, v3].drop (Tryz.prog.cellsOf 24)).take (Tryz.prog.cellsOf 3)) = xs[1]? := by
    have := hf 1 _ rfl
    refine Eq.trans ?_ this
    congr 2
  rw [c1] at h0 h1
  rw [c2] at h1
  simp only [List.drop_zero, List.drop_succ_cons, List.take_succ_cons, List.take_zero] at h0 h1
  have hx : ∀ i, i < 2 → ∃ y, xs[i]? = some y := fun i hi => ⟨_, List.getElem?_eq_getElem (by rw [hxl]; simpa using hi)⟩
  obtain ⟨y0, e0⟩ := hx 0 (by omega)
  obtain ⟨y1, e1⟩ := hx 1 (by omega)
  rw [e0] at h0; rw [e1] at h1
  obtain ⟨a, ha⟩ := view_ad h0
  obtain ⟨z3, q3, _, _⟩ := DataW.trod_int Tryz.underlying3 h1
  simp only [List.cons.injEq, and_true] at q3 ha
  obtain ⟨rfl, rfl, rfl⟩ := ha
  subst q3
  exact ⟨(a, z3), rfl⟩
theorem agg_ad {v : Value} {a : Ad} (h : v.cells.toList = [.int .u8 (a.1.toNat : Int), .int .u64 (a.2.1.toNat : Int), .int .u64 (a.2.2.toNat : Int)]) (hv : ∃ cs, v = .agg cs) : v = encA a := by
  obtain ⟨cs, rfl⟩ := hv
  simp only [Value.cells] at h
  exact congrArg Value.agg (Array.toList_inj.1 h)
theorem agg_pf {v : Value} {p : Pf} (h : v.cells.toList = encC p) (hv : ∃ cs, v = .agg cs) : v = encP p := by
  obtain ⟨cs, rfl⟩ := hv
  simp only [Value.cells] at h
  exact congrArg Value.agg (Array.toList_inj.1 h)
theorem open_pf {H : Type} {enc : TypeId × Value → H} {W : World} {base : Nat} {held : Bool} {v : Value} {d : DataW H} {q : List MemPlace}
    (h : ∃ fuel, DataW.trod enc Tryz.prog W base (fun _ => true) held fuel 26 v.cells.toList = some (d, q)) (hv : ∃ cs, v = .agg cs) : ∃ p : Pf, v = encP p := by
  obtain ⟨fuel, hf⟩ := h
  obtain ⟨p, hp⟩ := view_pf hf
  exact ⟨p, agg_pf hp hv⟩
theorem open_ad {H : Type} {enc : TypeId × Value → H} {W : World} {base : Nat} {held : Bool} {v : Value} {d : DataW H} {q : List MemPlace}
    (h : ∃ fuel, DataW.trod enc Tryz.prog W base (fun _ => true) held fuel 24 v.cells.toList = some (d, q)) (hv : ∃ cs, v = .agg cs) : ∃ a : Ad, v = encA a := by
  obtain ⟨fuel, hf⟩ := h
  obtain ⟨p, hp⟩ := view_ad hf
  exact ⟨p, agg_ad hp hv⟩
end Go.Proofs.Tryz.Pfx
