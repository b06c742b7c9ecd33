/- A version as an argument: how it lies. -/
import Derived.Test.YtkeaalacepjadaaVy1
import Derived.Test.YtkeaalacepjadaaVD
import Derived.OpenShut
set_option linter.unusedVariables false
set_option linter.unusedSimpArgs false
set_option maxRecDepth 100000
namespace Go.Proofs.Try.Vr
open Go.RowKit Go.Cph Go.Cph.Skip Go.Cph.So Go.Cph.Ve

theorem sevenOf {xs : List Value} (h : xs.length = 7) : ∃ a b c d e f g, xs = [a, b, c, d, e, f, g] := by
  match xs, h with
  | [a, b, c, d, e, f, g], _ => exact ⟨a, b, c, d, e, f, g, rfl⟩
structure VerArg (W : World) where
  v : Vn
  lv : Nat → List Tb
  at' : VerAt W v lv
  cap : ∀ k, k < 4 → ∀ a n c, v.lev k = .slice a n c → n ≤ c
theorem view_ver {H : Type} {enc : TypeId × Value → H} {W : World} {base : Nat} {held : Bool} {fuel : Nat} {cs : List Value} {x : DataW H × List MemPlace}
    (h : DataW.trod enc Try.prog W base (fun _ => true) held fuel TVn cs = some x) : ∃ a : VerArg W, cs = (encV a.v).cells.toList := by
  obtain ⟨xs, n, _, _, hlen, hxl, hf⟩ := DataW.trod_struct Try.underlying30 h
  have hlen7 : cs.length = 7 := by rw [hlen]; kernel_rfl
  have c1 : Try.prog.cellsOf 26 = 1 := by kernel_rfl
  have c2 : Try.prog.cellsOf 28 = 1 := by kernel_rfl
  have c4 : Try.prog.cellsOf 27 = 4 := by kernel_rfl
  obtain ⟨v0, v1, v2, v3, v4, v5, v6, rfl⟩ := sevenOf hlen7
  have h0 : DataW.trod enc Try.prog W base (fun _ => true) held n 27 (([v0, v1, v2, v3, v4, v5, v6].drop 0).take (Try.prog.cellsOf 27)) = xs[0]? := hf 0 _ rfl
  have h1 : DataW.trod enc Try.prog W base (fun _ => true) held n 28 (([v0, v1, v2, v3, v4, v5, v6].drop 4).take (Try.prog.cellsOf 28)) = xs[1]? := hf 1 _ rfl
  have h2 : DataW.trod enc Try.prog W base (fun _ => true) held n 28 (([v0, v1, v2, v3, v4, v5, v6].drop 5).take (Try.prog.cellsOf 28)) = xs[2]? := hf 2 _ rfl
  have h3 : DataW.trod enc Try.prog W base (fun _ => true) held n 28 (([v0, v1, v2, v3, v4, v5, v6].drop 6).take (Try.prog.cellsOf 28)) = xs[3]? := hf 3 _ rfl
  rw [c4] at h0
  rw [c2] at h1 h2 h3
  simp only [List.drop_zero, List.drop_succ_cons, List.take_succ_cons, List.take_zero] at h0 h1 h2 h3
  have hx : ∀ i, i < 4 → ∃ y, xs[i]? = some y := fun i hi => ⟨_, List.getElem?_eq_getElem (by rw [hxl]; simpa using hi)⟩
  obtain ⟨y0, e0⟩ := hx 0 (by omega)
  obtain ⟨y1, e1⟩ := hx 1 (by omega)
  obtain ⟨y2, e2⟩ := hx 2 (by omega)
  obtain ⟨y3, e3⟩ := hx 3 (by omega)
  rw [e0] at h0
  rw [e1] at h1
  rw [e2] at h2
  rw [e3] at h3
  obtain ⟨zs, m, _, _, _, hzl, hz⟩ := DataW.trod_array Try.underlying27 h0
  have g0 := hz 0 (by omega)
  have g1 := hz 1 (by omega)
  have g2 := hz 2 (by omega)
  have g3 := hz 3 (by omega)
  rw [c1] at g0 g1 g2 g3
  simp only [Nat.zero_mul, Nat.one_mul, List.drop_zero, List.drop_succ_cons, List.take_succ_cons, List.take_zero] at g0 g1 g2 g3
  have hy : ∀ i, i < 4 → ∃ y, zs[i]? = some y := fun i hi => ⟨_, List.getElem?_eq_getElem (by rw [hzl]; exact hi)⟩
  obtain ⟨w0, f0⟩ := hy 0 (by omega)
  obtain ⟨w1, f1⟩ := hy 1 (by omega)
  obtain ⟨w2, f2⟩ := hy 2 (by omega)
  obtain ⟨w3, f3⟩ := hy 3 (by omega)
  rw [f0] at g0
  rw [f1] at g1
  rw [f2] at g2
  rw [f3] at g3
  obtain ⟨a0, l0, k0, q0⟩ := read_slice Try.underlying26 g0
  obtain ⟨a1, l1, k1, q1⟩ := read_slice Try.underlying26 g1
  obtain ⟨a2, l2, k2, q2⟩ := read_slice Try.underlying26 g2
  obtain ⟨a3, l3, k3, q3⟩ := read_slice Try.underlying26 g3
  obtain ⟨z4, q4, _, w4⟩ := DataW.trod_int Try.underlying28 h1
  obtain ⟨z5, q5, _, w5⟩ := DataW.trod_int Try.underlying28 h2
  obtain ⟨z6, q6, _, w6⟩ := DataW.trod_int Try.underlying28 h3
  simp only [List.cons.injEq, and_true] at q0 q1 q2 q3 q4 q5 q6
  subst q0 q1 q2 q3 q4 q5 q6
  obtain ⟨n4, rfl⟩ := u64_ofL w4
  obtain ⟨n5, rfl⟩ := u64_ofL w5
  obtain ⟨n6, rfl⟩ := u64_ofL w6
  obtain ⟨t0, r0, s0, p0, _⟩ := view_tbs (d := w0.1) (p := w0.2) ⟨m, g0⟩
  obtain ⟨t1, r1, s1, p1, _⟩ := view_tbs (d := w1.1) (p := w1.2) ⟨m, g1⟩
  obtain ⟨t2, r2, s2, p2, _⟩ := view_tbs (d := w2.1) (p := w2.2) ⟨m, g2⟩
  obtain ⟨t3, r3, s3, p3, _⟩ := view_tbs (d := w3.1) (p := w3.2) ⟨m, g3⟩
  refine ⟨⟨⟨_, _, _, _, n4, n5, n6⟩, fun k => match k with | 0 => t0 | 1 => t1 | 2 => t2 | _ => t3, ⟨r0, r1, r2, r3⟩, ?_⟩, rfl⟩
  intro k hk a n c e
  rcases (show k = 0 ∨ k = 1 ∨ k = 2 ∨ k = 3 by omega) with rfl | rfl | rfl | rfl
  · cases e; omega
  · cases e; omega
  · cases e; omega
  · cases e; omega
theorem open_ver {H : Type} {enc : TypeId × Value → H} {W : World} {base : Nat} {held : Bool} {v : Value} {d : DataW H} {q : List MemPlace}
    (h : ∃ fuel, DataW.trod enc Try.prog W base (fun _ => true) held fuel TVn v.cells.toList = some (d, q)) (hv : ∃ cs, v = .agg cs) : ∃ a : VerArg W, v = encV a.v := by
  obtain ⟨fuel, hf⟩ := h
  obtain ⟨a, ha⟩ := view_ver hf
  obtain ⟨cs, rfl⟩ := hv
  refine ⟨a, ?_⟩
  have : cs.toList = (encV a.v).cells.toList := ha
  have h2 := congrArg List.toArray this
  simp only [Array.toArray_toList] at h2
  rw [h2]
  rfl
end Go.Proofs.Try.Vr
