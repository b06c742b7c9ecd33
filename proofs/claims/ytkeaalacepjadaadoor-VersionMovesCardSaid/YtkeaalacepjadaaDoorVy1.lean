/- Tables and edits as arguments: what a reading of them tells. -/
import Derived.Test.YtkeaalacepjadaaDoorVH
import Derived.Test.YtkeaalacepjadaaDoorOpen
import Derived.Test.YtkeaalacepjadaaDoorVw
set_option linter.unusedVariables false
set_option linter.unusedSimpArgs false
set_option maxRecDepth 100000
namespace Go.Proofs.Tryd.Vr
open Go.RowKit Go.Cph Go.Cph.Skip Go.Cph.So Go.Cph.Ve
open Go.ChangeShapes Go.WideShapes Go.ChangeAt
open Go.Proofs.Tryd.Sq (encU encU_len)

theorem u64_ofL {z : Int} (h : (Lit.int .u64 z).wf = true) : ∃ c : UInt64, z = (c.toNat : Int) := by
  have hb : 0 ≤ z ∧ z < 18446744073709551616 := by simp [Lit.wf, IntKind.min, IntKind.max, IntKind.signed, IntKind.bits] at h; omega
  exact ⟨UInt64.ofNat z.toNat, by rw [UInt64.toNat_ofNat', Nat.mod_eq_of_lt (by omega)]; omega⟩
theorem eightOf {xs : List Value} (h : xs.length = 8) : ∃ a b c d e f g i, xs = [a, b, c, d, e, f, g, i] := by
  match xs, h with
  | [a, b, c, d, e, f, g, i], _ => exact ⟨a, b, c, d, e, f, g, i, rfl⟩
theorem fiveOf {xs : List Value} (h : xs.length = 5) : ∃ a b c d e, xs = [a, b, c, d, e] := by
  match xs, h with
  | [a, b, c, d, e], _ => exact ⟨a, b, c, d, e, rfl⟩
theorem view_tb {H : Type} {enc : TypeId × Value → H} {W : World} {base : Nat} {held : Bool} (fuel : Nat) (cs : List Value) (x : DataW H × List MemPlace)
    (h : DataW.trod enc Tryd.prog W base (fun _ => true) held fuel TE cs = some x) : ∃ t : Tb, cs = encC t ∧ True := by
  obtain ⟨xs, n, _, _, hlen, hxl, hf⟩ := DataW.trod_struct Tryd.underlying56 h
  have hlen8 : cs.length = 8 := by rw [hlen]; kernel_rfl
  have c1 : Tryd.prog.cellsOf 9 = 1 := by kernel_rfl
  have c2 : Tryd.prog.cellsOf 27 = 1 := by kernel_rfl
  have c3 : Tryd.prog.cellsOf 3 = 1 := by kernel_rfl
  obtain ⟨v0, v1, v2, v3, v4, v5, v6, v7, rfl⟩ := eightOf hlen8
  have h0 : DataW.trod enc Tryd.prog W base (fun _ => true) held n 27 (([v0, v1, v2, v3, v4, v5, v6, v7].drop 0).take (Tryd.prog.cellsOf 27)) = xs[0]? := hf 0 _ rfl
  have h1 : DataW.trod enc Tryd.prog W base (fun _ => true) held n 3 (([v0, v1, v2, v3, v4, v5, v6, v7].drop 1).take (Tryd.prog.cellsOf 3)) = xs[1]? := hf 1 _ rfl
  have h2 : DataW.trod enc Tryd.prog W base (fun _ => true) held n 3 (([v0, v1, v2, v3, v4, v5, v6, v7].drop 2).take (Tryd.prog.cellsOf 3)) = xs[2]? := hf 2 _ rfl
  have h3 : DataW.trod enc Tryd.prog W base (fun _ => true) held n 3 (([v0, v1, v2, v3, v4, v5, v6, v7].drop 3).take (Tryd.prog.cellsOf 3)) = xs[3]? := hf 3 _ rfl
  have h4 : DataW.trod enc Tryd.prog W base (fun _ => true) held n 9 (([v0, v1, v2, v3, v4, v5, v6, v7].drop 4).take (Tryd.prog.cellsOf 9)) = xs[4]? := hf 4 _ rfl
  have h5 : DataW.trod enc Tryd.prog W base (fun _ => true) held n 9 (([v0, v1, v2, v3, v4, v5, v6, v7].drop 5).take (Tryd.prog.cellsOf 9)) = xs[5]? := hf 5 _ rfl
  have h6 : DataW.trod enc Tryd.prog W base (fun _ => true) held n 27 (([v0, v1, v2, v3, v4, v5, v6, v7].drop 6).take (Tryd.prog.cellsOf 27)) = xs[6]? := hf 6 _ rfl
  have h7 : DataW.trod enc Tryd.prog W base (fun _ => true) held n 27 (([v0, v1, v2, v3, v4, v5, v6, v7].drop 7).take (Tryd.prog.cellsOf 27)) = xs[7]? := hf 7 _ rfl
  rw [c2] at h0
  rw [c3] at h1
  rw [c3] at h2
  rw [c3] at h3
  rw [c1] at h4
  rw [c1] at h5
  rw [c2] at h6
  rw [c2] at h7
  simp only [List.drop_zero, List.drop_succ_cons, List.take_succ_cons, List.take_zero] at h0 h1 h2 h3 h4 h5 h6 h7
  have hx : ∀ i, i < 8 → ∃ y, xs[i]? = some y := fun i hi => ⟨_, List.getElem?_eq_getElem (by rw [hxl]; simpa using hi)⟩
  obtain ⟨y0, e0⟩ := hx 0 (by omega)
  obtain ⟨y1, e1⟩ := hx 1 (by omega)
  obtain ⟨y2, e2⟩ := hx 2 (by omega)
  obtain ⟨y3, e3⟩ := hx 3 (by omega)
  obtain ⟨y4, e4⟩ := hx 4 (by omega)
  obtain ⟨y5, e5⟩ := hx 5 (by omega)
  obtain ⟨y6, e6⟩ := hx 6 (by omega)
  obtain ⟨y7, e7⟩ := hx 7 (by omega)
  rw [e0] at h0
  rw [e1] at h1
  rw [e2] at h2
  rw [e3] at h3
  rw [e4] at h4
  rw [e5] at h5
  rw [e6] at h6
  rw [e7] at h7
  obtain ⟨z0, q0, _, w0⟩ := DataW.trod_int Tryd.underlying27 h0
  obtain ⟨z1, q1, _, w1⟩ := DataW.trod_int Tryd.underlying3 h1
  obtain ⟨z2, q2, _, w2⟩ := DataW.trod_int Tryd.underlying3 h2
  obtain ⟨z3, q3, _, w3⟩ := DataW.trod_int Tryd.underlying3 h3
  obtain ⟨z4, q4, _, _⟩ := DataW.trod_string Tryd.underlying9 h4
  obtain ⟨z5, q5, _, _⟩ := DataW.trod_string Tryd.underlying9 h5
  obtain ⟨z6, q6, _, w6⟩ := DataW.trod_int Tryd.underlying27 h6
  obtain ⟨z7, q7, _, w7⟩ := DataW.trod_int Tryd.underlying27 h7
  simp only [List.cons.injEq, and_true] at q0 q1 q2 q3 q4 q5 q6 q7
  subst q0 q1 q2 q3 q4 q5 q6 q7
  obtain ⟨n0, rfl⟩ := u64_ofL w0
  obtain ⟨n6, rfl⟩ := u64_ofL w6
  obtain ⟨n7, rfl⟩ := u64_ofL w7
  exact ⟨(n0, z1, z2, z3, z4, z5, n6, n7), rfl, trivial⟩
abbrev zeroTb : Tb := (0, 0, 0, 0, ByteArray.empty, ByteArray.empty, 0, 0)
theorem view_tbs {H : Type} {enc : TypeId × Value → H} {W : World} {a0 : Option Addr} {len0 cap0 : Nat} {d : DataW H} {p : List MemPlace} {base : Nat} {held : Bool}
    (h : ∃ fuel, DataW.trod enc Tryd.prog W base (fun _ => true) held fuel TS [.slice a0 len0 cap0] = some (d, p)) :
    ∃ l : List Tb, TbsAt W (.slice a0 len0 cap0) l ∧ len0 = l.length ∧ l.length ≤ cap0 ∧ cap0 ≤ 9223372036854775807 := by
  obtain ⟨l, h1, h2, _, h4⟩ := view_slice encC_len (by decide) (fun _ => True) zeroTb Tryd.underlying25 (by kernel_rfl) (fun fuel cs x h => view_tb fuel cs x h) h
  obtain ⟨h5, h6⟩ := view_cap Tryd.underlying25 h
  exact ⟨l, h1, h2, by omega, h6⟩
theorem view_u64 {H : Type} {enc : TypeId × Value → H} {W : World} {base : Nat} {held : Bool} (fuel : Nat) (cs : List Value) (x : DataW H × List MemPlace)
    (h : DataW.trod enc Tryd.prog W base (fun _ => true) held fuel 27 cs = some x) : ∃ n : UInt64, cs = encU n ∧ True := by
  obtain ⟨z, q, _, w⟩ := DataW.trod_int Tryd.underlying27 h
  obtain ⟨s, rfl⟩ := u64_ofL w
  exact ⟨s, q, trivial⟩
theorem view_u64s {H : Type} {enc : TypeId × Value → H} {W : World} {a0 : Option Addr} {len0 cap0 : Nat} {d : DataW H} {p : List MemPlace} {base : Nat} {held : Bool}
    (h : ∃ fuel, DataW.trod enc Tryd.prog W base (fun _ => true) held fuel 36 [.slice a0 len0 cap0] = some (d, p)) :
    ∃ l : List UInt64, Elems encU 1 W (.slice a0 len0 cap0) l ∧ len0 = l.length := by
  obtain ⟨l, h1, h2, _, h4⟩ := view_slice encU_len (by decide) (fun _ => True) 0 Tryd.underlying36 (by kernel_rfl) (fun fuel cs x h => view_u64 fuel cs x h) h
  exact ⟨l, h1, h2⟩
theorem view_ed {H : Type} {enc : TypeId × Value → H} {W : World} {base : Nat} {held : Bool} (fuel : Nat) (cs : List Value) (x : DataW H × List MemPlace)
    (h : DataW.trod enc Tryd.prog W base (fun _ => true) held fuel TEd cs = some x) : ∃ e : Es, cs = encEc e ∧ ∃ d : Ed, EdAt W e d := by
  obtain ⟨xs, n, _, _, hlen, hxl, hf⟩ := DataW.trod_struct Tryd.underlying38 h
  have hlen5 : cs.length = 5 := by rw [hlen]; kernel_rfl
  have c1 : Tryd.prog.cellsOf 25 = 1 := by kernel_rfl
  have c2 : Tryd.prog.cellsOf 27 = 1 := by kernel_rfl
  have c3 : Tryd.prog.cellsOf 36 = 1 := by kernel_rfl
  obtain ⟨v0, v1, v2, v3, v4, rfl⟩ := fiveOf hlen5
  have h0 : DataW.trod enc Tryd.prog W base (fun _ => true) held n 25 (([v0, v1, v2, v3, v4].drop 0).take (Tryd.prog.cellsOf 25)) = xs[0]? := hf 0 _ rfl
  have h1 : DataW.trod enc Tryd.prog W base (fun _ => true) held n 36 (([v0, v1, v2, v3, v4].drop 1).take (Tryd.prog.cellsOf 36)) = xs[1]? := hf 1 _ rfl
  have h2 : DataW.trod enc Tryd.prog W base (fun _ => true) held n 27 (([v0, v1, v2, v3, v4].drop 2).take (Tryd.prog.cellsOf 27)) = xs[2]? := hf 2 _ rfl
  have h3 : DataW.trod enc Tryd.prog W base (fun _ => true) held n 27 (([v0, v1, v2, v3, v4].drop 3).take (Tryd.prog.cellsOf 27)) = xs[3]? := hf 3 _ rfl
  have h4 : DataW.trod enc Tryd.prog W base (fun _ => true) held n 27 (([v0, v1, v2, v3, v4].drop 4).take (Tryd.prog.cellsOf 27)) = xs[4]? := hf 4 _ rfl
  rw [c1] at h0
  rw [c3] at h1
  rw [c2] at h2 h3 h4
  simp only [List.drop_zero, List.drop_succ_cons, List.take_succ_cons, List.take_zero] at h0 h1 h2 h3 h4
  have hx : ∀ i, i < 5 → ∃ y, xs[i]? = some y := fun i hi => ⟨_, List.getElem?_eq_getElem (by rw [hxl]; simpa using hi)⟩
  obtain ⟨y0, e0⟩ := hx 0 (by omega)
  obtain ⟨y1, e1⟩ := hx 1 (by omega)
  obtain ⟨y2, e2⟩ := hx 2 (by omega)
  obtain ⟨y3, e3⟩ := hx 3 (by omega)
  obtain ⟨y4, e4⟩ := hx 4 (by omega)
  rw [e0] at h0
  rw [e1] at h1
  rw [e2] at h2
  rw [e3] at h3
  rw [e4] at h4
  obtain ⟨a0, l0, k0, q0⟩ := read_slice Tryd.underlying25 h0
  obtain ⟨a1, l1, k1, q1⟩ := read_slice Tryd.underlying36 h1
  obtain ⟨z2, q2, _, w2⟩ := DataW.trod_int Tryd.underlying27 h2
  obtain ⟨z3, q3, _, w3⟩ := DataW.trod_int Tryd.underlying27 h3
  obtain ⟨z4, q4, _, w4⟩ := DataW.trod_int Tryd.underlying27 h4
  simp only [List.cons.injEq, and_true] at q0 q1 q2 q3 q4
  subst q0 q1 q2 q3 q4
  obtain ⟨n2, rfl⟩ := u64_ofL w2
  obtain ⟨n3, rfl⟩ := u64_ofL w3
  obtain ⟨n4, rfl⟩ := u64_ofL w4
  obtain ⟨ts, g1, g2, g3, _⟩ := view_tbs (d := y0.1) (p := y0.2) ⟨n, h0⟩
  obtain ⟨ds, k1, k2⟩ := view_u64s (d := y1.1) (p := y1.2) ⟨n, h1⟩
  exact ⟨⟨_, _, n2, n3, n4⟩, rfl, (ts, ds, n2, n3, n4), ⟨g1, k1, rfl, fun a m c e => by cases e; omega⟩⟩
abbrev zeroEs : Es := ⟨.slice none 0 0, .slice none 0 0, 0, 0, 0⟩
theorem view_edits {H : Type} {enc : TypeId × Value → H} {W : World} {a0 : Option Addr} {len0 cap0 : Nat} {d : DataW H} {p : List MemPlace} {base : Nat} {held : Bool}
    (h : ∃ fuel, DataW.trod enc Tryd.prog W base (fun _ => true) held fuel 22 [.slice a0 len0 cap0] = some (d, p)) :
    ∃ (ds : List Ed) (es : List Es), EdsAt W (.slice a0 len0 cap0) es ds ∧ len0 = ds.length := by
  obtain ⟨es, h1, h2, h3, _⟩ := view_slice encEc_len (by decide) (fun e => ∃ d : Ed, EdAt W e d) zeroEs Tryd.underlying22 (by kernel_rfl) (fun fuel cs x h => view_ed fuel cs x h) h
  have hf : ∃ f : Es → Ed, ∀ e ∈ es, EdAt W e (f e) := by
    classical
    refine ⟨fun e => if he : e ∈ es then Classical.choose (h3 e he) else ([], [], 0, 0, 0), fun e he => ?_⟩
    simp only [dif_pos he]
    exact Classical.choose_spec (h3 e he)
  obtain ⟨f, hf⟩ := hf
  exact ⟨es.map f, es, ⟨by rw [List.length_map], h1, fun i hi hk => by rw [List.getElem_map]; exact hf _ (List.getElem_mem _)⟩, by rw [List.length_map]; exact h2⟩
end Go.Proofs.Tryd.Vr
