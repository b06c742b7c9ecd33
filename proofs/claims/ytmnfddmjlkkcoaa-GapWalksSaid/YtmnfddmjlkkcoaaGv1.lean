/- Spans and addresses as arguments: what a reading of them tells. -/
import Derived.Test.YtmnfddmjlkkcoaaGa1
import Derived.Test.YtmnfddmjlkkcoaaGk1
import Derived.Test.YtmnfddmjlkkcoaaVw
set_option linter.unusedVariables false
set_option linter.unusedSimpArgs false
namespace Go.Proofs.Try.Gp
open Go.RowKit Go.Cph Go.Cph.Px Go.Cph.Gp Go.Cph.So Go.ChangeShapes Go.WideShapes Go.ChangeAt
open Pfx (encA)
theorem u8_of {z : Int} (h : (Lit.int .u8 z).wf = true) : ∃ c : UInt8, z = (c.toNat : Int) := by
  have hb : 0 ≤ z ∧ z < 256 := by simp [Lit.wf, IntKind.min, IntKind.max, IntKind.signed, IntKind.bits] at h; omega
  exact ⟨UInt8.ofNat z.toNat, by rw [UInt8.toNat_ofNat', Nat.mod_eq_of_lt (by omega)]; omega⟩
theorem u64_of {z : Int} (h : (Lit.int .u64 z).wf = true) : ∃ c : UInt64, z = (c.toNat : Int) := by
  have hb : 0 ≤ z ∧ z < 18446744073709551616 := by simp [Lit.wf, IntKind.min, IntKind.max, IntKind.signed, IntKind.bits] at h; omega
  exact ⟨UInt64.ofNat z.toNat, by rw [UInt64.toNat_ofNat', Nat.mod_eq_of_lt (by omega)]; omega⟩
theorem threeOf {xs : List Value} (h : xs.length = 3) : ∃ a b c, xs = [a, b, c] := by
  match xs, h with
  | [a, b, c], _ => exact ⟨a, b, c, rfl⟩
theorem fourOf {xs : List Value} (h : xs.length = 4) : ∃ a b c d, xs = [a, b, c, d] := by
  match xs, h with
  | [a, b, c, d], _ => exact ⟨a, b, c, d, rfl⟩
theorem view_ad {H : Type} {enc : TypeId × Value → H} {W : World} {base : Nat} {held : Bool} {fuel : Nat} {cs : List Value} {x : DataW H × List MemPlace}
    (h : DataW.trod enc Try.prog W base (fun _ => true) held fuel 25 cs = some x) :
    ∃ a : Ad, cs = [.int .u8 (a.1.toNat : Int), .int .u64 (a.2.1.toNat : Int), .int .u64 (a.2.2.toNat : Int)] := by
  obtain ⟨xs, n, _, _, hlen, hxl, hf⟩ := DataW.trod_struct Try.underlying25 h
  have hlen3 : cs.length = 3 := by rw [hlen]; kernel_rfl
  have c1 : Try.prog.cellsOf 5 = 1 := by kernel_rfl
  have c2 : Try.prog.cellsOf 23 = 1 := by kernel_rfl
  obtain ⟨v0, v1, v2, rfl⟩ := threeOf hlen3
  have h0 : DataW.trod enc Try.prog W base (fun _ => true) held n 5 (([v0, v1, v2].drop 0).take (Try.prog.cellsOf 5)) = xs[0]? := hf 0 _ rfl
  have h1 : DataW.trod enc Try.prog W base (fun _ => true) held n 23 (([v0, v1, v2].drop 1).take (Try.prog.cellsOf 23)) = xs[1]? := hf 1 _ rfl
  have h2 : DataW.trod enc Try.prog W base (fun _ => true) held n 23 (([v0, v1, v2].drop 2).take (Try.prog.cellsOf 23)) = xs[2]? := hf 2 _ rfl
  rw [c1] at h0
  rw [c2] at h1 h2
  simp only [List.drop_zero, List.drop_succ_cons, List.take_succ_cons, List.take_zero] at h0 h1 h2
  have hx : ∀ i, i < 3 → ∃ y, xs[i]? = some y := fun i hi => ⟨_, List.getElem?_eq_getElem (by rw [hxl]; simpa using hi)⟩
  obtain ⟨y0, e0⟩ := hx 0 (by omega)
  obtain ⟨y1, e1⟩ := hx 1 (by omega)
  obtain ⟨y2, e2⟩ := hx 2 (by omega)
  rw [e0] at h0; rw [e1] at h1; rw [e2] at h2
  obtain ⟨z0, q0, _, w0⟩ := DataW.trod_int Try.underlying5 h0
  obtain ⟨z1, q1, _, w1⟩ := DataW.trod_int Try.underlying23 h1
  obtain ⟨z2, q2, _, w2⟩ := DataW.trod_int Try.underlying23 h2
  simp only [List.cons.injEq, and_true] at q0 q1 q2
  subst q0 q1 q2
  obtain ⟨f, rfl⟩ := u8_of w0
  obtain ⟨hi, rfl⟩ := u64_of w1
  obtain ⟨lo, rfl⟩ := u64_of w2
  exact ⟨(f, hi, lo), rfl⟩
theorem agg_ad {v : Value} {a : Ad} (h : v.cells.toList = [.int .u8 (a.1.toNat : Int), .int .u64 (a.2.1.toNat : Int), .int .u64 (a.2.2.toNat : Int)]) (hv : ∃ cs, v = .agg cs) : v = encA a := by
  obtain ⟨cs, rfl⟩ := hv
  simp only [Value.cells] at h
  exact congrArg Value.agg (Array.toList_inj.1 h)
theorem open_ad {H : Type} {enc : TypeId × Value → H} {W : World} {base : Nat} {held : Bool} {v : Value} {d : DataW H} {q : List MemPlace}
    (h : ∃ fuel, DataW.trod enc Try.prog W base (fun _ => true) held fuel 25 v.cells.toList = some (d, q)) (hv : ∃ cs, v = .agg cs) : ∃ a : Ad, v = encA a := by
  obtain ⟨fuel, hf⟩ := h
  obtain ⟨p, hp⟩ := view_ad hf
  exact ⟨p, agg_ad hp hv⟩
theorem view_sp {H : Type} {enc : TypeId × Value → H} {W : World} {base : Nat} {held : Bool} (fuel : Nat) (cs : List Value) (x : DataW H × List MemPlace)
    (h : DataW.trod enc Try.prog W base (fun _ => true) held fuel 38 cs = some x) : ∃ p : Sp, cs = encC p ∧ True := by
  obtain ⟨xs, n, _, _, hlen, hxl, hf⟩ := DataW.trod_struct Try.underlying38 h
  have hlen6 : cs.length = 6 := by rw [hlen]; kernel_rfl
  have c1 : Try.prog.cellsOf 25 = 3 := by kernel_rfl
  obtain ⟨v0, v1, v2, v3, v4, v5, rfl⟩ : ∃ a b c d e f, cs = [a, b, c, d, e, f] := by
    match cs, hlen6 with
    | [a, b, c, d, e, f], _ => exact ⟨a, b, c, d, e, f, rfl⟩
  have h0 : DataW.trod enc Try.prog W base (fun _ => true) held n 25 (([v0, v1, v2, v3, v4, v5].drop 0).take (Try.prog.cellsOf 25)) = xs[0]? := hf 0 _ rfl
  have h1 : DataW.trod enc Try.prog W base (fun _ => true) held n 25 (([v0, v1, v2, v3, v4, v5].drop (Try.prog.cellsOf 25)).take (Try.prog.cellsOf 25)) = xs[1]? := by
    have := hf 1 _ rfl
    refine Eq.trans ?_ this
    congr 2
  rw [c1] at h0 h1
  simp only [List.drop_zero, List.drop_succ_cons, List.take_succ_cons, List.take_zero] at h0 h1
  have hx : ∀ i, i < 2 → ∃ y, xs[i]? = some y := fun i hi => ⟨_, List.getElem?_eq_getElem (by rw [hxl]; simpa using hi)⟩
  obtain ⟨y0, e0⟩ := hx 0 (by omega)
  obtain ⟨y1, e1⟩ := hx 1 (by omega)
  rw [e0] at h0; rw [e1] at h1
  obtain ⟨a, ha⟩ := view_ad h0
  obtain ⟨b, hb⟩ := view_ad h1
  simp only [List.cons.injEq, and_true] at ha hb
  obtain ⟨rfl, rfl, rfl⟩ := ha
  obtain ⟨rfl, rfl, rfl⟩ := hb
  exact ⟨(a, b), rfl, trivial⟩
theorem view_sps {H : Type} {enc : TypeId × Value → H} {W : World} {a0 : Option Addr} {len0 cap0 : Nat} {d : DataW H} {p : List MemPlace} {base : Nat} {held : Bool}
    (h : ∃ fuel, DataW.trod enc Try.prog W base (fun _ => true) held fuel 28 [.slice a0 len0 cap0] = some (d, p)) :
    ∃ l : List Sp, SpsAt W (.slice a0 len0 cap0) l ∧ len0 = l.length ∧ l.length ≤ 9223372036854775807 := by
  obtain ⟨l, h1, h2, _, h4⟩ := view_slice encC_len (by decide) (fun _ => True) (zeroA, zeroA) Try.underlying28 (by kernel_rfl) (fun fuel cs x h => view_sp fuel cs x h) h
  exact ⟨l, h1, h2, h4⟩
theorem view_lists {H : Type} {enc : TypeId × Value → H} {W : World} {a0 : Option Addr} {len0 cap0 : Nat} {d : DataW H} {p : List MemPlace} {base : Nat} {held : Bool}
    (h : ∃ fuel, DataW.trod enc Try.prog W base (fun _ => true) held fuel 22 [.slice a0 len0 cap0] = some (d, p)) :
    ∃ ls : List (List Sp), SpsOf W (.slice a0 len0 cap0) ls ∧ len0 = ls.length ∧ (∀ l ∈ ls, l.length ≤ 9223372036854775807) ∧ ls.length ≤ 9223372036854775807 := by
  obtain ⟨vs, h1, h2, h3, h4⟩ := view_slice (encE := fun v : Value => [v]) (K := 1) (fun _ => rfl) (by decide) (fun v => ∃ l : List Sp, SpsAt W v l ∧ l.length ≤ 9223372036854775807) (Value.slice none 0 0)
    Try.underlying22 (by kernel_rfl) (fun fuel cs x h => by
      obtain ⟨a, l, c, rfl⟩ := read_slice Try.underlying28 h
      obtain ⟨es, g1, g2, g4⟩ := view_sps (d := x.1) (p := x.2) ⟨fuel, h⟩
      exact ⟨.slice a l c, rfl, es, g1, g4⟩) h
  have hf : ∃ f : Value → List Sp, ∀ v ∈ vs, SpsAt W v (f v) ∧ (f v).length ≤ 9223372036854775807 := by
    classical
    refine ⟨fun v => if hv : v ∈ vs then Classical.choose (h3 v hv) else [], fun v hv => ?_⟩
    simp only [dif_pos hv]
    exact Classical.choose_spec (h3 v hv)
  obtain ⟨f, hf⟩ := hf
  have e1 : vs.flatMap (fun v : Value => [v]) = vs := by simp
  unfold Elems at h1
  rw [e1] at h1
  refine ⟨vs.map f, ⟨vs, by simp, by rw [List.length_map]; exact h1, fun j hj hk => ?_⟩, by rw [List.length_map]; exact h2, fun l hl => ?_, by rw [List.length_map]; exact h4⟩
  · rw [List.getElem_map]; exact (hf _ (List.getElem_mem _)).1
  · obtain ⟨v, hv, rfl⟩ := List.mem_map.1 hl
    exact (hf v hv).2
end Go.Proofs.Try.Gp
