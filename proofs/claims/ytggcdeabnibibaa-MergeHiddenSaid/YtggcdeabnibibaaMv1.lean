/- Entries as arguments: what a reading of them tells. -/
import Derived.Test.YtggcdeabnibibaaMk6
import Derived.Test.YtggcdeabnibibaaVw
set_option linter.unusedVariables false
set_option linter.unusedSimpArgs false
namespace Go.Proofs.Try.Mg
open Go.RowKit Go.Cph Go.Cph.Skip Go.Cph.So Go.ChangeShapes Go.WideShapes Go.ChangeAt

theorem u64_of {z : Int} (h : (Lit.int .u64 z).wf = true) : ∃ c : UInt64, z = (c.toNat : Int) := by
  have hb : 0 ≤ z ∧ z < 18446744073709551616 := by simp [Lit.wf, IntKind.min, IntKind.max, IntKind.signed, IntKind.bits] at h; omega
  exact ⟨UInt64.ofNat z.toNat, by rw [UInt64.toNat_ofNat', Nat.mod_eq_of_lt (by omega)]; omega⟩
theorem fourOf {xs : List Value} (h : xs.length = 4) : ∃ a b c d, xs = [a, b, c, d] := by
  match xs, h with
  | [a, b, c, d], _ => exact ⟨a, b, c, d, rfl⟩
def SizesOK (e : Ent) : Prop := e.1.size ≤ maxLen ∧ e.2.1.size ≤ maxLen
theorem view_ent {H : Type} {enc : TypeId × Value → H} {W : World} {base : Nat} {held : Bool} (fuel : Nat) (cs : List Value) (x : DataW H × List MemPlace)
    (h : DataW.trod enc Try.prog W base (fun _ => true) held fuel 32 cs = some x) : ∃ e : Ent, cs = encC e ∧ SizesOK e := by
  obtain ⟨xs, n, _, _, hlen, hxl, hf⟩ := DataW.trod_struct Try.underlying32 h
  have hlen4 : cs.length = 4 := by rw [hlen]; kernel_rfl
  have c1 : Try.prog.cellsOf 9 = 1 := by kernel_rfl
  have c2 : Try.prog.cellsOf 30 = 1 := by kernel_rfl
  have c3 : Try.prog.cellsOf 4 = 1 := by kernel_rfl
  obtain ⟨v0, v1, v2, v3, rfl⟩ := fourOf hlen4
  have h0 : DataW.trod enc Try.prog W base (fun _ => true) held n 9 (([v0, v1, v2, v3].drop 0).take (Try.prog.cellsOf 9)) = xs[0]? := hf 0 _ rfl
  have h1 : DataW.trod enc Try.prog W base (fun _ => true) held n 9 (([v0, v1, v2, v3].drop 1).take (Try.prog.cellsOf 9)) = xs[1]? := hf 1 _ rfl
  have h2 : DataW.trod enc Try.prog W base (fun _ => true) held n 30 (([v0, v1, v2, v3].drop 2).take (Try.prog.cellsOf 30)) = xs[2]? := hf 2 _ rfl
  have h3 : DataW.trod enc Try.prog W base (fun _ => true) held n 4 (([v0, v1, v2, v3].drop 3).take (Try.prog.cellsOf 4)) = xs[3]? := hf 3 _ rfl
  rw [c1] at h0 h1
  rw [c2] at h2
  rw [c3] at h3
  simp only [List.drop_zero, List.drop_succ_cons, List.take_succ_cons, List.take_zero] at h0 h1 h2 h3
  have hx : ∀ i, i < 4 → ∃ y, xs[i]? = some y := fun i hi => ⟨_, List.getElem?_eq_getElem (by rw [hxl]; simpa using hi)⟩
  obtain ⟨y0, e0⟩ := hx 0 (by omega)
  obtain ⟨y1, e1⟩ := hx 1 (by omega)
  obtain ⟨y2, e2⟩ := hx 2 (by omega)
  obtain ⟨y3, e3⟩ := hx 3 (by omega)
  rw [e0] at h0; rw [e1] at h1; rw [e2] at h2; rw [e3] at h3
  obtain ⟨z0, q0, _, w0⟩ := DataW.trod_string Try.underlying9 h0
  obtain ⟨z1, q1, _, w1⟩ := DataW.trod_string Try.underlying9 h1
  obtain ⟨z2, q2, _, w2⟩ := DataW.trod_int Try.underlying30 h2
  obtain ⟨z3, q3, _⟩ := DataW.trod_bool Try.underlying4 h3
  simp only [List.cons.injEq, and_true] at q0 q1 q2 q3
  subst q0 q1 q2 q3
  obtain ⟨s, rfl⟩ := u64_of w2
  exact ⟨(z0, z1, s, z3), rfl, w0, w1⟩
abbrev zeroE : Ent := (ByteArray.empty, ByteArray.empty, 0, false)
theorem view_ents {H : Type} {enc : TypeId × Value → H} {W : World} {a0 : Option Addr} {len0 cap0 : Nat} {d : DataW H} {p : List MemPlace} {base : Nat} {held : Bool}
    (h : ∃ fuel, DataW.trod enc Try.prog W base (fun _ => true) held fuel 25 [.slice a0 len0 cap0] = some (d, p)) :
    ∃ l : List Ent, EntsAt W (.slice a0 len0 cap0) l ∧ len0 = l.length ∧ (∀ a ∈ l, SizesOK a) ∧ l.length ≤ 9223372036854775807 :=
  view_slice encC_len (by decide) SizesOK zeroE Try.underlying25 (by kernel_rfl) (fun fuel cs x h => view_ent fuel cs x h) h
theorem view_ents2 {H : Type} {enc : TypeId × Value → H} {W : World} {a0 : Option Addr} {len0 cap0 : Nat} {d : DataW H} {p : List MemPlace} {base : Nat} {held : Bool}
    (h : ∃ fuel, DataW.trod enc Try.prog W base (fun _ => true) held fuel 25 [.slice a0 len0 cap0] = some (d, p)) :
    ∃ l : List Ent, EntsAt W (.slice a0 len0 cap0) l ∧ len0 = l.length ∧ (∀ a ∈ l, SizesOK a) ∧ l.length ≤ cap0 ∧ cap0 ≤ 9223372036854775807 := by
  obtain ⟨l, h1, h2, h3, h4⟩ := view_ents h
  obtain ⟨h5, h6⟩ := view_cap Try.underlying25 h
  exact ⟨l, h1, h2, h3, by omega, h6⟩
theorem view_num {H : Type} {enc : TypeId × Value → H} {W : World} {base : Nat} {held : Bool} (fuel : Nat) (cs : List Value) (x : DataW H × List MemPlace)
    (h : DataW.trod enc Try.prog W base (fun _ => true) held fuel 30 cs = some x) : ∃ n : UInt64, cs = encN n ∧ True := by
  obtain ⟨z, q, _, w⟩ := DataW.trod_int Try.underlying30 h
  obtain ⟨s, rfl⟩ := u64_of w
  exact ⟨s, q, trivial⟩
theorem view_nums {H : Type} {enc : TypeId × Value → H} {W : World} {a0 : Option Addr} {len0 cap0 : Nat} {d : DataW H} {p : List MemPlace} {base : Nat} {held : Bool}
    (h : ∃ fuel, DataW.trod enc Try.prog W base (fun _ => true) held fuel 34 [.slice a0 len0 cap0] = some (d, p)) :
    ∃ l : List UInt64, NumsAt W (.slice a0 len0 cap0) l ∧ len0 = l.length ∧ l.length ≤ 9223372036854775807 := by
  obtain ⟨l, h1, h2, _, h4⟩ := view_slice encN_len (by decide) (fun _ => True) 0 Try.underlying34 (by kernel_rfl) (fun fuel cs x h => view_num fuel cs x h) h
  exact ⟨l, h1, h2, h4⟩
theorem view_lists {H : Type} {enc : TypeId × Value → H} {W : World} {a0 : Option Addr} {len0 cap0 : Nat} {d : DataW H} {p : List MemPlace} {base : Nat} {held : Bool}
    (h : ∃ fuel, DataW.trod enc Try.prog W base (fun _ => true) held fuel 22 [.slice a0 len0 cap0] = some (d, p)) :
    ∃ ls : List (List Ent), EntsOf W (.slice a0 len0 cap0) ls ∧ len0 = ls.length ∧ (∀ l ∈ ls, l.length ≤ 9223372036854775807 ∧ ∀ a ∈ l, SizesOK a) ∧ ls.length ≤ 9223372036854775807 := by
  obtain ⟨vs, h1, h2, h3, h4⟩ := view_slice (encE := fun v : Value => [v]) (K := 1) (fun _ => rfl) (by decide) (fun v => ∃ l : List Ent, EntsAt W v l ∧ l.length ≤ 9223372036854775807 ∧ ∀ a ∈ l, SizesOK a) (Value.slice none 0 0)
    Try.underlying22 (by kernel_rfl) (fun fuel cs x h => by
      obtain ⟨a, l, c, rfl⟩ := read_slice Try.underlying25 h
      obtain ⟨es, g1, g2, g3, g4⟩ := view_ents (d := x.1) (p := x.2) ⟨fuel, h⟩
      exact ⟨.slice a l c, rfl, es, g1, g4, g3⟩) h
  have hf : ∃ f : Value → List Ent, ∀ v ∈ vs, EntsAt W v (f v) ∧ (f v).length ≤ 9223372036854775807 ∧ ∀ a ∈ f v, SizesOK a := by
    classical
    refine ⟨fun v => if hv : v ∈ vs then Classical.choose (h3 v hv) else [], fun v hv => ?_⟩
    simp only [dif_pos hv]
    exact Classical.choose_spec (h3 v hv)
  obtain ⟨f, hf⟩ := hf
  have e1 : vs.flatMap (fun v : Value => [v]) = vs := by simp
  unfold Elems at h1
  rw [e1] at h1
  refine ⟨vs.map f, ⟨vs, by simp, by rw [List.length_map]; exact h1, fun j hj hk => ?_⟩, by rw [List.length_map]; exact h2, fun l hl => ?_, by rw [List.length_map]; exact h4⟩
  · rw [List.getElem_map]; exact (hf _ (List.getElem_mem _)).1
  · obtain ⟨v, hv, rfl⟩ := List.mem_map.1 hl
    exact (hf v hv).2
end Go.Proofs.Try.Mg
