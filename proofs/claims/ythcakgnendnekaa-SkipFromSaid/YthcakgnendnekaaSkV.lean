/- Acts as an argument: what a reading of it tells of its cells. -/
import Derived.Test.YthcakgnendnekaaSkH
import Derived.Test.YthcakgnendnekaaOpen
import Derived.Deep.Slices
open Go.RowKit Go.Cph Go.Cph.Skip Go.ChangeShapes Go.WideShapes Go.ChangeAt
set_option linter.unusedVariables false
set_option linter.unusedSimpArgs false
namespace Go.Proofs.Try.SkS

theorem fourOf {xs : List Value} (h : xs.length = 4) : ∃ a b c d, xs = [a, b, c, d] := by
  match xs, h with
  | [a, b, c, d], _ => exact ⟨a, b, c, d, rfl⟩

theorem view_act {H : Type} {enc : TypeId × Value → H} {W : World} {base : Nat} {held : Bool} {fuel : Nat} {cs : List Value} {x : DataW H × List MemPlace}
    (h : DataW.trod enc Try.prog W base (fun _ => true) held fuel 35 cs = some x) :
    ∃ a : Ac, cs = [.int .u8 a.what, .string a.key, .string a.val, .int .i64 a.height] ∧ a.key.size ≤ maxLen ∧ a.val.size ≤ maxLen := by
  obtain ⟨xs, n, _, _, hlen, _, hf⟩ := DataW.trod_struct Try.underlying35 h
  have hlen4 : cs.length = 4 := by rw [hlen]; kernel_rfl
  have c1 : Try.prog.cellsOf 5 = 1 := by kernel_rfl
  have c2 : Try.prog.cellsOf 9 = 1 := by kernel_rfl
  have c3 : Try.prog.cellsOf 3 = 1 := by kernel_rfl
  obtain ⟨v0, v1, v2, v3, rfl⟩ := fourOf hlen4
  have h0 : DataW.trod enc Try.prog W base (fun _ => true) held n 5 (([v0, v1, v2, v3].drop 0).take (Try.prog.cellsOf 5)) = xs[0]? := hf 0 _ rfl
  have h1 : DataW.trod enc Try.prog W base (fun _ => true) held n 9 (([v0, v1, v2, v3].drop 1).take (Try.prog.cellsOf 9)) = xs[1]? := hf 1 _ rfl
  have h2 : DataW.trod enc Try.prog W base (fun _ => true) held n 9 (([v0, v1, v2, v3].drop 2).take (Try.prog.cellsOf 9)) = xs[2]? := hf 2 _ rfl
  have h3 : DataW.trod enc Try.prog W base (fun _ => true) held n 3 (([v0, v1, v2, v3].drop 3).take (Try.prog.cellsOf 3)) = xs[3]? := hf 3 _ rfl
  rw [c1] at h0
  rw [c2] at h1 h2
  rw [c3] at h3
  simp only [List.drop_zero, List.drop_succ_cons, List.take_succ_cons, List.take_zero] at h0 h1 h2 h3
  have hx : ∀ i, i < 4 → ∃ y, xs[i]? = some y := fun i hi => by
    have : i < xs.length := by
      rename_i hxl
      rw [hxl]; simpa using hi
    exact ⟨_, List.getElem?_eq_getElem this⟩
  obtain ⟨y0, e0⟩ := hx 0 (by omega)
  obtain ⟨y1, e1⟩ := hx 1 (by omega)
  obtain ⟨y2, e2⟩ := hx 2 (by omega)
  obtain ⟨y3, e3⟩ := hx 3 (by omega)
  rw [e0] at h0; rw [e1] at h1; rw [e2] at h2; rw [e3] at h3
  obtain ⟨z0, q0, _, _⟩ := DataW.trod_int Try.underlying5 h0
  obtain ⟨z1, q1, _, w1⟩ := DataW.trod_string Try.underlying9 h1
  obtain ⟨z2, q2, _, w2⟩ := DataW.trod_string Try.underlying9 h2
  obtain ⟨z3, q3, _, _⟩ := DataW.trod_int Try.underlying3 h3
  simp only [List.cons.injEq, and_true] at q0 q1 q2 q3
  subst q0 q1 q2 q3
  exact ⟨⟨z0, z1, z2, z3⟩, rfl, w1, w2⟩

theorem view_acts {H : Type} {enc : TypeId × Value → H} {W : World} {a0 : Option Addr} {len0 cap0 : Nat} {d : DataW H} {p : List MemPlace} {base : Nat} {held : Bool}
    (h : ∃ fuel, DataW.trod enc Try.prog W base (fun _ => true) held fuel 22 [.slice a0 len0 cap0] = some (d, p)) :
    ∃ acts : List Ac, ActsAt W (.slice a0 len0 cap0) acts ∧ (∀ a ∈ acts, a.key.size ≤ maxLen ∧ a.val.size ≤ maxLen) ∧ acts.length ≤ maxLen := by
  obtain ⟨fuel, hf⟩ := h
  rcases Go.Deep.open_slice Try.underlying22 hf with ⟨hcs, _⟩ | ⟨a, len, cap, m, n, D, Pl, hcs, hb, hl, hm, hmm, _, hx⟩
  · simp at hcs
    obtain ⟨rfl, rfl, rfl⟩ := hcs
    exact ⟨[], ⟨none, 0, rfl, fun h => by simp at h⟩, by simp, by simp⟩
  · simp at hcs
    obtain ⟨rfl, rfl, rfl⟩ := hcs
    simp only [if_true] at hmm
    have c4 : Try.prog.cellsOf 35 = 4 := by kernel_rfl
    rw [c4] at hx
    have hev : ∀ i, i < len0 → ∃ ac : Ac, W.cells? base (a.add (i * 4)) 4 = some [.int .u8 ac.what, .string ac.key, .string ac.val, .int .i64 ac.height] ∧ ac.key.size ≤ maxLen ∧ ac.val.size ≤ maxLen := by
      intro i hi
      obtain ⟨cs', h1, h2⟩ := hx i (by omega)
      obtain ⟨ac, rfl, h3, h4⟩ := view_act h2
      exact ⟨ac, h1, h3, h4⟩
    obtain ⟨f, hfc⟩ : ∃ f : Nat → Ac, ∀ i, i < len0 → W.cells? base (a.add (i * 4)) 4 = some [.int .u8 (f i).what, .string (f i).key, .string (f i).val, .int .i64 (f i).height] ∧ (f i).key.size ≤ maxLen ∧ (f i).val.size ≤ maxLen := by
      refine ⟨fun i => if hi : i < len0 then Classical.choose (hev i hi) else ⟨0, ByteArray.empty, ByteArray.empty, 0⟩, fun i hi => ?_⟩
      simp only [dif_pos hi]
      exact Classical.choose_spec (hev i hi)
    refine ⟨(List.range len0).map f, ⟨some a, cap0, by simp, fun h0 => ?_⟩, ?_, by simp; omega⟩
    · simp only [List.length_map, List.length_range] at h0
      obtain ⟨b, off, spot⟩ := a
      have hcell : ∀ i, i < len0 → ∀ j, j < 4 → W.cell? ((Addr.mk b off spot).add (i * 4) |>.add j) = ([.int .u8 (f i).what, .string (f i).key, .string (f i).val, .int .i64 (f i).height] : List Value)[j]? := fun i hi j hj => (World.cells?_some (hfc i hi).1).2.2 j hj
      have hspot : spot = none := by
        have := hcell 0 h0 0 (by omega)
        simpa [Addr.add] using World.cell?_spot this
      subst hspot
      refine ⟨b, off, rfl, fun j hj => ?_⟩
      have hj' : j < len0 := by simpa using hj
      have hadd : ∀ k, ((⟨b, off, none⟩ : Addr).add (j * 4)).add k = ⟨b, off + j * 4 + k, none⟩ := fun k => by
        unfold Addr.add; split <;> simp_all <;> split <;> simp_all
      have g0 := hcell j hj' 0 (by omega)
      have g1 := hcell j hj' 1 (by omega)
      have g2 := hcell j hj' 2 (by omega)
      have g3 := hcell j hj' 3 (by omega)
      rw [hadd] at g0 g1 g2 g3
      simp only [List.getElem_map, List.getElem_range]
      exact ⟨g0, g1, g2, g3⟩
    · intro ac hac
      obtain ⟨i, hi, rfl⟩ := List.mem_map.1 hac
      exact (hfc i (List.mem_range.1 hi)).2
end Go.Proofs.Try.SkS
