/- Arguments opened: slices of whatever elements as lists. Of whatever program. -/
import Derived.Test.YtkeaalacepjadaaDoorVA
import Derived.Test.YtkeaalacepjadaaDoorOpen
import Derived.Deep.Slices
set_option linter.unusedVariables false
set_option linter.unusedSimpArgs false
namespace Go.Cph
open Go.RowKit Go.ChangeShapes Go.WideShapes Go.ChangeAt
theorem view_slice {α : Type} {encE : α → List Value} {K : Nat} (hK : ∀ a, (encE a).length = K) (hK0 : 0 < K) (Q : α → Prop) (z : α) {H : Type} {enc : TypeId × Value → H} {P : Program} {W : World} {t e : TypeId} {base : Nat} {held : Bool}
    (ht : P.underlying t = some (.slice e)) (hc : P.cellsOf e = K)
    (hview : ∀ (fuel : Nat) (cs : List Value) (x : DataW H × List MemPlace), DataW.trod enc P W base (fun _ => true) held fuel e cs = some x → ∃ a : α, cs = encE a ∧ Q a)
    {a0 : Option Addr} {len0 cap0 : Nat} {d : DataW H} {p : List MemPlace}
    (h : ∃ fuel, DataW.trod enc P W base (fun _ => true) held fuel t [.slice a0 len0 cap0] = some (d, p)) :
    ∃ l : List α, Elems encE K W (.slice a0 len0 cap0) l ∧ len0 = l.length ∧ (∀ a ∈ l, Q a) ∧ l.length ≤ 9223372036854775807 := by
  obtain ⟨fuel, hf⟩ := h
  rcases Go.Deep.open_slice ht hf with ⟨hcs, _⟩ | ⟨a, len, cap, m, n, D, Pl, hcs, hb, hl, hm, hmm, _, hx⟩
  · simp at hcs
    obtain ⟨rfl, rfl, rfl⟩ := hcs
    exact ⟨[], Seg.nil W K, rfl, by simp, by simp⟩
  · simp at hcs
    obtain ⟨rfl, rfl, rfl⟩ := hcs
    simp only [if_true] at hmm
    rw [hc] at hx
    have hev : ∀ i, i < len0 → ∃ q : α, W.cells? base (a.add (i * K)) K = some (encE q) ∧ Q q := by
      intro i hi
      obtain ⟨cs', h1, h2⟩ := hx i (by omega)
      obtain ⟨q, rfl, hq⟩ := hview _ _ _ h2
      exact ⟨q, h1, hq⟩
    obtain ⟨f, hfc⟩ : ∃ f : Nat → α, ∀ i, i < len0 → W.cells? base (a.add (i * K)) K = some (encE (f i)) ∧ Q (f i) := by
      refine ⟨fun i => if hi : i < len0 then Classical.choose (hev i hi) else z, fun i hi => ?_⟩
      simp only [dif_pos hi]
      exact Classical.choose_spec (hev i hi)
    refine ⟨(List.range len0).map f, ⟨⟨some a, cap0, by simp, fun h0 => ?_⟩, by rw [flat_length hK]⟩, by simp, ?_, by simp; unfold maxLen at *; omega⟩
    · simp only [List.length_map, List.length_range] at h0
      obtain ⟨b, off, spot⟩ := a
      have hcell : ∀ i, i < len0 → ∀ j, j < K → W.cell? ((Addr.mk b off spot).add (i * K) |>.add j) = (encE (f i))[j]? := fun i hi j hj => (World.cells?_some (hfc i hi).1).2.2 j hj
      have hspot : spot = none := by
        have h1 := hcell 0 h0 0 hK0
        rw [List.getElem?_eq_getElem (by rw [hK]; exact hK0)] at h1
        simpa [Addr.add] using World.cell?_spot h1
      subst hspot
      refine ⟨b, off, rfl, fun j hj => ?_⟩
      simp only [List.length_map, List.length_range] at hj
      have hq : j / K < len0 := Nat.div_lt_of_lt_mul (by rw [Nat.mul_comm]; exact hj)
      have hr : j % K < K := Nat.mod_lt _ hK0
      have hadd : ∀ i k, ((⟨b, off, none⟩ : Addr).add (i * K)).add k = ⟨b, off + i * K + k, none⟩ := fun i k => by
        unfold Addr.add; split <;> simp_all <;> split <;> simp_all
      have g := hcell (j / K) hq (j % K) hr
      rw [hadd] at g
      have e0 : j / K * K + j % K = j := by rw [Nat.mul_comm]; exact Nat.div_add_mod j K
      have e1 : off + j / K * K + j % K = off + j := by omega
      rw [e1] at g
      have e2 := flat_at hK ((List.range len0).map f) (j / K) (by simpa using hq) (j % K) hr
      rw [e0] at e2
      rw [e2, g]
      simp
    · intro ac hac
      obtain ⟨i, hi, rfl⟩ := List.mem_map.1 hac
      exact (hfc i (List.mem_range.1 hi)).2
/-- .. and that its length is within its capacity. -/
theorem view_cap {H : Type} {enc : TypeId × Value → H} {P : Program} {W : World} {t e : TypeId} {base : Nat} {held : Bool} (ht : P.underlying t = some (.slice e)) {a0 : Option Addr} {len0 cap0 : Nat} {d : DataW H} {p : List MemPlace}
    (h : ∃ fuel, DataW.trod enc P W base (fun _ => true) held fuel t [.slice a0 len0 cap0] = some (d, p)) : len0 ≤ cap0 ∧ cap0 ≤ 9223372036854775807 := by
  obtain ⟨fuel, hf⟩ := h
  rcases Go.Deep.open_slice ht hf with ⟨hcs, _⟩ | ⟨a, len, cap, m, n, D, Pl, hcs, hb, hl, hm, hmm, _, hx⟩
  · simp at hcs
    obtain ⟨rfl, rfl, rfl⟩ := hcs
    exact ⟨Nat.le_refl _, by omega⟩
  · simp at hcs
    obtain ⟨rfl, rfl, rfl⟩ := hcs
    unfold maxLen at hm
    exact ⟨hl, by omega⟩
/-- A reading of a slice tells that it is one. -/
theorem read_slice {H : Type} {enc : TypeId × Value → H} {P : Program} {W : World} {t e : TypeId} {base : Nat} {held : Bool} {fuel : Nat} {cs : List Value} {x : DataW H × List MemPlace}
    (ht : P.underlying t = some (.slice e)) (hf : DataW.trod enc P W base (fun _ => true) held fuel t cs = some x) : ∃ a l c, cs = [.slice a l c] := by
  rcases Go.Deep.open_slice ht hf with ⟨hcs, _⟩ | ⟨a, len, cap, m, n, D, Pl, hcs, _⟩
  · exact ⟨_, _, _, hcs⟩
  · exact ⟨_, _, _, hcs⟩
end Go.Cph
