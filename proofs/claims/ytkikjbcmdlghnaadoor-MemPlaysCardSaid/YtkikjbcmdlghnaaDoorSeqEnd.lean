/- How a function in which ranges over functions stand is left: its result in a cell of its own, up to two marks. Of whatever program. -/
import Derived.Test.YtkikjbcmdlghnaaDoorSeq
set_option linter.unusedVariables false
set_option linter.unusedSimpArgs false
namespace Go.Cph
open Go.RowKit

theorem blk_one {w : World} {b : Nat} {v : Value} {E : TypeId} (h : w.heap[b]? = some (.cells #[v] E (0, 0))) : w.cell? ⟨b, 0, none⟩ = some v ∧ w.frozen? ⟨b, 0, none⟩ = false :=
  ⟨by rw [blk_cell h]; rfl, by rw [blk_frozen h]; simp⟩
theorem blk_one_set {w : World} {b : Nat} {v : Value} {E : TypeId} (h : w.heap[b]? = some (.cells #[v] E (0, 0))) (u : Value) : (w.setCell ⟨b, 0, none⟩ u).heap[b]? = some (.cells #[u] E (0, 0)) := by
  rw [blk_set h]; simp
/-- A result in a cell of its own; up to two marks. -/
structure ResAt (P : Program) (fn : Func) (tmps : Array Value) (b : Bool) (W : World) : Prop where
  out : ∃ p ty g, fn.results = #[.cell p ty] ∧ tmps.getD p undef = .pointer (some ⟨g, 0, none⟩) ∧ P.underlying ty = some .bool ∧ W.heap[g]? = some (.cells #[.bool b] ty (0, 0))
theorem ResAt.run {P : Program} {fn : Func} {tmps : Array Value} {b : Bool} {W : World} (h : ResAt P fn tmps b W) : (results fn tmps).run P W = .ok (.bool b) W := by
  obtain ⟨p, ty, g, h1, h2, h3, h4⟩ := h.out
  have hc := (blk_one h4).1
  simp only [results, h1]
  simp [Sem.run_bind, Result.andThen] at h2 ⊢
  have ha := Go.Proofs.run_isAgg_plain h3 rfl
  simp [h2, ha, go_sem, Sem.run_bind, Result.andThen, hc]
theorem ResAt.put {P : Program} {fn : Func} {tmps : Array Value} {b : Bool} {W : World} (h : ResAt P fn tmps b W) {D : Nat} (hD : W.heap[D]? = some (.deferred (some []))) : ResAt P fn tmps b (W.putObj D (.deferred none)) := by
  obtain ⟨p, ty, g, h1, h2, h3, h4⟩ := h.out
  refine ⟨p, ty, g, h1, h2, h3, ?_⟩
  rw [World.putObj_heap_other]
  · exact h4
  · rintro rfl; rw [hD] at h4; cases h4
theorem below_put {B D : Nat} {w W : World} {o : Obj} (h : Below B w W) (hD : B ≤ D) : Below B w (W.putObj D o) :=
  h.trans ⟨rfl, rfl, rfl, by simp, fun k hk => World.putObj_heap_other (by omega)⟩
section
variable {F : Fence} {n : Nat} {P : Program} {fn : Func} {tmps : Array Value} {R : Ending → World → Prop} {b : Bool} {B : Nat} {w W : World}
theorem leaves0 (h : ResAt P fn tmps b W) (hb : Below B w W) (hR : ∀ w', Below B w w' → R (.returned (.bool b)) w') : bodyPostM F n P fn R .ret { tmps := tmps, defers := [] } W :=
  ⟨_, h.run, hR _ hb⟩
theorem leaves1 {D : Nat} (hD : W.heap[D]? = some (.deferred (some []))) (hBD : B ≤ D) (h : ResAt P fn tmps b W) (hb : Below B w W) (hR : ∀ w', Below B w w' → R (.returned (.bool b)) w') :
    bodyPostM F n P fn R .ret { tmps := tmps, defers := [{ target := .collected D, args := #[] }] } W :=
  ⟨by simp, .inl ⟨_, _, rfl, run_takeDeferred hD, _, (h.put hD).run, hR _ (below_put hb hBD)⟩⟩
theorem leaves2 {D E : Nat} (hD : W.heap[D]? = some (.deferred (some []))) (hE : W.heap[E]? = some (.deferred (some []))) (hne : D ≠ E) (hBD : B ≤ D) (hBE : B ≤ E) (h : ResAt P fn tmps b W) (hb : Below B w W)
    (hR : ∀ w', Below B w w' → R (.returned (.bool b)) w') :
    bodyPostM F n P fn R .ret { tmps := tmps, defers := [{ target := .collected D, args := #[] }, { target := .collected E, args := #[] }] } W := by
  have hE' : (W.putObj D (.deferred none)).heap[E]? = some (.deferred (some [])) := (World.putObj_heap_other (fun e => hne e.symm)).trans hE
  exact ⟨by simp, .inl ⟨_, _, rfl, run_takeDeferred hD, by simp, .inl ⟨_, _, rfl, run_takeDeferred hE', _, ((h.put hD).put hE').run, hR _ (below_put (below_put hb hBD) hBE)⟩⟩⟩
end
end Go.Cph
