/- GapParts: what is asked of joined and free spans; plainly. -/
import Derived.Test.YtmnfddmjlkkcoaaGw3
set_option linter.unusedVariables false
namespace Go.Proofs.Try.Gp
open Go.Cph Go.Cph.Px Go.Cph.Gp

theorem has_wrong {s : Sp} {x : Ad} (h : rightA x = false) : hasS s x = false := by
  rw [Bool.eq_false_iff]; intro hh; rw [(hasS_iff.1 hh).2.1] at h; cases h
theorem coveredD_wrong {l : List Sp} {x : Ad} (h : rightA x = false) : coveredD l x = false := by
  unfold coveredD
  rw [List.any_eq_false]
  intro s _
  rw [has_wrong h]; simp
theorem parts_j {A j : List Sp} (h : IsSet j (covS A)) (x : Ad) : coveredD j x = coveredD A x := by
  cases hx : rightA x
  · rw [coveredD_wrong hx, coveredD_wrong hx]
  · rw [Bool.eq_iff_iff, coveredD_iff hx, coveredD_iff hx]; exact h.cov _
theorem parts_f {a b : Ad} {A f : List Sp} (h : IsSet f (FreeP a b (covS A))) (x : Ad) : coveredD f x = (hasS (a, b) x && !coveredD A x) := by
  cases hx : rightA x
  · rw [coveredD_wrong hx, has_wrong hx]; rfl
  · rw [Bool.eq_iff_iff, coveredD_iff hx, h.cov, free_has hx, Bool.and_eq_true, Bool.not_eq_true']
theorem parts_ends {a b : Ad} {A f j : List Sp} (hf : IsSet f (FreeP a b (covS A))) (hj : IsSet j (covS A)) {s : Sp} (hs : s ∈ f) :
    hasS (a, b) s.1 = true ∧ hasS (a, b) s.2 = true ∧ coveredD j s.1 = false ∧ coveredD j s.2 = false := by
  have hr := hf.right s hs
  have hr2 := rightS_iff.1 hr
  have h1 : coveredD f s.1 = true := (coveredD_iff hr2.1).2 ⟨s, hs, hr, Nat.le_refl _, hr2.2.2.2⟩
  have h2 : coveredD f s.2 = true := (coveredD_iff hr2.2.1).2 ⟨s, hs, hr, hr2.2.2.2, Nat.le_refl _⟩
  rw [parts_f hf, Bool.and_eq_true, Bool.not_eq_true'] at h1 h2
  exact ⟨h1.1, h2.1, by rw [parts_j hj]; exact h1.2, by rw [parts_j hj]; exact h2.2⟩
theorem coveredD_append (l m : List Sp) (x : Ad) : coveredD (l ++ m) x = (coveredD l x || coveredD m x) := by unfold coveredD; rw [List.any_append]
theorem coveredD_take_flat {ls : List (List Sp)} {k : Nat} (h : k < ls.length) (x : Ad) : coveredD (ls.take (k + 1)).flatten x = (coveredD (ls.take k).flatten x || coveredD ls[k] x) := by
  rw [flatten_take ls h, coveredD_append]
theorem least_none {a b x : Ad} {A f : List Sp} (h : LeastIs a b (covS A) (x, false)) (hf : IsSet f (FreeP a b (covS A))) : f = [] ∧ x = zeroA := by
  obtain ⟨h1, h2⟩ := h.no rfl
  exact ⟨hf.unique (IsSet.nil (P := fun _ => False) fun _ => id) fun n => ⟨fun k => h2 n k, False.elim⟩, h1⟩
theorem least_some {a b x : Ad} {A f : List Sp} (h : LeastIs a b (covS A) (x, true)) (hf : IsSet f (FreeP a b (covS A))) : ∃ s l, f = s :: l ∧ s.1 = x := by
  obtain ⟨h1, h2, h3, h4⟩ := h.yes rfl
  cases f with
  | nil => exact absurd ((hf.cov _).2 h3) (covS_nil _)
  | cons s l =>
    have h5 := hf.first
    exact ⟨s, l, rfl, rank_inj (Nat.le_antisymm (h5.2 _ h3) (h4 _ h5.1))⟩
end Go.Proofs.Try.Gp
