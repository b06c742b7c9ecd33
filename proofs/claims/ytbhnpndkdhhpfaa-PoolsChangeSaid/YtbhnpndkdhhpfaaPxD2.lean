/- One innermost prefix of each address. No program in sight. -/
import Derived.Test.YtbhnpndkdhhpfaaPxC
namespace Go.Cph.Px
theorem one_mem {such : Pf → Bool} {m : List Pf} {x : Pf} (h : mostL such m = some x) : x ∈ m ∧ such x = true := (mostL_is such m).mem x h
theorem one_none {such : Pf → Bool} {m : List Pf} (h : mostL such m = none) {q : Pf} (hq : q ∈ m) : such q = false := by
  rw [Bool.eq_false_iff]; intro hs
  obtain ⟨x, hx, _⟩ := (mostL_is such m).most q hq hs
  rw [h] at hx; cases hx
theorem one_has {m : List Pf} {a : Ad} {x q : Pf} (hx : mostL (fun p => hasP p a) m = some x) (hq : q ∈ m) (h : hasP q a = true) : within x q = true := by
  obtain ⟨y, hy, hle⟩ := (mostL_is (fun p => hasP p a) m).most q hq h
  rw [hx] at hy; cases hy
  exact within_of_has (has_iff.1 (one_mem hx).2) (has_iff.1 h) hle
theorem one_in {m : List Pf} {p y q : Pf} (hy : mostL (fun q => within p q) m = some y) (hq : q ∈ m) (h : within p q = true) : within y q = true := by
  obtain ⟨z, hz, hle⟩ := (mostL_is (fun q => within p q) m).most q hq h
  rw [hy] at hz; cases hz
  exact within_nest (one_mem hy).2 h hle
theorem one_whole (a : Ad) (m : List Pf) : mostL (fun q => within (a, width a.1) q) m = mostL (fun q => hasP q a) m := by
  refine mostL_congr (fun q => ?_) m
  rw [Bool.eq_iff_iff, within_iff, has_iff]
  constructor
  · exact fun h => h.2.2
  · intro h
    have hw := width_pos a.1
    have hr : rest a (width a.1) = 0 := by unfold rest; omega
    exact ⟨⟨h.ad, hw.1, Int.le_refl _, by show num a / 2 ^ rest a (width a.1) * 2 ^ rest a (width a.1) = num a; rw [hr]; simp⟩, by have := h.hi; rw [← h.fam] at this; exact this, h⟩
end Go.Cph.Px
