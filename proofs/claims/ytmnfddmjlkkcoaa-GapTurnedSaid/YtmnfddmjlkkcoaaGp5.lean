/- What is free of what is free: the spans cut to a range; plainly. -/
import Derived.Test.YtmnfddmjlkkcoaaGw3
set_option linter.unusedVariables false
namespace Go.Proofs.Try.Gp
open Go.Cph Go.Cph.Px Go.Cph.Gp

def clip1 (a b : Ad) (s : Sp) : Option Sp := if s.1.1 != a.1 || (belowA s.2 a || belowA b s.1) then none else some (if belowA s.1 a then a else s.1, if belowA b s.2 then b else s.2)
theorem below_less {x y : Ad} (h : x.1 = y.1) : belowA x y = lessA x y := by unfold belowA; rw [h, beq_self_eq_true, Bool.true_and]
theorem clip_some {a b : Ad} {s t : Sp} (hab : rightS (a, b) = true) (hs : rightS s = true) (h : clip1 a b s = some t) :
    rightS t = true ∧ rank s.1 ≤ rank t.1 ∧ rank a ≤ rank t.1 ∧ rank t.2 ≤ rank s.2 ∧ rank t.2 ≤ rank b ∧ (rank t.1 = rank s.1 ∨ rank t.1 = rank a) ∧ (rank t.2 = rank s.2 ∨ rank t.2 = rank b) := by
  have ha := rightS_iff.1 hab
  have hr := rightS_iff.1 hs
  simp only at ha
  unfold clip1 at h
  split at h
  · cases h
  · rename_i hc
    rw [Bool.or_eq_true, Bool.or_eq_true, not_or, not_or, bne_iff_ne, ne_eq, Classical.not_not] at hc
    obtain ⟨h1, h2, h3⟩ := hc
    have h4 : s.2.1 = a.1 := hr.2.2.1.symm.trans h1
    have e1 := below_less h4
    have e2 := below_less (x := b) (y := s.1) (ha.2.2.1.symm.trans h1.symm)
    have e3 := below_less h1
    have e4 := below_less (x := b) (y := s.2) (ha.2.2.1.symm.trans h4.symm)
    rw [e1, Bool.not_eq_true, nless] at h2
    rw [e2, Bool.not_eq_true, nless] at h3
    have ht := Option.some.inj h
    rw [e3, e4] at ht
    have k1 := hr.2.2.2
    have k2 := ha.2.2.2
    subst ht
    simp only
    by_cases c1 : lessA s.1 a = true
    · by_cases c2 : lessA b s.2 = true
      · rw [if_pos c1, if_pos c2]
        have := less_rank.1 c1
        have := less_rank.1 c2
        exact ⟨hab, by omega, by omega, by omega, by omega, Or.inr rfl, Or.inr rfl⟩
      · rw [if_pos c1, if_neg c2]
        have := less_rank.1 c1
        have := nless.1 (Bool.eq_false_iff.2 c2)
        exact ⟨rightS_iff.2 ⟨ha.1, hr.2.1, h4.symm, h2⟩, by omega, by omega, by omega, by omega, Or.inr rfl, Or.inl rfl⟩
    · have := nless.1 (Bool.eq_false_iff.2 c1)
      by_cases c2 : lessA b s.2 = true
      · rw [if_neg c1, if_pos c2]
        have := less_rank.1 c2
        exact ⟨rightS_iff.2 ⟨hr.1, ha.2.1, h1.trans ha.2.2.1, h3⟩, by omega, by omega, by omega, by omega, Or.inl rfl, Or.inr rfl⟩
      · rw [if_neg c1, if_neg c2]
        have := nless.1 (Bool.eq_false_iff.2 c2)
        exact ⟨hs, by omega, by omega, by omega, by omega, Or.inl rfl, Or.inl rfl⟩
theorem clip_none {a b : Ad} {s : Sp} (hab : rightS (a, b) = true) (hs : rightS s = true) (h : clip1 a b s = none) {n : Nat} (h1 : rank a ≤ n) (h2 : n ≤ rank b) (h3 : rank s.1 ≤ n) (h4 : n ≤ rank s.2) : False := by
  have ha := rightS_iff.1 hab
  have hr := rightS_iff.1 hs
  simp only at ha
  have hf : s.1.1 = a.1 := fam_far hr.2.2.1 ha.2.2.1 h3 h4 h1 h2
  unfold clip1 at h
  split at h
  · rename_i hc
    rw [Bool.or_eq_true, Bool.or_eq_true, bne_iff_ne] at hc
    rcases hc with hc | hc | hc
    · exact hc hf
    · rw [below_less (hr.2.2.1.symm.trans hf), less_rank] at hc; omega
    · rw [below_less (ha.2.2.1.symm.trans hf.symm), less_rank] at hc; omega
  · cases h
theorem clip_set {a b : Ad} {j : List Sp} {P : Nat → Prop} (hab : rightS (a, b) = true) (h : IsSet j P) : IsSet (j.filterMap (clip1 a b)) (fun n => rightS (a, b) = true ∧ rank a ≤ n ∧ n ≤ rank b ∧ P n) := by
  have hsp : ∀ t ∈ j.filterMap (clip1 a b), ∃ s ∈ j, clip1 a b s = some t := fun t ht => by simpa using ht
  refine ⟨fun t ht => ?_, ⟨fun t ht => ?_, ?_⟩, fun n => ⟨?_, ?_⟩⟩
  · obtain ⟨s, hs, hc⟩ := hsp t ht
    exact (clip_some hab (h.right s hs) hc).1
  · obtain ⟨u, hu, rfl⟩ := List.mem_map.1 ht
    obtain ⟨s, hs, hc⟩ := hsp u hu
    exact (rightS_iff.1 (clip_some hab (h.right s hs) hc).1).2.2.2
  · rw [List.pairwise_map, List.pairwise_filterMap]
    have hg := h.apart.gap
    rw [List.pairwise_map] at hg
    refine List.Pairwise.imp_of_mem ?_ hg
    intro s t hs ht hst u hu v hv
    have k1 := clip_some hab (h.right s hs) hu
    have k2 := clip_some hab (h.right t ht) hv
    have k3 := hst
    unfold iv at k3 ⊢
    simp only at k3 ⊢
    omega
  · rintro ⟨t, ht, htr, h1, h2⟩
    obtain ⟨s, hs, hc⟩ := hsp t ht
    have k := clip_some hab (h.right s hs) hc
    exact ⟨hab, by omega, by omega, (h.cov n).1 ⟨s, hs, h.right s hs, by omega, by omega⟩⟩
  · rintro ⟨-, h1, h2, hp⟩
    obtain ⟨s, hs, hr, h3, h4⟩ := (h.cov n).2 hp
    cases hc : clip1 a b s with
    | none => exact absurd (clip_none hab hr hc h1 h2 h3 h4) id
    | some t =>
      have k := clip_some hab hr hc
      refine ⟨t, List.mem_filterMap.2 ⟨s, hs, hc⟩, k.1, ?_, ?_⟩
      · rcases k.2.2.2.2.2.1 with e | e <;> omega
      · rcases k.2.2.2.2.2.2 with e | e <;> omega
theorem back_clip {a b : Ad} {f j k : List Sp} {P : Nat → Prop} (hab : rightS (a, b) = true) (hf : IsSet f (FreeP a b P)) (hj : IsSet j P) (hk : IsSet k (FreeP a b (covS f))) : k = j.filterMap (clip1 a b) :=
  (hk.to (free_free hf.cov)).unique (clip_set hab hj) fun n => Iff.rfl
theorem covS_reverse {l : List Sp} (n : Nat) : covS l.reverse n ↔ covS l n := by
  constructor
  · rintro ⟨s, hs, h⟩; exact ⟨s, List.mem_reverse.1 hs, h⟩
  · rintro ⟨s, hs, h⟩; exact ⟨s, List.mem_reverse.2 hs, h⟩
theorem free_congr {a b : Ad} {P Q : Nat → Prop} (h : ∀ n, P n ↔ Q n) (n : Nat) : FreeP a b P n ↔ FreeP a b Q n := by unfold FreeP; rw [h]
theorem LeastIs.to {a b : Ad} {P Q : Nat → Prop} {r : Ad × Bool} (h : LeastIs a b P r) (e : ∀ n, P n ↔ Q n) : LeastIs a b Q r := by
  have he := free_congr (a := a) (b := b) e
  exact ⟨fun hh => by
    obtain ⟨k1, k2, k3, k4⟩ := h.yes hh
    exact ⟨k1, k2, (he _).1 k3, fun n hn => k4 n ((he n).2 hn)⟩, fun hh => ⟨(h.no hh).1, fun n hn => (h.no hh).2 n ((he n).2 hn)⟩⟩
theorem none_of_not_right {a b : Ad} {P : Nat → Prop} {l : List Sp} (h : IsSet l (FreeP a b P)) (hn : rightS (a, b) = false) : l = [] :=
  h.unique (IsSet.nil (P := fun _ => False) fun _ => id) fun n => ⟨fun k => (by have k1 := k.1; rw [hn] at k1; cases k1), False.elim⟩
end Go.Proofs.Try.Gp
