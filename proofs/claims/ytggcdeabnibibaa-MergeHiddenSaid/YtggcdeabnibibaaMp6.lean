/- MergeRows, plainly: what is kept is a part of the list, in its order. -/
import Derived.Test.YtggcdeabnibibaaMr7
set_option linter.unusedVariables false
set_option linter.unusedSimpArgs false
namespace Go.Proofs.Try.Mg
open Go.RowKit Go.Cph Go.Cph.Skip Go.Cph.So

theorem docKeep_take (s : List Ent) (bottom : Bool) (snaps : List UInt64) : ∀ k, k ≤ s.length → (docKeep s bottom snaps k).Sublist (s.take k)
  | 0, _ => by simp [docKeep]
  | k + 1, h => by
    rw [docKeep_snoc, List.take_succ_eq_append_getElem (by omega)]
    refine (docKeep_take s bottom snaps k (by omega)).append ?_
    unfold docKeepAt
    rw [List.getElem?_eq_getElem (show k < s.length by omega)]
    split <;> simp
theorem keep_sub {s : List Ent} (hs : Strict ltE s) (bottom : Bool) (snaps : List UInt64) : (keepL s bottom snaps).Sublist s := by
  have := docKeep_take s bottom snaps s.length (Nat.le_refl _)
  rwa [docKeep_all hs, List.take_of_length_le (Nat.le_refl _)] at this
theorem keep_strict {s : List Ent} (hs : Strict ltE s) (bottom : Bool) (snaps : List UInt64) : Strict ltE (keepL s bottom snaps) :=
  List.Pairwise.sublist (keep_sub hs bottom snaps) hs
theorem sub_skip {k l : List Ent} {x y : Ent} (h : (x :: k).Sublist (y :: l)) (hne : y ≠ x) : (x :: k).Sublist l := by
  cases h with
  | cons _ h => exact h
  | cons_cons _ h => exact absurd rfl hne
theorem sub_step {k l : List Ent} {x : Ent} (h : (x :: k).Sublist (x :: l)) : k.Sublist l := by
  cases h with
  | cons _ h => exact (List.sublist_cons_self x k).trans h
  | cons_cons _ h => exact h
/-- A version that was given is there. -/
theorem merge_there {l : List Ent} {x : Ent} (hx : x ∈ l) : ∃ y ∈ mergeL ltE l, y.1 = x.1 ∧ y.2.2.1 = x.2.2.1 := by
  obtain ⟨y, hy, he⟩ := fst_some weakE hx
  refine ⟨y, (mem_mergeL weakE).2 hy, ?_⟩
  have := (eqvE _ _).1 he
  exact ⟨this.1.symm, this.2.symm⟩
theorem first_there {s : List Ent} (hs : Strict ltE s) {bottom : Bool} {snaps : List UInt64} {i : Nat} {x : Ent} (hx : s[i]? = some x) (hh : headB s i = true) (hg : bottom = false ∨ x.2.2.2 = false) : x ∈ keepL s bottom snaps := by
  rw [← docKeep_all hs, docKeep, List.mem_filterMap]
  have hi : i < s.length := by
    refine Nat.lt_of_not_le fun h => ?_
    rw [List.getElem?_eq_none h] at hx; cases hx
  refine ⟨i, List.mem_range.2 hi, ?_⟩
  have hst : stayB s i snaps = true := stayB_head hh
  unfold docKeepAt
  rw [hst, hx, Bool.true_and, if_pos]
  rcases hg with h | h
  · rw [h]; simp
  · have : docOlder s snaps i = true := by
      rw [docOlder, List.any_eq_true]
      exact ⟨i, List.mem_range.2 hi, by rw [live_at hx hx (Nat.le_refl _) rfl, hst, h]; rfl⟩
    rw [this]; rfl
/-- A kept one that is gone, at the bottom, has a kept one of its key behind it. -/
theorem gone_behind {s : List Ent} (hs : Strict ltE s) {snaps : List UInt64} {x : Ent} (hx : x ∈ keepL s true snaps) (hg : x.2.2.2 = true) : ∃ y ∈ keepL s true snaps, y.1 = x.1 ∧ ltE x y = true := by
  rw [← docKeep_all hs, docKeep, List.mem_filterMap] at hx
  obtain ⟨i, hi, hk⟩ := hx
  rw [List.mem_range] at hi
  unfold docKeepAt at hk
  split at hk
  · rename_i hc
    simp only [Bool.and_eq_true, Bool.not_true, Bool.or_false] at hc
    obtain ⟨h1, h2⟩ := hc
    rw [docOlder, List.any_eq_true] at h2
    obtain ⟨j, hj, hl⟩ := h2
    rw [List.mem_range] at hj
    have hy : s[j]? = some s[j] := List.getElem?_eq_getElem hj
    have hxe : s[i] = x := Option.some.inj ((List.getElem?_eq_getElem hi).symm.trans hk)
    have hl2 := hl
    unfold liveAt at hl
    rw [hk, hy] at hl
    simp only [Bool.and_eq_true, decide_eq_true_eq] at hl
    obtain ⟨⟨a1, a2⟩, a3, a4⟩ := hl
    have hij : i < j := by
      rcases Nat.lt_or_eq_of_le a1 with h | h
      · exact h
      · subst h; rw [hxe, hg] at a4; simp at a4
    refine ⟨s[j], ?_, a2, by have := List.pairwise_iff_getElem.1 hs i j hi hj hij; rwa [hxe] at this⟩
    rw [← docKeep_all hs, docKeep, List.mem_filterMap]
    refine ⟨j, List.mem_range.2 hj, ?_⟩
    unfold docKeepAt
    have ho : docOlder s snaps j = true := by
      rw [docOlder, List.any_eq_true]
      exact ⟨j, List.mem_range.2 hj, by rw [live_at hy hy (Nat.le_refl _) rfl, a3]; simpa using a4⟩
    rw [a3, ho, hy]; rfl
  · cases hk
/-- So the last of a key is not gone. -/
theorem last_live {s : List Ent} (hs : Strict ltE s) {snaps : List UInt64} {i : Nat} (hi : i < (keepL s true snaps).length) (hg : (keepL s true snaps)[i].2.2.2 = true) : ∃ h : i + 1 < (keepL s true snaps).length, (keepL s true snaps)[i + 1].1 = (keepL s true snaps)[i].1 := by
  have hk := keep_strict hs true snaps
  obtain ⟨y, hy, h1, h2⟩ := gone_behind hs (List.getElem_mem hi) hg
  obtain ⟨j, hj, rfl⟩ := List.getElem_of_mem hy
  have hij : i < j := by
    rcases Nat.lt_trichotomy i j with h | h | h
    · exact h
    · subst h; rw [weakE.irrefl] at h2; cases h2
    · have h3 := weakE.asymm (List.pairwise_iff_getElem.1 hk j i hj hi h)
      rw [h2] at h3; cases h3
  refine ⟨by omega, ?_⟩
  rcases ltE_key (List.pairwise_iff_getElem.1 hk i (i + 1) hi (by omega) (by omega)) with h | ⟨h, _⟩
  · exfalso
    rcases Nat.lt_or_eq_of_le (show i + 1 ≤ j by omega) with h4 | h4
    · have h5 := ltE_kle (List.pairwise_iff_getElem.1 hk (i + 1) j (by omega) hj h4)
      rw [h1, h] at h5; cases h5
    · subst h4
      rw [h1, klt_irrefl] at h; cases h
  · exact h.symm
end Go.Proofs.Try.Mg
