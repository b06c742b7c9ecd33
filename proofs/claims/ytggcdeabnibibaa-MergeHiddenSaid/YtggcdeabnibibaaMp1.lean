/- Entries, plainly: versions of one key side by side. -/
import Derived.Test.YtggcdeabnibibaaMg1
set_option linter.unusedVariables false
set_option linter.unusedSimpArgs false
namespace Go.Proofs.Try.Mg
open Go.RowKit Go.Cph Go.Cph.Skip Go.Cph.So

def headKey (g : List Ent) : Option ByteArray := g.head?.map (·.1)
def groupsR : List Ent → List (List Ent)
  | [] => []
  | a :: l => match groupsR l with
    | [] => [[a]]
    | g :: gs => if headKey g = some a.1 then (a :: g) :: gs else [a] :: g :: gs
theorem groupsR_cons (a : Ent) (l : List Ent) : ∃ g gs, groupsR (a :: l) = (a :: g) :: gs := by
  unfold groupsR
  cases groupsR l with
  | nil => exact ⟨[], [], rfl⟩
  | cons g gs =>
    simp only
    split
    · exact ⟨g, gs, rfl⟩
    · exact ⟨[], g :: gs, rfl⟩
theorem groupsR_one (a : Ent) (r : List Ent) (h : headKey r ≠ some a.1) : groupsR (a :: r) = [a] :: groupsR r := by
  cases r with
  | nil => rfl
  | cons b r =>
    obtain ⟨g, gs, e⟩ := groupsR_cons b r
    rw [groupsR, e]
    simp only
    rw [if_neg (by simpa [headKey] using h)]
theorem groupsR_part : ∀ (c : List Ent) (r : List Ent) (k : ByteArray), c ≠ [] → (∀ x ∈ c, x.1 = k) → headKey r ≠ some k → groupsR (c ++ r) = c :: groupsR r
  | [], _, _, h, _, _ => absurd rfl h
  | [a], r, k, _, hk, hr => groupsR_one a r (by rw [hk a (by simp)]; exact hr)
  | a :: b :: c, r, k, _, hk, hr => by
    have ih := groupsR_part (b :: c) r k (by simp) (fun x hx => hk x (List.mem_cons_of_mem _ hx)) hr
    rw [List.cons_append, groupsR, ih]
    simp only
    rw [if_pos]
    simp [headKey, hk a (by simp), hk b (by simp)]
theorem groupsR_flat : ∀ l : List Ent, (groupsR l).flatten = l
  | [] => rfl
  | a :: l => by
    have ih := groupsR_flat l
    unfold groupsR
    cases h : groupsR l with
    | nil => rw [h] at ih; simp only [List.flatten_nil] at ih; subst ih; rfl
    | cons g gs =>
      rw [h] at ih
      simp only
      split
      · rw [List.flatten_cons, List.cons_append, ← List.flatten_cons, ih]
      · rw [List.flatten_cons, ih]; rfl
theorem groupsR_same : ∀ (l : List Ent), ∀ g ∈ groupsR l, ∃ k, g ≠ [] ∧ ∀ x ∈ g, x.1 = k
  | [], g, h => by simp [groupsR] at h
  | a :: l, g, h => by
    have ih := groupsR_same l
    unfold groupsR at h
    cases hg : groupsR l with
    | nil => rw [hg] at h; simp at h; subst h; exact ⟨a.1, by simp, by simp⟩
    | cons g0 gs =>
      rw [hg] at h ih
      simp only at h
      split at h
      · rename_i hk
        rcases List.mem_cons.1 h with rfl | h
        · obtain ⟨k, h1, h2⟩ := ih g0 (by simp)
          refine ⟨a.1, by simp, fun x hx => ?_⟩
          rcases List.mem_cons.1 hx with rfl | hx
          · rfl
          · cases g0 with
            | nil => exact absurd rfl h1
            | cons y g0 =>
              simp [headKey] at hk
              rw [h2 x hx, ← h2 y (by simp), hk]
        · exact ih g (List.mem_cons_of_mem _ h)
      · rcases List.mem_cons.1 h with rfl | h
        · exact ⟨a.1, by simp, by simp⟩
        · exact ih g h
theorem groupsR_length (l : List Ent) : (groupsR l).length ≤ l.length := by
  induction l with
  | nil => simp [groupsR]
  | cons a l ih =>
    unfold groupsR
    cases h : groupsR l with
    | nil => simp
    | cons g gs =>
      rw [h] at ih
      simp only
      split <;> simp at ih ⊢ <;> omega
/-- The first of so many is a version of the same key as the others; the next one is not. -/
theorem groupsR_cut {l : List Ent} {n : Nat} (h0 : 0 < n) (hn : n ≤ l.length) (hs : ∀ j (hj : j < l.length), j < n → l[j].1 = (l[0]'(by omega)).1) (he : ∀ (h : n < l.length), l[n].1 ≠ (l[0]'(by omega)).1) :
    groupsR l = l.take n :: groupsR (l.drop n) := by
  have h1 : l = l.take n ++ l.drop n := (List.take_append_drop n l).symm
  conv => lhs; rw [h1]
  refine groupsR_part _ _ (l[0]'(by omega)).1 (by intro e; have := congrArg List.length e; rw [List.length_take, List.length_nil] at this; omega) (fun x hx => ?_) ?_
  · obtain ⟨j, hj, rfl⟩ := List.getElem_of_mem hx
    rw [List.length_take] at hj
    rw [List.getElem_take]
    exact hs j (by omega) (by omega)
  · unfold headKey
    rw [List.head?_drop]
    rcases Nat.lt_or_ge n l.length with h | h
    · rw [List.getElem?_eq_getElem h]
      simpa using he h
    · rw [List.getElem?_eq_none h]; simp
end Go.Proofs.Try.Mg
