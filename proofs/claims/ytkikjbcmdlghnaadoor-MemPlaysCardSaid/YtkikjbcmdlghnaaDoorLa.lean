/- MemStill: plain laws. -/
import Derived.Test.YtkikjbcmdlghnaaDoorKz
set_option linter.unusedVariables false
set_option linter.unusedSimpArgs false
set_option maxRecDepth 100000
namespace Go.Proofs.Tryd.Skm
open Go.RowKit Go.Cph Go.Cph.Skip Go.Cph.Skm Go.Cph.Ok Go.Proofs.Tryd.Ok
/-- Entries of which no two have one key and number. -/
def Uniq2 (es : List Et) : Prop := es.Pairwise fun x y => ¬ (x.1 = y.1 ∧ x.2.2.1 = y.2.2.1)
theorem Uniq2.eq {es : List Et} (h : Uniq2 es) {x y : Et} (hx : x ∈ es) (hy : y ∈ es) (hk : x.1 = y.1) (hs : x.2.2.1 = y.2.2.1) : x = y := by
  induction es with
  | nil => cases hx
  | cons a es ih =>
    have h' := List.pairwise_cons.1 h
    rcases List.mem_cons.1 hx with e | hx2
    · rcases List.mem_cons.1 hy with f | hy2
      · rw [e, f]
      · exact absurd ⟨by rw [← e]; exact hk, by rw [← e]; exact hs⟩ (h'.1 y hy2)
    · rcases List.mem_cons.1 hy with f | hy2
      · exact absurd ⟨by rw [← f]; exact hk.symm, by rw [← f]; exact hs.symm⟩ (h'.1 x hx2)
      · exact ih h'.2 hx2 hy2
theorem AtIs.one {es : List Et} (hu : Uniq2 es) {key : ByteArray} {n : UInt64} {x y : Et} {ok is : Bool} (h : AtIs es key n x ok) (h' : AtIs es key n y is) : x = y ∧ ok = is := by
  rcases h with ⟨rfl, rfl, h⟩ | ⟨rfl, h1, h2, h3, h4⟩ <;> rcases h' with ⟨rfl, rfl, h'⟩ | ⟨rfl, g1, g2, g3, g4⟩
  · exact ⟨rfl, rfl⟩
  · have := h y g1 g2
    rw [UInt64.lt_iff_toNat_lt] at this; rw [UInt64.le_iff_toNat_le] at g3; omega
  · have := h' x h1 h2
    rw [UInt64.lt_iff_toNat_lt] at this; rw [UInt64.le_iff_toNat_le] at h3; omega
  · refine ⟨hu.eq h1 g1 (h2.trans g2.symm) ?_, rfl⟩
    have a := h4 y g1 g2 g3
    have b := g4 x h1 h2 h3
    exact UInt64.le_antisymm b a
/-- Newer entries do not count. -/
theorem AtIs.still {es : List Et} {key : ByteArray} {n : UInt64} {x : Et} {ok : Bool} (h : AtIs es key n x ok) : AtIs (es.filter fun e => decide (e.2.2.1 ≤ n)) key n x ok := by
  rcases h with ⟨rfl, rfl, h⟩ | ⟨rfl, h1, h2, h3, h4⟩
  · exact .inl ⟨rfl, rfl, fun y hy hk => h y (List.mem_filter.1 hy).1 hk⟩
  · exact .inr ⟨rfl, List.mem_filter.2 ⟨h1, by simpa using h3⟩, h2, h3, fun y hy hk hn => h4 y (List.mem_filter.1 hy).1 hk hn⟩
theorem Uniq2.filter {es : List Et} (h : Uniq2 es) (p : Et → Bool) : Uniq2 (es.filter p) := List.Pairwise.filter p h
/-- Puts of which no two have one key and number, and that may be put. -/
structure Good (u : List Pu) : Prop where
  ok : ∀ p ∈ u, bad p = false
  uniq : Uniq2 (u.map (·.1))
theorem Good.step {u : List Pu} (h : Good u) {p : Pu} (hb : bad p = false) (hn : u.any (sameU p) = false) : Good (u ++ [p]) := by
  refine ⟨fun q hq => ?_, ?_⟩
  · rcases List.mem_append.1 hq with hq | hq
    · exact h.ok q hq
    · rw [List.mem_singleton.1 hq]; exact hb
  · unfold Uniq2
    rw [List.map_append, List.pairwise_append]
    refine ⟨h.uniq, by simp, fun a ha b hb' e => ?_⟩
    obtain ⟨q, hq, rfl⟩ := List.mem_map.1 ha
    rw [List.mem_singleton.1 (show b ∈ [p.1] from hb')] at e
    have := List.any_eq_false.1 hn q hq
    apply this
    unfold sameU
    simp [e.1, e.2]
theorem unlike_good (l : List Pu) : Good (unlikeL l) := by
  have h : ∀ i, i ≤ l.length → Good (unlikeL (l.take i)) := by
    intro i
    induction i with
    | zero => intro _; exact ⟨by simp [unlikeL], by simp [unlikeL, Uniq2]⟩
    | succ i ih =>
      intro hi
      rw [unlikeL_take l hi]
      unfold stepU
      split
      · exact ih (by omega)
      · rename_i hc
        rw [Bool.not_eq_true, Bool.or_eq_false_iff] at hc
        exact (ih (by omega)).step hc.1 hc.2
  have := h l.length (Nat.le_refl _)
  rwa [List.take_of_length_le (Nat.le_refl _)] at this
theorem unlike_mem (l : List Pu) : ∀ p ∈ unlikeL l, p ∈ l := by
  have h : ∀ i, i ≤ l.length → ∀ p ∈ unlikeL (l.take i), p ∈ l := by
    intro i
    induction i with
    | zero => intro _ p hp; simp [unlikeL] at hp
    | succ i ih =>
      intro hi p hp
      rw [unlikeL_take l hi] at hp
      unfold stepU at hp
      split at hp
      · exact ih (by omega) p hp
      · rcases List.mem_append.1 hp with hp | hp
        · exact ih (by omega) p hp
        · rw [List.mem_singleton.1 hp]; exact List.getElem_mem hi
  have := h l.length (Nat.le_refl _)
  rwa [List.take_of_length_le (Nat.le_refl _)] at this
theorem bytesN_le {es : List Et} (h : ∀ e ∈ es, e.1.size ≤ 20000 ∧ e.2.1.size ≤ 20000) : bytesN es ≤ 40000 * es.length := by
  induction es using Cph.Ok.snoc_ind with
  | h0 => exact Nat.le_refl _
  | hs l e ih =>
    have h1 := ih fun x hx => h x (List.mem_append_left _ hx)
    have h2 := h e (by simp)
    rw [bytesN_snoc, List.length_append]
    simp; omega
/-- What a memory has behind the first puts. -/
def first (u : List Pu) (i : Nat) : List Et := (u.take i).map (·.1)
def few (u : List Pu) (at_ : UInt64) (i : Nat) : List Et := (first u i).filter fun e => decide (e.2.2.1 ≤ at_)
theorem first_succ {u : List Pu} {i : Nat} (h : i < u.length) : first u (i + 1) = first u i ++ [u[i].1] := by
  unfold first
  rw [List.take_succ_eq_append_getElem h, List.map_append]; rfl
theorem few_succ {u : List Pu} {at_ : UInt64} {i : Nat} (h : i < u.length) : few u at_ (i + 1) = if u[i].1.2.2.1 ≤ at_ then few u at_ i ++ [u[i].1] else few u at_ i := by
  unfold few
  rw [first_succ h, List.filter_append]
  by_cases hc : u[i].1.2.2.1 ≤ at_
  · rw [if_pos hc]; simp [hc]
  · rw [if_neg hc]; simp [hc]
theorem first_not {u : List Pu} (hg : Good u) {i : Nat} (h : i < u.length) : ∀ y ∈ first u i, ¬ (y.1 = u[i].1.1 ∧ y.2.2.1 = u[i].1.2.2.1) := by
  intro y hy
  obtain ⟨q, hq, rfl⟩ := List.mem_map.1 hy
  obtain ⟨j, hj, rfl⟩ := List.getElem_of_mem hq
  have hji : j < i := by rw [List.length_take] at hj; omega
  have hju : j < u.length := by omega
  have := List.pairwise_iff_getElem.1 hg.uniq j i (by simpa using hju) (by simpa using h) hji
  simpa using this
theorem putE_of {es : List Et} {e : Et} (hb : (e.2.2.2 && !(decide (e.2.1.size = 0))) = false) (hn : ∀ y ∈ es, ¬ (y.1 = e.1 ∧ y.2.2.1 = e.2.2.1)) : putE es e = es ++ [e] := by
  have hR : putR es e = 0 := by
    unfold putR
    rw [if_neg (by rw [hb]; simp), if_neg]
    rw [List.any_eq_true]
    rintro ⟨y, hy, hye⟩
    rw [Bool.and_eq_true, decide_eq_true_eq, decide_eq_true_eq] at hye
    exact hn y hy hye
  unfold putE
  rw [if_pos hR]
theorem put_first {u : List Pu} (hg : Good u) {i : Nat} (h : i < u.length) : putE (first u i) u[i].1 = first u (i + 1) := by
  rw [first_succ h]
  exact putE_of (hg.ok _ (List.getElem_mem h)) (first_not hg h)
theorem put_few {u : List Pu} (hg : Good u) {at_ : UInt64} {i : Nat} (h : i < u.length) (hle : u[i].1.2.2.1 ≤ at_) : putE (few u at_ i) u[i].1 = few u at_ (i + 1) := by
  rw [few_succ h, if_pos hle]
  exact putE_of (hg.ok _ (List.getElem_mem h)) fun y hy => first_not hg h y (List.mem_filter.1 hy).1
theorem first_all (u : List Pu) : first u u.length = u.map (·.1) := by unfold first; rw [List.take_of_length_le (Nat.le_refl _)]
theorem first_mem {u : List Pu} {i : Nat} : ∀ e ∈ first u i, ∃ p ∈ u, p.1 = e := by
  intro e he
  obtain ⟨p, hp, rfl⟩ := List.mem_map.1 he
  exact ⟨p, List.mem_of_mem_take hp, rfl⟩
theorem first_len (u : List Pu) (i : Nat) : (first u i).length ≤ u.length := by unfold first; rw [List.length_map, List.length_take]; omega
theorem few_len (u : List Pu) (at_ : UInt64) (i : Nat) : (few u at_ i).length ≤ u.length := Nat.le_trans (List.length_filter_le _ _) (first_len u i)
end Go.Proofs.Tryd.Skm
