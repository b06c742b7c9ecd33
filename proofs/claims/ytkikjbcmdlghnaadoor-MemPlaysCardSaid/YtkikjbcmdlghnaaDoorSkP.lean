/- What is gone over on a level of a skip list. No program here. -/
import Derived.Test.YtkikjbcmdlghnaaDoorSkO
set_option linter.unusedVariables false
set_option linter.unusedSimpArgs false
namespace Go.Cph.Skip
open Go.RowKit Go.Cph

section
variable {α : Type}
/-- m is the node of the least key that is still to come, of those on a level (0: none). -/
def Least (nodes : List (Nd α)) (l : Nat) (pend : ByteArray → Bool) (m : Nat) : Prop :=
  (m = 0 ∧ ∀ y ∈ nodes, l < y.ht → pend y.key = false) ∨
  (∃ i, ∃ h : i < nodes.length, m = i + 1 ∧ l < nodes[i].ht ∧ pend nodes[i].key = true ∧ ∀ y ∈ nodes, l < y.ht → pend y.key = true → klt y.key nodes[i].key = false)
theorem Nxt.least {nodes : List (Nd α)} {l m : Nat} {lo : Option ByteArray} (h : Nxt nodes l lo m) : Least nodes l (above lo) m := h
theorem Seek.least {nodes : List (Nd α)} {nx : Nat → Nat → Nat} (hl : Linked nodes nx) {m : Nat} {key : ByteArray} (h : Seek nodes key m) : Least nodes 0 (fun z => !klt z key) m := by
  rcases h with ⟨h, h2⟩ | ⟨i, hi, h, h2, h3⟩
  · exact .inl ⟨h, fun y hy _ => by simp [h2 y hy]⟩
  · exact .inr ⟨i, hi, h, by have := (hl.hts _ (List.getElem_mem hi)).1; omega, by simp [h2], fun y hy _ hp => h3 y hy (by simpa using hp)⟩

/-- All nodes of a level whose keys are such, by their keys. -/
structure Chain (nodes : List (Nd α)) (l : Nat) (ge : ByteArray → Bool) (xs : List (Nd α)) : Prop where
  mem : ∀ x ∈ xs, x ∈ nodes ∧ l < x.ht ∧ ge x.key = true
  sorted : xs.Pairwise fun x y => klt x.key y.key = true
  all : ∀ y ∈ nodes, l < y.ht → ge y.key = true → y ∈ xs
/-- So far: xs have been told, n comes next. -/
structure Part (nodes : List (Nd α)) (l : Nat) (ge : ByteArray → Bool) (xs : List (Nd α)) (n : Nat) : Prop where
  mem : ∀ x ∈ xs, x ∈ nodes ∧ l < x.ht ∧ ge x.key = true
  sorted : xs.Pairwise fun x y => klt x.key y.key = true
  rest : ∃ pend, Least nodes l pend n ∧ (∀ x ∈ xs, ∀ z, pend z = true → klt x.key z = true) ∧ (∀ z, pend z = true → ge z = true) ∧ ∀ y ∈ nodes, l < y.ht → ge y.key = true → y ∈ xs ∨ pend y.key = true
  len : xs.length ≤ nodes.length ∧ (n ≠ 0 → xs.length + left nodes n + 1 ≤ nodes.length)
theorem left_lt' {nodes : List (Nd α)} {i : Nat} (hi : i < nodes.length) : left nodes (i + 1) + 1 ≤ nodes.length := by
  have h : Nxt nodes 0 (keyNo nodes 0) (i + 1) ∨ True := .inr trivial
  unfold left
  rw [keyNo_succ nodes i hi]
  rw [List.countP_eq_length_filter]
  have hs := List.filter_sublist (p := fun y : Nd α => above (some nodes[i].key) y.key) (l := nodes)
  rcases Nat.lt_or_ge (nodes.filter fun y => above (some nodes[i].key) y.key).length nodes.length with h | h
  · exact h
  · have he := hs.eq_of_length_le h
    have hin : nodes[i] ∈ nodes := List.getElem_mem hi
    have hin2 : nodes[i] ∈ nodes.filter fun y => above (some nodes[i].key) y.key := he.symm ▸ hin
    have := (List.mem_filter.1 hin2).2
    simp [above, klt_irrefl] at this
theorem Part.start {nodes : List (Nd α)} {l n : Nat} {ge : ByteArray → Bool} (h : Least nodes l ge n) : Part nodes l ge [] n := by
  refine ⟨by simp, .nil, ⟨ge, h, by simp, fun z hz => hz, fun y hy hl hg => .inr hg⟩, by simp, fun hn => ?_⟩
  rcases h with ⟨h, _⟩ | ⟨i, hi, rfl, _⟩
  · exact absurd h hn
  · have := left_lt' hi; simp; omega
theorem Part.num {nodes : List (Nd α)} {l n : Nat} {ge : ByteArray → Bool} {xs : List (Nd α)} (h : Part nodes l ge xs n) : n = 0 ∨ ∃ i, ∃ h : i < nodes.length, n = i + 1 ∧ l < nodes[i].ht := by
  obtain ⟨pend, h, _⟩ := h.rest
  rcases h with ⟨h, _⟩ | ⟨i, hi, h, h2, _⟩
  · exact .inl h
  · exact .inr ⟨i, hi, h, h2⟩
theorem Part.step {nodes : List (Nd α)} {nx : Nat → Nat → Nat} (hln : Linked nodes nx) {l i : Nat} (hl : l < 12) {ge : ByteArray → Bool} {xs : List (Nd α)} (hge : ∀ a b, ge a = true → klt a b = true → ge b = true) (hi : i < nodes.length) (h : Part nodes l ge xs (i + 1)) :
    Part nodes l ge (xs ++ [nodes[i]]) (nx (i + 1) l) := by
  obtain ⟨pend, hp, h1, h2, h3⟩ := h.rest
  rcases hp with ⟨h, _⟩ | ⟨i', hi', he, hli, hpi, hle⟩
  · omega
  obtain rfl : i = i' := by omega
  have hlk := hln.links l (i + 1) hl (.inr ⟨i, hi, rfl, hli⟩)
  rw [keyNo_succ nodes i hi] at hlk
  refine ⟨?_, ?_, ⟨above (some nodes[i].key), hlk.least, ?_, ?_, ?_⟩, ?_, fun hn => ?_⟩
  · intro x hx
    rcases List.mem_append.1 hx with hx | hx
    · exact h.mem x hx
    · obtain rfl := List.mem_singleton.1 hx; exact ⟨List.getElem_mem hi, hli, h2 _ hpi⟩
  · refine List.pairwise_append.2 ⟨h.sorted, by simp, fun x hx y hy => ?_⟩
    obtain rfl := List.mem_singleton.1 hy
    exact h1 x hx _ hpi
  · intro x hx z hz
    rcases List.mem_append.1 hx with hx | hx
    · exact klt_trans (h1 x hx _ hpi) hz
    · obtain rfl := List.mem_singleton.1 hx; exact hz
  · exact fun z hz => hge _ _ (h2 _ hpi) hz
  · intro y hy hly hgy
    rcases h3 y hy hly hgy with h | h
    · exact .inl (List.mem_append_left _ h)
    · have hk := hle y hy hly h
      cases hky : klt nodes[i].key y.key with
      | true => exact .inr hky
      | false =>
        have he := klt_total hk hky
        obtain ⟨j, hj, rfl⟩ := List.getElem_of_mem hy
        obtain rfl := hln.keys j i hj hi he
        exact .inl (by simp)
  · have := h.len.2 (by omega); simp; omega
  · have hlt := left_lt (hln.links l (i + 1) hl (.inr ⟨i, hi, rfl, hli⟩)) hn
    have := h.len.2 (by omega)
    simp
    omega
theorem Part.done {nodes : List (Nd α)} {l : Nat} {ge : ByteArray → Bool} {xs : List (Nd α)} (h : Part nodes l ge xs 0) : Chain nodes l ge xs := by
  obtain ⟨pend, hp, h1, h2, h3⟩ := h.rest
  refine ⟨h.mem, h.sorted, fun y hy hl hg => ?_⟩
  rcases h3 y hy hl hg with h | h
  · exact h
  · rcases hp with ⟨_, h0⟩ | ⟨i, hi, he, _⟩
    · rw [h0 y hy hl] at h; exact absurd h (by simp)
    · omega
/-- Two sorted lists of the same keys' nodes are one. -/
theorem sorted_ext : ∀ {xs ys : List (Nd α)}, (xs.Pairwise fun x y => klt x.key y.key = true) → (ys.Pairwise fun x y => klt x.key y.key = true) → (∀ x, x ∈ xs ↔ x ∈ ys) → xs = ys
  | [], [], _, _, _ => rfl
  | [], y :: ys, _, _, h => absurd ((h y).2 (by simp)) (by simp)
  | x :: xs, [], _, _, h => absurd ((h x).1 (by simp)) (by simp)
  | x :: xs, y :: ys, hx, hy, h => by
    have hx' := List.pairwise_cons.1 hx
    have hy' := List.pairwise_cons.1 hy
    have e : x = y := by
      rcases List.mem_cons.1 ((h x).1 (by simp)) with h1 | h1
      · exact h1
      · rcases List.mem_cons.1 ((h y).2 (by simp)) with h2 | h2
        · exact h2.symm
        · have a := hy'.1 x h1
          have b := hx'.1 y h2
          rw [klt_asymm a] at b; exact absurd b (by simp)
    subst e
    rw [sorted_ext hx'.2 hy'.2 fun z => ?_]
    constructor
    · intro hz
      rcases List.mem_cons.1 ((h z).1 (List.mem_cons_of_mem _ hz)) with rfl | h1
      · have := hx'.1 z hz; rw [klt_irrefl] at this; exact absurd this (by simp)
      · exact h1
    · intro hz
      rcases List.mem_cons.1 ((h z).2 (List.mem_cons_of_mem _ hz)) with rfl | h1
      · have := hy'.1 z hz; rw [klt_irrefl] at this; exact absurd this (by simp)
      · exact h1
end
end Go.Cph.Skip
