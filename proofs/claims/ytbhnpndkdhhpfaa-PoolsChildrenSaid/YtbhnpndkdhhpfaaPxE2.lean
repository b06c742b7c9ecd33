/- Children, counted. No program in sight. -/
import Derived.Test.YtbhnpndkdhhpfaaPxD2
namespace Go.Cph.Px
theorem ch_sub (m : List Pf) (p : Pf) : (childrenL m p).Sublist m := List.filter_sublist
theorem ch_inside {m : List Pf} {p q : Pf} (h : q ∈ childrenL m p) : inside q p = true := (child_iff.1 (List.mem_filter.1 h).2).1
theorem ch_ne {m : List Pf} {p q : Pf} (h : q ∈ childrenL m p) : (q == p) = false := by have := (inside_iff.1 (ch_inside h)).1; simpa using this
theorem ch_within {m : List Pf} {p q : Pf} (h : q ∈ childrenL m p) : within q p = true := (inside_iff.1 (ch_inside h)).2
theorem ch_rises {m : List Pf} (h : Rises m) (p : Pf) : Rises (childrenL m p) := ⟨h.ord.sublist (ch_sub m p), fun x hx => h.rt x ((ch_sub m p).subset hx)⟩
theorem ch_before {m : List Pf} (h : Rises m) (p : Pf) {i j : Nat} (hi : i < (childrenL m p).length) (hj : j < (childrenL m p).length) (hlt : i < j) : before (childrenL m p)[i] (childrenL m p)[j] = true :=
  List.pairwise_iff_getElem.1 (ch_rises h p).ord i j hi hj hlt
theorem ch_meets {m : List Pf} (h : Rises m) (p : Pf) {i j : Nat} (hi : i < (childrenL m p).length) (hj : j < (childrenL m p).length) (hlt : j < i) : meets (childrenL m p)[i] (childrenL m p)[j] = false :=
  children_apart (List.getElem_mem hi) (List.getElem_mem hj) fun e => by have := (ch_rises h p).inj hi hj e; omega
theorem ch_pair {m : List Pf} (h : Rises m) (p : Pf) (f : Pf → Bool) (hf : ∀ a ∈ childrenL m p, ∀ b ∈ childrenL m p, f a = true → f b = true → a = b) : (childrenL m p).Pairwise (fun a b => ¬ (f a = true ∧ f b = true)) := by
  refine List.pairwise_iff_getElem.2 fun i j hi hj hlt ⟨h1, h2⟩ => ?_
  have := (ch_rises h p).inj hi hj (hf _ (List.getElem_mem hi) _ (List.getElem_mem hj) h1 h2)
  omega
/-- How many children something lies in. -/
theorem ch_in {m : List Pf} (h : Rises m) (p : Pf) {q : Pf} (hq : q ∈ m) : (childrenL m p).countP (fun c => within q c) = if inside q p then 1 else 0 := by
  by_cases hi : inside q p = true
  · rw [if_pos hi]
    obtain ⟨c, hc, hqc⟩ := child_of (l := m) (p := p) q.2.toNat (Nat.le_refl _) hq hi (within_refl (rightP_iff.1 (h.rt q hq)))
    refine countP_one (ch_pair h p _ fun a ha b hb h1 h2 => ?_) hc hqc
    by_cases e : a = b
    · exact e
    · have := children_apart ha hb e
      rw [Bool.eq_false_iff] at this
      refine absurd (meets_iff.2 ?_) this
      rcases Int.le_total a.2 b.2 with hle | hle
      · exact .inr (within_nest h2 h1 hle)
      · exact .inl (within_nest h1 h2 hle)
  · rw [if_neg hi]
    refine List.countP_eq_zero.2 fun c hc hqc => hi (inside_of_child hc hqc)
/-- How often something is a child. -/
theorem ch_is {m : List Pf} (h : Rises m) (p : Pf) {q : Pf} (hq : q ∈ m) : (childrenL m p).countP (fun c => q == c) = if childB m p q then 1 else 0 := by
  by_cases hi : childB m p q = true
  · rw [if_pos hi]
    refine countP_one (ch_pair h p _ fun a ha b hb h1 h2 => ?_) (List.mem_filter.2 ⟨hq, hi⟩) (by simp)
    rw [← beq_iff_eq.1 h1, ← beq_iff_eq.1 h2]
  · rw [if_neg hi]
    refine List.countP_eq_zero.2 fun c hc hqc => hi ?_
    rw [beq_iff_eq.1 hqc]; exact (List.mem_filter.1 hc).2
theorem ch_found {m : List Pf} (h : Rises m) (p : Pf) {k : Nat} (hk : k < m.length) : ((m.take (k + 1)).filter (childB m p)).length = ((m.take k).filter (childB m p)).length + (childrenL m p).countP (fun c => m[k] == c) := by
  rw [ch_is h p (List.getElem_mem hk), List.take_succ_eq_append_getElem hk, List.filter_append, List.length_append]
  congr 1
  by_cases hc : childB m p m[k] = true
  · rw [if_pos hc]; simp [hc]
  · rw [if_neg hc]; simp [hc]
theorem countP_take_succ {α : Type} {f : α → Bool} {l : List α} {j : Nat} (hj : j < l.length) : (l.take (j + 1)).countP f = (l.take j).countP f + if f l[j] then 1 else 0 := by
  rw [List.take_succ_eq_append_getElem hj, List.countP_append]
  simp [List.countP_cons, List.countP_nil]
end Go.Cph.Px
