/- Lists of prefixes: the innermost one, those within one, lists that rise. No program in sight. -/
import Derived.Test.YtbhnpndkdhhpfaaPxA
namespace Go.Cph.Px

/-! ### the one with the most bits of those that are such -/
def better (b : Option Pf) (p : Pf) : Bool := match b with
  | none => true
  | some x => decide (x.2 < p.2)
def stepM (such : Pf → Bool) (b : Option Pf) (p : Pf) : Option Pf := if such p && better b p then some p else b
def mostL (such : Pf → Bool) (l : List Pf) : Option Pf := l.foldl (stepM such) none
theorem mostL_snoc (such : Pf → Bool) (l : List Pf) (p : Pf) : mostL such (l ++ [p]) = stepM such (mostL such l) p := by unfold mostL; rw [List.foldl_append]; rfl
/-- What it is. -/
structure IsMost (such : Pf → Bool) (l : List Pf) (b : Option Pf) : Prop where
  mem : ∀ x, b = some x → x ∈ l ∧ such x = true
  most : ∀ p ∈ l, such p = true → ∃ x, b = some x ∧ p.2 ≤ x.2
theorem mostL_is (such : Pf → Bool) (l : List Pf) : IsMost such l (mostL such l) := by
  suffices h : ∀ r : List Pf, IsMost such r.reverse (mostL such r.reverse) by simpa using h l.reverse
  intro r
  induction r with
  | nil => exact ⟨fun x h => by simp [mostL] at h, fun p h => by simp at h⟩
  | cons q r ih =>
    rw [List.reverse_cons, mostL_snoc]
    obtain ⟨h1, h2⟩ := ih
    unfold stepM
    by_cases hc : (such q && better (mostL such r.reverse) q) = true
    · rw [if_pos hc]
      rw [Bool.and_eq_true] at hc
      refine ⟨fun x hx => ?_, fun p hp hs => ⟨q, rfl, ?_⟩⟩
      · cases hx; exact ⟨by simp, hc.1⟩
      · rcases List.mem_append.1 hp with hp | hp
        · obtain ⟨x, hx, hle⟩ := h2 p hp hs
          have := hc.2
          rw [hx] at this
          simp only [better, decide_eq_true_eq] at this
          omega
        · simp at hp; subst hp; exact Int.le_refl _
    · rw [if_neg hc]
      refine ⟨fun x hx => ⟨List.mem_append_left _ (h1 x hx).1, (h1 x hx).2⟩, fun p hp hs => ?_⟩
      rcases List.mem_append.1 hp with hp | hp
      · exact h2 p hp hs
      · simp at hp; subst hp
        rw [Bool.and_eq_true, not_and] at hc
        have := hc hs
        cases hm : mostL such r.reverse with
        | none => rw [hm] at this; simp [better] at this
        | some x => rw [hm] at this; simp [better] at this; exact ⟨x, rfl, this⟩
theorem mostL_congr {s t : Pf → Bool} (h : ∀ p, s p = t p) (l : List Pf) : mostL s l = mostL t l := by
  have : s = t := funext h
  rw [this]

/-! ### lists that rise -/
structure Rises (l : List Pf) : Prop where
  ord : l.Pairwise (fun p q => before p q = true)
  rt : ∀ p ∈ l, rightP p = true
theorem Rises.nil : Rises [] := ⟨List.Pairwise.nil, by simp⟩
theorem Rises.inj {l : List Pf} (h : Rises l) {i j : Nat} (hi : i < l.length) (hj : j < l.length) (e : l[i] = l[j]) : i = j := by
  have hp := List.pairwise_iff_getElem.1 h.ord
  rcases Nat.lt_trichotomy i j with hlt | rfl | hlt
  · have := hp i j hi hj hlt
    rw [e, before_irrefl] at this; cases this
  · rfl
  · have := hp j i hj hi hlt
    rw [e, before_irrefl] at this; cases this
/-- Two that rise and have the same are the same. -/
theorem rises_ext : ∀ {l m : List Pf}, l.Pairwise (fun p q => before p q = true) → m.Pairwise (fun p q => before p q = true) → (∀ x, x ∈ l ↔ x ∈ m) → l = m
  | [], m, _, _, h => by
    cases m with
    | nil => rfl
    | cons a m => exact absurd ((h a).2 (by simp)) (by simp)
  | a :: l, [], _, _, h => absurd ((h a).1 (by simp)) (by simp)
  | a :: l, b :: m, hl, hm, h => by
    rw [List.pairwise_cons] at hl hm
    have hab : a = b := by
      have h1 := (h a).1 (by simp)
      have h2 := (h b).2 (by simp)
      rcases List.mem_cons.1 h1 with h1 | h1
      · exact h1
      · rcases List.mem_cons.1 h2 with h2 | h2
        · exact h2.symm
        · have := before_asymm (hl.1 b h2)
          rw [hm.1 a h1] at this; cases this
    subst hab
    congr 1
    refine rises_ext hl.2 hm.2 fun x => ?_
    constructor
    · intro hx
      rcases List.mem_cons.1 ((h x).1 (by simp [hx])) with h1 | h1
      · subst h1; have := hl.1 x hx; rw [before_irrefl] at this; cases this
      · exact h1
    · intro hx
      rcases List.mem_cons.1 ((h x).2 (by simp [hx])) with h1 | h1
      · subst h1; have := hm.1 x hx; rw [before_irrefl] at this; cases this
      · exact h1

/-! ### those within one, with none of the list between -/
def inside (q p : Pf) : Bool := !(q == p) && within q p
def childB (l : List Pf) (p q : Pf) : Bool := inside q p && !(l.any fun r => inside r p && inside q r)
def childrenL (l : List Pf) (p : Pf) : List Pf := l.filter (childB l p)
theorem inside_iff {q p : Pf} : inside q p = true ↔ q ≠ p ∧ within q p = true := by simp [inside]
theorem child_iff {l : List Pf} {p q : Pf} : childB l p q = true ↔ inside q p = true ∧ ∀ r ∈ l, inside r p = true → inside q r = false := by
  simp only [childB, Bool.and_eq_true, Bool.not_eq_true', List.any_eq_false]
  refine and_congr Iff.rfl (forall_congr' fun r => forall_congr' fun _ => ?_)
  cases inside r p <;> cases inside q r <;> simp
/-- No two children have anything in common. -/
theorem children_apart {l : List Pf} {p c d : Pf} (hc : c ∈ childrenL l p) (hd : d ∈ childrenL l p) (hne : c ≠ d) : meets c d = false := by
  obtain ⟨mc, kc⟩ := List.mem_filter.1 hc
  obtain ⟨md, kd⟩ := List.mem_filter.1 hd
  obtain ⟨c1, c2⟩ := child_iff.1 kc
  obtain ⟨d1, d2⟩ := child_iff.1 kd
  rw [Bool.eq_false_iff]
  intro hm
  rcases meets_iff.1 hm with h | h
  · have := c2 d md d1
    rw [inside_iff.2 ⟨hne, h⟩] at this; cases this
  · have := d2 c mc c1
    rw [inside_iff.2 ⟨hne.symm, h⟩] at this; cases this
/-- What lies within it, but is not the prefix, lies within one child. -/
theorem child_of {l : List Pf} {p : Pf} (n : Nat) : ∀ {q x : Pf}, q.2.toNat ≤ n → q ∈ l → inside q p = true → within x q = true → ∃ c ∈ childrenL l p, within x c = true := by
  induction n with
  | zero =>
    intro q x hn hq hi hx
    refine ⟨q, List.mem_filter.2 ⟨hq, child_iff.2 ⟨hi, fun r hr hri => ?_⟩⟩, hx⟩
    rw [Bool.eq_false_iff]; intro h
    obtain ⟨h1, h2⟩ := inside_iff.1 h
    obtain ⟨k1, k2, k3⟩ := within_iff.1 h2
    have := k1.lo
    have := k3.lo
    exact h1 (within_eq h2 (by omega))
  | succ n ih =>
    intro q x hn hq hi hx
    by_cases hc : childB l p q = true
    · exact ⟨q, List.mem_filter.2 ⟨hq, hc⟩, hx⟩
    · have : ∃ r ∈ l, inside r p = true ∧ inside q r = true := by
        false_or_by_contra
        rename_i hno
        exact hc (child_iff.2 ⟨hi, fun r hr hri => by rw [Bool.eq_false_iff]; intro h; exact hno ⟨r, hr, hri, h⟩⟩)
      obtain ⟨r, hr, hri, hqr⟩ := this
      obtain ⟨h1, h2⟩ := inside_iff.1 hqr
      obtain ⟨k1, k2, k3⟩ := within_iff.1 h2
      have := k1.lo
      have := k3.lo
      have hne : q.2 ≠ r.2 := fun e => h1 (within_eq h2 e)
      exact ih (by omega) hr hri (within_trans hx h2)
/-- One that lies within a child lies within p and is not p. -/
theorem inside_of_child {l : List Pf} {p c x : Pf} (hc : c ∈ childrenL l p) (hx : within x c = true) : inside x p = true := by
  obtain ⟨_, kc⟩ := List.mem_filter.1 hc
  obtain ⟨h1, h2⟩ := inside_iff.1 (child_iff.1 kc).1
  refine inside_iff.2 ⟨?_, within_trans hx h2⟩
  rintro rfl
  exact h1 (within_anti h2 hx)
/-- A count over a list that rises. -/
theorem countP_one {α : Type} {l : List α} {f : α → Bool} (hd : l.Pairwise (fun a b => ¬ (f a = true ∧ f b = true))) {x : α} (hx : x ∈ l) (hf : f x = true) : l.countP f = 1 := by
  induction l with
  | nil => cases hx
  | cons a l ih =>
    rw [List.pairwise_cons] at hd
    by_cases ha : f a = true
    · rw [List.countP_cons_of_pos ha]
      have : l.countP f = 0 := List.countP_eq_zero.2 fun b hb hfb => hd.1 b hb ⟨ha, hfb⟩
      omega
    · rw [List.countP_cons_of_neg ha]
      rcases List.mem_cons.1 hx with rfl | hx
      · exact absurd hf ha
      · exact ih hd.2 hx
end Go.Cph.Px
