/- What lies between spans: the state of Free's loop, by numbers. -/
import Derived.Test.YtmnfddmjlkkcoaaGa1
set_option linter.unusedVariables false
namespace Go.Proofs.Try.Gp
open Go.Cph Go.Cph.Px Go.Cph.Gp

/-- What is free from one address to another, where P is covered. -/
def FreeP (a b : Ad) (P : Nat → Prop) (n : Nat) : Prop := rightS (a, b) = true ∧ rank a ≤ n ∧ n ≤ rank b ∧ ¬ P n
theorem _root_.Go.Cph.Gp.IsSet.pair {l : List Sp} {P : Nat → Prop} (h : IsSet l P) {i j : Nat} (hi : i < l.length) (hj : j < l.length) (hij : i < j) : rank l[i].2 + 1 < rank l[j].1 := by
  have := List.pairwise_iff_getElem.1 h.apart.gap i j (by simpa using hi) (by simpa using hj) hij
  simpa [iv] using this
theorem _root_.Go.Cph.Gp.IsSet.at {l : List Sp} {P : Nat → Prop} (h : IsSet l P) {i : Nat} (hi : i < l.length) : rightS l[i] = true ∧ rightA l[i].1 = true ∧ rightA l[i].2 = true ∧ l[i].1.1 = l[i].2.1 ∧ rank l[i].1 ≤ rank l[i].2 ∧ ∀ n, rank l[i].1 ≤ n → n ≤ rank l[i].2 → P n := by
  have hr := h.right _ (List.getElem_mem hi)
  have h2 := rightS_iff.1 hr
  exact ⟨hr, h2.1, h2.2.1, h2.2.2.1, h2.2.2.2, fun n h3 h4 => (h.cov n).1 ⟨_, List.getElem_mem hi, hr, h3, h4⟩⟩
/-- Two addresses of other families: no number lies in both. -/
theorem fam_far {a b c d : Ad} (hab : a.1 = b.1) (hcd : c.1 = d.1) {n : Nat} (h1 : rank a ≤ n) (h2 : n ≤ rank b) (h3 : rank c ≤ n) (h4 : n ≤ rank d) : a.1 = c.1 := by
  have a1 := rank_fam a
  have a2 := rank_fam b
  have a3 := rank_fam c
  have a4 := rank_fam d
  rw [← hab] at a2
  rw [← hcd] at a4
  generalize rank a = ra at *
  generalize rank b = rb at *
  generalize rank c = rc at *
  generalize rank d = rd at *
  exact UInt8.toNat_inj.1 (by omega)
/-- How far the loop is: from at on nothing is told; the spans gone over end below at, or are of another family. -/
structure Fr (a b : Ad) (P : Nat → Prop) (l : List Sp) (i : Nat) (c : Ad) (out : List Sp) : Prop where
  ends : rightS (a, b) = true
  right : rightA c = true
  fam : c.1 = a.1
  lo : rank a ≤ rank c
  hi : rank c ≤ rank b
  set : IsSet out (fun n => rank a ≤ n ∧ n < rank c ∧ ¬ P n)
  gap : ∀ t ∈ out, rank t.2 + 1 < rank c
  gone : ∀ j (h : j < l.length), j < i → rank l[j].2 < rank c ∨ l[j].1.1 ≠ a.1
section
variable {a b c : Ad} {P : Nat → Prop} {l out : List Sp} {i : Nat}
theorem Fr.start (h : rightS (a, b) = true) : Fr a b P l 0 a [] := by
  have := rightS_iff.1 h
  exact ⟨h, this.1, rfl, Nat.le_refl _, this.2.2.2, IsSet.nil fun n hn => by omega, fun t ht => (by cases ht), fun j _ hj => absurd hj (Nat.not_lt_zero _)⟩
theorem Fr.skip (h : Fr a b P l i c out) (hi : i < l.length) (hs : l[i].1.1 ≠ a.1 ∨ lessA l[i].2 c = true) : Fr a b P l (i + 1) c out :=
  ⟨h.ends, h.right, h.fam, h.lo, h.hi, h.set, h.gap, fun j hj hji => by
    rcases Nat.lt_or_eq_of_le (show j ≤ i by omega) with e | e
    · exact h.gone j hj e
    · subst e
      rcases hs with hs | hs
      · exact Or.inr hs
      · exact Or.inl (less_rank.1 hs)⟩
/-- Nothing from at to a number is covered, if what is not gone over begins behind it. -/
theorem Fr.free (h : Fr a b P l i c out) (hl : IsSet l P) {m : Nat} (hm : m ≤ rank b) (hr : ∀ j (hj : j < l.length), i ≤ j → m < rank l[j].1) {n : Nat} (h1 : rank c ≤ n) (h2 : n ≤ m) : ¬ P n := by
  intro hp
  obtain ⟨s, hs, hsr, h3, h4⟩ := (hl.cov n).2 hp
  obtain ⟨j, hj, rfl⟩ := List.getElem_of_mem hs
  by_cases hji : j < i
  · rcases h.gone j hj hji with e | e
    · omega
    · have he := rightS_iff.1 h.ends
      have hq := (rightS_iff.1 hsr).2.2.1
      exact e (fam_far hq he.2.2.1 h3 h4 (Nat.le_trans h.lo h1) (Nat.le_trans h2 hm))
  · have := hr j hj (by omega)
    omega
/-- The loop ends: all from at on is free. -/
theorem Fr.stop (h : Fr a b P l i c out) (hl : IsSet l P) (hr : ∀ j (hj : j < l.length), i ≤ j → rank b < rank l[j].1) : IsSet (out ++ [(c, b)]) (FreeP a b P) := by
  have he := rightS_iff.1 h.ends
  have hlo := h.lo
  have hhi := h.hi
  refine h.set.snoc (rightS_iff.2 ⟨h.right, he.2.1, h.fam.trans he.2.2.1, h.hi⟩) h.gap fun n => ?_
  unfold FreeP
  constructor
  · rintro ⟨-, h1, h2, h3⟩
    by_cases hc : n < rank c
    · exact Or.inl ⟨h1, hc, h3⟩
    · exact Or.inr ⟨Nat.le_of_not_lt hc, h2⟩
  · rintro (⟨h1, h2, h3⟩ | ⟨h1, h2⟩)
    · exact ⟨h.ends, h1, Nat.le_trans (Nat.le_of_lt h2) hhi, h3⟩
    · exact ⟨h.ends, Nat.le_trans hlo h1, h2, h.free hl (Nat.le_refl _) hr h1 h2⟩
theorem Fr.end (h : Fr a b P l i c out) (hl : IsSet l P) (hi : i = l.length) : IsSet (out ++ [(c, b)]) (FreeP a b P) :=
  h.stop hl fun j hj hij => by omega
theorem Fr.break (h : Fr a b P l i c out) (hl : IsSet l P) (hi : i < l.length) (hb : lessA b l[i].1 = true) : IsSet (out ++ [(c, b)]) (FreeP a b P) :=
  h.stop hl fun j hj hij => by
    have h1 := less_rank.1 hb
    rcases Nat.lt_or_eq_of_le hij with e | e
    · have h2 := hl.pair hi hj e
      have h3 := (hl.at hi).2.2.2.2.1
      exact Nat.lt_trans (Nat.lt_of_lt_of_le h1 h3) (Nat.lt_of_succ_lt h2)
    · subst e; exact h1
/-- The row with what is free ahead of a span. -/
def midS (c : Ad) (s : Sp) (out : List Sp) : List Sp := if (backA s.1).2 && !lessA (backA s.1).1 c then out ++ [(c, (backA s.1).1)] else out
structure Md (a b : Ad) (P : Nat → Prop) (s : Sp) (out : List Sp) : Prop where
  set : IsSet out (fun n => rank a ≤ n ∧ n ≤ rank s.2 ∧ ¬ P n)
  gap : ∀ t ∈ out, rank t.2 < rank s.2
theorem Fr.mid (h : Fr a b P l i c out) (hl : IsSet l P) (hi : i < l.length) (hf : l[i].1.1 = a.1) (hs : lessA l[i].2 c = false) (hb : lessA b l[i].1 = false) : Md a b P l[i] (midS c l[i] out) := by
  obtain ⟨s, hse⟩ : ∃ s, s = l[i] := ⟨_, rfl⟩
  have hat := hl.at hi
  have hlt : ∀ m, m < rank s.1 → ∀ j (hj : j < l.length), i ≤ j → m < rank l[j].1 := fun m hm j hj hij => by
    rcases Nat.lt_or_eq_of_le hij with e | e
    · have h2 := hl.pair hi hj e
      have h3 := hat.2.2.2.2.1
      rw [← hse] at h2 h3
      exact Nat.lt_trans (Nat.lt_of_lt_of_le hm h3) (Nat.lt_of_succ_lt h2)
    · subst e; rw [← hse]; exact hm
  rw [← hse] at hat hf hs hb ⊢
  have h2 := nless.1 hs
  have h3 := nless.1 hb
  obtain ⟨-, h4, h5, h6, h7, h8⟩ := hat
  have hk := back_is s.1
  unfold midS
  generalize backA s.1 = e at *
  have hlo := h.lo
  have hhi := h.hi
  have hset := h.set
  have hgap := h.gap
  have hfree : ∀ n, rank c ≤ n → n < rank s.1 → ¬ P n := fun n h9 h10 => h.free hl (m := n) (by omega) (fun j hj hij => hlt n h10 j hj hij) h9 (Nat.le_refl _)
  have hright := h.right
  have hfam := h.fam
  clear h hlt hl hse
  have hend : ∀ Q : Nat → Prop, (∀ n, Q n ↔ (rank a ≤ n ∧ n < rank c ∧ ¬ P n) ∨ (rank c ≤ n ∧ n < rank s.1)) → ∀ n, (rank a ≤ n ∧ n ≤ rank s.2 ∧ ¬ P n) ↔ Q n := by
    intro Q hQ n
    rw [hQ]
    constructor
    · rintro ⟨e1, e2, e3⟩
      by_cases hc : n < rank c
      · exact Or.inl ⟨e1, hc, e3⟩
      · refine Or.inr ⟨Nat.le_of_not_lt hc, ?_⟩
        refine Nat.lt_of_not_le fun hle => e3 (h8 n hle e2)
    · rintro (⟨e1, e2, e3⟩ | ⟨e1, e2⟩)
      · exact ⟨e1, by omega, e3⟩
      · exact ⟨by omega, by omega, hfree n e1 e2⟩
  obtain ⟨e, ok⟩ := e
  cases ok
  · simp only [Bool.false_and, Bool.false_eq_true, if_false]
    have h9 := hk.2 h4 rfl c hright (hfam.trans hf.symm)
    refine ⟨hset.to fun n => ?_, fun t ht => by have := hgap t ht; omega⟩
    rw [hend _ (fun n => Iff.rfl)]
    exact ⟨Or.inl, fun hor => hor.resolve_right fun hn => by omega⟩
  · obtain ⟨-, k2, k3, k4⟩ := hk.1 rfl
    simp only at k2 k3 k4
    cases hle : lessA e c
    · have k5 := nless.1 hle
      simp only [Bool.not_false, Bool.and_self, if_true]
      refine ⟨hset.snoc (rightS_iff.2 ⟨hright, k2, hfam.trans (hf.symm.trans k3.symm), k5⟩) hgap fun n => ?_, fun t ht => ?_⟩
      · rw [hend _ (fun n => Iff.rfl)]
        simp only
        refine or_congr Iff.rfl ⟨fun hn => ⟨hn.1, by omega⟩, fun hn => ⟨hn.1, by omega⟩⟩
      · rcases List.mem_append.1 ht with ht | ht
        · have := hgap t ht; omega
        · simp at ht; subst ht; simp only; omega
    · have k5 := less_rank.1 hle
      simp only [Bool.not_true, Bool.and_false, Bool.false_eq_true, if_false]
      refine ⟨hset.to fun n => ?_, fun t ht => by have := hgap t ht; omega⟩
      rw [hend _ (fun n => Iff.rfl)]
      exact ⟨Or.inl, fun hor => hor.resolve_right fun hn => by omega⟩
/-- A span reaches as far as to: all is told. -/
theorem Md.done {s : Sp} (h : Md a b P s out) (he : rightS (a, b) = true) (hs : rightS s = true) (hf : s.1.1 = a.1) (hP : ∀ n, rank s.1 ≤ n → n ≤ rank s.2 → P n) (hb : lessA b s.1 = false)
    (hn : (nextA s.2).2 = false ∨ lessA b (nextA s.2).1 = true) : IsSet out (FreeP a b P) := by
  have h1 := rightS_iff.1 he
  have h2 := rightS_iff.1 hs
  have h3 := nless.1 hb
  have hx := next_is s.2
  have hle : rank b ≤ rank s.2 := by
    generalize nextA s.2 = e at *
    obtain ⟨e, ok⟩ := e
    cases ok
    · exact hx.2 h2.2.1 rfl b h1.2.1 (h1.2.2.1.symm.trans (hf.symm.trans h2.2.2.1))
    · obtain ⟨-, k2, k3, k4⟩ := hx.1 rfl
      rcases hn with hn | hn
      · cases hn
      · have := less_rank.1 hn
        simp only at this k4
        omega
  clear hx hn
  simp only at h1
  refine h.set.to fun n => ?_
  unfold FreeP
  constructor
  · rintro ⟨e1, e2, e3⟩
    exact ⟨he, e1, Nat.le_of_not_lt fun hlt => e3 (hP n (by omega) e2), e3⟩
  · rintro ⟨-, e1, e2, e3⟩
    exact ⟨e1, by omega, e3⟩
/-- The next round. -/
theorem Fr.next (h : Fr a b P l i c out) {out' : List Sp} (hl : IsSet l P) (hi : i < l.length) (hf : l[i].1.1 = a.1) (hs : lessA l[i].2 c = false) (hm : Md a b P l[i] out') (hn : (nextA l[i].2).2 = true) (hb : lessA b (nextA l[i].2).1 = false) :
    Fr a b P l (i + 1) (nextA l[i].2).1 out' := by
  have hat := hl.at hi
  have hx := (next_is l[i].2).1 hn
  have h1 := nless.1 hb
  have h2 := nless.1 hs
  have hlo := h.lo
  obtain ⟨hx1, hx2, hx3, hx4⟩ := hx
  refine ⟨h.ends, hx2, hx3.trans (hat.2.2.2.1.symm.trans hf), by omega, h1, hm.set.to fun n => ?_, fun t ht => ?_, fun j hj hji => ?_⟩
  · rw [hx4]
    exact ⟨fun hn => ⟨hn.1, by omega, hn.2.2⟩, fun hn => ⟨hn.1, by omega, hn.2.2⟩⟩
  · have := hm.gap t ht; omega
  · rcases Nat.lt_or_eq_of_le (show j ≤ i by omega) with e | e
    · rcases h.gone j hj e with k | k
      · exact Or.inl (by omega)
      · exact Or.inr k
    · subst e; exact Or.inl (by omega)
end
end Go.Proofs.Try.Gp
