/- Spans of addresses, plainly: what they cover; lists that rise and do not touch are told by it. No program in sight. -/
import Derived.Test.YtmnfddmjlkkcoaaPxA
namespace Go.Cph.Gp
open Go.Cph.Px

/-! ### intervals of numbers -/
abbrev Iv := Nat × Nat
def cov (l : List Iv) (n : Nat) : Prop := ∃ s ∈ l, s.1 ≤ n ∧ n ≤ s.2
structure Apart (l : List Iv) : Prop where
  le : ∀ s ∈ l, s.1 ≤ s.2
  gap : l.Pairwise fun s t => s.2 + 1 < t.1
theorem cov_nil (n : Nat) : ¬ cov [] n := by rintro ⟨s, hs, _⟩; cases hs
theorem cov_cons {s : Iv} {l : List Iv} {n : Nat} : cov (s :: l) n ↔ (s.1 ≤ n ∧ n ≤ s.2) ∨ cov l n := by
  constructor
  · rintro ⟨t, ht, h⟩
    rcases List.mem_cons.1 ht with rfl | ht
    · exact Or.inl h
    · exact Or.inr ⟨t, ht, h⟩
  · rintro (h | ⟨t, ht, h⟩)
    · exact ⟨s, by simp, h⟩
    · exact ⟨t, List.mem_cons_of_mem _ ht, h⟩
theorem cov_append {l m : List Iv} {n : Nat} : cov (l ++ m) n ↔ cov l n ∨ cov m n := by
  constructor
  · rintro ⟨t, ht, h⟩
    rcases List.mem_append.1 ht with ht | ht
    · exact Or.inl ⟨t, ht, h⟩
    · exact Or.inr ⟨t, ht, h⟩
  · rintro (⟨t, ht, h⟩ | ⟨t, ht, h⟩)
    · exact ⟨t, List.mem_append.2 (Or.inl ht), h⟩
    · exact ⟨t, List.mem_append.2 (Or.inr ht), h⟩
theorem cov_one {s : Iv} {n : Nat} : cov [s] n ↔ s.1 ≤ n ∧ n ≤ s.2 := by
  rw [cov_cons]; exact or_iff_left (cov_nil n)
theorem Apart.nil : Apart [] := ⟨fun s hs => (by cases hs), List.Pairwise.nil⟩
theorem Apart.tail {s : Iv} {l : List Iv} (h : Apart (s :: l)) : Apart l := ⟨fun t ht => h.le t (List.mem_cons_of_mem _ ht), (List.pairwise_cons.1 h.gap).2⟩
theorem Apart.above {s : Iv} {l : List Iv} (h : Apart (s :: l)) {n : Nat} (hc : cov l n) : s.2 + 1 < n := by
  obtain ⟨t, ht, h1, _⟩ := hc
  have := (List.pairwise_cons.1 h.gap).1 t ht
  omega
theorem Apart.snoc {l : List Iv} {s : Iv} (h : Apart l) (hs : s.1 ≤ s.2) (hg : ∀ t ∈ l, t.2 + 1 < s.1) : Apart (l ++ [s]) :=
  ⟨fun t ht => by
    rcases List.mem_append.1 ht with ht | ht
    · exact h.le t ht
    · simp at ht; subst ht; exact hs,
   List.pairwise_append.2 ⟨h.gap, List.pairwise_singleton _ _, fun t ht u hu => by simp at hu; subst hu; exact hg t ht⟩⟩
theorem Apart.init {l : List Iv} {s : Iv} (h : Apart (l ++ [s])) : Apart l ∧ s.1 ≤ s.2 ∧ ∀ t ∈ l, t.2 + 1 < s.1 :=
  ⟨⟨fun t ht => h.le t (List.mem_append.2 (Or.inl ht)), (List.pairwise_append.1 h.gap).1⟩, h.le s (by simp), fun t ht => (List.pairwise_append.1 h.gap).2.2 t ht s (by simp)⟩
theorem apart_unique : ∀ {l m : List Iv}, Apart l → Apart m → (∀ n, cov l n ↔ cov m n) → l = m
  | [], [], _, _, _ => rfl
  | [], t :: m, _, hm, h => absurd ((h t.1).2 ⟨t, by simp, Nat.le_refl _, hm.le t (by simp)⟩) (cov_nil _)
  | s :: l, [], hl, _, h => absurd ((h s.1).1 ⟨s, by simp, Nat.le_refl _, hl.le s (by simp)⟩) (cov_nil _)
  | s :: l, t :: m, hl, hm, h => by
    have hs := hl.le s (by simp)
    have ht := hm.le t (by simp)
    have e1 : s.1 = t.1 := by
      have a1 := (h s.1).1 (cov_cons.2 (Or.inl ⟨Nat.le_refl _, hs⟩))
      have a2 := (h t.1).2 (cov_cons.2 (Or.inl ⟨Nat.le_refl _, ht⟩))
      have b1 : t.1 ≤ s.1 := by
        rcases cov_cons.1 a1 with k | k
        · exact k.1
        · have := hm.above k; omega
      have b2 : s.1 ≤ t.1 := by
        rcases cov_cons.1 a2 with k | k
        · exact k.1
        · have := hl.above k; omega
      omega
    have e2 : s.2 = t.2 := by
      rcases Nat.lt_trichotomy s.2 t.2 with k | k | k
      · have a1 := (h (s.2 + 1)).2 (cov_cons.2 (Or.inl ⟨by omega, by omega⟩))
        rcases cov_cons.1 a1 with k | k
        · omega
        · have := hl.above k; omega
      · exact k
      · have a1 := (h (t.2 + 1)).1 (cov_cons.2 (Or.inl ⟨by omega, by omega⟩))
        rcases cov_cons.1 a1 with k | k
        · omega
        · have := hm.above k; omega
    have e : s = t := Prod.ext e1 e2
    subst e
    rw [apart_unique hl.tail hm.tail fun n => ?_]
    constructor
    · intro k
      have k2 := hl.above k
      rcases cov_cons.1 ((h n).1 (cov_cons.2 (Or.inr k))) with k3 | k3
      · omega
      · exact k3
    · intro k
      have k2 := hm.above k
      rcases cov_cons.1 ((h n).2 (cov_cons.2 (Or.inr k))) with k3 | k3
      · omega
      · exact k3

/-! ### spans of addresses -/
abbrev Sp := Ad × Ad
def rightS (s : Sp) : Bool := rightA s.1 && (rightA s.2 && (s.1.1 == s.2.1 && !lessA s.2 s.1))
def hasS (s : Sp) (a : Ad) : Bool := rightS s && (rightA a && (a.1 == s.1.1 && (!lessA a s.1 && !lessA s.2 a)))
def iv (s : Sp) : Iv := (rank s.1, rank s.2)
theorem iv_inj {s t : Sp} (h : iv s = iv t) : s = t := by
  unfold iv at h
  rw [Prod.mk.injEq] at h
  exact Prod.ext (rank_inj h.1) (rank_inj h.2)
theorem rank_fam (a : Ad) : a.1.toNat * 340282366920938463463374607431768211456 ≤ rank a ∧ rank a < a.1.toNat * 340282366920938463463374607431768211456 + 340282366920938463463374607431768211456 := by
  have := num_lt a
  unfold rank
  have e : (2 : Nat) ^ 128 = 340282366920938463463374607431768211456 := by decide
  rw [e] at this ⊢
  omega
theorem nless {a b : Ad} : lessA a b = false ↔ rank b ≤ rank a := by
  rw [Bool.eq_false_iff, ne_eq, less_rank]; omega
theorem rightS_iff {s : Sp} : rightS s = true ↔ rightA s.1 = true ∧ rightA s.2 = true ∧ s.1.1 = s.2.1 ∧ rank s.1 ≤ rank s.2 := by
  unfold rightS
  simp only [Bool.and_eq_true, beq_iff_eq, Bool.not_eq_true', nless]
theorem hasS_iff {s : Sp} {a : Ad} : hasS s a = true ↔ rightS s = true ∧ rightA a = true ∧ rank s.1 ≤ rank a ∧ rank a ≤ rank s.2 := by
  unfold hasS
  simp only [Bool.and_eq_true, beq_iff_eq, Bool.not_eq_true', nless]
  constructor
  · rintro ⟨h1, h2, h3, h4, h5⟩; exact ⟨h1, h2, h4, h5⟩
  · rintro ⟨h1, h2, h4, h5⟩
    refine ⟨h1, h2, ?_, h4, h5⟩
    have h := rightS_iff.1 h1
    have a1 := rank_fam a
    have a2 := rank_fam s.1
    have a3 := rank_fam s.2
    rw [← h.2.2.1] at a3
    exact UInt8.toNat_inj.1 (by omega)
def covS (l : List Sp) (n : Nat) : Prop := ∃ s ∈ l, rightS s = true ∧ rank s.1 ≤ n ∧ n ≤ rank s.2
theorem covS_nil (n : Nat) : ¬ covS [] n := by rintro ⟨s, hs, _⟩; cases hs
theorem covS_append {l m : List Sp} {n : Nat} : covS (l ++ m) n ↔ covS l n ∨ covS m n := by
  constructor
  · rintro ⟨t, ht, h⟩
    rcases List.mem_append.1 ht with ht | ht
    · exact Or.inl ⟨t, ht, h⟩
    · exact Or.inr ⟨t, ht, h⟩
  · rintro (⟨t, ht, h⟩ | ⟨t, ht, h⟩)
    · exact ⟨t, List.mem_append.2 (Or.inl ht), h⟩
    · exact ⟨t, List.mem_append.2 (Or.inr ht), h⟩
theorem covS_one {s : Sp} {n : Nat} : covS [s] n ↔ rightS s = true ∧ rank s.1 ≤ n ∧ n ≤ rank s.2 := by
  constructor
  · rintro ⟨t, ht, h⟩; simp at ht; subst ht; exact h
  · exact fun h => ⟨s, by simp, h⟩
theorem covS_filter {l : List Sp} {n : Nat} : covS (l.filter rightS) n ↔ covS l n := by
  constructor
  · rintro ⟨t, ht, h⟩; exact ⟨t, (List.mem_filter.1 ht).1, h⟩
  · rintro ⟨t, ht, h⟩; exact ⟨t, List.mem_filter.2 ⟨ht, h.1⟩, h⟩
theorem covS_has {l : List Sp} {a : Ad} (ha : rightA a = true) : covS l (rank a) ↔ ∃ s ∈ l, hasS s a = true := by
  constructor
  · rintro ⟨s, hs, h1, h2, h3⟩; exact ⟨s, hs, hasS_iff.2 ⟨h1, ha, h2, h3⟩⟩
  · rintro ⟨s, hs, h⟩
    have := hasS_iff.1 h
    exact ⟨s, hs, this.1, this.2.2⟩
theorem covS_cov {l : List Sp} (h : ∀ s ∈ l, rightS s = true) {n : Nat} : covS l n ↔ cov (l.map iv) n := by
  constructor
  · rintro ⟨s, hs, _, h2⟩; exact ⟨iv s, List.mem_map.2 ⟨s, hs, rfl⟩, h2⟩
  · rintro ⟨t, ht, h2⟩
    obtain ⟨s, hs, rfl⟩ := List.mem_map.1 ht
    exact ⟨s, hs, h s hs, h2⟩
/-- A list of spans that are right, rise, and do not touch; it covers just P. -/
structure IsSet (l : List Sp) (P : Nat → Prop) : Prop where
  right : ∀ s ∈ l, rightS s = true
  apart : Apart (l.map iv)
  cov : ∀ n, covS l n ↔ P n
theorem IsSet.unique {l m : List Sp} {P Q : Nat → Prop} (h : IsSet l P) (k : IsSet m Q) (e : ∀ n, P n ↔ Q n) : l = m := by
  have h1 : l.map iv = m.map iv := apart_unique h.apart k.apart fun n => by
    rw [← covS_cov h.right, ← covS_cov k.right, h.cov, k.cov, e]
  exact List.map_inj_right (fun a b e => iv_inj e) |>.1 h1
theorem IsSet.to {l : List Sp} {P Q : Nat → Prop} (h : IsSet l P) (e : ∀ n, P n ↔ Q n) : IsSet l Q := ⟨h.right, h.apart, fun n => (h.cov n).trans (e n)⟩
theorem IsSet.nil {P : Nat → Prop} (h : ∀ n, ¬ P n) : IsSet [] P := ⟨fun s hs => (by cases hs), Apart.nil, fun n => iff_of_false (covS_nil n) (h n)⟩
theorem IsSet.snoc {l : List Sp} {P Q : Nat → Prop} {s : Sp} (h : IsSet l P) (hs : rightS s = true) (hg : ∀ t ∈ l, rank t.2 + 1 < rank s.1) (e : ∀ n, Q n ↔ P n ∨ (rank s.1 ≤ n ∧ n ≤ rank s.2)) : IsSet (l ++ [s]) Q := by
  refine ⟨fun t ht => ?_, ?_, fun n => ?_⟩
  · rcases List.mem_append.1 ht with ht | ht
    · exact h.right t ht
    · simp at ht; subst ht; exact hs
  · rw [List.map_append]
    exact h.apart.snoc (rightS_iff.1 hs).2.2.2 fun t ht => by
      obtain ⟨u, hu, rfl⟩ := List.mem_map.1 ht
      exact hg u hu
  · rw [covS_append, covS_one, h.cov, e]
    exact or_congr Iff.rfl (and_iff_right hs)
/-- The least one. -/
theorem IsSet.first {s : Sp} {l : List Sp} {P : Nat → Prop} (h : IsSet (s :: l) P) : P (rank s.1) ∧ ∀ n, P n → rank s.1 ≤ n := by
  have hr := (rightS_iff.1 (h.right s (by simp))).2.2.2
  refine ⟨(h.cov _).1 ⟨s, by simp, h.right s (by simp), Nat.le_refl _, hr⟩, fun n hn => ?_⟩
  obtain ⟨t, ht, _, h2, h3⟩ := (h.cov n).2 hn
  rcases List.mem_cons.1 ht with rfl | ht
  · exact h2
  · have h4 := h.apart.gap
    rw [List.map_cons] at h4
    have h5 : (iv s).2 + 1 < (iv t).1 := (List.pairwise_cons.1 h4).1 (iv t) (List.mem_map.2 ⟨t, ht, rfl⟩)
    unfold iv at h5
    simp only at h5
    omega

/-! ### spans joined -/
def touchS (a b : Sp) : Bool := a.1.1 == b.1.1 && decide (rank b.1 ≤ rank a.2 + 1)
/-- One more span, that does not begin ahead of those that are there. -/
def stepJ (out : List Sp) (s : Sp) : List Sp := match out.getLast? with
  | none => [s]
  | some t => if touchS t s then (if lessA t.2 s.2 then out.dropLast ++ [(t.1, s.2)] else out) else out ++ [s]
theorem step_is {out : List Sp} {P : Nat → Prop} {s : Sp} (h : IsSet out P) (hs : rightS s = true) (hle : ∀ t ∈ out, rank t.1 ≤ rank s.1) :
    IsSet (stepJ out s) (fun n => P n ∨ (rank s.1 ≤ n ∧ n ≤ rank s.2)) ∧ ∀ t ∈ stepJ out s, rank t.1 ≤ rank s.1 := by
  have hr := rightS_iff.1 hs
  rcases List.eq_nil_or_concat out with rfl | ⟨L, t, rfl⟩
  · refine ⟨?_, fun t ht => by simp [stepJ] at ht; subst ht; exact Nat.le_refl _⟩
    exact h.snoc hs (fun t ht => by cases ht) fun n => Iff.rfl
  · rw [List.concat_eq_append] at h hle ⊢
    have hg : (L ++ [t]).getLast? = some t := by simp
    have ht := rightS_iff.1 (h.right t (by simp))
    have hap := h.apart
    rw [List.map_append] at hap
    have hin := Apart.init hap
    have hts := hle t (by simp)
    have ft1 := rank_fam t.1
    have ft2 := rank_fam t.2
    have fs1 := rank_fam s.1
    rw [← ht.2.2.1] at ft2
    unfold stepJ
    rw [hg]
    simp only
    by_cases hc : touchS t s = true
    · rw [if_pos hc]
      unfold touchS at hc
      simp only [Bool.and_eq_true, beq_iff_eq, decide_eq_true_eq] at hc
      have hL : IsSet L (fun n => covS L n) := ⟨fun u hu => h.right u (by simp [hu]), hin.1, fun n => Iff.rfl⟩
      have hP : ∀ n, P n ↔ covS L n ∨ (rank t.1 ≤ n ∧ n ≤ rank t.2) := fun n => by
        rw [← h.cov, covS_append, covS_one]
        exact or_congr Iff.rfl (and_iff_right (h.right t (by simp)))
      by_cases hl : lessA t.2 s.2 = true
      · rw [if_pos hl]
        have hlt := less_rank.1 hl
        rw [List.dropLast_append_of_ne_nil (by simp)]
        simp only [List.dropLast_singleton, List.append_nil]
        refine ⟨hL.snoc (rightS_iff.2 ⟨ht.1, hr.2.1, by simp only; rw [hc.1]; exact hr.2.2.1, by simp only; omega⟩) (fun u hu => hin.2.2 (iv u) (List.mem_map.2 ⟨u, hu, rfl⟩)) fun n => ?_, fun u hu => ?_⟩
        · rw [hP]
          simp only
          constructor
          · rintro ((k | k) | k)
            · exact Or.inl k
            · exact Or.inr ⟨k.1, by omega⟩
            · exact Or.inr ⟨by omega, k.2⟩
          · rintro (k | k)
            · exact Or.inl (Or.inl k)
            · by_cases h5 : n ≤ rank t.2
              · exact Or.inl (Or.inr ⟨k.1, h5⟩)
              · exact Or.inr ⟨by omega, k.2⟩
        · rcases List.mem_append.1 hu with hu | hu
          · exact hle u (by simp [hu])
          · simp at hu; subst hu; exact hts
      · rw [if_neg hl]
        have hlt := nless.1 (Bool.eq_false_iff.2 hl)
        refine ⟨h.to fun n => ?_, hle⟩
        rw [hP]
        constructor
        · exact fun k => Or.inl k
        · rintro (k | k)
          · exact k
          · exact Or.inr ⟨by omega, by omega⟩
    · rw [if_neg hc]
      have hc2 : rank t.2 + 1 < rank s.1 := by
        refine Nat.lt_of_not_le fun k => hc ?_
        unfold touchS
        simp only [Bool.and_eq_true, beq_iff_eq, decide_eq_true_eq]
        refine ⟨?_, k⟩
        by_cases he : t.1.1 = s.1.1
        · exact he
        · exfalso
          have hn : t.1.1.toNat ≠ s.1.1.toNat := fun e => he (UInt8.toNat_inj.1 e)
          have h1 := rightA_iff.1 ht.2.1
          have h2 := rightA_iff.1 hr.1
          rw [← ht.2.2.1] at h1
          have nt : rank t.2 = t.1.1.toNat * 340282366920938463463374607431768211456 + num t.2 := by
            unfold rank; rw [← ht.2.2.1]
          rcases h1 with h1 | h1 <;> rcases h2 with h2 | h2
          · exact he (h1.trans h2.symm)
          · rw [h1] at ft1; rw [h2.1] at fs1
            have e6 : (6 : UInt8).toNat = 6 := rfl
            have e4 : (4 : UInt8).toNat = 4 := rfl
            rw [e6] at ft1; rw [e4] at fs1
            omega
          · have e6 : (6 : UInt8).toNat = 6 := rfl
            have e4 : (4 : UInt8).toNat = 4 := rfl
            rw [h1.1, e4] at nt
            rw [h2, e6] at fs1
            omega
          · exact he (h1.1.trans h2.1.symm)
      refine ⟨h.snoc hs (fun u hu => ?_) fun n => Iff.rfl, fun u hu => ?_⟩
      · rcases List.mem_append.1 hu with hu | hu
        · have := hin.2.2 (iv u) (List.mem_map.2 ⟨u, hu, rfl⟩)
          unfold iv at this
          simp only at this
          omega
        · simp at hu; subst hu; exact hc2
      · rcases List.mem_append.1 hu with hu | hu
        · exact hle u hu
        · simp at hu; subst hu; exact Nat.le_refl _
def joinS (l : List Sp) : List Sp := l.foldl stepJ []
theorem joinS_snoc (l : List Sp) (s : Sp) : joinS (l ++ [s]) = stepJ (joinS l) s := by unfold joinS; rw [List.foldl_append]; rfl
theorem join_is {l : List Sp} (hr : ∀ s ∈ l, rightS s = true) (hp : l.Pairwise fun s t => rank s.1 ≤ rank t.1) : ∀ k, k ≤ l.length → IsSet (joinS (l.take k)) (covS (l.take k)) ∧ ∀ t ∈ joinS (l.take k), ∀ j (h : j < l.length), k ≤ j → rank t.1 ≤ rank l[j].1
  | 0, _ => by
    rw [List.take_zero]
    exact ⟨IsSet.nil fun n => covS_nil n, fun t ht => by cases ht⟩
  | k + 1, hk => by
    have h := join_is hr hp k (by omega)
    have hs := hr l[k] (List.getElem_mem _)
    have hst := step_is h.1 hs fun t ht => h.2 t ht k (by omega) (Nat.le_refl _)
    rw [List.take_succ_eq_append_getElem (by omega), joinS_snoc]
    refine ⟨hst.1.to fun n => ?_, fun t ht j hj hkj => Nat.le_trans (hst.2 t ht) (List.pairwise_iff_getElem.1 hp k j (by omega) hj (by omega))⟩
    rw [covS_append, covS_one]
    exact or_congr Iff.rfl (and_iff_right hs).symm
theorem join_all {l : List Sp} (hr : ∀ s ∈ l, rightS s = true) (hp : l.Pairwise fun s t => rank s.1 ≤ rank t.1) : IsSet (joinS l) (covS l) := by
  have := (join_is hr hp l.length (Nat.le_refl _)).1
  rwa [List.take_of_length_le (Nat.le_refl _)] at this
end Go.Cph.Gp
