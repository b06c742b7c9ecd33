/- What lies between spans, as the document asks it: the least free address, the end of a run, what is free from there on; by numbers. No program in sight. -/
import Derived.Test.YtmnfddmjlkkcoaaGp2
set_option linter.unusedVariables false
namespace Go.Proofs.Try.Gp
open Go.Cph Go.Cph.Px Go.Cph.Gp

abbrev MX : UInt64 := 18446744073709551615
def lastD (a : Ad) : Bool := if a.1 == 4 then a.2.2 == 4294967295 else (a.2.1 == MX && a.2.2 == MX)
def nextD (a : Ad) : Ad := if a.2.2 == MX then (a.1, a.2.1 + 1, 0) else (a.1, a.2.1, a.2.2 + 1)
def backD (a : Ad) : Ad := if a.2.2 == 0 then (a.1, a.2.1 - 1, MX) else (a.1, a.2.1, a.2.2 - 1)
def coveredD (l : List Sp) (a : Ad) : Bool := l.any fun s => hasS s a
theorem mx_nat : MX.toNat = 18446744073709551615 := rfl
theorem coveredD_iff {l : List Sp} {a : Ad} (ha : rightA a = true) : coveredD l a = true ↔ covS l (rank a) := by
  rw [covS_has ha]; unfold coveredD; rw [List.any_eq_true]
theorem rightA_hi {a : Ad} (h : a.2.1.toNat = 0) (h4 : a.1 = 4) (hl : a.2.2.toNat < 4294967296) : rightA a = true := by
  rw [rightA_iff]; right; refine ⟨h4, ?_⟩; unfold num; omega
theorem fam46 {a : Ad} (h : rightA a = true) : (a.1 == 4) = true → num a < 4294967296 := by
  intro h4
  rw [beq_iff_eq] at h4
  rcases rightA_iff.1 h with h6 | h6
  · rw [h6] at h4; exact absurd h4 (by decide)
  · exact h6.2
theorem lastD_is {a : Ad} (h : rightA a = true) (hl : lastD a = true) {c : Ad} (hc : rightA c = true) (hf : c.1 = a.1) : rank c ≤ rank a := by
  rw [rank_num, rank_num, hf]
  refine Nat.add_le_add_left ?_ _
  unfold lastD at hl
  by_cases h4 : (a.1 == 4) = true
  · rw [if_pos h4, beq_iff_eq] at hl
    have h1 := fam46 hc (by rw [hf]; exact h4)
    have e : a.2.2.toNat = 4294967295 := by rw [hl]; rfl
    unfold num at h1 ⊢
    omega
  · rw [if_neg h4, Bool.and_eq_true, beq_iff_eq, beq_iff_eq] at hl
    have e1 : a.2.1.toNat = 18446744073709551615 := by rw [hl.1]; rfl
    have e2 : a.2.2.toNat = 18446744073709551615 := by rw [hl.2]; rfl
    have := c.2.1.toNat_lt
    have := c.2.2.toNat_lt
    unfold num
    omega
theorem num_step {a : Ad} (h : num a < 4294967296) (hl : ¬ a.2.2.toNat = 4294967295) : num a + 1 < 4294967296 := by
  have hne : num a + 1 ≠ 4294967296 := fun e => hl (by
    have := a.2.2.toNat_lt
    unfold num at e
    omega)
  exact Nat.lt_of_le_of_ne h hne
theorem nextD_is {a : Ad} (h : rightA a = true) (hl : lastD a = false) : rightA (nextD a) = true ∧ (nextD a).1 = a.1 ∧ rank (nextD a) = rank a + 1 := by
  have hb1 := a.2.1.toNat_lt
  have hb2 := a.2.2.toNat_lt
  have hnum : num (nextD a) = num a + 1 ∧ (nextD a).1 = a.1 := by
    unfold nextD lastD at *
    by_cases hm : (a.2.2 == MX) = true
    · rw [if_pos hm]
      refine ⟨?_, rfl⟩
      rw [beq_iff_eq] at hm
      have e2 : a.2.2.toNat = 18446744073709551615 := by rw [hm]; rfl
      by_cases h4 : (a.1 == 4) = true
      · have := fam46 h h4
        unfold num at this
        omega
      · rw [if_neg h4, hm, beq_self_eq_true, Bool.and_true, beq_eq_false_iff_ne, ne_eq, ← UInt64.toNat_inj, mx_nat] at hl
        unfold num
        simp only
        rw [UInt64.toNat_add, e2]
        have e1 : (1 : UInt64).toNat = 1 := rfl
        have e0 : (0 : UInt64).toNat = 0 := rfl
        rw [e1, e0]
        omega
    · rw [if_neg hm]
      refine ⟨?_, rfl⟩
      rw [Bool.not_eq_true, beq_eq_false_iff_ne, ne_eq, ← UInt64.toNat_inj, mx_nat] at hm
      unfold num
      simp only
      rw [UInt64.toNat_add]
      have e1 : (1 : UInt64).toNat = 1 := rfl
      rw [e1]
      omega
  have hr : rank (nextD a) = rank a + 1 := by rw [rank_num, rank_num, hnum.1, hnum.2, Nat.add_assoc]
  refine ⟨?_, hnum.2, hr⟩
  rw [rightA_iff, hnum.1, hnum.2]
  rcases rightA_iff.1 h with h6 | h6
  · exact Or.inl h6
  · refine Or.inr ⟨h6.1, ?_⟩
    unfold lastD at hl
    rw [if_pos (by rw [h6.1]; rfl), beq_eq_false_iff_ne, ne_eq, ← UInt64.toNat_inj] at hl
    have e : (4294967295 : UInt64).toNat = 4294967295 := rfl
    rw [e] at hl
    have h7 := h6.2
    exact num_step h7 hl
theorem backD_is {a : Ad} (h : rightA a = true) {c : Ad} (hf : c.1 = a.1) (hl : rank c < rank a) : rightA (backD a) = true ∧ (backD a).1 = a.1 ∧ rank (backD a) + 1 = rank a := by
  have hb1 := a.2.1.toNat_lt
  have hb2 := a.2.2.toNat_lt
  have hpos : 0 < num a := by rw [rank_num, rank_num, hf] at hl; omega
  have hnum : num (backD a) + 1 = num a ∧ (backD a).1 = a.1 := by
    unfold backD
    by_cases hm : (a.2.2 == 0) = true
    · rw [if_pos hm]
      refine ⟨?_, rfl⟩
      rw [beq_iff_eq] at hm
      have e2 : a.2.2.toNat = 0 := by rw [hm]; rfl
      unfold num at hpos ⊢
      simp only
      have hle : (1 : UInt64) ≤ a.2.1 := by
        rw [UInt64.le_iff_toNat_le]
        have e1 : (1 : UInt64).toNat = 1 := rfl
        rw [e1]; omega
      rw [UInt64.toNat_sub_of_le _ _ hle, mx_nat, e2]
      have e1 : (1 : UInt64).toNat = 1 := rfl
      rw [e1]
      rw [UInt64.le_iff_toNat_le, e1] at hle
      omega
    · rw [if_neg hm]
      refine ⟨?_, rfl⟩
      rw [Bool.not_eq_true, beq_eq_false_iff_ne, ne_eq, ← UInt64.toNat_inj] at hm
      have e0 : (0 : UInt64).toNat = 0 := rfl
      have e1 : (1 : UInt64).toNat = 1 := rfl
      rw [e0] at hm
      have hle : (1 : UInt64) ≤ a.2.2 := by rw [UInt64.le_iff_toNat_le, e1]; omega
      unfold num
      simp only
      rw [UInt64.toNat_sub_of_le _ _ hle, e1]
      omega
  have hr : rank (backD a) + 1 = rank a := by rw [rank_num, rank_num, hnum.2, Nat.add_assoc, hnum.1]
  refine ⟨?_, hnum.2, hr⟩
  rw [rightA_iff, hnum.2]
  rcases rightA_iff.1 h with h6 | h6
  · exact Or.inl h6
  · exact Or.inr ⟨h6.1, by have := h6.2; omega⟩

/-! ### the least free address -/
structure LeastIs (a b : Ad) (P : Nat → Prop) (r : Ad × Bool) : Prop where
  yes : r.2 = true → rightA r.1 = true ∧ r.1.1 = a.1 ∧ FreeP a b P (rank r.1) ∧ ∀ n, FreeP a b P n → rank r.1 ≤ n
  no : r.2 = false → r.1 = zeroA ∧ ∀ n, ¬ FreeP a b P n
theorem LeastIs.unique {a b : Ad} {P Q : Nat → Prop} {r s : Ad × Bool} (h : LeastIs a b P r) (k : LeastIs a b Q s) (e : ∀ n, P n ↔ Q n) : r = s := by
  have he : ∀ n, FreeP a b P n ↔ FreeP a b Q n := fun n => by unfold FreeP; rw [e]
  obtain ⟨x, p⟩ := r
  obtain ⟨y, q⟩ := s
  cases p <;> cases q
  · have e1 := (h.no rfl).1
    have e2 := (k.no rfl).1
    simp only at e1 e2
    rw [e1, e2]
  · exact absurd ((he _).2 (k.yes rfl).2.2.1) ((h.no rfl).2 _)
  · exact absurd ((he _).1 (h.yes rfl).2.2.1) ((k.no rfl).2 _)
  · obtain ⟨-, -, h3, h4⟩ := h.yes rfl
    obtain ⟨-, -, k3, k4⟩ := k.yes rfl
    have e1 := h4 _ ((he _).2 k3)
    have e2 := k4 _ ((he _).1 h3)
    simp only at e1 e2
    rw [rank_inj (Nat.le_antisymm e1 e2)]
theorem LeastIs.of_set {a b : Ad} {P : Nat → Prop} {l : List Sp} (h : IsSet l (FreeP a b P)) : LeastIs a b P (match l with | [] => (zeroA, false) | s :: _ => (s.1, true)) := by
  cases l with
  | nil => exact ⟨fun h => (by cases h), fun _ => ⟨rfl, fun n hn => covS_nil n ((h.cov n).2 hn)⟩⟩
  | cons s l =>
    have hf := h.first
    have hr := rightS_iff.1 (h.right s (by simp))
    refine ⟨fun _ => ⟨hr.1, ?_, hf.1, hf.2⟩, fun h => (by cases h)⟩
    have h1 := hf.1
    have he := rightS_iff.1 h1.1
    exact fam_far (a := s.1) (b := s.1) rfl he.2.2.1 (Nat.le_refl _) (Nat.le_refl _) h1.2.1 h1.2.2.1
theorem free_has {a b x : Ad} {l : List Sp} (hx : rightA x = true) : FreeP a b (covS l) (rank x) ↔ hasS (a, b) x = true ∧ coveredD l x = false := by
  unfold FreeP
  rw [hasS_iff, ← Bool.not_eq_true, coveredD_iff hx]
  constructor
  · exact fun h => ⟨⟨h.1, hx, h.2.1, h.2.2.1⟩, h.2.2.2⟩
  · exact fun h => ⟨h.1.1, h.1.2.2.1, h.1.2.2.2, h.2⟩
/-- How far the search is. -/
structure Ls (a b : Ad) (l : List Sp) (i : Nat) (best : Ad) (is : Bool) : Prop where
  yes : is = true → rightA best = true ∧ best.1 = a.1 ∧ FreeP a b (covS l) (rank best)
  all : ∀ m, (m = rank a ∨ ∃ j, ∃ h : j < l.length, j < i ∧ rightS l[j] = true ∧ l[j].1.1 = a.1 ∧ rank l[j].2 + 1 = m) → FreeP a b (covS l) m → is = true ∧ rank best ≤ m
section
variable {a b best : Ad} {l : List Sp} {i : Nat} {is : Bool}
theorem Ls.start : Ls a b l 0 a (rightS (a, b) && !coveredD l a) := by
  refine ⟨fun h => ?_, fun m hm hf => ?_⟩
  · rw [Bool.and_eq_true, Bool.not_eq_true'] at h
    have hr := rightS_iff.1 h.1
    refine ⟨hr.1, rfl, (free_has hr.1).2 ⟨hasS_iff.2 ⟨h.1, hr.1, Nat.le_refl _, hr.2.2.2⟩, h.2⟩⟩
  · rcases hm with rfl | ⟨j, _, hj, _⟩
    · have hr := (rightS_iff.1 hf.1).1
      have h2 := (free_has hr).1 hf
      refine ⟨?_, Nat.le_refl _⟩
      rw [hf.1, h2.2]; rfl
    · omega
theorem Ls.skip (h : Ls a b l i best is) (hi : i < l.length) (hs : rightS l[i] = false ∨ lastD l[i].2 = true ∨ hasS (a, b) (nextD l[i].2) = false ∨ coveredD l (nextD l[i].2) = true ∨ (is = true ∧ lessA (nextD l[i].2) best = false)) : Ls a b l (i + 1) best is := by
  refine ⟨h.yes, fun m hm hf => ?_⟩
  rcases hm with rfl | ⟨j, hj, hji, h1, h2, h3⟩
  · exact h.all _ (Or.inl rfl) hf
  · rcases Nat.lt_or_eq_of_le (show j ≤ i by omega) with e | e
    · exact h.all m (Or.inr ⟨j, hj, e, h1, h2, h3⟩) hf
    · subst e
      have hr := rightS_iff.1 h1
      have hab := rightS_iff.1 hf.1
      rcases hs with hs | hs
      · rw [hs] at h1; cases h1
      · by_cases hl : lastD l[j].2 = true
        · have := lastD_is hr.2.1 hl hab.2.1 (hab.2.2.1.symm.trans (h2.symm.trans hr.2.2.1))
          simp only at this
          have := hf.2.2.1
          omega
        · have hn := nextD_is hr.2.1 (Bool.eq_false_iff.2 hl)
          rw [← h3, ← hn.2.2] at hf
          have h4 := (free_has hn.1).1 hf
          rcases hs with hs | hs | hs | hs
          · exact absurd hs hl
          · rw [hs] at h4; cases h4.1
          · rw [hs] at h4; cases h4.2
          · refine ⟨hs.1, ?_⟩
            rw [← h3, ← hn.2.2]
            exact nless.1 hs.2
theorem Ls.take (h : Ls a b l i best is) (hi : i < l.length) (h1 : rightS l[i] = true) (h2 : lastD l[i].2 = false) (h3 : hasS (a, b) (nextD l[i].2) = true) (h4 : coveredD l (nextD l[i].2) = false) (h5 : is = false ∨ lessA (nextD l[i].2) best = true) : Ls a b l (i + 1) (nextD l[i].2) true := by
  have hr := rightS_iff.1 h1
  have hn := nextD_is hr.2.1 h2
  have hf := (free_has (l := l) hn.1).2 ⟨h3, h4⟩
  refine ⟨fun _ => ⟨hn.1, ?_, hf⟩, fun m hm hmf => ⟨rfl, ?_⟩⟩
  · have he := rightS_iff.1 hf.1
    exact fam_far (a := nextD l[i].2) (b := nextD l[i].2) rfl he.2.2.1 (Nat.le_refl _) (Nat.le_refl _) hf.2.1 hf.2.2.1
  · have key : is = true ∧ rank best ≤ m → rank (nextD l[i].2) ≤ m := fun hk => by
      rcases h5 with h5 | h5
      · rw [hk.1] at h5; cases h5
      · exact Nat.le_trans (Nat.le_of_lt (less_rank.1 h5)) hk.2
    rcases hm with rfl | ⟨j, hj, hji, e1, e2, e3⟩
    · exact key (h.all _ (Or.inl rfl) hmf)
    · rcases Nat.lt_or_eq_of_le (show j ≤ i by omega) with e | e
      · exact key (h.all m (Or.inr ⟨j, hj, e, e1, e2, e3⟩) hmf)
      · subst e
        rw [hn.2.2]; omega
theorem Ls.done (h : Ls a b l l.length best is) : LeastIs a b (covS l) (if is then (best, true) else (zeroA, false)) := by
  have key : ∀ n, FreeP a b (covS l) n → is = true ∧ rank best ≤ n := by
    intro n
    induction n with
    | zero =>
      intro hf
      exact h.all 0 (Or.inl (Nat.le_zero.1 hf.2.1).symm) hf
    | succ n ih =>
      intro hf
      by_cases he : n + 1 = rank a
      · exact h.all _ (Or.inl he) hf
      · have h1 := hf.2.1
        have h2 := hf.2.2.1
        by_cases hp : covS l n
        · obtain ⟨s, hs, hsr, h3, h4⟩ := hp
          obtain ⟨j, hj, rfl⟩ := List.getElem_of_mem hs
          have hq := rightS_iff.1 hsr
          have hab := rightS_iff.1 hf.1
          refine h.all _ (Or.inr ⟨j, hj, hj, hsr, fam_far hq.2.2.1 hab.2.2.1 h3 h4 (show rank (a, b).1 ≤ n by simp only; omega) (show n ≤ rank (a, b).2 by simp only; omega), ?_⟩) hf
          have : ¬ n + 1 ≤ rank l[j].2 := fun hle => hf.2.2.2 ⟨_, hs, hsr, by omega, hle⟩
          omega
        · have := ih ⟨hf.1, by omega, by omega, hp⟩
          exact ⟨this.1, by omega⟩
  cases is
  · exact ⟨fun hh => (by cases hh), fun _ => ⟨rfl, fun n hn => by cases (key n hn).1⟩⟩
  · have hy := h.yes rfl
    exact ⟨fun _ => ⟨hy.1, hy.2.1, hy.2.2, fun n hn => (key n hn).2⟩, fun hh => by cases hh⟩
end

/-! ### the end of a run -/
structure En (a b : Ad) (l : List Sp) (i : Nat) (e : Ad) : Prop where
  right : rightA e = true
  fam : e.1 = a.1
  lo : rank a ≤ rank e
  hi : rank e ≤ rank b
  stop : rank e = rank b ∨ ∃ j, ∃ h : j < l.length, rightS l[j] = true ∧ rank l[j].1 = rank e + 1
  gone : ∀ j (h : j < l.length), j < i → rightS l[j] = true → l[j].1.1 = a.1 → rank a < rank l[j].1 → rank e < rank l[j].1
section
variable {a b e : Ad} {l : List Sp} {i : Nat}
theorem En.start (hb : rightA b = true) (hf : b.1 = a.1) (hl : rank a ≤ rank b) : En a b l 0 b :=
  ⟨hb, hf, hl, Nat.le_refl _, Or.inl rfl, fun j _ hj => absurd hj (Nat.not_lt_zero _)⟩
theorem En.skip (h : En a b l i e) (hi : i < l.length) (hs : rightS l[i] = false ∨ l[i].1.1 ≠ a.1 ∨ lessA a l[i].1 = false ∨ lessA e l[i].1 = true) : En a b l (i + 1) e :=
  ⟨h.right, h.fam, h.lo, h.hi, h.stop, fun j hj hji h1 h2 h3 => by
    rcases Nat.lt_or_eq_of_le (show j ≤ i by omega) with k | k
    · exact h.gone j hj k h1 h2 h3
    · subst k
      rcases hs with hs | hs | hs | hs
      · rw [hs] at h1; cases h1
      · exact absurd h2 hs
      · have := nless.1 hs; omega
      · exact less_rank.1 hs⟩
theorem En.take (h : En a b l i e) (hi : i < l.length) (h1 : rightS l[i] = true) (h2 : l[i].1.1 = a.1) (h3 : lessA a l[i].1 = true) (h4 : lessA e l[i].1 = false) : En a b l (i + 1) (backD l[i].1) := by
  have hr := rightS_iff.1 h1
  have h5 := less_rank.1 h3
  have h6 := nless.1 h4
  obtain ⟨k1, k2, k3⟩ := backD_is hr.1 h2.symm h5
  have := h.hi
  refine ⟨k1, k2.trans h2, by omega, by omega, Or.inr ⟨i, hi, h1, k3.symm⟩, fun j hj hji e1 e2 e3 => ?_⟩
  rcases Nat.lt_or_eq_of_le (show j ≤ i by omega) with k | k
  · have := h.gone j hj k e1 e2 e3; omega
  · subst k; omega
theorem En.free (h : En a b l l.length e) (ha : ¬ covS l (rank a)) {n : Nat} (h1 : rank a ≤ n) (h2 : n ≤ rank e) : ¬ covS l n := by
  rintro ⟨s, hs, hsr, h3, h4⟩
  obtain ⟨j, hj, rfl⟩ := List.getElem_of_mem hs
  have hq := rightS_iff.1 hsr
  have hf := fam_far hq.2.2.1 h.fam.symm h3 h4 h1 h2
  by_cases hlt : rank a < rank l[j].1
  · have := h.gone j hj hj hsr hf hlt
    omega
  · exact ha ⟨_, hs, hsr, by omega, by omega⟩
end

/-! ### all that is free -/
/-- What is told, and where the search goes on. -/
structure Fd (a b : Ad) (l : List Sp) (c : Ad) (out : List Sp) : Prop where
  set : IsSet out (covS out)
  all : ∀ n, FreeP a b (covS l) n ↔ covS out n ∨ FreeP c b (covS l) n
  gap : ∀ t ∈ out, rank t.2 + 1 ≤ rank c
  cov : out ≠ [] → covS l (rank c)
  fam : c.1 = a.1
  num : out.length + l.countP (fun s => decide (rank c < rank s.1)) ≤ l.length
section
variable {a b c x e : Ad} {l out : List Sp}
theorem Fd.start : Fd a b l a [] :=
  ⟨⟨fun s hs => (by cases hs), Apart.nil, fun n => Iff.rfl⟩, fun n => ⟨Or.inr, fun h => h.resolve_left (covS_nil n)⟩, fun t ht => (by cases ht), fun h => absurd rfl h, rfl, by simpa using List.countP_le_length⟩
theorem Fd.none (h : Fd a b l c out) (hn : ∀ n, ¬ FreeP c b (covS l) n) : IsSet out (FreeP a b (covS l)) :=
  h.set.to fun n => ⟨fun k => (h.all n).2 (Or.inl k), fun k => ((h.all n).1 k).resolve_right (hn n)⟩
theorem Fd.snoc (h : Fd a b l c out) (hx : LeastIs c b (covS l) (x, true)) (he : En x b l l.length e) : IsSet (out ++ [(x, e)]) (covS (out ++ [(x, e)])) := by
  obtain ⟨h1, h2, h3, h4⟩ := hx.yes rfl
  have hr : rightS (x, e) = true := rightS_iff.2 ⟨h1, he.right, he.fam.symm, he.lo⟩
  refine h.set.snoc hr (fun t ht => ?_) fun n => ?_
  · have h5 := h.gap t ht
    have h6 := h.cov (fun e => by rw [e] at ht; cases ht)
    have h7 : rank c ≤ rank x := h3.2.1
    have h8 : rank c ≠ rank x := fun e => h3.2.2.2 (e ▸ h6)
    simp only
    omega
  · rw [covS_append, covS_one]
    exact or_congr Iff.rfl (and_iff_right hr)
theorem Fd.stop (h : Fd a b l c out) (hx : LeastIs c b (covS l) (x, true)) (he : En x b l l.length e) (hs : lastD e = true ∨ e = b) : IsSet (out ++ [(x, e)]) (FreeP a b (covS l)) := by
  have hset := h.snoc hx he
  obtain ⟨h1, h2, h3, h4⟩ := hx.yes rfl
  have hr : rightS (x, e) = true := rightS_iff.2 ⟨h1, he.right, he.fam.symm, he.lo⟩
  refine hset.to fun n => ?_
  rw [h.all, covS_append, covS_one]
  refine or_congr Iff.rfl ⟨fun k => ?_, fun k => ⟨hr, h4 n k, ?_⟩⟩
  · have hhi := he.hi
    have h5 := h3.2.1
    exact ⟨h3.1, Nat.le_trans h5 k.2.1, Nat.le_trans k.2.2 hhi, he.free h3.2.2.2 k.2.1 k.2.2⟩
  · rcases hs with hs | hs
    · have hcb := rightS_iff.1 h3.1
      have := lastD_is he.right hs hcb.2.1 (hcb.2.2.1.symm.trans (h2.symm.trans he.fam.symm))
      exact Nat.le_trans k.2.2.1 this
    · rw [hs]; exact k.2.2.1
theorem countP_lt {α : Type} {p q : α → Bool} {l : List α} (h : ∀ x, p x = true → q x = true) {x : α} (hx : x ∈ l) (hq : q x = true) (hp : p x = false) : l.countP p + 1 ≤ l.countP q := by
  induction l with
  | nil => cases hx
  | cons y l ih =>
    rw [List.countP_cons, List.countP_cons]
    have hm : l.countP p ≤ l.countP q := List.countP_mono_left fun z _ hz => h z hz
    rcases List.mem_cons.1 hx with rfl | hx
    · rw [hq, hp]; simp; omega
    · have := ih hx
      cases hpy : p y
      · simp; omega
      · rw [h y hpy]; simp; omega
theorem Fd.next (h : Fd a b l c out) (hx : LeastIs c b (covS l) (x, true)) (he : En x b l l.length e) (hl : lastD e = false) (hb : e ≠ b) : Fd a b l (nextD e) (out ++ [(x, e)]) ∧ rank c < rank (nextD e) ∧ rank (nextD e) ≤ rank b := by
  have hset := h.snoc hx he
  obtain ⟨h1, h2, h3, h4⟩ := hx.yes rfl
  have hr : rightS (x, e) = true := rightS_iff.2 ⟨h1, he.right, he.fam.symm, he.lo⟩
  obtain ⟨k1, k2, k3⟩ := nextD_is he.right hl
  have hlo := he.lo
  have hhi := he.hi
  have hcx : rank c ≤ rank x := h3.2.1
  have hne : rank e ≠ rank b := fun q => hb (rank_inj q)
  have hcb := rightS_iff.1 h3.1
  simp only at h2
  obtain ⟨j, hj, hjr, hje⟩ := he.stop.resolve_left hne
  refine ⟨⟨hset, fun n => ?_, fun t ht => ?_, fun _ => ?_, ?_, ?_⟩, by omega, by omega⟩
  · rw [h.all, covS_append, covS_one, or_assoc]
    refine or_congr Iff.rfl ⟨fun k => ?_, fun k => ?_⟩
    · by_cases hn : n ≤ rank e
      · exact Or.inl ⟨hr, h4 n k, hn⟩
      · refine Or.inr ⟨rightS_iff.2 ⟨k1, hcb.2.1, k2.trans (he.fam.trans (h2.trans hcb.2.2.1)), by simp only; omega⟩, by omega, k.2.2.1, k.2.2.2⟩
    · rcases k with k | k
      · have h5 := k.2.1
        have h6 := k.2.2
        simp only at h5 h6
        exact ⟨h3.1, by omega, by omega, he.free h3.2.2.2 h5 h6⟩
      · have h5 := k.2.1
        exact ⟨h3.1, by omega, k.2.2.1, k.2.2.2⟩
  · rcases List.mem_append.1 ht with ht | ht
    · have := h.gap t ht; omega
    · simp at ht; subst ht; simp only; omega
  · have hq := rightS_iff.1 hjr
    exact ⟨_, List.getElem_mem hj, hjr, by omega, by omega⟩
  · exact k2.trans (he.fam.trans (h2.trans h.fam))
  · have hlt := countP_lt (p := fun s : Sp => decide (rank (nextD e) < rank s.1)) (q := fun s : Sp => decide (rank c < rank s.1)) (l := l) (fun s hs => by simp only [decide_eq_true_eq] at hs ⊢; omega) (List.getElem_mem hj) (by simp only [decide_eq_true_eq]; omega) (by simp only [decide_eq_false_iff_not]; omega)
    have := h.num
    rw [List.length_append]
    simp only [List.length_singleton]
    omega
theorem Fd.len (h : Fd a b l c out) : out.length ≤ l.length := by have := h.num; omega
end

/-! ### spans joined: of each family what is not free of its free spans -/
abbrev four0 : Ad := (4, 0, 0)
abbrev four1 : Ad := (4, 0, 4294967295)
abbrev six0 : Ad := (6, 0, 0)
abbrev six1 : Ad := (6, MX, MX)
theorem rank_four0 : rank four0 = 4 * 340282366920938463463374607431768211456 := by decide
theorem rank_four1 : rank four1 = 4 * 340282366920938463463374607431768211456 + 4294967295 := by decide
theorem rank_six0 : rank six0 = 6 * 340282366920938463463374607431768211456 := by decide
theorem rank_six1 : rank six1 = 7 * 340282366920938463463374607431768211456 - 1 := by decide
theorem right_four : rightS (four0, four1) = true := by decide
theorem right_six : rightS (six0, six1) = true := by decide
theorem free_free {a b : Ad} {P Q : Nat → Prop} (h : ∀ n, Q n ↔ FreeP a b P n) (n : Nat) : FreeP a b Q n ↔ rightS (a, b) = true ∧ rank a ≤ n ∧ n ≤ rank b ∧ P n := by
  unfold FreeP at *
  rw [h]
  constructor
  · rintro ⟨h1, h2, h3, h4⟩
    exact ⟨h1, h2, h3, Classical.byContradiction fun k => h4 ⟨h1, h2, h3, k⟩⟩
  · rintro ⟨h1, h2, h3, h4⟩
    exact ⟨h1, h2, h3, fun k => k.2.2.2 h4⟩
theorem _root_.Go.Cph.Gp.IsSet.app {l m : List Sp} {P Q R : Nat → Prop} (h : IsSet l P) (k : IsSet m Q) (hg : ∀ s ∈ l, ∀ t ∈ m, rank s.2 + 1 < rank t.1) (e : ∀ n, R n ↔ P n ∨ Q n) : IsSet (l ++ m) R := by
  refine ⟨fun s hs => ?_, ⟨fun s hs => ?_, ?_⟩, fun n => ?_⟩
  · rcases List.mem_append.1 hs with hs | hs
    · exact h.right s hs
    · exact k.right s hs
  · rw [List.map_append] at hs
    rcases List.mem_append.1 hs with hs | hs
    · exact h.apart.le s hs
    · exact k.apart.le s hs
  · rw [List.map_append]
    refine List.pairwise_append.2 ⟨h.apart.gap, k.apart.gap, fun s hs t ht => ?_⟩
    obtain ⟨s', hs', rfl⟩ := List.mem_map.1 hs
    obtain ⟨t', ht', rfl⟩ := List.mem_map.1 ht
    exact hg _ hs' _ ht'
  · rw [covS_append, h.cov, k.cov, e]
theorem joinD_is {l f4 f6 g4 g6 : List Sp} (h1 : IsSet f4 (FreeP four0 four1 (covS l))) (h2 : IsSet g4 (FreeP four0 four1 (covS f4))) (h3 : IsSet f6 (FreeP six0 six1 (covS l))) (h4 : IsSet g6 (FreeP six0 six1 (covS f6))) : IsSet (g4 ++ g6) (covS l) := by
  have e4 := fun n => free_free h1.cov n
  have e6 := fun n => free_free h3.cov n
  have k4 := h2.to e4
  have k6 := h4.to e6
  refine k4.app k6 (fun s hs t ht => ?_) fun n => ⟨fun hn => ?_, ?_⟩
  · have hs1 := h2.right s hs
    have ht1 := h4.right t ht
    have hs2 := rightS_iff.1 hs1
    have ht2 := rightS_iff.1 ht1
    have c4 := (k4.cov (rank s.2)).1 ⟨s, hs, hs1, hs2.2.2.2, Nat.le_refl _⟩
    have c6 := (k6.cov (rank t.1)).1 ⟨t, ht, ht1, Nat.le_refl _, ht2.2.2.2⟩
    have a1 := c4.2.2.1
    have a2 := c6.2.1
    rw [rank_four1] at a1
    rw [rank_six0] at a2
    omega
  · have hn2 := hn
    obtain ⟨s, hs, hsr, h5, h6⟩ := hn
    have hr := rightS_iff.1 hsr
    rcases rightA_iff.1 hr.1 with h7 | h7
    · refine Or.inr ⟨right_six, ?_, ?_, hn2⟩
      · have := (rank_fam s.1).1
        rw [h7] at this
        rw [rank_six0]
        have e : (6 : UInt8).toNat = 6 := rfl
        rw [e] at this
        omega
      · have := (rank_fam s.2).2
        rw [← hr.2.2.1, h7] at this
        rw [rank_six1]
        have e : (6 : UInt8).toNat = 6 := rfl
        rw [e] at this
        omega
    · refine Or.inl ⟨right_four, ?_, ?_, hn2⟩
      · have := (rank_fam s.1).1
        rw [h7.1] at this
        rw [rank_four0]
        have e : (4 : UInt8).toNat = 4 := rfl
        rw [e] at this
        omega
      · have h8 := rightA_iff.1 hr.2.1
        rw [← hr.2.2.1, h7.1] at h8
        have h9 := (h8.resolve_left (by decide)).2
        rw [rank_num, ← hr.2.2.1, h7.1] at h6
        rw [rank_four1]
        have e : (4 : UInt8).toNat = 4 := rfl
        rw [e] at h6
        omega
  · rintro (k | k)
    · exact k.2.2.2
    · exact k.2.2.2
end Go.Proofs.Try.Gp
