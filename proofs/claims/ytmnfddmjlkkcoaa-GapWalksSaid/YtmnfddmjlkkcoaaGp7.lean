/- GapWalks: addresses taken one by one; plainly. -/
import Derived.Test.YtmnfddmjlkkcoaaGw3
set_option linter.unusedVariables false
namespace Go.Proofs.Try.Gp
open Go.Cph Go.Cph.Px Go.Cph.Gp

def stepA (a : Ad) (j : Nat) : Ad := (a.1, a.2.1, a.2.2 + UInt64.ofNat j)
def freeB (a : Ad) (A : List Sp) (j : Nat) : Bool := rightA (stepA a j) && !coveredD A (stepA a j)
def freeJ (a : Ad) (A : List Sp) (n : Nat) : List Nat := (List.range n).filter (freeB a A)
def takS (a : Ad) (L : List Nat) : List Sp := L.map fun j => (stepA a j, stepA a j)
/-- The bounds of the range. -/
structure Rng (a : Ad) (k : Nat) : Prop where
  le : k ≤ 39
  lo : a.2.2.toNat + k < 18446744073709551616
  four : a.1 = 4 → a.2.2.toNat + k < 4294967296
theorem freeJ_succ (a : Ad) (A : List Sp) (n : Nat) : freeJ a A (n + 1) = freeJ a A n ++ (if freeB a A n then [n] else []) := by
  unfold freeJ
  rw [List.range_succ, List.filter_append]
  congr 1
  cases h : freeB a A n <;> simp [h]
theorem freeJ_len (a : Ad) (A : List Sp) (n : Nat) : (freeJ a A n).length ≤ n := by
  have := List.length_filter_le (freeB a A) (List.range n)
  rw [List.length_range] at this
  exact this
theorem step_zero (a : Ad) : stepA a 0 = a := by unfold stepA; simp
theorem step_one (a : Ad) (j : Nat) : stepA a (j + 1) = (a.1, a.2.1, (stepA a j).2.2 + 1) := by
  unfold stepA
  simp only [UInt64.ofNat_add, ← UInt64.add_assoc]
  rfl
theorem step_lo {a : Ad} {k j : Nat} (h : Rng a k) (hj : j ≤ k) : (stepA a j).2.2.toNat = a.2.2.toNat + j := by
  have := h.lo
  have := h.le
  unfold stepA
  rw [UInt64.toNat_add, UInt64.toNat_ofNat']
  omega
theorem step_num {a : Ad} {k j : Nat} (h : Rng a k) (hj : j ≤ k) : num (stepA a j) = num a + j := by
  have e := step_lo h hj
  unfold num
  rw [e, show (stepA a j).2.1 = a.2.1 from rfl]
  omega
theorem step_rank {a : Ad} {k j : Nat} (h : Rng a k) (hj : j ≤ k) : rank (stepA a j) = rank a + j := by
  rw [rank_num, rank_num, step_num h hj, show (stepA a j).1 = a.1 from rfl]
  exact (Nat.add_assoc _ _ _).symm
theorem small_hi (H M l j B : Nat) (h2 : H * M + l < B) (hB : B ≤ M) (h3 : l + j < B) : H * M + l + j < B := by
  have : H = 0 := by
    cases H with
    | zero => rfl
    | succ H => rw [Nat.succ_mul] at h2; omega
  subst this
  rw [Nat.zero_mul, Nat.zero_add]; exact h3
theorem step_right {a : Ad} {k j : Nat} (h : Rng a k) (hj : j ≤ k) : rightA (stepA a j) = rightA a := by
  rw [Bool.eq_iff_iff, rightA_iff, rightA_iff, step_num h hj, show (stepA a j).1 = a.1 from rfl]
  constructor
  · rintro (h1 | ⟨h1, h2⟩)
    · exact Or.inl h1
    · exact Or.inr ⟨h1, by omega⟩
  · rintro (h1 | ⟨h1, h2⟩)
    · exact Or.inl h1
    · refine Or.inr ⟨h1, ?_⟩
      have h3 := h.four h1
      exact small_hi _ _ _ _ _ h2 (by decide) (Nat.lt_of_le_of_lt (Nat.add_le_add_left hj _) h3)
theorem tak_cov {a : Ad} {k : Nat} (h : Rng a k) (hr : rightA a = true) {L : List Nat} (hL : ∀ j ∈ L, j ≤ k) (n : Nat) : covS (takS a L) n ↔ ∃ j ∈ L, n = rank a + j := by
  unfold covS takS
  constructor
  · rintro ⟨s, hs, -, h2, h3⟩
    rw [List.mem_map] at hs
    obtain ⟨j, hj, rfl⟩ := hs
    rw [step_rank h (hL j hj)] at h2 h3
    exact ⟨j, hj, by omega⟩
  · rintro ⟨j, hj, rfl⟩
    have hk := hL j hj
    refine ⟨_, List.mem_map.2 ⟨j, hj, rfl⟩, ?_, ?_, ?_⟩
    · rw [rightS_iff]
      have := step_right h hk
      exact ⟨by rw [this]; exact hr, by rw [this]; exact hr, rfl, Nat.le_refl _⟩
    · rw [step_rank h hk]; exact Nat.le_refl _
    · rw [step_rank h hk]; exact Nat.le_refl _
theorem freeJ_mem {a : Ad} {A : List Sp} {k j : Nat} (h : Rng a k) : j ∈ freeJ a A (k + 1) ↔ j ≤ k ∧ rightA a = true ∧ ¬ covS A (rank a + j) := by
  unfold freeJ freeB
  rw [List.mem_filter, List.mem_range, Bool.and_eq_true, Bool.not_eq_true']
  constructor
  · rintro ⟨h1, h2, h3⟩
    have hj : j ≤ k := by omega
    rw [← step_rank h hj, ← coveredD_iff h2, Bool.not_eq_true]
    rw [step_right h hj] at h2
    exact ⟨hj, h2, h3⟩
  · rintro ⟨h1, h2, h3⟩
    have hr : rightA (stepA a j) = true := by rw [step_right h h1]; exact h2
    rw [← step_rank h h1, ← coveredD_iff hr, Bool.not_eq_true] at h3
    exact ⟨by omega, hr, h3⟩
theorem freeJ_rise (a : Ad) (A : List Sp) (n : Nat) : (freeJ a A n).Pairwise (· < ·) := List.Pairwise.filter _ List.pairwise_lt_range
theorem walk_free {a : Ad} {A : List Sp} {k : Nat} {L R : List Nat} (h : Rng a k) (hF : freeJ a A (k + 1) = L ++ R) (n : Nat) :
    FreeP a (stepA a k) (covS (A ++ takS a L)) n ↔ ∃ j ∈ R, n = rank a + j := by
  have hm : ∀ j, j ∈ L ++ R ↔ j ≤ k ∧ rightA a = true ∧ ¬ covS A (rank a + j) := fun j => by rw [← hF]; exact freeJ_mem h
  have hp : (L ++ R).Pairwise (· < ·) := by rw [← hF]; exact freeJ_rise _ _ _
  have hL : ∀ j ∈ L, j ≤ k := fun j hj => ((hm j).1 (List.mem_append_left _ hj)).1
  unfold FreeP
  rw [covS_append]
  constructor
  · rintro ⟨h1, h2, h3, h4⟩
    have hr := (rightS_iff.1 h1).1
    simp only at hr
    rw [step_rank h (Nat.le_refl _)] at h3
    have he : n = rank a + (n - rank a) := by omega
    rw [tak_cov h hr hL, not_or] at h4
    have hmem := (hm (n - rank a)).2 ⟨by omega, hr, by rw [← he]; exact h4.1⟩
    rcases List.mem_append.1 hmem with hl | hl
    · exact absurd ⟨_, hl, he⟩ h4.2
    · exact ⟨_, hl, he⟩
  · rintro ⟨j, hj, rfl⟩
    obtain ⟨h1, h2, h3⟩ := (hm j).1 (List.mem_append_right _ hj)
    refine ⟨rightS_iff.2 ⟨h2, by rw [step_right h (Nat.le_refl _)]; exact h2, rfl, ?_⟩, by omega, by rw [step_rank h (Nat.le_refl _)]; omega, ?_⟩
    · show rank a ≤ rank (stepA a k)
      rw [step_rank h (Nat.le_refl _)]; omega
    · rw [tak_cov h h2 hL, not_or]
      refine ⟨h3, ?_⟩
      rintro ⟨i, hi, he⟩
      have := (List.pairwise_append.1 hp).2.2 i hi j hj
      omega
theorem walk_none {a y : Ad} {A : List Sp} {k : Nat} {L R : List Nat} (h : Rng a k) (hF : freeJ a A (k + 1) = L ++ R) (hl : LeastIs a (stepA a k) (covS (A ++ takS a L)) (y, false)) : R = [] := by
  cases R with
  | nil => rfl
  | cons r R => exact absurd ((walk_free h hF (rank a + r)).2 ⟨r, by simp, rfl⟩) ((hl.no rfl).2 _)
theorem walk_some {a y : Ad} {A : List Sp} {k : Nat} {L R : List Nat} (h : Rng a k) (hF : freeJ a A (k + 1) = L ++ R) (hl : LeastIs a (stepA a k) (covS (A ++ takS a L)) (y, true)) :
    ∃ j R', R = j :: R' ∧ y = stepA a j ∧ coveredD A y = false ∧ (∀ i ∈ L, belowA (stepA a i) y = true) := by
  obtain ⟨h1, h2, h3, h4⟩ := hl.yes rfl
  simp only at h1 h2 h3 h4
  have hp : (L ++ R).Pairwise (· < ·) := by rw [← hF]; exact freeJ_rise _ _ _
  obtain ⟨j, hj, he⟩ := (walk_free h hF _).1 h3
  cases R with
  | nil => cases hj
  | cons r R =>
    have hk : j ≤ k := ((freeJ_mem h).1 (by rw [hF]; exact List.mem_append_right _ hj)).1
    have h5 := h4 _ ((walk_free h hF (rank a + r)).2 ⟨r, by simp, rfl⟩)
    have hrj : r = j := by
      rcases List.mem_cons.1 hj with e | e
      · exact e.symm
      · have := (List.pairwise_cons.1 (List.pairwise_append.1 hp).2.1).1 j e
        omega
    subst hrj
    have hy : y = stepA a r := rank_inj (by rw [he, step_rank h hk])
    refine ⟨r, R, rfl, hy, ?_, fun i hi => ?_⟩
    · have := h3.2.2.2
      rw [covS_append, not_or, ← coveredD_iff h1, Bool.not_eq_true] at this
      exact this.1
    · have hik : i ≤ k := ((freeJ_mem h).1 (by rw [hF]; exact List.mem_append_left _ hi)).1
      have hlt := (List.pairwise_append.1 hp).2.2 i hi r hj
      unfold belowA
      rw [hy, Bool.and_eq_true, beq_iff_eq, less_rank, step_rank h hik, step_rank h hk]
      exact ⟨rfl, by omega⟩
theorem freeB_eq (a : Ad) (A : List Sp) (j : Nat) : freeB a A j = (rightA (stepA a j) && !coveredD A (stepA a j)) := rfl
theorem takS_snoc (a : Ad) (L : List Nat) (j : Nat) : takS a (L ++ [j]) = takS a L ++ [(stepA a j, stepA a j)] := by unfold takS; simp
theorem takS_len (a : Ad) (L : List Nat) : (takS a L).length = L.length := by unfold takS; simp
end Go.Proofs.Try.Gp
