/- Addresses and prefixes, plainly: numbers of bits cut off, what lies within what. No program in sight. -/
namespace Go.Cph.Px

abbrev Ad := UInt8 × UInt64 × UInt64
abbrev Pf := Ad × Int
def zeroA : Ad := (0, 0, 0)
def zeroP : Pf := (zeroA, 0)
def num (a : Ad) : Nat := a.2.1.toNat * 18446744073709551616 + a.2.2.toNat
def rightA (a : Ad) : Bool := a.1 == 6 || (a.1 == 4 && (a.2.1 == 0 && decide (a.2.2.toNat ≤ 4294967295)))
def width (f : UInt8) : Int := if f = 4 then 32 else 128
def lessA (a b : Ad) : Bool := decide (a.1.toNat < b.1.toNat) || (a.1 == b.1 && (decide (a.2.1.toNat < b.2.1.toNat) || (a.2.1 == b.2.1 && decide (a.2.2.toNat < b.2.2.toNat))))
/-- The lowest k bits (at most 64) of a word are cut off. -/
def clear (x : UInt64) (k : Nat) : UInt64 := UInt64.ofNat (x.toNat / 2 ^ k * 2 ^ k)
def cutA (a : Ad) (k : Nat) : Ad := if 64 ≤ k then (a.1, clear a.2.1 (k - 64), 0) else (a.1, a.2.1, clear a.2.2 k)
def fits (a : Ad) (bits : Int) : Bool := rightA a && (decide (0 ≤ bits) && decide (bits ≤ width a.1))
def rest (a : Ad) (bits : Int) : Nat := (width a.1 - bits).toNat
def cutP (a : Ad) (bits : Int) : Pf := if fits a bits then (cutA a (rest a bits), bits) else zeroP
def rightP (p : Pf) : Bool := fits p.1 p.2 && cutA p.1 (rest p.1 p.2) == p.1
def hasP (p : Pf) (a : Ad) : Bool := fits a p.2 && cutA a (rest a p.2) == p.1
def within (p q : Pf) : Bool := rightP p && (decide (q.2 ≤ p.2) && hasP q p.1)
def meets (p q : Pf) : Bool := within p q || within q p
def before (p q : Pf) : Bool := lessA p.1 q.1 || (p.1 == q.1 && decide (p.2 < q.2))

theorem clear_toNat (x : UInt64) (k : Nat) : (clear x k).toNat = x.toNat / 2 ^ k * 2 ^ k := by
  unfold clear
  have h := Nat.div_mul_le_self x.toNat (2 ^ k)
  have := x.toNat_lt
  rw [UInt64.toNat_ofNat', Nat.mod_eq_of_lt (by omega)]
theorem num_lt (a : Ad) : num a < 2 ^ 128 := by
  unfold num
  have := a.2.1.toNat_lt
  have := a.2.2.toNat_lt
  omega
theorem cutA_fam (a : Ad) (k : Nat) : (cutA a k).1 = a.1 := by unfold cutA; split <;> rfl
theorem num_cutA (a : Ad) (k : Nat) (hk : k ≤ 128) : num (cutA a k) = num a / 2 ^ k * 2 ^ k := by
  have h1 := a.2.1.toNat_lt
  have h2 := a.2.2.toNat_lt
  unfold cutA num
  split
  · rename_i h
    obtain ⟨j, rfl⟩ : ∃ j, k = 64 + j := ⟨k - 64, by omega⟩
    simp only [Nat.add_sub_cancel_left, clear_toNat]
    have e : (18446744073709551616 : Nat) = 2 ^ 64 := rfl
    have e2 : (0 : UInt64).toNat = 0 := rfl
    rw [e, e2, Nat.add_zero, Nat.pow_add, ← Nat.div_div_eq_div_mul, Nat.mul_comm (a.2.1.toNat) (2 ^ 64), Nat.mul_add_div (by decide), Nat.div_eq_of_lt h2, Nat.add_zero, Nat.mul_assoc, Nat.mul_comm (2 ^ j)]
  · rename_i h
    simp only [clear_toNat]
    have hp : (18446744073709551616 : Nat) = 2 ^ (64 - k) * 2 ^ k := by rw [← Nat.pow_add, Nat.sub_add_cancel (by omega)]
    have h3 : (a.2.1.toNat * 2 ^ (64 - k) * 2 ^ k + a.2.2.toNat) / 2 ^ k = a.2.1.toNat * 2 ^ (64 - k) + a.2.2.toNat / 2 ^ k := by
      rw [Nat.add_comm, Nat.add_mul_div_right _ _ (Nat.pow_pos (by decide)), Nat.add_comm]
    rw [hp, ← Nat.mul_assoc, h3, Nat.add_mul]
theorem ad_ext {a b : Ad} (h1 : a.1 = b.1) (h2 : num a = num b) : a = b := by
  obtain ⟨f, x, y⟩ := a
  obtain ⟨g, u, v⟩ := b
  simp only [num] at h1 h2
  have := x.toNat_lt
  have := y.toNat_lt
  have := u.toNat_lt
  have := v.toNat_lt
  have hx : x.toNat = u.toNat := by omega
  have hy : y.toNat = v.toNat := by omega
  rw [h1, UInt64.toNat_inj.1 hx, UInt64.toNat_inj.1 hy]
theorem width_pos (f : UInt8) : 0 ≤ width f ∧ width f ≤ 128 := by unfold width; split <;> omega
theorem rest_le (a : Ad) {bits : Int} (h : 0 ≤ bits) : rest a bits ≤ 128 := by have := width_pos a.1; unfold rest; omega
theorem fits_iff {a : Ad} {bits : Int} : fits a bits = true ↔ rightA a = true ∧ 0 ≤ bits ∧ bits ≤ width a.1 := by simp [fits]
/-- Nothing is cut: the number is a multiple. -/
theorem cutA_self {a : Ad} {k : Nat} (hk : k ≤ 128) : cutA a k = a ↔ num a / 2 ^ k * 2 ^ k = num a :=
  ⟨fun h => by rw [← num_cutA a k hk, h], fun h => ad_ext (cutA_fam a k) (by rw [num_cutA a k hk, h])⟩
theorem cutA_eq {a b : Ad} {k : Nat} (hk : k ≤ 128) : cutA a k = b ↔ a.1 = b.1 ∧ num a / 2 ^ k * 2 ^ k = num b :=
  ⟨fun h => ⟨by rw [← h, cutA_fam], by rw [← h, num_cutA a k hk]⟩, fun ⟨h1, h2⟩ => ad_ext ((cutA_fam a k).trans h1) (by rw [num_cutA a k hk, h2])⟩

/-- A prefix that is right, by numbers: so many bits are free, and all of them are 0. -/
structure Rt (p : Pf) : Prop where
  ad : rightA p.1 = true
  lo : 0 ≤ p.2
  hi : p.2 ≤ width p.1.1
  al : num p.1 / 2 ^ rest p.1 p.2 * 2 ^ rest p.1 p.2 = num p.1
theorem rightP_iff {p : Pf} : rightP p = true ↔ Rt p := by
  unfold rightP
  rw [Bool.and_eq_true, fits_iff, beq_iff_eq]
  constructor
  · rintro ⟨⟨h1, h2, h3⟩, h4⟩
    exact ⟨h1, h2, h3, (cutA_self (rest_le _ h2)).1 h4⟩
  · rintro ⟨h1, h2, h3, h4⟩
    exact ⟨⟨h1, h2, h3⟩, (cutA_self (rest_le _ h2)).2 h4⟩
/-- An address in a prefix, by numbers. -/
theorem hasP_iff {p : Pf} {a : Ad} : hasP p a = true ↔ rightA a = true ∧ 0 ≤ p.2 ∧ p.2 ≤ width a.1 ∧ a.1 = p.1.1 ∧ num a / 2 ^ rest a p.2 * 2 ^ rest a p.2 = num p.1 := by
  unfold hasP
  rw [Bool.and_eq_true, fits_iff, beq_iff_eq]
  constructor
  · rintro ⟨⟨h1, h2, h3⟩, h4⟩
    exact ⟨h1, h2, h3, (cutA_eq (rest_le _ h2)).1 h4⟩
  · rintro ⟨h1, h2, h3, h4⟩
    exact ⟨⟨h1, h2, h3⟩, (cutA_eq (rest_le _ h2)).2 h4⟩
theorem rightA_iff {a : Ad} : rightA a = true ↔ a.1 = 6 ∨ (a.1 = 4 ∧ num a < 4294967296) := by
  unfold rightA num
  have := a.2.2.toNat_lt
  simp only [Bool.or_eq_true, Bool.and_eq_true, beq_iff_eq, decide_eq_true_eq]
  refine or_congr Iff.rfl (and_congr Iff.rfl ?_)
  constructor
  · rintro ⟨h, h2⟩
    rw [h]
    have e : (0 : UInt64).toNat = 0 := rfl
    omega
  · intro h
    exact ⟨UInt64.toNat_inj.1 (by have e : (0 : UInt64).toNat = 0 := rfl; omega), by omega⟩
theorem rest_congr {a b : Ad} (h : a.1 = b.1) (bits : Int) : rest a bits = rest b bits := by unfold rest; rw [h]
theorem floor_floor (n : Nat) {k j : Nat} (h : k ≤ j) : n / 2 ^ k * 2 ^ k / 2 ^ j = n / 2 ^ j := by
  obtain ⟨d, rfl⟩ : ∃ d, j = k + d := ⟨j - k, by omega⟩
  rw [Nat.pow_add, ← Nat.div_div_eq_div_mul, Nat.mul_div_cancel _ (Nat.pow_pos (by decide)), Nat.div_div_eq_div_mul]
/-- An address in a prefix, by the prefix's own number of free bits. -/
structure Hs (p : Pf) (a : Ad) : Prop where
  ad : rightA a = true
  lo : 0 ≤ p.2
  hi : p.2 ≤ width p.1.1
  fam : a.1 = p.1.1
  eq : num a / 2 ^ rest p.1 p.2 * 2 ^ rest p.1 p.2 = num p.1
theorem has_iff {p : Pf} {a : Ad} : hasP p a = true ↔ Hs p a := by
  rw [hasP_iff]
  constructor
  · rintro ⟨h1, h2, h3, h4, h5⟩
    exact ⟨h1, h2, by rw [← h4]; exact h3, h4, by rw [← rest_congr h4]; exact h5⟩
  · rintro ⟨h1, h2, h3, h4, h5⟩
    exact ⟨h1, h2, by rw [h4]; exact h3, h4, by rw [rest_congr h4]; exact h5⟩
theorem Hs.right {p : Pf} {a : Ad} (h : Hs p a) : Rt p := by
  refine ⟨?_, h.lo, h.hi, ?_⟩
  · rcases rightA_iff.1 h.ad with h1 | ⟨h1, h2⟩
    · exact rightA_iff.2 (.inl (by rw [← h.fam]; exact h1))
    · refine rightA_iff.2 (.inr ⟨by rw [← h.fam]; exact h1, ?_⟩)
      have := Nat.div_mul_le_self (num a) (2 ^ rest p.1 p.2)
      rw [← h.eq]; omega
  · rw [← h.eq, floor_floor _ (Nat.le_refl _)]
theorem Hs.of_right {p : Pf} (h : Rt p) : Hs p p.1 := ⟨h.ad, h.lo, h.hi, rfl, h.al⟩
theorem within_iff {p q : Pf} : within p q = true ↔ Rt p ∧ q.2 ≤ p.2 ∧ Hs q p.1 := by
  unfold within
  rw [Bool.and_eq_true, Bool.and_eq_true, rightP_iff, has_iff, decide_eq_true_eq]
theorem rest_anti {a : Ad} {m n : Int} (h : m ≤ n) : rest a n ≤ rest a m := by unfold rest; omega
/-- Two that have an address: the smaller one lies within the other one. -/
theorem within_of_has {p q : Pf} {a : Ad} (hp : Hs p a) (hq : Hs q a) (h : q.2 ≤ p.2) : within p q = true := by
  refine within_iff.2 ⟨hp.right, h, hp.right.ad, hq.lo, hq.hi, by rw [← hp.fam, hq.fam], ?_⟩
  have hf : p.1.1 = q.1.1 := by rw [← hp.fam, hq.fam]
  rw [← hq.eq, ← hp.eq, floor_floor _ (by rw [rest_congr hf]; exact rest_anti h)]
theorem within_refl {p : Pf} (h : Rt p) : within p p = true := within_iff.2 ⟨h, by omega, .of_right h⟩
theorem has_of_within {p q : Pf} {a : Ad} (h : within p q = true) (ha : Hs p a) : Hs q a := by
  obtain ⟨h1, h2, h3⟩ := within_iff.1 h
  have hf : p.1.1 = q.1.1 := h3.fam
  refine ⟨ha.ad, h3.lo, h3.hi, by rw [ha.fam, hf], ?_⟩
  rw [← h3.eq, ← ha.eq, floor_floor _ (by rw [rest_congr hf]; exact rest_anti h2)]
theorem within_trans {p q r : Pf} (h : within p q = true) (k : within q r = true) : within p r = true := by
  obtain ⟨h1, h2, h3⟩ := within_iff.1 h
  obtain ⟨k1, k2, k3⟩ := within_iff.1 k
  exact within_iff.2 ⟨h1, by omega, has_of_within k h3⟩
theorem within_eq {p q : Pf} (h : within p q = true) (hb : p.2 = q.2) : p = q := by
  obtain ⟨h1, h2, h3⟩ := within_iff.1 h
  refine Prod.ext (ad_ext h3.fam ?_) hb
  have e := h3.eq
  have hf : p.1.1 = q.1.1 := h3.fam
  rw [← hb, ← rest_congr hf, h1.al] at e
  exact e
theorem within_anti {p q : Pf} (h : within p q = true) (k : within q p = true) : p = q := by
  have h2 := (within_iff.1 h).2.1
  have k2 := (within_iff.1 k).2.1
  exact within_eq h (by omega)
theorem within_nest {x p q : Pf} (h : within x p = true) (k : within x q = true) (hb : q.2 ≤ p.2) : within p q = true :=
  within_of_has (within_iff.1 h).2.2 (within_iff.1 k).2.2 hb
theorem meets_iff {p q : Pf} : meets p q = true ↔ within p q = true ∨ within q p = true := by simp [meets]

/-! ### the order -/
theorem lessA_iff {a b : Ad} : lessA a b = true ↔ a.1.toNat * 2 ^ 128 + num a < b.1.toNat * 2 ^ 128 + num b := by
  obtain ⟨f, x, y⟩ := a
  obtain ⟨g, u, v⟩ := b
  have h1 := x.toNat_lt
  have h2 := y.toNat_lt
  have h3 := u.toNat_lt
  have h4 := v.toNat_lt
  simp only [lessA, num, Bool.or_eq_true, Bool.and_eq_true, decide_eq_true_eq, beq_iff_eq, ← UInt8.toNat_inj, ← UInt64.toNat_inj]
  omega
def rank (a : Ad) : Nat := a.1.toNat * 2 ^ 128 + num a
theorem less_rank {a b : Ad} : lessA a b = true ↔ rank a < rank b := lessA_iff
theorem rank_inj {a b : Ad} (h : rank a = rank b) : a = b := by
  unfold rank at h
  have := num_lt a
  have := num_lt b
  exact ad_ext (UInt8.toNat_inj.1 (by omega)) (by omega)
theorem before_iff {p q : Pf} : before p q = true ↔ rank p.1 < rank q.1 ∨ (rank p.1 = rank q.1 ∧ p.2 < q.2) := by
  unfold before
  rw [Bool.or_eq_true, Bool.and_eq_true, less_rank, beq_iff_eq, decide_eq_true_eq]
  exact or_congr Iff.rfl (and_congr ⟨fun h => by rw [h], rank_inj⟩ Iff.rfl)
theorem before_irrefl (p : Pf) : before p p = false := by
  rw [Bool.eq_false_iff]; intro h
  have := before_iff.1 h
  omega
theorem before_trans {p q r : Pf} (h : before p q = true) (k : before q r = true) : before p r = true := by
  have := before_iff.1 h
  have := before_iff.1 k
  exact before_iff.2 (by omega)
theorem before_total {p q : Pf} (h : before p q = false) (k : before q p = false) : p = q := by
  have h1 : ¬ _ := fun h' => (Bool.eq_false_iff.1 h) (before_iff.2 h')
  have k1 : ¬ _ := fun h' => (Bool.eq_false_iff.1 k) (before_iff.2 h')
  exact Prod.ext (rank_inj (by omega)) (by omega)
theorem before_asymm {p q : Pf} (h : before p q = true) : before q p = false := by
  rw [Bool.eq_false_iff]; intro k
  have := before_iff.1 h
  have := before_iff.1 k
  omega
end Go.Cph.Px
