/- Plain laws on filters as lists of bytes: which bits are set, how many, when two are one. -/
import Derived.Test.YtgpogkibldlgbaaRMake
namespace Go.Proofs.Try
open Go.RowKit Go.Cph

def Hit (M : Nat) (keys : List ByteArray) (m : Nat) : Prop := ∃ key ∈ keys, ∃ t, t < 6 ∧ m = prN (hashU key.data.toList) M t
theorem bitL_zero (n m : Nat) : bitL (List.replicate n 0) m = false := by
  unfold bitL
  have : (List.replicate n (0 : UInt8)).getD (m / 8) 0 = 0 := by
    rw [List.getD_eq_getElem?_getD, List.getElem?_replicate]
    split <;> rfl
  rw [this]
  simp
theorem bitL_addTo (h : UInt64) (M : Nat) (bs : List UInt8) (hM : M = 8 * bs.length) (h1 : 1 ≤ M) (k m : Nat) :
    bitL (addTo h M bs k) m = true ↔ bitL bs m = true ∨ ∃ t, t < k ∧ m = prN h M t := by
  induction k with
  | zero => simp [addTo]
  | succ k ih =>
    have hq := prN_lt h M k h1
    rw [addTo_succ, bitL_orBit _ _ _ (by rw [addTo_length]; omega), Bool.or_eq_true, ih, decide_eq_true_eq]
    constructor
    · rintro ((h | ⟨t, ht, rfl⟩) | rfl)
      · exact .inl h
      · exact .inr ⟨t, by omega, rfl⟩
      · exact .inr ⟨k, by omega, rfl⟩
    · rintro (h | ⟨t, ht, rfl⟩)
      · exact .inl (.inl h)
      · by_cases htk : t = k
        · subst htk; exact .inr rfl
        · exact .inl (.inr ⟨t, by omega, rfl⟩)
theorem sizeF_pos (n : Nat) : 8 ≤ sizeF n := by unfold sizeF; omega
theorem bitL_makeTo (keys : List ByteArray) (k : Nat) (hk : k ≤ keys.length) (m : Nat) :
    bitL (makeTo keys k) m = true ↔ Hit (8 * sizeF keys.length) (keys.take k) m := by
  have hp := sizeF_pos keys.length
  induction k with
  | zero => simp [makeTo, bitL_zero, Hit]
  | succ k ih =>
    have hlen := makeTo_length keys k (by omega)
    have ih' := ih (by omega)
    rw [makeTo_succ keys k (by omega), addKey, List.take_succ_eq_append_getElem (by omega)]
    refine (bitL_addTo _ _ _ (by rw [hlen]) (by omega) 6 m).trans ?_
    unfold Hit at *
    constructor
    · rintro (h0 | h)
      · obtain ⟨key, hkey, h⟩ := ih'.1 h0
        exact ⟨key, List.mem_append.2 (.inl hkey), h⟩
      · exact ⟨keys[k], List.mem_append.2 (.inr (List.mem_singleton.2 rfl)), h⟩
    · rintro ⟨key, hkey, h⟩
      rcases List.mem_append.1 hkey with hk' | hk'
      · exact .inl (ih'.2 ⟨key, hk', h⟩)
      · rw [List.mem_singleton] at hk'
        subst hk'
        exact .inr h
theorem bitL_makeL (keys : List ByteArray) (m : Nat) : bitL (makeL keys) m = true ↔ Hit (8 * sizeF keys.length) keys m := by
  have := bitL_makeTo keys keys.length (Nat.le_refl _) m
  rwa [List.take_length] at this
theorem makeL_length (keys : List ByteArray) : (makeL keys).length = sizeF keys.length := makeTo_length keys _ (Nat.le_refl _)
theorem bytes_ext (a b : List UInt8) (hl : a.length = b.length) (h : ∀ m, bitL a m = bitL b m) : a = b := by
  apply List.ext_getElem hl
  intro i h1 h2
  apply UInt8.toNat_inj.1
  apply Nat.eq_of_testBit_eq
  intro j
  by_cases hj : j < 8
  · have := h (8 * i + j)
    rw [bitL_part a i j hj, bitL_part b i j hj] at this
    simpa [List.getD_eq_getElem?_getD, h1, h2] using this
  · rw [Nat.testBit_lt_two_pow (Nat.lt_of_lt_of_le a[i].toNat_lt (Nat.pow_le_pow_right (by decide) (by omega))), Nat.testBit_lt_two_pow (Nat.lt_of_lt_of_le b[i].toNat_lt (Nat.pow_le_pow_right (by decide) (by omega)))]
/-- One filter, if the keys are the same, and as many. -/
theorem makeL_same (a b : List ByteArray) (hl : a.length = b.length) (h : ∀ x, x ∈ a ↔ x ∈ b) : makeL a = makeL b := by
  refine bytes_ext _ _ (by rw [makeL_length, makeL_length, hl]) fun m => ?_
  rw [Bool.eq_iff_iff, bitL_makeL, bitL_makeL, hl]
  unfold Hit
  constructor
  · rintro ⟨key, hk, h'⟩; exact ⟨key, (h key).1 hk, h'⟩
  · rintro ⟨key, hk, h'⟩; exact ⟨key, (h key).2 hk, h'⟩
theorem makeL_part (a b : List ByteArray) (hl : a.length = b.length) (h : ∀ x, x ∈ a → x ∈ b) (m : Nat) (hm : bitL (makeL a) m = true) : bitL (makeL b) m = true := by
  rw [bitL_makeL] at *
  rw [← hl]
  obtain ⟨key, hk, h'⟩ := hm
  exact ⟨key, h key hk, h'⟩
theorem bitB_mk (bs : List UInt8) (m : Nat) : bitB ⟨bs.toArray⟩ m = bitL bs m := rfl
theorem size_mk (bs : List UInt8) : (⟨bs.toArray⟩ : ByteArray).size = bs.length := by show bs.toArray.size = _; simp
/-- None is missed. -/
theorem may_made (keys : List ByteArray) (key : ByteArray) (hk : key ∈ keys) : mayB ⟨(makeL keys).toArray⟩ key = true := by
  have hp := sizeF_pos keys.length
  unfold mayB mayTo
  rw [size_mk, makeL_length]
  simp only [Bool.and_eq_true, bne_iff_ne, ne_eq, List.all_eq_true, List.mem_range]
  refine ⟨by omega, fun t ht => ?_⟩
  rw [bitB_mk, bitL_makeL]
  exact ⟨key, hk, t, ht, rfl⟩
/-- How many of the first m bits are 1. -/
def cnt (bs : List UInt8) (m : Nat) : Nat := (List.range m).countP (bitL bs)
theorem cnt_succ (bs : List UInt8) (m : Nat) : cnt bs (m + 1) = cnt bs m + (if bitL bs m then 1 else 0) := by
  simp [cnt, List.range_succ, List.countP_append, List.countP_cons]
theorem cnt_or (bs : List UInt8) (q : Nat) (hq : q / 8 < bs.length) (m : Nat) : cnt (orBit bs q) m ≤ cnt bs m + (if q < m then 1 else 0) := by
  induction m with
  | zero => simp [cnt]
  | succ m ih =>
    rw [cnt_succ, cnt_succ, bitL_orBit bs q m hq]
    by_cases hqm : m = q
    · subst hqm
      rw [if_neg (show ¬ m < m by omega)] at ih
      rw [if_pos (show m < m + 1 by omega)]
      simp only [decide_true, Bool.or_true, if_true]
      omega
    · simp only [hqm, decide_false, Bool.or_false]
      by_cases h1 : q < m
      · rw [if_pos h1] at ih
        rw [if_pos (show q < m + 1 by omega)]
        omega
      · rw [if_neg h1] at ih
        rw [if_neg (show ¬ q < m + 1 by omega)]
        omega
theorem cnt_addTo (h : UInt64) (M : Nat) (bs : List UInt8) (hM : M = 8 * bs.length) (h1 : 1 ≤ M) (k m : Nat) : cnt (addTo h M bs k) m ≤ cnt bs m + k := by
  induction k with
  | zero => simp [addTo]
  | succ k ih =>
    have hq := prN_lt h M k h1
    rw [addTo_succ]
    have := cnt_or (addTo h M bs k) (prN h M k) (by rw [addTo_length]; omega) m
    split at this <;> omega
theorem cnt_makeTo (keys : List ByteArray) (k : Nat) (hk : k ≤ keys.length) (m : Nat) : cnt (makeTo keys k) m ≤ 6 * k := by
  have hp := sizeF_pos keys.length
  induction k with
  | zero =>
    have : cnt (makeTo keys 0) m = 0 := by
      simp only [cnt, List.countP_eq_zero, List.mem_range]
      intro a _
      have := bitL_zero (sizeF keys.length) a
      simpa [makeTo] using this
    omega
  | succ k ih =>
    have hlen := makeTo_length keys k (by omega)
    rw [makeTo_succ keys k (by omega), addKey]
    have := cnt_addTo (hashU keys[k].data.toList) (8 * sizeF keys.length) (makeTo keys k) (by rw [hlen]) (by omega) 6 m
    have := ih (by omega)
    omega
theorem cnt_makeL (keys : List ByteArray) (m : Nat) : cnt (makeL keys) m ≤ 6 * keys.length := cnt_makeTo keys _ (Nat.le_refl _) m
theorem cnt_le (bs : List UInt8) (m : Nat) : cnt bs m ≤ m := by
  unfold cnt; have := List.countP_le_length (l := List.range m) (p := bitL bs); simpa using this
end Go.Proofs.Try
