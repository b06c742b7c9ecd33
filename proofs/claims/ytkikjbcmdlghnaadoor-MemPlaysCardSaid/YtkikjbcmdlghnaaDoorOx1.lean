/- Keys of numbers and texts: their bytes, plainly: rows of numbers. No program here. -/
import Derived.Test.YtkikjbcmdlghnaaDoorLib
import Derived.Lib.BitFns
set_option linter.unusedVariables false
namespace Go.Cph.Ok
open Go Go.RowKit Go.Cph

abbrev Bs := List UInt8
/-- A number's last bytes, the greatest first. -/
def be : Nat → Nat → Bs
  | 0, _ => []
  | k + 1, n => UInt8.ofNat (n / 256 ^ k) :: be k n
/-- How many bytes a number needs. -/
def blen (n : Nat) : Nat := if h : n = 0 then 0 else blen (n / 256) + 1
termination_by n
decreasing_by omega
def row (n : Nat) : Bs := if n < 248 then [UInt8.ofNat n] else UInt8.ofNat (247 + blen n) :: be (blen n) n
def val (l : Bs) : Nat := l.foldl (fun n c => 256 * n + c.toNat) 0

theorem p8 : (256 : Nat) ^ 8 = 18446744073709551616 := by decide
theorem p64 : (2 : Nat) ^ 64 = 18446744073709551616 := by decide
theorem snoc_ind {α : Type} {P : List α → Prop} (h0 : P []) (hs : ∀ l c, P l → P (l ++ [c])) (l : List α) : P l := by
  have h : ∀ m : List α, P m.reverse := by
    intro m
    induction m with
    | nil => exact h0
    | cons c m ih => rw [List.reverse_cons]; exact hs _ _ ih
  have := h l.reverse
  rwa [List.reverse_reverse] at this
theorem be_len : ∀ k n, (be k n).length = k
  | 0, _ => rfl
  | k + 1, n => by rw [be, List.length_cons, be_len k n]
theorem blen_zero : blen 0 = 0 := by rw [blen]; rfl
theorem blen_pos {n : Nat} (h : n ≠ 0) : blen n = blen (n / 256) + 1 := by rw [blen, dif_neg h]
theorem blen_lt (n : Nat) : n < 256 ^ blen n := by
  induction n using Nat.strongRecOn with
  | _ n ih =>
    by_cases h : n = 0
    · subst h; rw [blen_zero]; decide
    · rw [blen_pos h, Nat.pow_succ]
      have := ih (n / 256) (by omega)
      omega
theorem blen_ge {n k : Nat} (h : blen n = k + 1) : 256 ^ k ≤ n := by
  induction n using Nat.strongRecOn generalizing k with
  | _ n ih =>
    by_cases h0 : n = 0
    · subst h0; rw [blen_zero] at h; cases h
    · rw [blen_pos h0] at h
      have h1 : blen (n / 256) = k := by omega
      cases k with
      | zero => show 1 ≤ n; omega
      | succ k =>
        have := ih (n / 256) (by omega) h1
        rw [Nat.pow_succ]
        omega
theorem blen_of {n k : Nat} (h1 : 256 ^ k ≤ n) (h2 : n < 256 ^ (k + 1)) : blen n = k + 1 := by
  have hl := blen_lt n
  cases hb : blen n with
  | zero => rw [hb] at hl; have : 0 < 256 ^ k := Nat.pow_pos (by omega); simp at hl; omega
  | succ j =>
    have hg := blen_ge hb
    rw [hb] at hl
    have a1 : ¬ j + 1 ≤ k := fun hc => by
      have := Nat.pow_le_pow_right (show 0 < 256 by omega) hc; omega
    have a2 : ¬ k + 1 ≤ j := fun hc => by
      have := Nat.pow_le_pow_right (show 0 < 256 by omega) hc; omega
    omega
theorem blen_le {n k : Nat} (h : n < 256 ^ k) : blen n ≤ k := by
  cases hb : blen n with
  | zero => omega
  | succ j =>
    have hg := blen_ge hb
    have : ¬ k ≤ j := fun hc => by
      have := Nat.pow_le_pow_right (show 0 < 256 by omega) hc; omega
    omega
theorem blen_8 {n : Nat} (h : n < 18446744073709551616) : blen n ≤ 8 := blen_le (by rw [p8]; exact h)
theorem blen_1 {n : Nat} (h : 0 < n) : 1 ≤ blen n := by rw [blen_pos (by omega)]; omega
/-- The bytes one by one, from the end on. -/
theorem be_snoc : ∀ k n, be (k + 1) n = be k (n / 256) ++ [UInt8.ofNat n]
  | 0, n => by simp [be]
  | k + 1, n => by
    have ih := be_snoc k n
    show UInt8.ofNat (n / 256 ^ (k + 1)) :: be (k + 1) n = _
    rw [ih]
    show _ = (UInt8.ofNat (n / 256 / 256 ^ k) :: be k (n / 256)) ++ _
    rw [Nat.div_div_eq_div_mul, Nat.pow_succ, Nat.mul_comm 256]
    rfl
theorem val_snoc (l : Bs) (c : UInt8) : val (l ++ [c]) = 256 * val l + c.toNat := by unfold val; rw [List.foldl_append]; rfl
theorem ofNat_toNat (n : Nat) : (UInt8.ofNat n).toNat = n % 256 := UInt8.toNat_ofNat'
theorem val_be : ∀ k n, n < 256 ^ k → val (be k n) = n
  | 0, n, h => by have : n = 0 := by simpa using h
                  subst this; rfl
  | k + 1, n, h => by
    rw [be_snoc, val_snoc, val_be k (n / 256) (by rw [Nat.pow_succ] at h; omega), ofNat_toNat]
    omega
theorem val_lt (l : Bs) : val l < 256 ^ l.length := by
  refine snoc_ind (P := fun l => val l < 256 ^ l.length) (by decide) (fun l c ih => ?_) l
  rw [val_snoc, List.length_append, List.length_singleton, Nat.pow_succ]
  have := c.toNat_lt
  omega
theorem be_val (l : Bs) : be l.length (val l) = l := by
  refine snoc_ind (P := fun l => be l.length (val l) = l) rfl (fun l c ih => ?_) l
  have hc : c.toNat < 256 := c.toNat_lt
  rw [List.length_append, List.length_singleton, be_snoc, val_snoc, show (256 * val l + c.toNat) / 256 = val l by omega, ih]
  congr 2
  apply UInt8.toNat_inj.1
  rw [ofNat_toNat]; omega
/-- What is read of a row. -/
def readRow : Bs → Option (Nat × Nat)
  | [] => none
  | c :: t => if c.toNat < 248 then some (c.toNat, 1) else if t.length < c.toNat - 247 then none else
    if row (val (t.take (c.toNat - 247))) = c :: t.take (c.toNat - 247) then some (val (t.take (c.toNat - 247)), c.toNat - 247 + 1) else none
theorem readRow_cons (c : UInt8) (t : Bs) : readRow (c :: t) = if c.toNat < 248 then some (c.toNat, 1) else if t.length < c.toNat - 247 then none else
    if row (val (t.take (c.toNat - 247))) = c :: t.take (c.toNat - 247) then some (val (t.take (c.toNat - 247)), c.toNat - 247 + 1) else none := rfl
theorem row_len {n : Nat} : (row n).length = if n < 248 then 1 else blen n + 1 := by
  unfold row
  split
  · rfl
  · rw [List.length_cons, be_len]
theorem row_pos (n : Nat) : 0 < (row n).length := by rw [row_len]; split <;> omega
theorem row_le {n : Nat} (h : n < 18446744073709551616) : (row n).length ≤ 9 := by
  rw [row_len]; have := blen_8 h; split <;> omega
theorem read_row {n : Nat} (h : n < 18446744073709551616) (x : Bs) : readRow (row n ++ x) = some (n, (row n).length) := by
  have h8 := blen_8 h
  by_cases hs : n < 248
  · have e : row n = [UInt8.ofNat n] := by unfold row; rw [if_pos hs]
    have e2 : (UInt8.ofNat n).toNat = n := by rw [ofNat_toNat]; omega
    rw [e, List.cons_append, readRow_cons, e2, if_pos hs]; rfl
  · have e : row n = UInt8.ofNat (247 + blen n) :: be (blen n) n := by unfold row; rw [if_neg hs]
    have h1 := blen_1 (n := n) (by omega)
    have e2 : (UInt8.ofNat (247 + blen n)).toNat = 247 + blen n := by rw [ofNat_toNat]; omega
    have e3 : 247 + blen n - 247 = blen n := by omega
    have e4 : (be (blen n) n ++ x).take (blen n) = be (blen n) n := List.take_left' (be_len _ _)
    have e5 : val (be (blen n) n) = n := val_be _ _ (blen_lt n)
    rw [e, List.cons_append, readRow_cons, e2, if_neg (by omega), e3, if_neg (by rw [List.length_append, be_len]; omega), e4, e5, if_pos e, List.length_cons, be_len]
theorem row_read {s : Bs} {n k : Nat} (h : readRow s = some (n, k)) : 0 < k ∧ k ≤ s.length ∧ s.take k = row n ∧ n < 18446744073709551616 := by
  cases s with
  | nil => cases h
  | cons c t =>
    rw [readRow_cons] at h
    have hc : c.toNat < 256 := c.toNat_lt
    split at h
    · rename_i hs
      injection h with h
      injection h with h1 h2
      subst h1 h2
      refine ⟨by omega, by simp, ?_, by omega⟩
      unfold row
      rw [if_pos hs]
      show [c] = [UInt8.ofNat c.toNat]
      congr 1
      apply UInt8.toNat_inj.1
      rw [ofNat_toNat]; omega
    · rename_i hs
      split at h
      · cases h
      · rename_i hl
        split at h
        · rename_i hr
          injection h with h
          injection h with h1 h2
          subst h1 h2
          refine ⟨by omega, by simp; omega, by rw [hr]; rfl, ?_⟩
          have hv := val_lt (t.take (c.toNat - 247))
          have hlen : (t.take (c.toNat - 247)).length ≤ 8 := by rw [List.length_take]; omega
          exact Nat.lt_of_lt_of_le hv (by rw [← p8]; exact Nat.pow_le_pow_right (show 0 < 256 by omega) hlen)
        · cases h
/-- The program asks instead how many bytes the number needs. -/
def behind (n : Nat) : Nat := if n < 248 then 0 else blen n
theorem row_behind {c : UInt8} {t : Bs} (hc : 248 ≤ c.toNat) (hl : t.length = c.toNat - 247) : (row (val t) = c :: t) ↔ behind (val t) = t.length := by
  have hc2 : c.toNat < 256 := c.toNat_lt
  unfold row behind
  by_cases hs : val t < 248
  · rw [if_pos hs, if_pos hs]
    constructor
    · intro h
      have := congrArg List.length h
      simp only [List.length_cons, List.length_nil] at this
      omega
    · intro h; omega
  · rw [if_neg hs, if_neg hs]
    constructor
    · intro h
      have := congrArg List.length h
      simp only [List.length_cons, be_len] at this
      omega
    · intro h
      have h8 : t.length ≤ 8 := by omega
      rw [h, be_val]
      congr 1
      apply UInt8.toNat_inj.1
      rw [ofNat_toNat]; omega
/-- bits.Len64's bytes. -/
theorem bitLen_zero : Lib.bitLen 0 = 0 := rfl
theorem bitLen_step {n : Nat} (h0 : 0 < n) (h : n < 18446744073709551616) : Lib.bitLen n = 1 + Lib.bitLen (n / 2) := Lib.bitLen_half n (by omega) (by rw [p64]; exact h)
theorem bitLen_small {n : Nat} (h : n < 256) (h0 : 0 < n) : 1 ≤ Lib.bitLen n ∧ Lib.bitLen n ≤ 8 := by
  have := Lib.bitLen_le8 ⟨n, h⟩
  refine ⟨?_, this⟩
  rw [bitLen_step h0 (by omega)]; omega
theorem bitLen_blen {n : Nat} (h : n < 18446744073709551616) : (Lib.bitLen n + 7) / 8 = blen n := by
  induction n using Nat.strongRecOn with
  | _ n ih =>
    by_cases h0 : n = 0
    · subst h0; rw [blen_zero]; rfl
    · rw [blen_pos h0]
      by_cases hs : n < 256
      · have := bitLen_small hs (by omega)
        rw [show n / 256 = 0 by omega, blen_zero]
        omega
      · have h1 := ih (n / 256) (by omega) (by omega)
        have p256 : (2 : Nat) ^ 8 = 256 := by decide
        have h2 := Lib.bitLen_shift 8 n (by rw [p256]; omega) (by rw [p64]; exact h)
        rw [p256] at h2
        rw [h2]
        omega
end Go.Cph.Ok
