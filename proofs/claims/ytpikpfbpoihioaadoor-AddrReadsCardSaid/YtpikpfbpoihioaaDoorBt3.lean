/- The document's text, plainly: groups out of bytes, signs one by one. No program. -/
import Derived.Test.YtpikpfbpoihioaaDoorBt2
import Derived.Test.YtpikpfbpoihioaaDoorBz1
set_option linter.unusedVariables false
set_option linter.unusedSimpArgs false
namespace Go.Cph.Tx
open Go.Cph.Px (Ad rightA num bytesA bytesN rightA_iff)
open Go.Proofs.Tryd.Tx (zb)
theorem bytesA6 (hi lo : UInt64) : bytesA (6, hi, lo) = bytesN hi.toNat 8 ++ bytesN lo.toNat 8 := by
  rw [← Px.bytes16 6 hi lo]; rfl
theorem bytesA6_len (hi lo : UInt64) : (bytesA (6, hi, lo)).length = 16 := by rw [bytesA6, List.length_append, Px.bytesN_length, Px.bytesN_length]
theorem b_at (hi lo : UInt64) (j : Nat) (h : j < 16) : (bytesA (6, hi, lo)).getD j 0 = UInt8.ofNat (if j < 8 then hi.toNat / 256 ^ (7 - j) else lo.toNat / 256 ^ (15 - j)) := by
  rw [bytesA6, List.getD_eq_getElem?_getD]
  by_cases h8 : j < 8
  · rw [List.getElem?_append_left (by rw [Px.bytesN_length]; exact h8), Px.bytesN_at _ _ _ h8, if_pos h8]; rfl
  · rw [List.getElem?_append_right (by rw [Px.bytesN_length]; omega), Px.bytesN_length, Px.bytesN_at _ _ _ (by omega), if_neg h8, show 8 - 1 - (j - 8) = 15 - j from by omega]; rfl
theorem grp_bytes (hi lo : UInt64) (i : Nat) (h : i < 8) : 256 * ((bytesA (6, hi, lo)).getD (2 * i) 0).toNat + ((bytesA (6, hi, lo)).getD (2 * i + 1) 0).toNat = grp (6, hi, lo) i := by
  rw [b_at hi lo _ (by omega), b_at hi lo _ (by omega), UInt8.toNat_ofNat', UInt8.toNat_ofNat']
  unfold grp
  generalize hx : hi.toNat = x
  generalize hy : lo.toNat = y
  rcases (show i = 0 ∨ i = 1 ∨ i = 2 ∨ i = 3 ∨ i = 4 ∨ i = 5 ∨ i = 6 ∨ i = 7 by omega) with rfl | rfl | rfl | rfl | rfl | rfl | rfl | rfl
  all_goals simp [hx, hy]
  all_goals omega
theorem zb_eq (hi lo : UInt64) (i : Nat) (h : i < 8) : zb (bytesA (6, hi, lo)) i = zf (6, hi, lo) i := by
  have hg := grp_bytes hi lo i h
  unfold zb zf
  rw [← hg]
  generalize (bytesA (6, hi, lo)).getD (2 * i) 0 = a
  generalize (bytesA (6, hi, lo)).getD (2 * i + 1) 0 = b
  rw [Bool.eq_iff_iff]
  simp only [Bool.and_eq_true, beq_iff_eq]
  constructor
  · rintro ⟨rfl, rfl⟩; rfl
  · intro e
    exact ⟨UInt8.toNat_inj.1 (by show a.toNat = 0; omega), UInt8.toNat_inj.1 (by show b.toNat = 0; omega)⟩
theorem zb_zeroS (hi lo : UInt64) : zeroS (zb (bytesA (6, hi, lo))) 8 = zeroS (zf (6, hi, lo)) 8 := zeroS_congr 8 (Nat.le_refl _) (zb_eq hi lo)
theorem dtoks_succ (p m i : Nat) : dtoks p m (i + 1) = dtoks p m i ++ dtok p m i := by
  unfold dtoks; rw [List.range_succ, List.flatMap_append]; simp
theorem flat_step (w : Nat → Bs) (p m i : Nat) : flat w (dtoks p m (i + 1)) = flat w (dtoks p m i) ++ flat w (dtok p m i) := by rw [dtoks_succ, flat_append]
theorem flat_at (w : Nat → Bs) (p m i : Nat) (h : i < 8) : flat w (dtok p m i) = if 1 < m ∧ p ≤ i ∧ i < p + m then (if i = p then [58, 58] else []) else (if 0 < i ∧ (m < 2 ∨ i ≠ p + m) then [58] else []) ++ w i := by
  unfold dtok
  have h8 : i ≠ 8 := by omega
  split
  · split <;> rfl
  · rw [flat_append]
    congr 1
    · split <;> rfl
    · show (if i = 8 then [58] else w i) ++ [] = w i
      rw [if_neg h8, List.append_nil]
theorem joinC_snoc (c : UInt8) : ∀ (l : List Bs) (x : Bs), l ≠ [] → joinC c (l ++ [x]) = joinC c l ++ [c] ++ x := by
  intro l
  induction l with
  | nil => intro x h; exact absurd rfl h
  | cons a r ih =>
    intro x _
    cases r with
    | nil => show a ++ c :: x = a ++ [c] ++ x; simp
    | cons b t =>
      show a ++ c :: joinC c (b :: t ++ [x]) = a ++ c :: joinC c (b :: t) ++ [c] ++ x
      rw [ih x (by simp)]; simp
theorem flat_len (w : Nat → Bs) (hw : ∀ i, (w i).length ≤ 6) : ∀ l : List Nat, (flat w l).length ≤ 6 * l.length := by
  intro l
  induction l with
  | nil => exact Nat.le_refl _
  | cons a r ih =>
    show ((if a = 8 then [58] else w a) ++ flat w r).length ≤ _
    rw [List.length_append, List.length_cons]
    have := hw a
    split
    · simp; omega
    · omega
theorem dtok_len (p m i : Nat) : (dtok p m i).length ≤ 2 := by unfold dtok; split <;> split <;> simp
theorem dtoks_len (p m : Nat) : ∀ i, (dtoks p m i).length ≤ 2 * i := by
  intro i
  induction i with
  | zero => exact Nat.le_refl _
  | succ i ih => rw [dtoks_succ, List.length_append]; have := dtok_len p m i; omega
end Go.Cph.Tx
