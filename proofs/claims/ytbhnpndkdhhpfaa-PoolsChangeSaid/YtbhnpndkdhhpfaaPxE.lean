/- The program's prefixes: cut, right, has, within, ahead. -/
import Derived.Test.YtbhnpndkdhhpfaaPxD
set_option linter.unusedVariables false
set_option linter.unusedSimpArgs false
namespace Go.Proofs.Try.Pfx
open Go.RowKit Go.Cph Go.Cph.Px

theorem int_u8_eq {x c : UInt8} (h : x = c) : ((x.toNat : Int) == (c.toNat : Int)) = true := by rw [h]; simp
theorem int_u8_ne {x c : UInt8} (h : x ≠ c) : ((x.toNat : Int) == (c.toNat : Int)) = false := by rw [u8_eq]; simpa using h

set_option maxHeartbeats 1000000 in
theorem right (a : Ad) (w : World) : Calls Try.prog 67 #[encA a] w fun e w' => e = .returned (.bool (rightA a)) ∧ Below w.heap.size w w' := by
  obtain ⟨f, hi, lo⟩ := a
  have hc : f = 6 ∨ (f ≠ 6 ∧ f ≠ 4) ∨ (f = 4 ∧ hi ≠ 0) ∨ (f = 4 ∧ hi = 0 ∧ lo.toNat ≤ 4294967295) ∨ (f = 4 ∧ hi = 0 ∧ ¬ lo.toNat ≤ 4294967295) := by
    by_cases h6 : f = 6
    · exact .inl h6
    · by_cases h4 : f = 4
      · by_cases hh : hi = 0
        · by_cases hl : lo.toNat ≤ 4294967295
          · exact .inr (.inr (.inr (.inl ⟨h4, hh, hl⟩)))
          · exact .inr (.inr (.inr (.inr ⟨h4, hh, hl⟩)))
        · exact .inr (.inr (.inl ⟨h4, hh⟩))
      · exact .inr (.inl ⟨h6, h4⟩)
  have key : ∀ (b : Bool) (w' : World), rightA (f, hi, lo) = b → Below w.heap.size w w' → (Ending.returned (.bool b) = .returned (.bool (rightA (f, hi, lo))) ∧ Below w.heap.size w w') := fun b w' h k => ⟨by rw [h], k⟩
  have KEY := Lib.hid key
  clear key
  rcases hc with h | ⟨h, k⟩ | ⟨h, k⟩ | ⟨h, k, l⟩ | ⟨h, k, l⟩
  · have hv := Lib.hid (show rightA (f, hi, lo) = true by simp [rightA, h])
    have z6 : ((f.toNat : Int) == 6) = true := int_u8_eq (c := 6) h
    clear h
    go_enter Try.func67, Try.ntmps67
    go_wp2_with fail
    go_ret
    exact KEY.out _ _ hv.out ((Below.refl _ _).alloc (Nat.le_refl _) _)
  · have hv := Lib.hid (show rightA (f, hi, lo) = false by simp [rightA, h, k])
    have z6 : ((f.toNat : Int) == 6) = false := int_u8_ne (c := 6) h
    have z4 : ((f.toNat : Int) == 4) = false := int_u8_ne (c := 4) k
    clear h k
    go_enter Try.func67, Try.ntmps67
    go_wp2_with fail
    go_ret
    exact KEY.out _ _ hv.out ((Below.refl _ _).alloc (Nat.le_refl _) _)
  · have hv := Lib.hid (show rightA (f, hi, lo) = false by simp [rightA, h, k])
    have z6 : ((f.toNat : Int) == 6) = false := int_u8_ne (c := 6) (by rw [h]; decide)
    have z4 : ((f.toNat : Int) == 4) = true := int_u8_eq (c := 4) h
    have zh : ((hi.toNat : Int) == 0) = false := by have := u64_eq hi 0; simp at this; simpa [this] using k
    clear h k
    go_enter Try.func67, Try.ntmps67
    go_wp2_with fail
    go_ret
    exact KEY.out _ _ hv.out ((Below.refl _ _).alloc (Nat.le_refl _) _)
  · have hv := Lib.hid (show rightA (f, hi, lo) = true by simp [rightA, h, k, l])
    have z6 : ((f.toNat : Int) == 6) = false := int_u8_ne (c := 6) (by rw [h]; decide)
    have z4 : ((f.toNat : Int) == 4) = true := int_u8_eq (c := 4) h
    have zh : ((hi.toNat : Int) == 0) = true := by rw [k]; rfl
    have zl : (lo.toNat : Int) ≤ 4294967295 := by omega
    clear h k
    go_enter Try.func67, Try.ntmps67
    go_wp2_with fail
    go_ret
    exact KEY.out _ _ hv.out ((Below.refl _ _).alloc (Nat.le_refl _) _)
  · have hv := Lib.hid (show rightA (f, hi, lo) = false by simp [rightA, h, k, l])
    have z6 : ((f.toNat : Int) == 6) = false := int_u8_ne (c := 6) (by rw [h]; decide)
    have z4 : ((f.toNat : Int) == 4) = true := int_u8_eq (c := 4) h
    have zh : ((hi.toNat : Int) == 0) = true := by rw [k]; rfl
    have zl : ¬ (lo.toNat : Int) ≤ 4294967295 := by omega
    clear h k
    go_enter Try.func67, Try.ntmps67
    go_wp2_with fail
    go_ret
    exact KEY.out _ _ hv.out ((Below.refl _ _).alloc (Nat.le_refl _) _)
set_option maxHeartbeats 400000 in
theorem width_any (f : UInt8) (w : World) : Calls Try.prog 68 #[.int .u8 (f.toNat : Int)] w fun e w' => e = .returned (.int .i64 (width f)) ∧ w = w' := by
  by_cases h : f = 4
  · have z4 : ((f.toNat : Int) == 4) = true := int_u8_eq (c := 4) h
    have hv := Lib.hid (show width f = 32 by unfold width; rw [if_pos h])
    clear h
    go_enter Try.func68, Try.ntmps68
    go_wp2_with fail
    go_ret
    exact ⟨ret_int hv.out.symm, rfl⟩
  · have z4 : ((f.toNat : Int) == 4) = false := int_u8_ne (c := 4) h
    have hv := Lib.hid (show width f = 128 by unfold width; rw [if_neg h])
    clear h
    go_enter Try.func68, Try.ntmps68
    go_wp2_with fail
    go_ret
    exact ⟨ret_int hv.out.symm, rfl⟩
/-- The masks of so many free bits. -/
def maskHi (k : Nat) : Int := ((2 ^ (k - 64) - 1 : Nat) : Int)
def maskLo (k : Nat) : Int := ((2 ^ min k 64 - 1 : Nat) : Int)
theorem wrap_mask (n : Nat) (h : n ≤ 64) : IntKind.u64.wrap (IntKind.u64.wrap (2 ^ n) - 1) = ((2 ^ n - 1 : Nat) : Int) := by
  rcases Nat.lt_or_ge n 64 with hlt | hge
  · have h1 : 2 ^ n < 2 ^ 64 := Nat.pow_lt_pow_right (by decide) hlt
    have h2 : 0 < 2 ^ n := Nat.pow_pos (by decide)
    have e : ((2 : Int) ^ n) = ((2 ^ n : Nat) : Int) := by simp
    rw [e]
    generalize 2 ^ n = x at *
    rw [IntWalk.u64_in (x : Int) (by omega), IntWalk.u64_in ((x : Int) - 1) (by omega)]
    omega
  · have : n = 64 := by omega
    subst this
    decide +kernel
theorem andNot_mask (x : Nat) (k : Nat) (hx : x < 2 ^ 64) (hk : k ≤ 64) : x &&& (18446744073709551615 - (2 ^ k - 1)) = x / 2 ^ k * 2 ^ k := by
  have e : 18446744073709551615 - (2 ^ k - 1) = 2 ^ 64 - ((2 ^ k - 1) + 1) := by
    have : 0 < 2 ^ k := Nat.pow_pos (by decide)
    omega
  rw [e]
  refine Nat.eq_of_testBit_eq fun i => ?_
  have hlt : 2 ^ k - 1 < 2 ^ 64 := by
    have h1 : 2 ^ k ≤ 2 ^ 64 := Nat.pow_le_pow_right (by decide) hk
    have : 0 < 2 ^ k := Nat.pow_pos (by decide)
    omega
  rw [Nat.testBit_and, Nat.testBit_two_pow_sub_succ hlt, Nat.testBit_two_pow_sub_one, Nat.testBit_mul_two_pow, Nat.testBit_div_two_pow]
  by_cases hi : k ≤ i
  · have : k + (i - k) = i := by omega
    rw [Nat.sub_add_cancel hi]
    by_cases h64 : i < 64
    · simp [hi, h64]
    · have : x.testBit i = false := Nat.testBit_lt_two_pow (Nat.lt_of_lt_of_le hx (Nat.pow_le_pow_right (by decide) (by omega)))
      simp [this]
  · have h2 : i < k := by omega
    simp [hi, h2]
theorem andNot_clear (x : UInt64) (k : Nat) (hk : k ≤ 64) : Go.bits .andNot .u64 (x.toNat : Int) ((2 ^ k - 1 : Nat) : Int) = ((clear x k).toNat : Int) := by
  have h1 : 2 ^ k ≤ 2 ^ 64 := Nat.pow_le_pow_right (by decide) hk
  have h2 : 0 < 2 ^ k := Nat.pow_pos (by decide)
  rw [u64_andNot_nat _ _ (by have := x.toNat_lt; omega) (by omega), andNot_mask _ _ (x.toNat_lt) hk, clear_toNat]
theorem clear_zero (x : UInt64) : clear x 0 = x := UInt64.toNat_inj.1 (by rw [clear_toNat]; simp)
theorem clear_all (x : UInt64) : clear x 64 = 0 := UInt64.toNat_inj.1 (by
  rw [clear_toNat, Nat.div_eq_of_lt x.toNat_lt]
  rfl)
theorem cutA_both (a : Ad) (k : Nat) : cutA a k = (a.1, clear a.2.1 (k - 64), clear a.2.2 (min k 64)) := by
  unfold cutA
  split
  · rename_i h
    rw [Nat.min_eq_right h, clear_all]
  · rename_i h
    rw [Nat.sub_eq_zero_of_le (by omega), clear_zero, Nat.min_eq_left (by omega)]
theorem bcell {W w1 : World} (hb : Below W.heap.size W w1) : (∀ b o, b < W.heap.size → w1.cell? ⟨b, o, none⟩ = W.cell? ⟨b, o, none⟩) ∧ (∀ b o, b < W.heap.size → w1.frozen? ⟨b, o, none⟩ = W.frozen? ⟨b, o, none⟩) :=
  ⟨fun b o h => hb.cell (p := ⟨b, o, none⟩) h, fun b o h => hb.frozen (p := ⟨b, o, none⟩) h⟩

set_option maxHeartbeats 1000000 in
theorem free_any (f : UInt8) (bits : Int) (w : World) (h0 : 0 ≤ bits) (h1 : bits ≤ width f) :
    Calls Try.prog 56 #[.int .u8 (f.toNat : Int), .int .i64 bits] w fun e w' => e = .returned (.tuple #[.int .u64 (maskHi (width f - bits).toNat), .int .u64 (maskLo (width f - bits).toNat)]) ∧ Below w.heap.size w w' := by
  have hw := width_pos f
  by_cases hk : 64 ≤ width f - bits
  · have e1 := wrap_mask (width f - bits - 64).toNat (by omega)
    have HH := Lib.hid (show maskHi (width f - bits).toNat = IntKind.u64.wrap (IntKind.u64.wrap (2 ^ (width f - bits - 64).toNat) - 1) by rw [e1, maskHi]; congr 3; omega)
    have HL := Lib.hid (show maskLo (width f - bits).toNat = 18446744073709551615 by rw [maskLo, Nat.min_eq_right (by omega)]; rfl)
    clear e1
    go_enter Try.func56, Try.ntmps56
    go_wp2_with (go_at_call 68; refine (width_any _ _).mono ?_; rintro e w' ⟨rfl, rfl⟩)
    go_ret2
    rw [HH.out, HL.out]
    exact ⟨rfl, Below.refl _ _⟩
  · have e1 := wrap_mask (width f - bits).toNat (by omega)
    have HL := Lib.hid (show maskLo (width f - bits).toNat = IntKind.u64.wrap (IntKind.u64.wrap (2 ^ (width f - bits).toNat) - 1) by rw [e1, maskLo, Nat.min_eq_left (by omega)])
    have e2 : (width f - bits).toNat - 64 = 0 := by omega
    have HH := Lib.hid (show maskHi (width f - bits).toNat = 0 by rw [maskHi, e2]; rfl)
    clear e2
    clear e1
    go_enter Try.func56, Try.ntmps56
    go_wp2_with (go_at_call 68; refine (width_any _ _).mono ?_; rintro e w' ⟨rfl, rfl⟩)
    go_quiet (fail)
    go_wp2_with fail
    go_ret2
    rw [HH.out, HL.out]
    exact ⟨rfl, ⟨rfl, rfl, rfl, Nat.le_refl _, fun _ _ => rfl⟩⟩

set_option maxHeartbeats 1000000 in
theorem fits_any (a : Ad) (bits : Int) (w : World) : Calls Try.prog 55 #[encA a, .int .i64 bits] w fun e w' => e = .returned (.bool (fits a bits)) ∧ Below w.heap.size w w' := by
  obtain ⟨f, hi, lo⟩ := a
  obtain ⟨r, hr⟩ : ∃ r, r = rightA (f, hi, lo) := ⟨_, rfl⟩
  have hright := right (f, hi, lo)
  rw [← hr] at hright
  have HR := Lib.hid hright
  have hv : fits (f, hi, lo) bits = (r && (decide (0 ≤ bits) && decide (bits ≤ width f))) := by unfold fits; rw [← hr]
  have HV := Lib.hid hv
  clear hright hr hv
  have hcase : r = false ∨ (r = true ∧ ¬ 0 ≤ bits) ∨ (r = true ∧ 0 ≤ bits) := by
    cases r <;> by_cases h : 0 ≤ bits <;> simp [h]
  have hbx : Below w.heap.size w (w.alloc (.cells #[.int .u8 (f.toNat : Int), .int .u64 (hi.toNat : Int), .int .u64 (lo.toNat : Int)] 25)) := (Below.refl _ _).alloc (Nat.le_refl _) _
  have HBX := Lib.hid hbx
  clear hbx
  rcases hcase with rfl | ⟨rfl, h0⟩ | ⟨rfl, h0⟩
  · go_enter Try.func55, Try.ntmps55
    go_wp2_with (go_at_call 67; refine (HR.out _).mono ?_; rintro e w1 ⟨rfl, hb⟩; have HB := Lib.hid hb; obtain ⟨hc, hf⟩ := bcell hb; clear hb)
    go_ret
    rw [HV.out]
    exact ⟨rfl, below_step HBX.out HB.out HBX.out.size⟩
  · have z0 : decide (0 ≤ bits) = false := by simpa using h0
    go_enter Try.func55, Try.ntmps55
    go_wp2_with (go_at_call 67; refine (HR.out _).mono ?_; rintro e w1 ⟨rfl, hb⟩; have HB := Lib.hid hb; obtain ⟨hc, hf⟩ := bcell hb; clear hb)
    go_ret
    rw [HV.out, z0]
    exact ⟨rfl, below_step HBX.out HB.out HBX.out.size⟩
  · have z0 : decide (0 ≤ bits) = true := by simpa using h0
    go_enter Try.func55, Try.ntmps55
    go_wp2_with (first | (go_at_call 67; refine (HR.out _).mono ?_; rintro e w1 ⟨rfl, hb⟩; have HB := Lib.hid hb; obtain ⟨hc, hf⟩ := bcell hb; clear hb) | (go_at_call 68; refine (width_any _ _).mono ?_; rintro e w2 ⟨rfl, rfl⟩))
    go_ret
    rw [HV.out, z0]
    exact ⟨by simp, below_step HBX.out HB.out HBX.out.size⟩
end Go.Proofs.Try.Pfx
