/- May: both texts tell 'mayB'. -/
import Derived.Test.YtgpogkibldlgbaaProbes
namespace Go.Proofs.Try
open Go.RowKit Go.Cph

/-- A filter's bit. -/
def bitB (s : ByteArray) (n : Nat) : Bool := (s.data.toList.getD (n / 8) 0).toNat.testBit (n % 8)
def prN (h : UInt64) (m i : Nat) : Nat := (prI h m i).toNat
theorem prN_eq (h : UInt64) (m i : Nat) (hm : 1 ≤ m) : prI h m i = (prN h m i : Int) := by
  unfold prN; have := (prI_range h m i hm).1; omega
theorem prN_lt (h : UInt64) (m i : Nat) (hm : 1 ≤ m) : prN h m i < m := by
  unfold prN; have := prI_range h m i hm; omega
def mayTo (s : ByteArray) (h : UInt64) (k : Nat) : Bool := (List.range k).all fun i => bitB s (prN h (8 * s.size) i)
def mayB (s key : ByteArray) : Bool := s.size != 0 && mayTo s (hashU key.data.toList) 6

theorem idx34_0 (x0 x1 x2 x3 x4 x5 : Value) (w : World) : (Instr.index 34 (.agg #[x0, x1, x2, x3, x4, x5]) (.int .i64 0)).run Try.prog w = .ok x0 w := by kernel_rfl
theorem idx34_1 (x0 x1 x2 x3 x4 x5 : Value) (w : World) : (Instr.index 34 (.agg #[x0, x1, x2, x3, x4, x5]) (.int .i64 1)).run Try.prog w = .ok x1 w := by kernel_rfl
theorem idx34_2 (x0 x1 x2 x3 x4 x5 : Value) (w : World) : (Instr.index 34 (.agg #[x0, x1, x2, x3, x4, x5]) (.int .i64 2)).run Try.prog w = .ok x2 w := by kernel_rfl
theorem idx34_3 (x0 x1 x2 x3 x4 x5 : Value) (w : World) : (Instr.index 34 (.agg #[x0, x1, x2, x3, x4, x5]) (.int .i64 3)).run Try.prog w = .ok x3 w := by kernel_rfl
theorem idx34_4 (x0 x1 x2 x3 x4 x5 : Value) (w : World) : (Instr.index 34 (.agg #[x0, x1, x2, x3, x4, x5]) (.int .i64 4)).run Try.prog w = .ok x4 w := by kernel_rfl
theorem idx34_5 (x0 x1 x2 x3 x4 x5 : Value) (w : World) : (Instr.index 34 (.agg #[x0, x1, x2, x3, x4, x5]) (.int .i64 5)).run Try.prog w = .ok x5 w := by kernel_rfl
theorem idx34 (h : UInt64) (m k : Nat) (hk : k < 6) (w : World) : (Instr.index 34 (prAgg h m) (.int .i64 k)).run Try.prog w = .ok (.int .i64 (prI h m k)) w := by
  rcases (show k = 0 ∨ k = 1 ∨ k = 2 ∨ k = 3 ∨ k = 4 ∨ k = 5 from by omega) with rfl | rfl | rfl | rfl | rfl | rfl
  · exact idx34_0 _ _ _ _ _ _ w
  · exact idx34_1 _ _ _ _ _ _ w
  · exact idx34_2 _ _ _ _ _ _ w
  · exact idx34_3 _ _ _ _ _ _ w
  · exact idx34_4 _ _ _ _ _ _ w
  · exact idx34_5 _ _ _ _ _ _ w
theorem bit_test (c : UInt8) (j : Nat) : (bits BinOp.and IntKind.u8 ((c.toNat : Int) / 2 ^ j) 1 == 0) = !(c.toNat.testBit j) := by
  have hc := c.toNat_lt
  have e : ((c.toNat : Int) / 2 ^ j) = ((c.toNat / 2 ^ j : Nat) : Int) := by simp
  have hd : c.toNat / 2 ^ j < 2 ^ 8 := Nat.lt_of_le_of_lt (Nat.div_le_self _ _) (by omega)
  have hb := (bits_nat .u8 8 (by decide) wraps_u8 (c.toNat / 2 ^ j) 1 hd (by decide)).1
  rw [e]
  have hb' : bits BinOp.and IntKind.u8 ((c.toNat / 2 ^ j : Nat) : Int) 1 = ((c.toNat / 2 ^ j &&& 1 : Nat) : Int) := hb
  rw [hb', Nat.and_one_is_mod, Nat.testBit_eq_decide_div_mod_eq]
  rcases Nat.mod_two_eq_zero_or_one (c.toNat / 2 ^ j) with h | h <;> simp [h]
theorem bit_test2 (c : UInt8) (j : Nat) (hj : j < 8) : (bits BinOp.and IntKind.u8 (c.toNat : Int) (2 ^ j % 256) == 0) = !(c.toNat.testBit j) := by
  have hc := c.toNat_lt
  have hp : 2 ^ j < 2 ^ 8 := Nat.pow_lt_pow_right (by decide) hj
  have e : ((2 : Int) ^ j % 256) = ((2 ^ j : Nat) : Int) := by
    have e1 : ((2 : Int) ^ j) = ((2 ^ j : Nat) : Int) := by simp
    rw [e1]
    generalize 2 ^ j = q at hp
    omega
  have hb := (bits_nat .u8 8 (by decide) wraps_u8 c.toNat (2 ^ j) (by omega) hp).1
  have hb' : bits BinOp.and IntKind.u8 (c.toNat : Int) ((2 ^ j : Nat) : Int) = ((c.toNat &&& 2 ^ j : Nat) : Int) := hb
  rw [e, hb']
  cases h : c.toNat.testBit j
  · have : c.toNat &&& 2 ^ j = 0 := by
      apply Nat.eq_of_testBit_eq
      intro i
      rw [Nat.testBit_and, Nat.testBit_two_pow, Nat.zero_testBit]
      by_cases hi : j = i
      · subst hi; simp [h]
      · simp [hi]
    rw [this]; rfl
  · have : c.toNat &&& 2 ^ j ≠ 0 := by
      intro h0
      have := congrArg (fun q => q.testBit j) h0
      simp [h] at this
    simp only [Bool.not_true, beq_eq_false_iff_ne, ne_eq]
    omega
theorem bitB_at (s : ByteArray) (n : Nat) (h : n / 8 < s.size) : bitB s n = s[n / 8].toNat.testBit (n % 8) := by
  unfold bitB
  have : s.data.toList.getD (n / 8) 0 = s[n / 8] := by
    rw [List.getD_eq_getElem?_getD, List.getElem?_eq_getElem (by simpa using h)]; rfl
  rw [this]
theorem mayTo_succ (s : ByteArray) (h : UInt64) (k : Nat) : mayTo s h (k + 1) = (mayTo s h k && bitB s (prN h (8 * s.size) k)) := by
  simp [mayTo, List.range_succ]
theorem mayTo_le (s : ByteArray) (h : UInt64) {j k : Nat} (hjk : j ≤ k) (hm : mayTo s h k = true) : mayTo s h j = true := by
  simp only [mayTo, List.all_eq_true, List.mem_range] at *
  exact fun i hi => hm i (by omega)

set_option maxHeartbeats 400000 in
theorem bmay (s key : ByteArray) (w : World) (hs : s.size ≤ 100000000) (hk : key.size ≤ maxLen) :
    Calls Try.prog 11 #[.string s, .string key] w fun e w' => e = .returned (.bool (mayB s key)) ∧ Below w.heap.size w w' := by
  by_cases h0 : s.size = 0
  · have hne := str_nil s h0
    have hmay : mayB s key = false := by simp [mayB, h0]
    have HM := Lib.hid hmay
    clear h0 hmay
    go_enter Try.func11, Try.ntmps11
    go_wp2
    go_ret
    exact ⟨ret_bool HM.out.symm, Below.refl _ _⟩
  · have hm : 1 ≤ 8 * s.size := by omega
    have hne := str_some s h0
    have HMB := Lib.hid (show mayB s key = mayTo s (hashU key.data.toList) 6 by simp [mayB, h0])
    clear h0
    go_enter Try.func11, Try.ntmps11
    go_wp2_with (go_at_call 18; refine (probes key (8 * s.size) _ hk hm (by omega)).mono ?_; rintro e w1 ⟨rfl, hb⟩)
    go_loop [14] (fun i => ∃ k : Nat, k ≤ 6 ∧ i = .int .i64 k ∧ mayTo s (hashU key.data.toList) k = true)
      (fun i => 6 - (intOf i).toNat)
    case atStart => exact ⟨0, by omega, rfl, rfl⟩
    case round =>
      obtain ⟨k, hk, rfl, hmay⟩ := hrel
      by_cases hlt : k < 6
      · have hidx := idx34 (hashU key.data.toList) (8 * s.size) k hlt
        have hnlt := prN_lt (hashU key.data.toList) (8 * s.size) k hm
        have HS := Lib.hid (mayTo_succ s (hashU key.data.toList) k)
        have HW := Lib.hid (fun h => mayTo_le s (hashU key.data.toList) (show k + 1 ≤ 6 by omega) h)
        rw [prN_eq _ _ _ hm] at hidx
        generalize prN (hashU key.data.toList) (8 * s.size) k = n at *
        have HM := Lib.hid hmay
        have ht := bit_test (s[n / 8]'(by omega)) (n % 8)
        rw [← bitB_at s n (by omega)] at ht
        clear hmay
        cases hbit : bitB s n
        · have HB := Lib.hid hbit
          rw [hbit] at ht
          clear hbit
          go_wp2
          go_ret
          refine ⟨?_, hb⟩
          have hf : mayTo s (hashU key.data.toList) 6 = false := by
            cases h6 : mayTo s (hashU key.data.toList) 6
            · rfl
            · have := HW.out h6
              rw [HS.out, HB.out] at this
              simp at this
          exact ret_bool (by rw [HMB.out, hf])
        · have HB := Lib.hid hbit
          rw [hbit] at ht
          clear hbit
          go_wp2
          go_round
          case rel => exact ⟨k + 1, by omega, by go_num, by rw [HS.out, HB.out, HM.out]; rfl⟩
          case measure => simp [intOf]; omega
      · have HM := Lib.hid (show mayTo s (hashU key.data.toList) 6 = true by rw [← hmay]; congr 1; omega)
        clear hmay
        go_wp2
        go_ret
        exact ⟨ret_bool (by rw [HMB.out, HM.out]), hb⟩

theorem rprobes_at (s : ByteArray) (m : Nat) (w : World) (hs : s.size ≤ maxLen) (hm : 1 ≤ m) (hm2 : m ≤ 1000000000) :
    Calls Try.prog 19 #[.string s, .int .u64 m] w fun e w' => ∃ g cap, e = .returned (.slice (some ⟨g, 0, none⟩) 6 cap) ∧ w.heap.size ≤ g ∧
      (∀ j, j < 6 → w'.cell? ⟨g, j, none⟩ = some (.int .i64 (prN (hashU s.data.toList) m j))) ∧ Below w.heap.size w w' :=
  (rprobes s m w hs hm hm2).mono fun e w' ⟨v, he, hown, hb⟩ => by
    obtain ⟨g, cap, rfl, hg, _, _, hc, _⟩ := owns_shape hown (by omega)
    refine ⟨g, cap, he, hg, fun j hj => ?_, hb⟩
    rw [hc j (by omega)]
    simp [prList, hj, prN_eq _ _ _ hm]

set_option maxHeartbeats 400000 in
theorem rmay (s key : ByteArray) (w : World) (hs : s.size ≤ 100000000) (hk : key.size ≤ maxLen) :
    Calls Try.prog 16 #[.string s, .string key] w fun e w' => e = .returned (.bool (mayB s key)) ∧ Below w.heap.size w w' := by
  by_cases h0 : s.size = 0
  · have hmay : mayB s key = false := by simp [mayB, h0]
    have HM := Lib.hid hmay
    have he : ((s.size : Int) == 0) = true := by simp [h0]
    clear h0 hmay
    go_enter Try.func16, Try.ntmps16
    go_wp2
    go_ret
    exact ⟨ret_bool HM.out.symm, Below.refl _ _⟩
  · have hm : 1 ≤ 8 * s.size := by omega
    have HMB := Lib.hid (show mayB s key = mayTo s (hashU key.data.toList) 6 by simp [mayB, h0])
    have he : ((s.size : Int) == 0) = false := by simp [h0]
    clear h0
    go_enter Try.func16, Try.ntmps16
    go_wp2_with (go_at_call 19; refine (rprobes_at key (8 * s.size) _ hk hm (by omega)).mono ?_; rintro e w1 ⟨g, cap, rfl, hg, hc, hb⟩)
    have HC := Lib.hid hc
    clear hc
    go_loopw [6] (fun i wr => ∃ k : Nat, k ≤ 6 ∧ i = .int .i64 k ∧ mayTo s (hashU key.data.toList) k = true ∧ Below w.heap.size w wr ∧ Hid (∀ j, j < 6 → wr.cell? ⟨g, j, none⟩ = some (.int .i64 (prN (hashU key.data.toList) (8 * s.size) j))))
      (fun i _ => 6 - (intOf i).toNat)
    case atStart => exact ⟨0, by omega, rfl, rfl, hb, HC⟩
    case round =>
      obtain ⟨k, hk, rfl, hmay, hbel, hcs⟩ := hrel
      clear HC
      by_cases hlt : k < 6
      · have hidx := hcs.out k hlt
        have hnlt := prN_lt (hashU key.data.toList) (8 * s.size) k hm
        have HS := Lib.hid (mayTo_succ s (hashU key.data.toList) k)
        have HW := Lib.hid (fun h => mayTo_le s (hashU key.data.toList) (show k + 1 ≤ 6 by omega) h)
        have HN := Lib.hid (show prN (hashU key.data.toList) (8 * s.size) k = prN (hashU key.data.toList) (8 * s.size) k from rfl)
        revert HN
        generalize prN (hashU key.data.toList) (8 * s.size) k = n at hidx hnlt HS
        intro _
        have HM := Lib.hid hmay
        clear hmay
        have hw1 : IntKind.i64.wrap ((n : Int) / 8) = (n : Int) / 8 := IntWalk.i64_in _ (by omega)
        have hi1 : 0 ≤ (n : Int) / 8 := by omega
        have hi2 : (n : Int) / 8 < (s.size : Int) := by omega
        have hi3 : ((n : Int) / 8).toNat = n / 8 := by omega
        have hw2 : IntKind.u64.wrap ((n : Int) % 8) = (n : Int) % 8 := IntWalk.u64_in _ (by omega)
        have hr1 : 0 ≤ (n : Int) % 8 := by omega
        have hr2 : (n : Int) % 8 < 8 := by omega
        have hr3 : ((n : Int) % 8).toNat = n % 8 := by omega
        have ht := bit_test2 (s[n / 8]'(by omega)) (n % 8) (by omega)
        rw [← bitB_at s n (by omega)] at ht
        have HT := Lib.hid ht
        clear ht
        go_wp2
        go_quiet (fail)
        clear hw1 hw2
        have ht := HT.out
        cases hbit : bitB s n
        · have HB := Lib.hid hbit
          rw [hbit, Bool.not_false] at ht
          clear hbit
          go_wp2
          go_ret
          refine ⟨?_, below_drewN hbel _⟩
          have hf : mayTo s (hashU key.data.toList) 6 = false := by
            cases h6 : mayTo s (hashU key.data.toList) 6
            · rfl
            · have := HW.out h6
              rw [HS.out, HB.out] at this
              simp at this
          exact ret_bool (by rw [HMB.out, hf])
        · have HB := Lib.hid hbit
          rw [hbit, Bool.not_true] at ht
          clear hbit
          go_wp2
          go_roundw
          case rel => exact ⟨k + 1, by omega, by go_num, by rw [HS.out, HB.out, HM.out]; rfl, below_drewN hbel _, hcs⟩
          case measure => simp [intOf]; omega
      · have HM := Lib.hid (show mayTo s (hashU key.data.toList) 6 = true by rw [← hmay]; congr 1; omega)
        clear hmay
        have hk6 : k = 6 := by omega
        have HK := Lib.hid hk6
        clear hk6
        go_wp2
        go_ret
        exact ⟨ret_bool (by rw [HMB.out, HM.out]), hbel⟩
end Go.Proofs.Try
