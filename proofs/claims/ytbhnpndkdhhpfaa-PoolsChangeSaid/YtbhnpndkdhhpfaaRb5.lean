/- The document's addresses: as rows of bits. -/
import Derived.Test.YtbhnpndkdhhpfaaRb4
set_option linter.unusedVariables false
set_option linter.unusedSimpArgs false
namespace Go.Proofs.Try.Pfx
open Go.RowKit Go.Cph Go.Cph.Px

def bitsOf (l : List UInt8) : List UInt8 := l.flatMap fun c => bitsN c.toNat 8
theorem bitsOf_snoc (l : List UInt8) (c : UInt8) : bitsOf (l ++ [c]) = bitsOf l ++ bitsN c.toNat 8 := by simp [bitsOf, List.flatMap_append]
theorem bitsOf_length (l : List UInt8) : (bitsOf l).length = 8 * l.length := by
  induction l with
  | nil => rfl
  | cons c l ih =>
    have e : bitsOf (c :: l) = bitsN c.toNat 8 ++ bitsOf l := rfl
    rw [e, List.length_append, ih, bitsN_length, List.length_cons]; omega
theorem bitsOf_row (a : Ad) : bitsOf (bytesA a) = rowA a := by
  unfold bytesA rowA
  cases rightA a with
  | true => rw [if_pos rfl, if_pos rfl, wid_size]; exact bits_bytes _ _
  | false => rfl
theorem bitsN_take (x n i : Nat) (h : i < n) : (bitsN x n).take (i + 1) = (bitsN x n).take i ++ [if x.testBit (n - 1 - i) then 1 else 0] := by
  rw [List.take_succ_eq_append_getElem (by rw [bitsN_length]; exact h)]
  simp [bitsN]
theorem bitEq (c : UInt8) (j : Nat) : Go.bits .and .u8 ((c.toNat : Int) / 2 ^ j) 1 = (((if c.toNat.testBit j then (1 : UInt8) else 0).toNat : Nat) : Int) := by
  have h1 : c.toNat / 2 ^ j < 256 := Nat.lt_of_le_of_lt (Nat.div_le_self _ _) c.toNat_lt
  have e : ((c.toNat : Int) / 2 ^ j) = ((c.toNat / 2 ^ j : Nat) : Int) := by simp
  have h := u8_and_nat (c.toNat / 2 ^ j) 1 h1 (by decide)
  rw [e]
  refine h.trans ?_
  rw [Nat.and_one_is_mod, Nat.testBit_eq_decide_div_mod_eq]
  have h2 : c.toNat / 2 ^ j % 2 = 0 ∨ c.toNat / 2 ^ j % 2 = 1 := by omega
  rcases h2 with h2 | h2 <;> rw [h2] <;> rfl
theorem bytesA_le (a : Ad) : (bytesA a).length ≤ 16 := by
  unfold bytesA sizeB
  split
  · rw [bytesN_length]; split <;> omega
  · simp

set_option maxRecDepth 100000 in
set_option maxHeartbeats 4000000 in
theorem rrow (a : Ad) (w : World) : Calls Try.prog 52 #[encA a] w (BytesPost (rowA a) w) := by
  have HBY := Lib.hid (fun w => rbytes a w)
  have HRW := Lib.hid (bitsOf_row a)
  have hle := bytesA_le a
  obtain ⟨l, hl⟩ : ∃ l, l = bytesA a := ⟨_, rfl⟩
  rw [← hl] at HBY HRW hle
  clear hl
  obtain ⟨f, hi, lo⟩ := a
  have hbx : Below w.heap.size w (w.alloc (.cells #[.int .u8 (f.toNat : Int), .int .u64 (hi.toNat : Int), .int .u64 (lo.toNat : Int)] 34)) := (Below.refl _ _).alloc (Nat.le_refl _) _
  have HBX := Lib.hid hbx
  clear hbx
  go_enter Try.func52, Try.ntmps52
  go_wp2_with fail
  refine (HBY.out _).mono ?_
  rintro e w1 ⟨bv, rfl, ho, hb⟩
  obtain ⟨bo, bc, hbv⟩ := owns_slice1 ho
  subst hbv
  have HL := Lib.hid (Seg.of_owns ho)
  have HB1 := Lib.hid (below_step HBX.out hb HBX.out.size)
  clear ho hb
  go_wp2_with fail
  go_loopw [4, 5] (fun v4 v5 wr => ∃ i : Nat, i ≤ l.length ∧ v5 = .int .i64 i ∧ wr.ownsRow w1.heap.size 5 1 v4 (8 * i) ((bitsOf (l.take i)).flatMap encB) ∧ Below w1.heap.size w1 wr) (fun _ v5 _ => l.length - (intOf v5).toNat)
  case atStart => exact ⟨0, Nat.zero_le _, rfl, World.ownsRow_nil _ _ _ _, Below.refl _ _⟩
  case round =>
    obtain ⟨wo, rfl⟩ : ∃ wo : World, wo = wr := ⟨_, rfl⟩
    obtain ⟨i, hi2, rfl, ho, hbel⟩ := hrel
    have HO := Lib.hid ho
    have HBE := Lib.hid hbel
    obtain ⟨oo, oc, hov⟩ := owns_slice1 ho
    subst hov
    clear ho hbel
    by_cases hlt : i < l.length
    · obtain ⟨b, off, cap', hve, hcs⟩ := bs_cells HL.out (by omega)
      cases hve
      have hci := hcs i hlt
      obtain ⟨c, hc⟩ : ∃ c, c = l[i] := ⟨_, rfl⟩
      rw [← hc] at hci
      have HCI := Lib.hid hci
      have HSN := Lib.hid (show bitsOf (l.take (i + 1)) = bitsOf (l.take i) ++ bitsN c.toNat 8 by rw [List.take_succ_eq_append_getElem hlt, bitsOf_snoc, hc])
      obtain ⟨L, hL⟩ : ∃ L, L = bitsOf (l.take i) := ⟨_, rfl⟩
      have hLl : L.length = 8 * i := by rw [hL, bitsOf_length, List.length_take]; omega
      rw [← hL] at HO HSN
      have m1 : (i : Int) < (l.length : Int) := by omega
      clear hcs hci hc hL
      go_wp2_with fail
      go_loopw [4, 6] (fun v4 v6 wr => ∃ k : Nat, k ≤ 8 ∧ v6 = .int .i64 ((k : Int) - 1) ∧ wr.ownsRow w1.heap.size 5 1 v4 (8 * i + (8 - k)) ((L ++ (bitsN c.toNat 8).take (8 - k)).flatMap encB) ∧ Below w1.heap.size w1 wr) (fun _ v6 _ => (intOf v6 + 1).toNat)
      case atStart => exact ⟨8, by omega, by simp, by have := HO.out; simpa using this, HBE.out⟩
      case round =>
        obtain ⟨k, hk, rfl, ho, hbel⟩ := hrel
        have HO2 := Lib.hid ho
        have HBE2 := Lib.hid hbel
        obtain ⟨oo2, oc2, hov⟩ := owns_slice1 ho
        subst hov
        clear ho hbel
        rcases Nat.eq_zero_or_pos k with hk0 | hk0
        · subst hk0
          have HO3 := Lib.hid (show wr.ownsRow w1.heap.size 5 1 (.slice oo2 (8 * (i + 1)) oc2) (8 * (i + 1)) ((L ++ bitsN c.toNat 8).flatMap encB) from by have := HO2.out; rwa [List.take_of_length_le (by rw [bitsN_length]; omega)] at this)
          have hn8 : 8 * i + (8 - 0) = 8 * (i + 1) := by omega
          rw [show ((0 : Nat) : Int) - 1 = -1 from rfl, hn8]
          clear hn8
          go_wp2_with fail
          go_roundw
          case rel => exact ⟨i + 1, hlt, by go_num, by rw [HSN.out]; exact HO3.out, HBE2.out⟩
          case measure => simp [intOf]; omega
        · obtain ⟨j, rfl⟩ : ∃ j, k = j + 1 := ⟨k - 1, by omega⟩
          have e1 : (((j + 1 : Nat) : Int) - 1) = (j : Int) := by omega
          rw [e1]
          clear e1
          have hcc := cell_kept (HBE2.out) HCI.out
          have eb := bitEq c j
          generalize hbb : (if c.toNat.testBit j then (1 : UInt8) else 0) = bb at *
          have HBB := Lib.hid hbb
          clear hbb
          have h63 : 8 * i + (8 - (j + 1)) + 1 ≤ 1099511627776 := by omega
          have HLN := Lib.hid h63
          have HSR := Lib.hid HBE2.out.size
          clear h63
          go_wp2_with (at_builtin; refine wpList_append1 rfl (.tmp 19) (.tmp 28) 74 rfl w1.heap.size 5 _ 1 1 Try.underlying74 infoB rfl (by decide) _ (8 * i + (8 - (j + 1))) ((L ++ (bitsN c.toNat 8).take (8 - (j + 1))).flatMap encB) [.int .u8 (bb.toNat : Int)] rfl HO2.out _ 1 rfl rfl rfl (by simp [Value.oneCell']) HLN.out (by decide) HSR.out w1.heap.size w1 HBE2.out (Nat.le_refl _) ?_; intro v' w' ho hgr hb' hsz'; have HO4 := Lib.hid ho; have HB4 := Lib.hid hb'; clear ho hgr hb' hsz')
          go_roundw
          case rel =>
            refine ⟨j, by omega, rfl, ?_, HB4.out⟩
            have h1 := HO4.out
            have e2 : 8 - j = 8 - (j + 1) + 1 := by omega
            have e4 : 8 - 1 - (8 - (j + 1)) = j := by omega
            rw [e2, bitsN_take _ _ _ (by omega), e4, HBB.out]
            simpa [List.flatMap_append, Nat.add_assoc] using h1
          case measure => simp [intOf]
    · obtain rfl : i = l.length := by omega
      go_wp2_with fail
      go_ret
      refine ⟨_, rfl, ?_, below_step HB1.out HBE.out HB1.out.size⟩
      have h1 := HO.out
      rw [List.take_length] at h1
      rw [← HRW.out, bitsOf_length]
      exact owns_mono h1 HB1.out.size
end Go.Proofs.Try.Pfx
