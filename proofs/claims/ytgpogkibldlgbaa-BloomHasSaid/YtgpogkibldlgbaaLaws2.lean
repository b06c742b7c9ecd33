/- BloomHas: how many bits are 1; none is missed. -/
import Derived.Test.YtgpogkibldlgbaaPlain
import Derived.Test.YtgpogkibldlgbaaLaws
namespace Go.Proofs.Try
open Go.RowKit Go.Cph

theorem bit_get (c : UInt8) (j : Nat) : bits BinOp.and IntKind.u8 ((c.toNat : Int) / 2 ^ j) 1 = if c.toNat.testBit j then 1 else 0 := by
  have hc := c.toNat_lt
  have e : ((c.toNat : Int) / 2 ^ j) = ((c.toNat / 2 ^ j : Nat) : Int) := by simp
  have hd : c.toNat / 2 ^ j < 2 ^ 8 := Nat.lt_of_le_of_lt (Nat.div_le_self _ _) (by omega)
  have hb := (bits_nat .u8 8 (by decide) wraps_u8 (c.toNat / 2 ^ j) 1 hd (by decide)).1
  have hb' : bits BinOp.and IntKind.u8 ((c.toNat / 2 ^ j : Nat) : Int) 1 = ((c.toNat / 2 ^ j &&& 1 : Nat) : Int) := hb
  rw [e, hb', Nat.and_one_is_mod, Nat.testBit_eq_decide_div_mod_eq]
  rcases Nat.mod_two_eq_zero_or_one (c.toNat / 2 ^ j) with h | h <;> simp [h]

set_option maxHeartbeats 400000 in
theorem ones (s : ByteArray) (w : World) (hs : s.size ≤ 100000000) :
    Calls Try.prog 17 #[.string s] w fun e w' => e = .returned (.int .i64 (cnt s.data.toList (8 * s.size) : Nat)) ∧ w = w' := by
  go_enter Try.func17, Try.ntmps17
  go_wp2
  go_loop [3, 4] (fun n i => ∃ k : Nat, k ≤ s.size ∧ i = .int .i64 k ∧ n = .int .i64 (cnt s.data.toList (8 * k) : Nat)) (fun _ i => s.size - (intOf i).toNat)
  case atStart => exact ⟨0, by omega, rfl, rfl⟩
  case round =>
    obtain ⟨k, hk, rfl, rfl⟩ := hrel
    by_cases hlt : k < s.size
    · go_wp2
      go_loop [3, 5] (fun n i => ∃ t : Nat, t ≤ 8 ∧ i = .int .i64 t ∧ n = .int .i64 (cnt s.data.toList (8 * k + t) : Nat)) (fun _ i => 8 - (intOf i).toNat)
      case atStart => exact ⟨0, by omega, rfl, rfl⟩
      case round =>
        obtain ⟨t, ht, rfl, rfl⟩ := hrel
        have hle := cnt_le s.data.toList (8 * k + t)
        by_cases hlt8 : t < 8
        · have hbit : bitL s.data.toList (8 * k + t) = s[k].toNat.testBit t := by
            rw [bitL_part _ _ _ hlt8]
            congr 2
            rw [List.getD_eq_getElem?_getD, List.getElem?_eq_getElem (by simpa using hlt)]; rfl
          have HC := Lib.hid (show cnt s.data.toList (8 * k + t + 1) = _ from cnt_succ s.data.toList (8 * k + t))
          have hb := bit_get s[k] t
          rw [← hbit] at hb
          have HBIT := Lib.hid hbit
          clear hbit
          cases hq : bitL s.data.toList (8 * k + t)
          all_goals
            rw [hq] at hb
            have HQ := Lib.hid hq
            clear hq
            simp only [if_true, if_false, Bool.false_eq_true] at hb
            generalize hcn : cnt s.data.toList (8 * k + t) = n at *
            have HCN := Lib.hid hcn
            clear hcn
            go_wp2
            go_round
            case rel => exact ⟨t + 1, by omega, by go_num, by rw [show 8 * k + (t + 1) = 8 * k + t + 1 by omega, HC.out, HQ.out]; simp⟩
            case measure => simp [intOf]; omega
        · have HT := Lib.hid (show 8 * k + t = 8 * (k + 1) by omega)
          go_wp2
          go_round
          case rel => exact ⟨k + 1, by omega, by go_num, by rw [HT.out]⟩
          case measure => simp [intOf]; omega
    · have HT := Lib.hid (show k = s.size by omega)
      go_wp2
      go_ret
      exact ⟨ret_int (by rw [HT.out]), rfl⟩

set_option maxHeartbeats 1000000 in
theorem law_has (v : Value) (keys : List ByteArray) (w : World) (hv : StrsAt w v keys) (hn : keys.length ≤ maxLen) (hs : ∀ s ∈ keys, s.size ≤ maxLen) :
    Calls Try.prog 6 #[v] w fun e w' => e = .returned (.bool true) ∧ Below w.heap.size w w' := by
  have hv0 := Lib.hid hv
  obtain ⟨ao, cap, rfl, hv⟩ := hv
  have HS := Lib.hid hs
  have HV := Lib.hid hv
  clear hs hv
  cases hg : greatB keys
  · obtain ⟨hg1, hg2⟩ := great_no hg
    have HG2 := Lib.hid hg2
    clear hg2
    go_enter Try.func6, Try.ntmps6
    go_wp2_with (first | (go_at_call 13; refine (great _ keys _ hv0.out hn HS.out).mono ?_; rw [hg]; rintro e w1 ⟨rfl, rfl⟩) | (go_at_call 10; refine (bmake _ keys _ hv0.out (by omega) HS.out).mono ?_; rintro e w1 ⟨rfl, hb1⟩))
    have hfs := size_mk (makeL keys)
    rw [makeL_length] at hfs
    have HM := Lib.hid (fun key hk => may_made keys key hk)
    have HC := Lib.hid (cnt_makeL keys (8 * sizeF keys.length))
    have HL := Lib.hid (show (⟨(makeL keys).toArray⟩ : ByteArray).data.toList = makeL keys from rfl)
    generalize (⟨(makeL keys).toArray⟩ : ByteArray) = f at *
    have hf1 : 64 ≤ 8 * f.size := by rw [hfs]; unfold sizeF; omega
    have hf2 : 10 * keys.length ≤ 8 * f.size := by rw [hfs]; unfold sizeF; omega
    have hf3 : 8 * f.size < max 64 (10 * keys.length) + 8 := by rw [hfs]; unfold sizeF; omega
    have HF := Lib.hid hfs
    have hsz := hb1.size
    have hbel := hb1
    clear hfs hb1
    go_loopw [4] (fun i wr => ∃ k : Nat, k ≤ keys.length ∧ i = .int .i64 k ∧ Below w.heap.size w wr) (fun i _ => keys.length - (intOf i).toNat)
    case atStart => exact ⟨0, by omega, rfl, hbel⟩
    case round =>
      clear hbel hsz
      obtain ⟨k, hk, rfl, hbel⟩ := hrel
      have hsz := hbel.size
      by_cases hlt : k < keys.length
      · obtain ⟨b, off, rfl, hc⟩ := HV.out (by omega)
        have hc' := cell_kept hbel (hc k hlt)
        have hkey := HS.out keys[k] (List.getElem_mem _)
        have HMK := Lib.hid (HM.out keys[k] (List.getElem_mem _))
        clear hc
        obtain ⟨key, hkk⟩ : ∃ key, key = keys[k] := ⟨_, rfl⟩
        rw [← hkk] at hc' hkey HMK
        clear hkk
        go_wp2_with (go_at_call 11; refine (bmay f key _ (by omega) hkey).mono ?_; rw [HMK.out]; rintro e w2 ⟨rfl, hb2⟩)
        go_roundw
        case rel => exact ⟨k + 1, by omega, by go_num, below_step hbel hb2 hsz⟩
        case measure => simp [intOf]; omega
      · have HO := Lib.hid (show cnt f.data.toList (8 * f.size) ≤ 6 * keys.length by rw [HL.out, HF.out]; exact HC.out)
        by_cases h64 : 64 < 10 * keys.length
        all_goals
          have hmx := hf3
          simp only [Nat.max_def] at hmx
          split at hmx
          all_goals
            first
            | omega
            | skip
          go_wp2_with fail
          refine (ones f _ (by omega)).mono ?_
          have hcn := HO.out
          generalize cnt f.data.toList (8 * f.size) = c at hcn
          rintro e w2 ⟨rfl, rfl⟩
          go_wp2_with fail
          refine (awake _).mono ?_
          rintro e w3 ⟨rfl, hb3⟩
          have hbb := below_step hbel hb3 hsz
          clear hb3
          go_wp2
          go_ret
          exact ⟨rfl, hbb⟩
  · go_enter Try.func6, Try.ntmps6
    go_wp2_with (go_at_call 13; refine (great _ keys _ hv0.out hn HS.out).mono ?_; rw [hg]; rintro e w1 ⟨rfl, rfl⟩)
    refine (awake _).mono ?_
    rintro e w3 ⟨rfl, hb1⟩
    go_wp2
    go_ret
    exact ⟨rfl, hb1⟩
end Go.Proofs.Try
