/- Layer num: ReadBig, ReadVar. -/
import Derived.Test.YtfijbfnhjnbjeaaDoorNu2
import Derived.Laws.Bits64b
set_option linter.unusedVariables false
set_option linter.unusedSimpArgs false
set_option maxRecDepth 100000
namespace Go.Proofs.Tryd.Nu
open Go.RowKit Go.Cph Go.Cph.Ok
theorem val_step (l : Bs) (c : UInt8) (h : l.length ≤ 7) : val l * 256 + c.toNat < 18446744073709551616 ∧ val (l ++ [c]) = val l * 256 + c.toNat := by
  have h1 := val_lt l
  have h2 : 256 ^ l.length ≤ 256 ^ 7 := Nat.pow_le_pow_right (by omega) h
  have h3 : (256 : Nat) ^ 7 = 72057594037927936 := by decide
  have := c.toNat_lt
  rw [val_snoc]
  omega
theorem or_eq (x c : Nat) (hc : c < 256) (h : x * 256 + c < 18446744073709551616) : bits .or .u64 ((x : Int) * 256) (c : Int) = ((x * 256 + c : Nat) : Int) := by
  have h1 := bits_or_u64_nat (x * 256) c (by omega) (by omega)
  have h2 : x * 256 ||| c = x * 256 + c := by
    have := Nat.shiftLeft_add_eq_or_of_lt (show c < 2 ^ 8 from hc) x
    rw [Nat.shiftLeft_eq] at this
    exact this.symm
  rw [h2] at h1
  rw [← h1]; simp
set_option maxRecDepth 100000 in
set_option maxHeartbeats 3200000 in
theorem big_any (s : ByteArray) (k : Nat) (w : World) (h1 : 1 ≤ k) (h8 : k ≤ 8) (hs : s.size ≤ 1099511627776) :
    Calls Tryd.prog 38 #[.string s, .int .i64 (k : Int)] w fun e w' => e = .returned (.tuple #[.int .u64 (if s.size < k then 0 else (val (s.data.toList.take k) : Int)), .bool (!decide (s.size < k))]) ∧ Below w.heap.size w w' := by
  have c1 : ¬ (k : Int) < 1 := by omega
  have c2 : ¬ (8 : Int) < (k : Int) := by omega
  by_cases hk : s.size < k
  · have c3 : (s.size : Int) < (k : Int) := by omega
    have c4 : decide (s.size < k) = true := decide_eq_true hk
    rw [if_pos hk, c4]
    clear hk
    go_enter Tryd.func38, Tryd.ntmps38
    go_wp2_with fail
    go_ret2
    exact ⟨rfl, Below.refl _ _⟩
  · have c3 : ¬ (s.size : Int) < (k : Int) := by omega
    have c4 : decide (s.size < k) = false := decide_eq_false hk
    rw [if_neg hk, c4]
    obtain ⟨t, ht⟩ : ∃ t, t = s.extract 0 k := ⟨_, rfl⟩
    have hts : t.size = k := by rw [ht, ByteArray.size_extract]; omega
    have htl : t.data.toList = s.data.toList.take k := by rw [ht]; simp
    rw [← htl]
    obtain ⟨cap, cur, w1, hconv, hcap, hcs, hblk, hcur, hb, hsz⟩ := conv_bytes (P := Tryd.prog) w 9 58 5 t Tryd.underlying9 Tryd.underlying58 Tryd.underlying5
    rw [hts] at hconv
    rw [ht] at hconv
    have HTS := Lib.hid hts
    have HT := Lib.hid ht
    have HB := Lib.hid hb
    have HG := Lib.hid hblk
    have HCU := Lib.hid hcur
    have k8 : (k : Int) ≤ 8 := by omega
    clear hts ht htl hcap hcs hblk hcur hb hsz c4 hk h1
    go_enter Tryd.func38, Tryd.ntmps38
    go_wp2_with fail
    clear hconv
    go_loopw [4, 25] (fun vn vi W => ∃ j : Nat, j ≤ k ∧ vi = .int .i64 j ∧ vn = .int .u64 (val (t.data.toList.take j) : Int) ∧ W = w1) (fun _ vi _ => k - (intOf vi).toNat)
    case atStart => exact ⟨0, Nat.zero_le _, rfl, rfl, rfl⟩
    case round =>
      obtain ⟨j, hj, rfl, rfl, rfl⟩ := hrel
      by_cases hlt : j < k
      · have HLT := Lib.hid hlt
        have hc : wr.cell? ⟨w.heap.size, j, none⟩ = some (.int .u8 (t[j]'(by have := HTS.out; omega)).toNat) := by
          rw [blk_cell HG.out]; exact HCU.out j _
        obtain ⟨c, hcx⟩ : ∃ c, c = t[j]'(by have := HTS.out; omega) := ⟨_, rfl⟩
        rw [← hcx] at hc
        have HTK := Lib.hid (show t.data.toList.take (j + 1) = t.data.toList.take j ++ [c] from by rw [hcx]; exact take_snoc t j (by have := HTS.out; omega))
        have hv := val_step (t.data.toList.take j) c (by rw [List.length_take]; omega)
        rw [← HTK.out] at hv
        obtain ⟨x, hx⟩ : ∃ x, x = val (t.data.toList.take j) := ⟨_, rfl⟩
        rw [← hx] at hv ⊢
        have HV := Lib.hid hv.2
        have hv1 := hv.1
        have hc8 : c.toNat < 256 := c.toNat_lt
        have q1 : (0 : Int) ≤ (j : Int) := by omega
        have q2 : (j : Int) < (k : Int) := by omega
        have q4 : IntKind.i64.wrap ((j : Int) + 1) = (j : Int) + 1 := by rw [IntKind.wrap_i64]; omega
        clear hx hv hcx hlt hj
        have HOR := Lib.hid (or_eq x c.toNat hc8 hv1)
        go_wp2_with fail
        go_roundw
        case rel => exact ⟨j + 1, HLT.out, by go_num, by rw [HOR.out, HV.out], by first | rfl | trivial⟩
        case measure => have := HLT.out; simp [intOf]; omega
      · have hsz := Go.Lib.size_eq t
        have HE := Lib.hid (show t.data.toList.take j = t.data.toList from List.take_of_length_le (by have := HTS.out; omega))
        clear hsz
        rw [HE.out]
        have hjk : j = k := by omega
        have q2 : ¬ (j : Int) < (k : Int) := by omega
        clear hlt hj hjk
        go_wp2_with fail
        go_ret2
        exact ⟨rfl, HB.out⟩
end Go.Proofs.Tryd.Nu
