/- The hash of a key: both texts compute 'hashN'; and the probes. -/
import Derived.Test.YtgpogkibldlgbaaProg
import Derived.Test.YtgpogkibldlgbaaLib
namespace Go.Proofs.Try
open Go.RowKit Go.Cph

def hstep (h : UInt64) (c : UInt8) : UInt64 := (h ^^^ c.toUInt64) * 1099511628211
def hashU (l : List UInt8) : UInt64 := l.foldl hstep 14695981039346656037
def hashI (l : List UInt8) : Int := (hashU l).toNat
theorem hashU_snoc (l : List UInt8) (c : UInt8) : hashU (l ++ [c]) = hstep (hashU l) c := by unfold hashU; rw [List.foldl_append]; rfl
theorem u64lt (h : UInt64) : h.toNat < 18446744073709551616 := by have := h.toNat_lt; omega
theorem hstep_eq0 (h : UInt64) (c : UInt8) :
    bits .xor .u64 (h.toNat : Int) (c.toNat : Int) = ((h.toNat ^^^ c.toNat : Nat) : Int) :=
  bits_xor_u64_nat h.toNat c.toNat (u64lt h) (by have := c.toNat_lt; omega)
theorem hstep_eq1 (h : UInt64) (c : UInt8) : ((h.toNat ^^^ c.toNat) * 1099511628211) % 18446744073709551616 = (hstep h c).toNat := by
  unfold hstep
  rw [UInt64.toNat_mul, UInt64.toNat_xor, UInt8.toNat_toUInt64]
  have e : (1099511628211 : UInt64).toNat = 1099511628211 := by rfl
  rw [e]
theorem hstep_eq (h : UInt64) (c : UInt8) :
    IntKind.u64.wrap (bits .xor .u64 (h.toNat : Int) (c.toNat : Int) * 1099511628211) = ((hstep h c).toNat : Int) := by
  rw [hstep_eq0, ← hstep_eq1, ← u64_wrap_nat, Int.natCast_mul]
  rfl
theorem hashI_snoc (l : List UInt8) (c : UInt8) : IntKind.u64.wrap (bits .xor .u64 (hashI l) (c.toNat : Int) * 1099511628211) = hashI (l ++ [c]) := by
  unfold hashI; rw [hstep_eq, hashU_snoc]

set_option maxHeartbeats 400000 in
theorem rhash (s : ByteArray) (w : World) (hs : s.size ≤ maxLen) :
    Calls Try.prog 14 #[.string s] w fun e w' => (e = .returned (.int .u64 (hashI s.data.toList))) ∧ w = w' := by
  unfold maxLen at hs
  go_enter Try.func14, Try.ntmps14
  go_wp2
  go_loop [3, 4] (fun h i => ∃ k : Nat, k ≤ s.size ∧ i = .int .i64 k ∧ h = .int .u64 (hashI (s.data.toList.take k))) (fun _ i => s.size - (intOf i).toNat)
  case atStart => exact ⟨0, Nat.zero_le _, rfl, rfl⟩
  case round =>
    obtain ⟨k, hk, rfl, rfl⟩ := hrel
    by_cases hlt : k < s.size
    · have HS := Lib.hid (hashI_snoc (s.data.toList.take k) s[k])
      have HT := Lib.hid (take_snoc s k hlt)
      go_wp2
      go_round
      case rel => exact ⟨k + 1, by omega, by go_num, by rw [HT.out, ← HS.out]⟩
      case measure => simp [intOf]; omega
    · have HX := Lib.hid (show s.data.toList.take k = s.data.toList by rw [List.take_of_length_le (by simp; omega)])
      go_wp2
      go_ret
      rw [HX.out]
      exact ⟨rfl, rfl⟩

set_option maxHeartbeats 400000 in
theorem bhash (s : ByteArray) (w : World) (hs : s.size ≤ maxLen) :
    Calls Try.prog 9 #[.string s] w fun e w' => (e = .returned (.int .u64 (hashI s.data.toList))) ∧ Below w.heap.size w w' := by
  unfold maxLen at hs
  obtain ⟨cap, cur, w1, hconv, hcap, hcs, hblk, hcur, hb, hsz⟩ := conv_bytes w 9 32 5 s Try.underlying9 Try.underlying32 Try.underlying5
  have Hcs := Lib.hid hcs
  have Hsz := Lib.hid hsz
  have Hcur := Lib.hid hcur
  have Hblk := Lib.hid hblk
  clear hcs hsz hcur hblk
  go_enter Try.func9, Try.ntmps9
  go_wp2
  go_loop [3, 9] (fun h i => ∃ k : Nat, k ≤ s.size ∧ i = .int .i64 k ∧ h = .int .u64 (hashI (s.data.toList.take k))) (fun _ i => s.size - (intOf i).toNat)
  case atStart => exact ⟨0, Nat.zero_le _, rfl, rfl⟩
  case round =>
    obtain ⟨k, hk, rfl, rfl⟩ := hrel
    by_cases hlt : k < s.size
    · have HS := Lib.hid (hashI_snoc (s.data.toList.take k) s[k])
      have HT := Lib.hid (take_snoc s k hlt)
      have hc : w1.cell? ⟨w.heap.size, k, none⟩ = some (.int .u8 (s[k].toNat : Int)) := by rw [blk_cell Hblk.out]; exact Hcur.out k hlt
      go_wp2
      go_round
      case rel => exact ⟨k + 1, by omega, by go_num, by rw [HT.out, ← HS.out]⟩
      case measure => simp [intOf]; omega
    · have HX := Lib.hid (show s.data.toList.take k = s.data.toList by rw [List.take_of_length_le (by simp; omega)])
      go_wp2
      go_ret
      rw [HX.out]
      exact ⟨rfl, hb⟩
end Go.Proofs.Try
