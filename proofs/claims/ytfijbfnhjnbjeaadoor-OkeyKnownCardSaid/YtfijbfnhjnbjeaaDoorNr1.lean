/- The document's rows of numbers: bytesOf, Row. -/
import Derived.Test.YtfijbfnhjnbjeaaDoorNu4
import Derived.Test.YtfijbfnhjnbjeaaDoorOx2
set_option linter.unusedVariables false
set_option linter.unusedSimpArgs false
set_option maxRecDepth 100000
namespace Go.Proofs.Tryd.Nu
open Go.RowKit Go.Cph Go.Cph.Ok
theorem ret_s {a b : ByteArray} (h : a = b) : Ending.returned (.string a) = .returned (.string b) := by rw [h]
/-- 'string([]byte{c})': the slice laid right ahead of it. -/
theorem run_one (w : World) (x : Int) (c : UInt8) (h : x = (c.toNat : Int)) : (convert 58 9 (.slice (some ⟨w.heap.size, 0, none⟩) 1 1)).run Tryd.prog (w.alloc (.cells #[.int .u8 x] 5)) = .ok (.string ⟨#[c]⟩) (w.alloc (.cells #[.int .u8 x] 5)) := by
  subst h
  exact run_string_of_bytes _ TB TS T8 Tryd.underlying58 Tryd.underlying5 Tryd.underlying9 w.heap.size 1 [c] fun j hj => by
    have : j = 0 := by simp at hj; omega
    subst this
    rw [blk_cell (heap_alloc_new w _)]; rfl
theorem cat_list (a b : ByteArray) : (a ++ b).data.toList = a.data.toList ++ b.data.toList := by simp
set_option maxHeartbeats 1600000 in
theorem bytesOf_any (n : UInt64) (w : World) : Calls Tryd.prog 47 #[.int .u64 (n.toNat : Int)] w fun e w' => e = .returned (.string (ofBs (be (blen n.toNat) n.toNat))) ∧ Below w.heap.size w w' := by
  have hn : n.toNat < 18446744073709551616 := n.toNat_lt
  obtain ⟨n0, hn0⟩ : ∃ n0, n0 = n.toNat := ⟨_, rfl⟩
  rw [← hn0] at hn ⊢
  have HN := Lib.hid hn
  clear hn0
  go_enter Tryd.func47, Tryd.ntmps47
  go_wp2_with fail
  go_loopw [0, 3] (fun vn vs W => ∃ (m : Nat) (y : ByteArray), vn = .int .u64 (m : Int) ∧ vs = .string y ∧ m < 18446744073709551616 ∧ be (blen n0) n0 = be (blen m) m ++ y.data.toList ∧ Below w.heap.size w W) (fun vn _ _ => (intOf vn).toNat)
  case atStart => exact ⟨n0, ⟨#[]⟩, rfl, rfl, HN.out, by simp, Below.refl _ _⟩
  case round =>
    obtain ⟨m, y, rfl, rfl, hm, hbe, hb⟩ := hrel
    have HB := Lib.hid hb
    by_cases h0 : m = 0
    · subst h0
      have HF := Lib.hid (show y = ofBs (be (blen n0) n0) from by rw [hbe, blen_zero]; exact (ofBs_data y).symm)
      clear hbe hb hm
      go_wp2_with fail
      go_ret
      exact ⟨ret_s HF.out, HB.out⟩
    · have c1 : (0 : Int) < (m : Int) := by omega
      obtain ⟨c, hc⟩ : ∃ c, c = UInt8.ofNat m := ⟨_, rfl⟩
      have hcm : ((m : Int) % 256) = (c.toNat : Int) := by rw [hc, ofNat_toNat]; omega
      have q := run_one wr ((m : Int) % 256) c hcm
      have HS := Lib.hid (show be (blen n0) n0 = be (blen (m / 256)) (m / 256) ++ ((⟨#[c]⟩ : ByteArray) ++ y).data.toList from by
        rw [hbe, blen_pos h0, be_snoc, cat_list, List.append_assoc, hc])
      have hy : y.size ≤ 8 := by
        have h1 := congrArg List.length hbe
        rw [be_len, List.length_append, ← Go.Lib.size_eq] at h1
        have := blen_8 HN.out
        omega
      have hy2 : (y.size : Int) ≤ 8 := by omega
      have HZ := Lib.hid hb.size
      have HM := Lib.hid (show m / 256 < m ∧ m / 256 < 18446744073709551616 from by omega)
      have HMC := Lib.hid (show ((m : Int) / 256) = ((m / 256 : Nat) : Int) from by omega)
      clear hbe hb h0 hc hcm
      go_wp2_with fail
      clear q
      go_roundw
      case rel => exact ⟨m / 256, _, by rw [HMC.out], rfl, HM.out.2, HS.out, HB.out.alloc HZ.out _⟩
      case measure => have := HM.out.1; simp [intOf]; omega
theorem cons_cat (c : UInt8) (l : Bs) : (⟨#[c]⟩ : ByteArray) ++ ofBs l = ofBs (c :: l) := by
  have h := cat_list ⟨#[c]⟩ (ofBs l)
  rw [← ofBs_data (⟨#[c]⟩ ++ ofBs l), h]; rfl
set_option maxHeartbeats 1600000 in
theorem row_any (n : UInt64) (w : World) : Calls Tryd.prog 36 #[.int .u64 (n.toNat : Int)] w fun e w' => e = .returned (.string (ofBs (row n.toNat))) ∧ Below w.heap.size w w' := by
  have hn : n.toNat < 18446744073709551616 := n.toNat_lt
  have HC := Lib.hid (fun W => bytesOf_any n W)
  have HROW := Lib.hid (show row n.toNat = if n.toNat < 248 then [UInt8.ofNat n.toNat] else UInt8.ofNat (247 + blen n.toNat) :: be (blen n.toNat) n.toNat from rfl)
  have h8 := blen_8 hn
  obtain ⟨n0, hn0⟩ : ∃ n0, n0 = n.toNat := ⟨_, rfl⟩
  rw [← hn0] at hn HC HROW h8 ⊢
  clear hn0
  by_cases hs : n0 < 248
  · have c1 : (n0 : Int) < 248 := by omega
    obtain ⟨c, hc⟩ : ∃ c, c = UInt8.ofNat n0 := ⟨_, rfl⟩
    rw [if_pos hs, ← hc] at HROW
    have q := run_one w (n0 : Int) c (by rw [hc, ofNat_toNat]; omega)
    clear hc hs h8
    go_enter Tryd.func36, Tryd.ntmps36
    go_wp2_with fail
    go_ret
    exact ⟨ret_s (by rw [HROW.out]; rfl), (Below.refl _ _).alloc (Nat.le_refl _) _⟩
  · have c1 : ¬ (n0 : Int) < 248 := by omega
    rw [if_neg hs] at HROW
    obtain ⟨d, hd⟩ : ∃ d, d = blen n0 := ⟨_, rfl⟩
    rw [← hd] at HROW HC h8
    obtain ⟨t, ht⟩ : ∃ t, t = ofBs (be d n0) := ⟨_, rfl⟩
    have hts : t.size = d := by rw [ht, Go.Lib.size_eq, ofBs_list, be_len]
    have HTT := Lib.hid ht
    rw [← ht] at HC
    obtain ⟨c, hc⟩ : ∃ c, c = UInt8.ofNat (247 + d) := ⟨_, rfl⟩
    rw [← hc] at HROW
    have HQ := Lib.hid (fun W => run_one W (247 + (d : Int)) c (by rw [hc, ofNat_toNat]; omega))
    have k1 : (d : Int) ≤ 8 := by omega
    have k2 : IntKind.i64.wrap (247 + (d : Int)) = 247 + (d : Int) := by rw [IntKind.wrap_i64]; omega
    clear hc hs h8 hd ht hn
    go_enter Tryd.func36, Tryd.ntmps36
    go_wp2_with fail
    refine (HC.out _).mono ?_
    rintro e w1 ⟨rfl, hb⟩
    have HB := Lib.hid hb
    have HZ := Lib.hid hb.size
    have q := HQ.out w1
    clear hb
    go_wp2_with fail
    go_ret
    exact ⟨ret_s (by rw [HROW.out, HTT.out]; exact cons_cat _ _), HB.out.alloc HZ.out _⟩
end Go.Proofs.Tryd.Nu
