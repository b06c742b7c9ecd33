/- rows: addr.FromBytes. -/
import Derived.Test.YtpikpfbpoihioaaDoorMC
set_option linter.unusedVariables false
set_option linter.unusedSimpArgs false
set_option maxRecDepth 100000
namespace Go.Proofs.Tryd.Rows
open Go.RowKit Go.Cph Go.Cph.Ok Go.Proofs.Tryd.Nu
open Go.Cph.Px (Ad Pf rightA bytesA rightP fromB fromOk)
open Go.Proofs.Tryd.Pfx (encA bcell)
abbrev boxZ : Obj := .cells #[.int .u8 0, .int .u64 0, .int .u64 0] 24 (0, 0)
structure ZeroA (w : World) (b : Nat) : Prop where
  c0 : w.cell? ⟨b, 0, none⟩ = some (.int .u8 0)
  c1 : w.cell? ⟨b, 1, none⟩ = some (.int .u64 0)
  c2 : w.cell? ⟨b, 2, none⟩ = some (.int .u64 0)
  f0 : w.frozen? ⟨b, 0, none⟩ = false
  f1 : w.frozen? ⟨b, 1, none⟩ = false
  f2 : w.frozen? ⟨b, 2, none⟩ = false
theorem zeroA_of {w : World} {b : Nat} (h : w.heap[b]? = some boxZ) : ZeroA w b := ⟨by rw [blk_cell h]; rfl, by rw [blk_cell h]; rfl, by rw [blk_cell h]; rfl, by rw [blk_frozen h]; rfl, by rw [blk_frozen h]; rfl, by rw [blk_frozen h]; rfl⟩
theorem zeroA_kept {w W : World} (hb : Below (w.alloc boxZ).heap.size (w.alloc boxZ) W) : ZeroA W w.heap.size := zeroA_of (blk_kept hb (heap_alloc_new w boxZ))
theorem below_set3 {w W : World} (h : Below w.heap.size w W) (x y z : Value) : Below w.heap.size w (((W.setCell ⟨w.heap.size, 0, none⟩ x).setCell ⟨w.heap.size, 1, none⟩ y).setCell ⟨w.heap.size, 2, none⟩ z) :=
  ((h.setCell (p := ⟨w.heap.size, 0, none⟩) (Nat.le_refl _) _).setCell (p := ⟨w.heap.size, 1, none⟩) (Nat.le_refl _) _).setCell (p := ⟨w.heap.size, 2, none⟩) (Nat.le_refl _) _
/-- What FromBytes answers. -/
def encFB (fam : UInt8) (s : ByteArray) : Value := .tuple #[encA (fromB fam s.data.toList), .bool (fromOk fam s.size)]
theorem val_two (x y : Bs) : val (x ++ y) = val x * 256 ^ y.length + val y := by
  suffices k : ∀ (y : Bs) (x : Bs), val (x ++ y.reverse) = val x * 256 ^ y.reverse.length + val y.reverse by simpa using k y.reverse x
  intro y
  induction y with
  | nil => intro x; simp [val]
  | cons b y ih =>
    intro x
    rw [List.reverse_cons, ← List.append_assoc, val_snoc, ih x, val_snoc, List.length_append, List.length_singleton, Nat.pow_succ, Nat.mul_add, ← Nat.mul_assoc]
    rw [Nat.mul_comm 256 (val x), Nat.mul_assoc (val x), Nat.mul_comm 256, Nat.add_assoc]
theorem fromB_4 (s : ByteArray) (h : s.size = 4) : fromB 4 s.data.toList = (4, 0, UInt64.ofNat (val (s.data.toList.take 4))) := by
  have hl : s.data.toList.length = 4 := h
  have hv := val_lt s.data.toList
  rw [hl] at hv
  unfold fromB
  rw [if_pos (by rw [hl]; rfl), List.take_of_length_le (by omega)]
  show ((4 : UInt8), UInt64.ofNat (val s.data.toList / 18446744073709551616), UInt64.ofNat (val s.data.toList)) = _
  rw [Nat.div_eq_of_lt (by omega)]; rfl
theorem fromB_6 (s : ByteArray) (h : s.size = 16) : fromB 6 s.data.toList = (6, UInt64.ofNat (val (s.data.toList.take 8)), UInt64.ofNat (val ((s.data.toList.drop 8).take 8))) := by
  have hl : s.data.toList.length = 16 := h
  have h1 : (s.data.toList.take 8).length = 8 := by rw [List.length_take]; omega
  have h2 : (s.data.toList.drop 8).length = 8 := by rw [List.length_drop]; omega
  have hv2 := val_lt (s.data.toList.drop 8)
  rw [h2] at hv2
  unfold fromB
  rw [if_pos (by rw [hl]; rfl), List.take_of_length_le (l := s.data.toList.drop 8) (by omega)]
  have hv := val_two (s.data.toList.take 8) (s.data.toList.drop 8)
  rw [List.take_append_drop, h2] at hv
  show ((6 : UInt8), UInt64.ofNat (val s.data.toList / 18446744073709551616), UInt64.ofNat (val s.data.toList)) = _
  have e1 : val s.data.toList / 18446744073709551616 = val (s.data.toList.take 8) := by omega
  have e2 : UInt64.ofNat (val s.data.toList) = UInt64.ofNat (val (s.data.toList.drop 8)) := by
    apply UInt64.toNat_inj.1
    rw [UInt64.toNat_ofNat', UInt64.toNat_ofNat']; omega
  rw [e1, e2]
theorem fromB_no (fam : UInt8) (s : ByteArray) (h : fromOk fam s.size = false) : fromB fam s.data.toList = (0, 0, 0) := by
  unfold fromB
  rw [if_neg (by rw [show s.data.toList.length = s.size from rfl, h]; exact Bool.false_ne_true)]; rfl
theorem u64_val {l : Bs} (h : l.length ≤ 8) : ((UInt64.ofNat (val l)).toNat : Int) = (val l : Int) := by
  have := val_lt l
  have h2 : 256 ^ l.length ≤ 256 ^ 8 := Nat.pow_le_pow_right (by omega) h
  rw [UInt64.toNat_ofNat']; omega
set_option maxHeartbeats 800000 in
theorem fromBytes (fam : UInt8) (s : ByteArray) (w : World) (hs : s.size ≤ 1000000000) : Calls Tryd.prog 26 #[.int .u8 (fam.toNat : Int), .string s] w fun e w' => e = .returned (encFB fam s) ∧ Below w.heap.size w w' := by
  have HB0 := Lib.hid (show Below w.heap.size w (w.alloc boxZ) from (Below.refl _ _).alloc (Nat.le_refl _) _)
  have HZC := Lib.hid (fun W (hb : Below (w.alloc boxZ).heap.size (w.alloc boxZ) W) => zeroA_kept hb)
  have hcase : (fam = 4 ∧ s.size = 4) ∨ (fam = 6 ∧ s.size = 16) ∨ fromOk fam s.size = false := by
    cases h : fromOk fam s.size with
    | false => exact .inr (.inr rfl)
    | true =>
      simp only [fromOk, Bool.or_eq_true, Bool.and_eq_true, beq_iff_eq] at h
      rcases h with h | h
      · exact .inl h
      · exact .inr (.inl h)
  rcases hcase with ⟨rfl, h4⟩ | ⟨rfl, h6⟩ | hno
  · have HV := Lib.hid (show encFB 4 s = .tuple #[.agg #[.int .u8 4, .int .u64 0, .int .u64 (val (s.data.toList.take 4) : Int)], .bool true] from by
      unfold encFB
      rw [fromB_4 s h4, h4]
      show Value.tuple #[.agg #[.int .u8 _, .int .u64 _, .int .u64 ((UInt64.ofNat (val (s.data.toList.take 4))).toNat : Int)], _] = _
      rw [u64_val (by rw [List.length_take]; omega)]; rfl)
    have HR := Lib.hid (fun (W : World) => show Calls Tryd.prog 44 #[.string s, .int .i64 4] W (fun e w' => e = .returned (.tuple #[.int .u64 (val (s.data.toList.take 4) : Int), .bool true]) ∧ Below W.heap.size W w') from by
      have := big_any s 4 W (by omega) (by omega) (by omega)
      rw [if_neg (by omega), decide_eq_false (by omega)] at this
      exact this)
    obtain ⟨n, hn⟩ : ∃ n, n = val (s.data.toList.take 4) := ⟨_, rfl⟩
    rw [← hn] at HV HR
    have h4i : (s.size : Int) = 4 := by omega
    clear hn
    go_enter Tryd.func26, Tryd.ntmps26
    go_wp2_with fail
    refine (HR.out _).mono ?_
    rintro e w1 ⟨rfl, hb⟩
    have HB := Lib.hid (below_step HB0.out hb HB0.out.size)
    have c0 := (HZC.out w1 hb).c0
    have c1 := (HZC.out w1 hb).c1
    have c2 := (HZC.out w1 hb).c2
    have f0 := (HZC.out w1 hb).f0
    have f1 := (HZC.out w1 hb).f1
    have f2 := (HZC.out w1 hb).f2
    clear hb
    go_wp2_with fail
    exact bodyPost_ret (v := .tuple #[.agg #[.int .u8 4, .int .u64 0, .int .u64 (n : Int)], .bool true]) (by simp [results, Tryd.results26, go_sem, c0, c1, c2]) rfl ⟨by rw [HV.out], below_set3 HB.out _ _ _⟩
  · have HEX := Lib.hid (show (s.extract 8 s.size).data.toList = s.data.toList.drop 8 from by
      rw [ByteArray.data_extract, Array.toList_extract, List.extract_eq_take_drop]
      exact List.take_of_length_le (by rw [List.length_drop]; exact Nat.le_refl _))
    have HV := Lib.hid (show encFB 6 s = .tuple #[.agg #[.int .u8 6, .int .u64 (val (s.data.toList.take 8) : Int), .int .u64 (val ((s.data.toList.drop 8).take 8) : Int)], .bool true] from by
      unfold encFB
      rw [fromB_6 s h6, h6]
      show Value.tuple #[.agg #[.int .u8 _, .int .u64 ((UInt64.ofNat (val (s.data.toList.take 8))).toNat : Int), .int .u64 ((UInt64.ofNat (val ((s.data.toList.drop 8).take 8))).toNat : Int)], _] = _
      rw [u64_val (by rw [List.length_take]; omega), u64_val (by rw [List.length_take]; omega)]; rfl)
    have HR1 := Lib.hid (fun (W : World) => show Calls Tryd.prog 44 #[.string s, .int .i64 8] W (fun e w' => e = .returned (.tuple #[.int .u64 (val (s.data.toList.take 8) : Int), .bool true]) ∧ Below W.heap.size W w') from by
      have := big_any s 8 W (by omega) (by omega) (by omega)
      rw [if_neg (by omega), decide_eq_false (by omega)] at this
      exact this)
    have hz : (s.extract 8 s.size).size = 8 := by rw [ByteArray.size_extract]; omega
    have HR2 := Lib.hid (fun (W : World) => show Calls Tryd.prog 44 #[.string (s.extract 8 s.size), .int .i64 8] W (fun e w' => e = .returned (.tuple #[.int .u64 (val ((s.data.toList.drop 8).take 8) : Int), .bool true]) ∧ Below W.heap.size W w') from by
      have := big_any (s.extract 8 s.size) 8 W (by omega) (by omega) (by omega)
      rw [if_neg (by omega), decide_eq_false (by omega), HEX.out] at this
      exact this)
    rw [h6] at HR2
    obtain ⟨n, hn⟩ : ∃ n, n = val (s.data.toList.take 8) := ⟨_, rfl⟩
    obtain ⟨k, hk⟩ : ∃ k, k = val ((s.data.toList.drop 8).take 8) := ⟨_, rfl⟩
    rw [← hn] at HV HR1
    rw [← hk] at HV HR2
    have h6i : (s.size : Int) = 16 := by omega
    clear hn hk HEX hz
    go_enter Tryd.func26, Tryd.ntmps26
    go_wp2_with fail
    refine (HR1.out _).mono ?_
    rintro e w1 ⟨rfl, hb⟩
    have HB := Lib.hid hb
    clear hb
    go_wp2_with fail
    refine (HR2.out _).mono ?_
    rintro e w2 ⟨rfl, hb⟩
    have HBZ := Lib.hid (below_step HB.out hb HB.out.size)
    have HB2 := Lib.hid (below_step HB0.out HBZ.out HB0.out.size)
    have c0 := (HZC.out w2 HBZ.out).c0
    have c1 := (HZC.out w2 HBZ.out).c1
    have c2 := (HZC.out w2 HBZ.out).c2
    have f0 := (HZC.out w2 HBZ.out).f0
    have f1 := (HZC.out w2 HBZ.out).f1
    have f2 := (HZC.out w2 HBZ.out).f2
    clear hb
    go_wp2_with fail
    exact bodyPost_ret (v := .tuple #[.agg #[.int .u8 6, .int .u64 (n : Int), .int .u64 (k : Int)], .bool true]) (by simp [results, Tryd.results26, go_sem, c0, c1, c2]) rfl ⟨by rw [HV.out], below_set3 HB2.out _ _ _⟩
  · have HV := Lib.hid (show encFB fam s = .tuple #[.agg #[.int .u8 0, .int .u64 0, .int .u64 0], .bool false] from by
      unfold encFB
      rw [fromB_no fam s hno, hno]; rfl)
    have h4 : ((fam.toNat : Int) == 4) = (fam == 4) := Pfx.u8_eq fam 4
    have h6 : ((fam.toNat : Int) == 6) = (fam == 6) := Pfx.u8_eq fam 6
    have hz0 := heap_alloc_new w boxZ
    have c0 := (zeroA_of hz0).c0
    have c1 := (zeroA_of hz0).c1
    have c2 := (zeroA_of hz0).c2
    have f0 := (zeroA_of hz0).f0
    have f1 := (zeroA_of hz0).f1
    have f2 := (zeroA_of hz0).f2
    clear hz0
    by_cases k4 : fam = 4
    · subst k4
      have k5 : ¬ s.size = 4 := fun h => by rw [h] at hno; exact absurd hno (by decide)
      have k6 : ((s.size : Int) == 4) = false := by simp; omega
      have k7 : ¬ (s.size : Int) = 4 := by omega
      clear hno h4 h6
      go_enter Tryd.func26, Tryd.ntmps26
      go_wp2_with fail
      exact bodyPost_ret (v := .tuple #[.agg #[.int .u8 0, .int .u64 0, .int .u64 0], .bool false]) (by simp [results, Tryd.results26, go_sem, c0, c1, c2]) rfl ⟨by rw [HV.out], HB0.out⟩
    · have e4 : (fam == 4) = false := by simpa using k4
      rw [e4] at h4
      by_cases k5 : fam = 6
      · subst k5
        have k5 : ¬ s.size = 16 := fun h => by rw [h] at hno; exact absurd hno (by decide)
        have k6 : ((s.size : Int) == 16) = false := by simp; omega
        have k7 : ¬ (s.size : Int) = 16 := by omega
        clear hno h4 h6 e4 k4
        go_enter Tryd.func26, Tryd.ntmps26
        go_wp2_with fail
        exact bodyPost_ret (v := .tuple #[.agg #[.int .u8 0, .int .u64 0, .int .u64 0], .bool false]) (by simp [results, Tryd.results26, go_sem, c0, c1, c2]) rfl ⟨by rw [HV.out], HB0.out⟩
      · have e6 : (fam == 6) = false := by simpa using k5
        rw [e6] at h6
        have m4 : ¬ (fam.toNat : Int) = 4 := by simpa using h4
        have m6 : ¬ (fam.toNat : Int) = 6 := by simpa using h6
        clear hno e4 k4 e6 k5
        go_enter Tryd.func26, Tryd.ntmps26
        go_wp2_with fail
        exact bodyPost_ret (v := .tuple #[.agg #[.int .u8 0, .int .u64 0, .int .u64 0], .bool false]) (by simp [results, Tryd.results26, go_sem, c0, c1, c2]) rfl ⟨by rw [HV.out], HB0.out⟩
end Go.Proofs.Tryd.Rows
