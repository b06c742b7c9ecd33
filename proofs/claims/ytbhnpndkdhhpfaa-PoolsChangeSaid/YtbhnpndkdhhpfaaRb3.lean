/- The document's addresses: as bytes. -/
import Derived.Test.YtbhnpndkdhhpfaaRb2
set_option linter.unusedVariables false
set_option linter.unusedSimpArgs false
namespace Go.Cph.Px
theorem bytesN_append (m n : Nat) : ∀ x, bytesN x (m + n) = bytesN (x / 256 ^ n) m ++ bytesN x n := by
  induction n with
  | zero => intro x; simp [bytesN]
  | succ n ih => intro x; rw [← Nat.add_assoc, bytesN_succ, ih, bytesN_succ, Nat.div_div_eq_div_mul, ← Nat.pow_succ', List.append_assoc]
theorem bytesN_low (n : Nat) : ∀ y x, bytesN (y * 256 ^ n + x) n = bytesN x n := by
  induction n with
  | zero => intro y x; simp [bytesN]
  | succ n ih =>
    intro y x
    rw [bytesN_succ, bytesN_succ]
    have e : y * 256 ^ (n + 1) + x = y * 256 ^ n * 256 + x := by rw [Nat.pow_succ, Nat.mul_assoc]
    have e1 : (y * 256 ^ (n + 1) + x) / 256 = y * 256 ^ n + x / 256 := by rw [e]; omega
    have e2 : UInt8.ofNat (y * 256 ^ (n + 1) + x) = UInt8.ofNat x := UInt8.toNat_inj.1 (by rw [UInt8.toNat_ofNat', UInt8.toNat_ofNat', e]; omega)
    rw [e1, e2, ih]
theorem bytes16 (f : UInt8) (hi lo : UInt64) : bytesN (num (f, hi, lo)) 16 = bytesN hi.toNat 8 ++ bytesN lo.toNat 8 := by
  have h1 := bytesN_append 8 8 (num (f, hi, lo))
  have e : num (f, hi, lo) = hi.toNat * 256 ^ 8 + lo.toNat := rfl
  have h2 : num (f, hi, lo) / 256 ^ 8 = hi.toNat := by rw [e]; have := lo.toNat_lt; omega
  rw [h2] at h1
  rw [h1, e, bytesN_low]
theorem bytesN_take (x n i : Nat) (h : i < n) : (bytesN x n).take (i + 1) = (bytesN x n).take i ++ [UInt8.ofNat (x / 256 ^ (n - 1 - i))] := by
  rw [List.take_succ_eq_append_getElem (by rw [bytesN_length]; exact h)]
  simp [bytesN]
theorem byteEq (x j : Nat) : ((x : Int) / 2 ^ (8 * j) % 256) = (((UInt8.ofNat (x / 256 ^ j)).toNat : Nat) : Int) := by
  rw [UInt8.toNat_ofNat', show (256 : Nat) ^ j = 2 ^ (8 * j) by rw [Nat.pow_mul]]
  simp
end Go.Cph.Px
namespace Go.Proofs.Try.Pfx
open Go.RowKit Go.Cph Go.Cph.Px

def BytesPost (l : List UInt8) (w : World) (e : Ending) (w' : World) : Prop := ∃ v', e = .returned v' ∧ w'.ownsRow w.heap.size 5 1 v' l.length (l.flatMap encB) ∧ Below w.heap.size w w'
set_option maxRecDepth 100000 in
set_option maxHeartbeats 2000000 in
theorem bytes6 (hi lo : UInt64) (w : World) : Calls Try.prog 65 #[encA (6, hi, lo)] w (BytesPost (bytesN (num (6, hi, lo)) 16) w) := by
  have HE := Lib.hid (bytes16 6 hi lo)
  have hbx : Below w.heap.size w (w.alloc (.cells #[.int .u8 6, .int .u64 (hi.toNat : Int), .int .u64 (lo.toNat : Int)] 34)) := (Below.refl _ _).alloc (Nat.le_refl _) _
  have HBX := Lib.hid hbx
  have HPX := Lib.hid (heap_alloc_new w (.cells #[.int .u8 6, .int .u64 (hi.toNat : Int), .int .u64 (lo.toNat : Int)] 34))
  have HSZ := Lib.hid (World.size_alloc w (.cells #[.int .u8 6, .int .u64 (hi.toNat : Int), .int .u64 (lo.toNat : Int)] 34))
  have HR := Lib.hid (fun w => (show Calls Try.prog 72 #[.agg #[.int .u8 6, .int .u64 (hi.toNat : Int), .int .u64 (lo.toNat : Int)]] w fun e w' => e = .returned (.bool true) ∧ Below w.heap.size w w' from rright (6, hi, lo) w))
  clear hbx
  go_enter Try.func65, Try.ntmps65
  go_wp2_with fail
  refine (HR.out _).mono ?_
  rintro e w1 ⟨rfl, hb⟩
  have HB1 := Lib.hid (below_step HBX.out hb HBX.out.size)
  have HP1 := Lib.hid (blk_kept hb HPX.out)
  have HS1 := Lib.hid (show w.heap.size + 1 ≤ w1.heap.size by have := hb.size; rw [HSZ.out] at this; exact this)
  clear hb
  go_wp2_with fail
  go_loopw [3, 4] (fun v3 v4 wr => ∃ k : Nat, k ≤ 8 ∧ v4 = .int .i64 ((k : Int) - 1) ∧ wr.ownsRow (w.heap.size + 1) 5 1 v3 (8 - k) (((bytesN hi.toNat 8).take (8 - k)).flatMap encB) ∧ Below (w.heap.size + 1) w1 wr) (fun _ v4 _ => ((intOf v4) + 1).toNat)
  case atStart => exact ⟨8, by omega, by simp, World.ownsRow_nil _ _ _ _, Below.refl _ _⟩
  case round =>
    obtain ⟨k, hk, rfl, ho, hbel⟩ := hrel
    have HO := Lib.hid ho
    have HBE := Lib.hid hbel
    have HP2 := Lib.hid (blk_below hbel HP1.out (by omega))
    have HSR := Lib.hid (show w.heap.size + 1 ≤ wr.heap.size from Nat.le_trans HS1.out hbel.size)
    obtain ⟨oo, oc, hov⟩ := owns_slice1 ho
    subst hov
    clear ho hbel
    have hp0 : wr.cell? ⟨w.heap.size, 0, none⟩ = some (.int .u8 6) := by rw [blk_cell HP2.out]; rfl
    have hp1 : wr.cell? ⟨w.heap.size, 1, none⟩ = some (.int .u64 (hi.toNat : Int)) := by rw [blk_cell HP2.out]; rfl
    rcases Nat.eq_zero_or_pos k with hk0 | hk0
    · subst hk0
      have HO8 := Lib.hid (show wr.ownsRow (w.heap.size + 1) 5 1 (.slice oo 8 oc) 8 ((bytesN hi.toNat 8).flatMap encB) from by have := HO.out; rwa [List.take_of_length_le (by rw [bytesN_length]; omega)] at this)
      rw [show ((0 : Nat) : Int) - 1 = -1 from rfl, show (8 - 0 : Nat) = 8 from rfl]
      clear hp0 hp1
      go_wp2_with fail
      go_loopw [3, 5] (fun v3 v4 wr => ∃ k : Nat, k ≤ 8 ∧ v4 = .int .i64 ((k : Int) - 1) ∧ wr.ownsRow (w.heap.size + 1) 5 1 v3 (16 - k) ((bytesN hi.toNat 8 ++ (bytesN lo.toNat 8).take (8 - k)).flatMap encB) ∧ Below (w.heap.size + 1) w1 wr) (fun _ v4 _ => ((intOf v4) + 1).toNat)
      case atStart => refine ⟨8, by omega, by simp, ?_, HBE.out⟩; have := HO8.out; simpa using this
      case round =>
        obtain ⟨k, hk, rfl, ho, hbel⟩ := hrel
        have HO := Lib.hid ho
        have HBE := Lib.hid hbel
        have HP2 := Lib.hid (blk_below hbel HP1.out (by omega))
        have HSR := Lib.hid (show w.heap.size + 1 ≤ wr.heap.size from Nat.le_trans HS1.out hbel.size)
        obtain ⟨oo, oc, hov⟩ := owns_slice1 ho
        subst hov
        clear ho hbel
        have hp0 : wr.cell? ⟨w.heap.size, 0, none⟩ = some (.int .u8 6) := by rw [blk_cell HP2.out]; rfl
        have hp1 : wr.cell? ⟨w.heap.size, 2, none⟩ = some (.int .u64 (lo.toNat : Int)) := by rw [blk_cell HP2.out]; rfl
        rcases Nat.eq_zero_or_pos k with hk1 | hk1
        · subst hk1
          go_wp2_with fail
          go_ret
          refine ⟨_, rfl, ?_, HB1.out.trans (HBE.out.mono (by omega))⟩
          rw [HE.out]
          have := HO.out
          rw [List.take_of_length_le (by rw [bytesN_length]; omega)] at this
          simpa [bytesN_length] using owns_mono this (by omega)
        · obtain ⟨j, rfl⟩ : ∃ j, k = j + 1 := ⟨k - 1, by omega⟩
          have e1 : (((j + 1 : Nat) : Int) - 1) = (j : Int) := by omega
          rw [e1]
          clear e1
          have eb := byteEq lo.toNat j
          have h63 : 16 - (j + 1) + 1 ≤ 1099511627776 := by omega
          have HL := Lib.hid h63
          clear h63
          generalize hbb : UInt8.ofNat (lo.toNat / 256 ^ j) = bb at *
          have HBB := Lib.hid hbb
          clear hbb
          go_wp2_with (at_builtin; refine wpList_append1 rfl (.tmp 39) (.tmp 47) 74 rfl (w.heap.size + 1) 5 _ 1 1 Try.underlying74 infoB rfl (by decide) _ (16 - (j + 1)) ((bytesN hi.toNat 8 ++ (bytesN lo.toNat 8).take (8 - (j + 1))).flatMap encB) [.int .u8 (bb.toNat : Int)] rfl HO.out _ 1 rfl rfl rfl (by simp [Value.oneCell']) HL.out (by decide) HSR.out (w.heap.size + 1) w1 HBE.out (Nat.le_refl _) ?_; intro v' w' ho hgr hb' hsz'; have HO4 := Lib.hid ho; have HB4 := Lib.hid hb'; clear ho hgr hb' hsz')
          go_roundw
          case rel =>
            refine ⟨j, by omega, rfl, ?_, HB4.out⟩
            have h1 := HO4.out
            have e2 : 8 - j = 8 - (j + 1) + 1 := by omega
            have e3 : 16 - j = 16 - (j + 1) + 1 := by omega
            have e4 : 8 - 1 - (8 - (j + 1)) = j := by omega
            rw [e2, e3, bytesN_take _ _ _ (by omega), e4, HBB.out]
            simpa [List.flatMap_append] using h1
          case measure => simp [intOf]
    · obtain ⟨j, rfl⟩ : ∃ j, k = j + 1 := ⟨k - 1, by omega⟩
      have e1 : (((j + 1 : Nat) : Int) - 1) = (j : Int) := by omega
      rw [e1]
      clear e1
      have eb := byteEq hi.toNat j
      have h63 : 8 - (j + 1) + 1 ≤ 1099511627776 := by omega
      have HL := Lib.hid h63
      clear h63
      generalize hbb : UInt8.ofNat (hi.toNat / 256 ^ j) = bb at *
      have HBB := Lib.hid hbb
      clear hbb
      go_wp2_with (at_builtin; refine wpList_append1 rfl (.tmp 18) (.tmp 26) 74 rfl (w.heap.size + 1) 5 _ 1 1 Try.underlying74 infoB rfl (by decide) _ (8 - (j + 1)) (((bytesN hi.toNat 8).take (8 - (j + 1))).flatMap encB) [.int .u8 (bb.toNat : Int)] rfl HO.out _ 1 rfl rfl rfl (by simp [Value.oneCell']) HL.out (by decide) HSR.out (w.heap.size + 1) w1 HBE.out (Nat.le_refl _) ?_; intro v' w' ho hgr hb' hsz'; have HO4 := Lib.hid ho; have HB4 := Lib.hid hb'; clear ho hgr hb' hsz')
      go_roundw
      case rel =>
        refine ⟨j, by omega, rfl, ?_, HB4.out⟩
        have h1 := HO4.out
        have e2 : 8 - j = 8 - (j + 1) + 1 := by omega
        have e4 : 8 - 1 - (8 - (j + 1)) = j := by omega
        rw [e2, bytesN_take _ _ _ (by omega), e4, HBB.out]
        simpa [List.flatMap_append] using h1
      case measure => simp [intOf]
set_option maxRecDepth 100000 in
set_option maxHeartbeats 2000000 in
theorem bytes4 (hi lo : UInt64) (hr : rightA (4, hi, lo) = true) (w : World) : Calls Try.prog 65 #[encA (4, hi, lo)] w (BytesPost (bytesN lo.toNat 4) w) := by
  have hbx : Below w.heap.size w (w.alloc (.cells #[.int .u8 4, .int .u64 (hi.toNat : Int), .int .u64 (lo.toNat : Int)] 34)) := (Below.refl _ _).alloc (Nat.le_refl _) _
  have HBX := Lib.hid hbx
  have HPX := Lib.hid (heap_alloc_new w (.cells #[.int .u8 4, .int .u64 (hi.toNat : Int), .int .u64 (lo.toNat : Int)] 34))
  have HSZ := Lib.hid (World.size_alloc w (.cells #[.int .u8 4, .int .u64 (hi.toNat : Int), .int .u64 (lo.toNat : Int)] 34))
  have HR := Lib.hid (fun w => (show Calls Try.prog 72 #[.agg #[.int .u8 4, .int .u64 (hi.toNat : Int), .int .u64 (lo.toNat : Int)]] w fun e w' => e = .returned (.bool true) ∧ Below w.heap.size w w' from by have := rright (4, hi, lo) w; rwa [hr] at this))
  clear hr
  clear hbx
  go_enter Try.func65, Try.ntmps65
  go_wp2_with fail
  refine (HR.out _).mono ?_
  rintro e w1 ⟨rfl, hb⟩
  have HB1 := Lib.hid (below_step HBX.out hb HBX.out.size)
  have HP1 := Lib.hid (blk_kept hb HPX.out)
  have HS1 := Lib.hid (show w.heap.size + 1 ≤ w1.heap.size by have := hb.size; rw [HSZ.out] at this; exact this)
  clear hb
  go_wp2_with fail
  have hp0 : w1.cell? ⟨w.heap.size, 0, none⟩ = some (.int .u8 4) := by rw [blk_cell HP1.out]; rfl
  refine wp_loop_rounds 1 ?_
  rw [rounds_succ]
  go_wp2_with fail
  clear hp0
  go_loopw [3, 5] (fun v3 v4 wr => ∃ k : Nat, k ≤ 8 ∧ v4 = .int .i64 ((k : Int) - 1) ∧ wr.ownsRow (w.heap.size + 1) 5 1 v3 (4 - k) (((bytesN lo.toNat 4).take (4 - k)).flatMap encB) ∧ Below (w.heap.size + 1) w1 wr) (fun _ v4 _ => ((intOf v4) + 1).toNat)
  case atStart => exact ⟨8, by omega, by simp, World.ownsRow_nil _ _ _ _, Below.refl _ _⟩
  case round =>
    obtain ⟨k, hk, rfl, ho, hbel⟩ := hrel
    have HO := Lib.hid ho
    have HBE := Lib.hid hbel
    have HP2 := Lib.hid (blk_below hbel HP1.out (by omega))
    have HSR := Lib.hid (show w.heap.size + 1 ≤ wr.heap.size from Nat.le_trans HS1.out hbel.size)
    obtain ⟨oo, oc, hov⟩ := owns_slice1 ho
    subst hov
    clear ho hbel
    have hp0 : wr.cell? ⟨w.heap.size, 0, none⟩ = some (.int .u8 4) := by rw [blk_cell HP2.out]; rfl
    have hp1 : wr.cell? ⟨w.heap.size, 2, none⟩ = some (.int .u64 (lo.toNat : Int)) := by rw [blk_cell HP2.out]; rfl
    rcases Nat.eq_zero_or_pos k with hk1 | hk1
    · subst hk1
      go_wp2_with fail
      go_ret
      refine ⟨_, rfl, ?_, HB1.out.trans (HBE.out.mono (by omega))⟩
      have := HO.out
      rw [List.take_of_length_le (by rw [bytesN_length]; omega)] at this
      simpa [bytesN_length] using owns_mono this (by omega)
    · obtain ⟨j, rfl⟩ : ∃ j, k = j + 1 := ⟨k - 1, by omega⟩
      have e1 : (((j + 1 : Nat) : Int) - 1) = (j : Int) := by omega
      rw [e1]
      clear e1
      by_cases hj4 : j < 4
      · have hj5 : (j : Int) < 4 := by omega
        have eb := byteEq lo.toNat j
        have h63 : 4 - (j + 1) + 1 ≤ 1099511627776 := by omega
        have HL := Lib.hid h63
        clear h63
        generalize hbb : UInt8.ofNat (lo.toNat / 256 ^ j) = bb at *
        have HBB := Lib.hid hbb
        clear hbb
        go_wp2_with (at_builtin; refine wpList_append1 rfl (.tmp 39) (.tmp 47) 74 rfl (w.heap.size + 1) 5 _ 1 1 Try.underlying74 infoB rfl (by decide) _ (4 - (j + 1)) (((bytesN lo.toNat 4).take (4 - (j + 1))).flatMap encB) [.int .u8 (bb.toNat : Int)] rfl HO.out _ 1 rfl rfl rfl (by simp [Value.oneCell']) HL.out (by decide) HSR.out (w.heap.size + 1) w1 HBE.out (Nat.le_refl _) ?_; intro v' w' ho hgr hb' hsz'; have HO4 := Lib.hid ho; have HB4 := Lib.hid hb'; clear ho hgr hb' hsz')
        go_roundw
        case rel =>
          refine ⟨j, by omega, rfl, ?_, HB4.out⟩
          have h1 := HO4.out
          have e2 : 4 - j = 4 - (j + 1) + 1 := by omega
          have e4 : 4 - 1 - (4 - (j + 1)) = j := by omega
          rw [e2, bytesN_take _ _ _ (by omega), e4, HBB.out]
          simpa [List.flatMap_append] using h1
        case measure => simp [intOf]
      · have hj5 : ¬ (j : Int) < 4 := by omega
        have hj6 : decide (j < 4) = false := by simpa using hj4
        have HZ := Lib.hid (show 4 - j = 4 - (j + 1) by omega)
        go_wp2_with fail
        go_roundw
        case rel => exact ⟨j, by omega, rfl, by rw [HZ.out]; exact HO.out, HBE.out⟩
        case measure => simp [intOf]
/-- The document's Bytes. -/
theorem rbytes (a : Ad) (w : World) : Calls Try.prog 65 #[encA a] w (BytesPost (bytesA a) w) := by
  cases hr : rightA a with
  | true =>
    obtain ⟨f, hi, lo⟩ := a
    unfold bytesA
    rw [if_pos hr]
    rcases right_fam hr with h | h
    · simp only at h
      subst h
      have e : num (4, hi, lo) = lo.toNat := by
        have h1 := hr
        simp only [rightA, Bool.or_eq_true, Bool.and_eq_true, beq_iff_eq] at h1
        rcases h1 with h1 | ⟨_, h1, _⟩
        · exact absurd h1 (by decide)
        · unfold num; rw [h1]; simp
      rw [e]
      exact bytes4 hi lo hr w
    · simp only at h
      subst h
      exact bytes6 hi lo w
  | false =>
    have e : bytesA a = [] := by unfold bytesA; rw [hr]; rfl
    rw [e]
    obtain ⟨f, hi, lo⟩ := a
    have HR := Lib.hid (fun w => (show Calls Try.prog 72 #[encA (f, hi, lo)] w fun e w' => e = .returned (.bool false) ∧ Below w.heap.size w w' from by have := rright (f, hi, lo) w; rwa [hr] at this))
    clear hr e
    have hbx : Below w.heap.size w (w.alloc (.cells #[.int .u8 (f.toNat : Int), .int .u64 (hi.toNat : Int), .int .u64 (lo.toNat : Int)] 34)) := (Below.refl _ _).alloc (Nat.le_refl _) _
    have HBX := Lib.hid hbx
    clear hbx
    go_enter Try.func65, Try.ntmps65
    go_wp2_with fail
    refine (HR.out _).mono ?_
    rintro e w1 ⟨rfl, hb⟩
    have HB1 := Lib.hid (below_step HBX.out hb HBX.out.size)
    clear hb
    go_wp2_with fail
    go_ret
    exact ⟨_, rfl, World.ownsRow_nil _ _ _ _, HB1.out⟩
end Go.Proofs.Try.Pfx
