/- The document's prefixes: right, has, last, within, ahead. -/
import Derived.Test.YtbhnpndkdhhpfaaRb6
set_option linter.unusedVariables false
set_option linter.unusedSimpArgs false
namespace Go.Proofs.Try.Pfx
open Go.RowKit Go.Cph Go.Cph.Px

set_option maxRecDepth 100000 in
set_option maxHeartbeats 4000000 in
theorem rrightP (p : Pf) (w : World) : Calls Try.prog 49 #[encP p] w fun e w' => e = .returned (.bool (rightP p)) ∧ Below w.heap.size w w' := by
  have HRW := Lib.hid (fun w => rrow p.1 w)
  have hv := (rightR_eq p).symm
  unfold rightR at hv
  have hle : (rowA p.1).length ≤ 128 := by
    cases hr : rightA p.1 with
    | true => rw [row_length hr]; unfold wid; split <;> omega
    | false => rw [row_none hr]; simp
  obtain ⟨R, hR⟩ : ∃ R, R = rowA p.1 := ⟨_, rfl⟩
  rw [← hR] at HRW hv hle
  have HV := Lib.hid hv
  clear hR hv
  have hb0 : Below w.heap.size w (w.alloc (.cells #[.int .u8 (p.1.1.toNat : Int), .int .u64 (p.1.2.1.toNat : Int), .int .u64 (p.1.2.2.toNat : Int), .int .i64 p.2] 36)) := (Below.refl _ _).alloc (Nat.le_refl _) _
  have HB0 := Lib.hid hb0
  have HG0 := Lib.hid (heap_alloc_new w (.cells #[.int .u8 (p.1.1.toNat : Int), .int .u64 (p.1.2.1.toNat : Int), .int .u64 (p.1.2.2.toNat : Int), .int .i64 p.2] 36))
  clear hb0
  go_enter Try.func49, Try.ntmps49
  go_wp2_with fail
  generalize w.alloc (.cells #[.int .u8 (p.1.1.toNat : Int), .int .u64 (p.1.2.1.toNat : Int), .int .u64 (p.1.2.2.toNat : Int), .int .i64 p.2] 36) = w0 at *
  refine (HRW.out _).mono ?_
  rintro e w1 ⟨rv, rfl, ho, hb⟩
  obtain ⟨ro, rc, hrv⟩ := owns_slice1 ho
  subst hrv
  have HS := Lib.hid (Seg.of_owns ho)
  have HB1 := Lib.hid (below_step HB0.out hb HB0.out.size)
  have HG1 := Lib.hid (blk_kept hb HG0.out)
  clear ho hb
  have p3 : w1.cell? ⟨w.heap.size, 3, none⟩ = some (.int .i64 p.2) := by rw [blk_cell HG1.out]; rfl
  have hcase : R.length = 0 ∨ (R.length ≠ 0 ∧ p.2 < 0) ∨ (R.length ≠ 0 ∧ ¬ p.2 < 0 ∧ (R.length : Int) < p.2) ∨ (R.length ≠ 0 ∧ ¬ p.2 < 0 ∧ ¬ (R.length : Int) < p.2) := by omega
  rcases hcase with hc | ⟨hc, hc2⟩ | ⟨hc, hc2, hc3⟩ | ⟨hc, hc2, hc3⟩
  · have z1 : ((R.length : Int) == 0) = true := by simpa using hc
    have HX := Lib.hid (show rightP p = false by rw [HV.out]; simp [hc])
    clear hc
    go_wp2_with fail
    go_ret
    exact ⟨ret_bool HX.out.symm, HB1.out⟩
  · have z1 : ((R.length : Int) == 0) = false := by simpa using hc
    have HX := Lib.hid (show rightP p = false by rw [HV.out]; simp; omega)
    clear hc
    go_wp2_with fail
    go_ret
    exact ⟨ret_bool HX.out.symm, HB1.out⟩
  · have z1 : ((R.length : Int) == 0) = false := by simpa using hc
    have HX := Lib.hid (show rightP p = false by rw [HV.out]; simp; omega)
    clear hc
    go_wp2_with fail
    go_ret
    exact ⟨ret_bool HX.out.symm, HB1.out⟩
  · have z1 : ((R.length : Int) == 0) = false := by simpa using hc
    obtain ⟨k, hk⟩ : ∃ k : Nat, p.2 = (k : Int) := ⟨p.2.toNat, by omega⟩
    have HX := Lib.hid (show rightP p = (R.drop k).all (fun b => b != 1) by
      have e0 : decide (0 ≤ p.2) = true := by simp; omega
      have e1 : decide (p.2 ≤ (R.length : Int)) = true := by simp; omega
      have e2 : p.2.toNat = k := by omega
      have e3 : decide (R.length ≠ 0) = true := by simpa using hc
      rw [HV.out, e0, e1, e2, e3]; rfl)
    have hkl : k ≤ R.length := by omega
    have HK := Lib.hid hk
    rw [hk] at p3 hc2 hc3
    clear hc hk
    go_wp2_with fail
    go_loop [4] (fun v4 => ∃ i : Nat, k ≤ i ∧ i ≤ R.length ∧ v4 = .int .i64 i ∧ Hid (∀ b ∈ (R.drop k).take (i - k), b ≠ 1)) (fun v4 => R.length - (intOf v4).toNat)
    case atStart => exact ⟨k, Nat.le_refl _, hkl, rfl, Lib.hid (by simp)⟩
    case round =>
      obtain ⟨i, hki, hi, rfl, HA⟩ := hrel
      by_cases hlt : i < R.length
      · obtain ⟨b, off, cap', hve, hcs⟩ := bs_cells HS.out (by omega)
        cases hve
        have hc := hcs i hlt
        obtain ⟨x, hx⟩ : ∃ x, x = R[i] := ⟨_, rfl⟩
        rw [← hx] at hc
        have hd : (R.drop k)[i - k]? = some x := by rw [List.getElem?_drop, show k + (i - k) = i by omega, hx]; exact List.getElem?_eq_getElem hlt
        have HD := Lib.hid hd
        have m1 : (i : Int) < (R.length : Int) := by omega
        clear hcs hx hd
        by_cases hx1 : x = 1
        · have z2 : ((x.toNat : Int) == 1) = true := int_u8_eq (c := 1) hx1
          have HF := Lib.hid (show rightP p = false by
            rw [HX.out, Bool.eq_false_iff]
            intro h
            rw [List.all_eq_true] at h
            have := h x (List.mem_of_getElem? HD.out)
            rw [hx1] at this
            exact absurd this (by decide))
          clear hx1
          go_wp2_with fail
          go_ret
          exact ⟨ret_bool HF.out.symm, HB1.out⟩
        · have z2 : ((x.toNat : Int) == 1) = false := int_u8_ne (c := 1) hx1
          have HA2 : Hid (∀ b ∈ (R.drop k).take (i + 1 - k), b ≠ 1) := Lib.hid (by
            have e : i + 1 - k = i - k + 1 := by omega
            intro b hb
            rw [e, List.take_add_one, HD.out, List.mem_append] at hb
            rcases hb with hb | hb
            · exact HA.out b hb
            · simp at hb; subst hb; exact hx1)
          clear hx1
          go_wp2_with fail
          go_round
          case rel => exact ⟨i + 1, by omega, by omega, by go_num, HA2⟩
          case measure => simp [intOf]; omega
      · obtain rfl : i = R.length := by omega
        have HF := Lib.hid (show rightP p = true by
          rw [HX.out, List.all_eq_true]
          intro b hb
          have := HA.out b (by rw [List.take_of_length_le (by simp)]; exact hb)
          simpa using this)
        go_wp2_with fail
        go_ret
        exact ⟨ret_bool HF.out.symm, HB1.out⟩

set_option maxRecDepth 100000 in
set_option maxHeartbeats 4000000 in
theorem rhasP (p : Pf) (a : Ad) (w : World) : Calls Try.prog 38 #[encP p, encA a] w fun e w' => e = .returned (.bool (hasP p a)) ∧ Below w.heap.size w w' := by
  have HRW := Lib.hid (fun w => rrow p.1 w)
  have HRO := Lib.hid (fun w => rrow a w)
  have HRP := Lib.hid (fun w => rrightP p w)
  have hv := (hasR_eq p a).symm
  unfold hasR at hv
  have hbits : rightP p = true → 0 ≤ p.2 ∧ p.2 ≤ ((rowA p.1).length : Int) := fun h => by
    have h := rightP_iff.1 h
    have h1 := h.hi
    rw [width_wid] at h1
    rw [row_length h.ad]
    exact ⟨h.lo, h1⟩
  have hle : ∀ a : Ad, (rowA a).length ≤ 128 := fun a => by
    cases hr : rightA a with
    | true => rw [row_length hr]; unfold wid; split <;> omega
    | false => rw [row_none hr]; simp
  have hle1 := hle p.1
  have hle2 := hle a
  obtain ⟨R, hR⟩ : ∃ R, R = rowA p.1 := ⟨_, rfl⟩
  obtain ⟨O, hO⟩ : ∃ R, R = rowA a := ⟨_, rfl⟩
  obtain ⟨rp, hrp⟩ : ∃ r, r = rightP p := ⟨_, rfl⟩
  rw [← hR] at HRW hv hle1 hbits
  rw [← hO] at HRO hv hle2
  rw [← hrp] at HRP hv hbits
  have HV := Lib.hid hv
  have HBT := Lib.hid hbits
  clear hR hO hrp hv hle hbits
  have hb0 : Below w.heap.size w ((w.alloc (.cells #[.int .u8 (p.1.1.toNat : Int), .int .u64 (p.1.2.1.toNat : Int), .int .u64 (p.1.2.2.toNat : Int), .int .i64 p.2] 36)).alloc (.cells #[.int .u8 (a.1.toNat : Int), .int .u64 (a.2.1.toNat : Int), .int .u64 (a.2.2.toNat : Int)] 34)) := ((Below.refl _ _).alloc (Nat.le_refl _) _).alloc (by simp) _
  have h1 : ((w.alloc (.cells #[.int .u8 (p.1.1.toNat : Int), .int .u64 (p.1.2.1.toNat : Int), .int .u64 (p.1.2.2.toNat : Int), .int .i64 p.2] 36)).alloc (.cells #[.int .u8 (a.1.toNat : Int), .int .u64 (a.2.1.toNat : Int), .int .u64 (a.2.2.toNat : Int)] 34)).heap[w.heap.size]? = some (.cells #[.int .u8 (p.1.1.toNat : Int), .int .u64 (p.1.2.1.toNat : Int), .int .u64 (p.1.2.2.toNat : Int), .int .i64 p.2] 36 (0, 0)) := blk_alloc (heap_alloc_new _ _) _
  have h2 := heap_alloc_new (w.alloc (.cells #[.int .u8 (p.1.1.toNat : Int), .int .u64 (p.1.2.1.toNat : Int), .int .u64 (p.1.2.2.toNat : Int), .int .i64 p.2] 36)) (.cells #[.int .u8 (a.1.toNat : Int), .int .u64 (a.2.1.toNat : Int), .int .u64 (a.2.2.toNat : Int)] 34)
  rw [World.size_alloc] at h2
  have H1 := Lib.hid h1
  have H2 := Lib.hid h2
  have HB0 := Lib.hid hb0
  clear h1 h2 hb0
  go_enter Try.func38, Try.ntmps38
  go_wp2_with fail
  generalize (w.alloc (.cells #[.int .u8 (p.1.1.toNat : Int), .int .u64 (p.1.2.1.toNat : Int), .int .u64 (p.1.2.2.toNat : Int), .int .i64 p.2] 36)).alloc (.cells #[.int .u8 (a.1.toNat : Int), .int .u64 (a.2.1.toNat : Int), .int .u64 (a.2.2.toNat : Int)] 34) = w0 at *
  refine (HRW.out _).mono ?_
  rintro e w1 ⟨rv, rfl, ho, hb⟩
  obtain ⟨ro, rc, hrv⟩ := owns_slice1 ho
  subst hrv
  have HS1 := Lib.hid (Seg.of_owns ho)
  have HB1 := Lib.hid (below_step HB0.out hb HB0.out.size)
  have HG1 := Lib.hid (blk_kept hb H1.out)
  have HG2 := Lib.hid (blk_kept hb H2.out)
  clear ho hb
  have a0 : w1.cell? ⟨w.heap.size + 1, 0, none⟩ = some (.int .u8 (a.1.toNat : Int)) := by rw [blk_cell HG2.out]; rfl
  have a1 : w1.cell? ⟨w.heap.size + 1, 1, none⟩ = some (.int .u64 (a.2.1.toNat : Int)) := by rw [blk_cell HG2.out]; rfl
  have a2 : w1.cell? ⟨w.heap.size + 1, 2, none⟩ = some (.int .u64 (a.2.2.toNat : Int)) := by rw [blk_cell HG2.out]; rfl
  go_wp2_with fail
  refine (HRO.out _).mono ?_
  rintro e w2 ⟨ov, rfl, ho, hb⟩
  obtain ⟨oo, oc, hov⟩ := owns_slice1 ho
  subst hov
  have HO2 := Lib.hid (Seg.of_owns ho)
  have HS2 := Lib.hid (HS1.out.kept hb)
  have HB2 := Lib.hid (below_step HB1.out hb HB1.out.size)
  have HG3 := Lib.hid (blk_kept hb HG1.out)
  clear ho hb a0 a1 a2
  have p0 : w2.cell? ⟨w.heap.size, 0, none⟩ = some (.int .u8 (p.1.1.toNat : Int)) := by rw [blk_cell HG3.out]; rfl
  have p1 : w2.cell? ⟨w.heap.size, 1, none⟩ = some (.int .u64 (p.1.2.1.toNat : Int)) := by rw [blk_cell HG3.out]; rfl
  have p2 : w2.cell? ⟨w.heap.size, 2, none⟩ = some (.int .u64 (p.1.2.2.toNat : Int)) := by rw [blk_cell HG3.out]; rfl
  have p3 : w2.cell? ⟨w.heap.size, 3, none⟩ = some (.int .i64 p.2) := by rw [blk_cell HG3.out]; rfl
  go_wp2_with fail
  refine (HRP.out _).mono ?_
  rintro e w3 ⟨rfl, hb⟩
  have HO3 := Lib.hid (HO2.out.kept hb)
  have HS3 := Lib.hid (HS2.out.kept hb)
  have HB3 := Lib.hid (below_step HB2.out hb HB2.out.size)
  have HG4 := Lib.hid (blk_kept hb HG3.out)
  clear hb p0 p1 p2 p3
  cases rp
  · have HX := Lib.hid (show hasP p a = false by rw [HV.out]; rfl)
    go_wp2_with fail
    go_ret
    exact ⟨ret_bool HX.out.symm, HB3.out⟩
  · by_cases hlen : O.length = R.length
    · obtain ⟨hb0, hb1⟩ := HBT.out rfl
      obtain ⟨k, hk⟩ : ∃ k : Nat, p.2 = (k : Int) := ⟨p.2.toNat, by omega⟩
      have HX := Lib.hid (show hasP p a = decide (R.take k = O.take k) by
        have e2 : p.2.toNat = k := by omega
        rw [HV.out, e2]; simp [hlen])
      have hkl : k ≤ R.length := by omega
      have z1 : ((O.length : Int) != (R.length : Int)) = false := by simp [hlen]
      have HL := Lib.hid hlen
      have HK := Lib.hid hk
      have p3 : w3.cell? ⟨w.heap.size, 3, none⟩ = some (.int .i64 (k : Int)) := by rw [blk_cell HG4.out, ← hk]; rfl
      clear hlen hk hb0 hb1
      go_wp2_with fail
      clear p3
      go_loopw [7] (fun v7 wr => ∃ i : Nat, i ≤ k ∧ v7 = .int .i64 i ∧ Hid (R.take i = O.take i) ∧ Below w3.heap.size w3 wr) (fun v7 _ => k - (intOf v7).toNat)
      case atStart => exact ⟨0, Nat.zero_le _, rfl, Lib.hid (by simp), Below.refl _ _⟩
      case round =>
        obtain ⟨i, hi, rfl, HA, hbel⟩ := hrel
        have HBE := Lib.hid hbel
        clear hbel
        have p3 : wr.cell? ⟨w.heap.size, 3, none⟩ = some (.int .i64 (k : Int)) := by rw [blk_cell (blk_kept HBE.out HG4.out), ← HK.out]; rfl
        by_cases hlt : i < k
        · have hiR : i < R.length := by omega
          have hiO : i < O.length := by rw [HL.out]; exact hiR
          obtain ⟨b, off, cap', hve, hcs⟩ := bs_cells (HS3.out.kept HBE.out) (by omega)
          cases hve
          obtain ⟨b2, off2, cap2, hve2, hds⟩ := bs_cells (HO3.out.kept HBE.out) (by omega)
          cases hve2
          have hc := hcs i hiR
          have hd := hds i hiO
          have hstep : R.take (i + 1) = O.take (i + 1) ↔ R[i] = O[i] := by
            rw [List.take_succ_eq_append_getElem hiR, List.take_succ_eq_append_getElem hiO, HA.out]
            constructor
            · intro h; exact (List.cons.inj (List.append_cancel_left h)).1
            · intro h; rw [h]
          obtain ⟨x, hx⟩ : ∃ x, x = R[i] := ⟨_, rfl⟩
          obtain ⟨y, hy⟩ : ∃ x, x = O[i] := ⟨_, rfl⟩
          rw [← hx] at hc hstep
          rw [← hy] at hd hstep
          have HST := Lib.hid hstep
          have m0 : (0 : Int) ≤ (i : Int) := by omega
          have m1 : (i : Int) < (R.length : Int) := by omega
          have m2 : (i : Int) < (O.length : Int) := by omega
          have mk : (i : Int) < (k : Int) := by omega
          clear hcs hds hx hy hstep
          by_cases hxy : x = y
          · have z2 : ((x.toNat : Int) != (y.toNat : Int)) = false := by rw [neq_of (u8_eq x y)]; simp [hxy]
            have HA2 := Lib.hid (HST.out.2 hxy)
            clear hxy
            go_wp2_with fail
            go_quiet (fail)
            clear p3 hc hd z2
            go_wp2_with fail
            go_roundw
            case rel => exact ⟨i + 1, by omega, by go_num, HA2, HBE.out.trans ⟨rfl, rfl, rfl, Nat.le_refl _, fun _ _ => rfl⟩⟩
            case measure => simp [intOf]; omega
          · have z2 : ((x.toNat : Int) != (y.toNat : Int)) = true := by rw [neq_of (u8_eq x y)]; simp [hxy]
            have HF := Lib.hid (show hasP p a = false by
              rw [HX.out, decide_eq_false_iff_not]
              intro h
              have h2 := congrArg (List.take (i + 1)) h
              rw [List.take_take, List.take_take, Nat.min_eq_left (by omega)] at h2
              exact hxy (HST.out.1 h2))
            clear hxy
            go_wp2_with fail
            go_quiet (fail)
            clear p3 hc hd z2
            go_wp2_with fail
            go_ret
            exact ⟨ret_bool HF.out.symm, HB3.out.trans (HBE.out.mono HB3.out.size |>.trans ⟨rfl, rfl, rfl, Nat.le_refl _, fun _ _ => rfl⟩)⟩
        · obtain rfl : i = k := by omega
          have HF := Lib.hid (show hasP p a = true by rw [HX.out, decide_eq_true_eq]; exact HA.out)
          go_wp2_with fail
          go_ret
          exact ⟨ret_bool HF.out.symm, below_step HB3.out HBE.out HB3.out.size⟩
    · have z1 : ((O.length : Int) != (R.length : Int)) = true := by simpa using (show ¬ (O.length : Int) = (R.length : Int) by omega)
      have HX := Lib.hid (show hasP p a = false by rw [HV.out]; simp [hlen])
      clear hlen
      go_wp2_with fail
      go_ret
      exact ⟨ret_bool HX.out.symm, HB3.out⟩
end Go.Proofs.Try.Pfx
