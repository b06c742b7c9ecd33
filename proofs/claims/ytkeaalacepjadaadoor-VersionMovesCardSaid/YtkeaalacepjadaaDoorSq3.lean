/- Numbers parted at a pivot. -/
import Derived.Test.YtkeaalacepjadaaDoorSq2
import Derived.Deep.CutBlock
set_option linter.unusedVariables false
set_option linter.unusedSimpArgs false
set_option maxRecDepth 100000
namespace Go.Proofs.Tryd.Sq
open Go.RowKit Go.Cph Go.Sort

theorem scanUp_ge {p : UInt64 → Bool} {d : Array UInt64} {j : Nat} : ∀ (k i : Nat), j + 1 - i ≤ k → i ≤ scanUp p d j i ∧ (scanUp p d j i ≤ j + 1 ∨ scanUp p d j i = i) := by
  intro k
  induction k with
  | zero =>
    intro i h
    unfold scanUp
    rw [if_neg (by simp; omega)]
    exact ⟨Nat.le_refl _, .inr rfl⟩
  | succ k ih =>
    intro i h
    unfold scanUp
    split
    · rename_i hc
      simp at hc
      have := ih (i + 1) (by omega)
      omega
    · exact ⟨Nat.le_refl _, .inr rfl⟩
theorem scanDown_le {p : UInt64 → Bool} {d : Array UInt64} {i : Nat} : ∀ j, scanDown p d i j ≤ j
  | 0 => Nat.le_refl _
  | j + 1 => by
    unfold scanDown
    split
    · exact Nat.le_succ_of_le (scanDown_le j)
    · exact Nat.le_refl _
theorem ret_part {x y : Int} {b c : Bool} (h1 : x = y) (h2 : b = c) : Ending.returned (.tuple #[.int .i64 x, .bool b]) = .returned (.tuple #[.int .i64 y, .bool c]) := by rw [h1, h2]
theorem partLoop_stop {a i j i2 j2 : Nat} {d : Array UInt64} (hi : i2 = scanUp (fun x => ltU x d[a]!) d j i) (hj : j2 = scanDown (fun x => !ltU x d[a]!) d i2 j) (h : i2 > j2) : partLoop ltU a i j d = (j2, d) := by
  conv => lhs; unfold partLoop
  simp only
  rw [← hi, ← hj, if_pos h]
theorem partLoop_go {a i j i2 j2 : Nat} {d : Array UInt64} (hi : i2 = scanUp (fun x => ltU x d[a]!) d j i) (hj : j2 = scanDown (fun x => !ltU x d[a]!) d i2 j) (h : ¬ i2 > j2) (h1 : i ≤ i2) (h2 : j2 ≤ j) (h3 : 1 ≤ i2) : partLoop ltU a i j d = partLoop ltU a (i2 + 1) (j2 - 1) (swp d i2 j2) := by
  conv => lhs; unfold partLoop
  simp only
  rw [← hi, ← hj, if_neg h, dif_pos (by omega)]
def PartPost (w0 : World) (base g n cap : Nat) (r : Nat × Bool × Array UInt64) (e : Ending) (w' : World) : Prop := e = .returned (.tuple #[.int .i64 (r.1 : Int), .bool r.2.1]) ∧ Ro w0 base g n cap r.2.2 w'

set_option maxHeartbeats 16000000 in
theorem part_any {base g n cap : Nat} (a b pv : Nat) (d : Array UInt64) (w0 w : World) (h : Ro w0 base g n cap d w) (hap : a ≤ pv) (hpb : pv < b) (hb : b ≤ n) (hn : n ≤ 1000000) :
    Calls Tryd.prog 74 #[.slice (some ⟨g, 0, none⟩) n cap, .int .i64 a, .int .i64 b, .int .i64 pv] w (PartPost w0 base g n cap (partition ltU d a b pv)) := by
  have HR := Lib.hid h
  clear h
  obtain ⟨i0, hi0⟩ : ∃ i, i = a + 1 := ⟨_, rfl⟩
  obtain ⟨j0, hj0⟩ : ∃ i, i = b - 1 := ⟨_, rfl⟩
  have HI0 := Lib.hid hi0
  have HJ0 := Lib.hid hj0
  have v1 : IntKind.i64.wrap ((a : Int) + 1) = (i0 : Int) := by rw [IntKind.wrap_i64]; omega
  have v2 : IntKind.i64.wrap ((b : Int) - 1) = (j0 : Int) := by rw [IntKind.wrap_i64]; omega
  have v3 : (a : Int) + 1 = (i0 : Int) := by omega
  have v4 : (b : Int) - 1 = (j0 : Int) := by omega
  have han : a < n := by omega
  have hpn : pv < n := by omega
  have hi1 : 1 ≤ i0 := by omega
  have hjn : j0 < n := by omega
  clear hi0 hj0
  go_enter Tryd.func74, Tryd.ntmps74
  obtain ⟨xs, hxs⟩ : ∃ x, x = d[a]! := ⟨_, rfl⟩
  obtain ⟨ys, hys⟩ : ∃ y, y = d[pv]! := ⟨_, rfl⟩
  have cz1 : w.cell? ⟨g, a, none⟩ = some (.int .u64 (xs.toNat : Int)) := by rw [hxs]; exact HR.out.cell (han)
  have cz2 : w.cell? ⟨g, pv, none⟩ = some (.int .u64 (ys.toNat : Int)) := by rw [hys]; exact HR.out.cell (hpn)
  have cz3 := HR.out.put_cell (han) (hpn) hys
  have HSX := Lib.hid hxs
  have HSY := Lib.hid hys
  have pz1 : (a : Int) < (n : Int) := by have := han; omega
  have pz2 : (pv : Int) < (n : Int) := by have := hpn; omega
  have pz3 : (0 : Int) ≤ (a : Int) := by omega
  have pz4 : (0 : Int) ≤ (pv : Int) := by omega
  have fz : ∀ o, w.frozen? ⟨g, o, none⟩ = false := fun o => HR.out.free o
  clear hxs hys
  go_wp2_with fail
  go_region
  have HR1 := Lib.hid ((HR.out.put2 (han) (hpn) HSX.out HSY.out).drew)
  clear cz1 cz2 cz3 pz1 pz2 pz3 pz4 fz HSX HSY
  obtain ⟨d1, hd1⟩ : ∃ x, x = swp d a pv := ⟨_, rfl⟩
  have HD1 := Lib.hid hd1
  rw [← hd1] at HR1
  clear hd1
  obtain ⟨i2, hi2⟩ : ∃ x, x = scanUp (fun x => ltU x d1[a]!) d1 j0 i0 := ⟨_, rfl⟩
  have Hi2 := Lib.hid hi2
  clear hi2
  go_upto_block 0 with (fail)
  go_cut [10] from 30 to 45 (fun v W => v = .int .i64 (i2 : Int) ∧ Ro w0 base g n cap d1 W)
  case first =>
    go_wp2_with fail
    go_loopw [10] (fun v W => ∃ t : Nat, v = .int .i64 (t : Int) ∧ (i0 ≤ t ∧ (t ≤ j0 + 1 ∨ t = i0)) ∧ Hid (scanUp (fun x => ltU x d1[a]!) d1 j0 t = i2) ∧ Ro w0 base g n cap d1 W) (fun v _ => j0 + 1 - (intOf v).toNat)
    case atStart => exact ⟨i0, rfl, by omega, Lib.hid Hi2.out.symm, HR1.out⟩
    case round =>
      obtain ⟨t, rfl, ht, HS, hr⟩ := hrel
      have HRT := Lib.hid hr
      clear hr
      by_cases hle : t ≤ j0
      · have z1 : (t : Int) ≤ (j0 : Int) := by omega
        have z2 : decide (t ≤ j0) = true := by simpa using hle
        have htn : t < n := by omega
        have e2 : IntKind.i64.wrap ((t : Int) + 1) = ((t + 1 : Nat) : Int) := by rw [IntKind.wrap_i64]; omega
        obtain ⟨xq, hxq⟩ : ∃ x, x = d1[t]! := ⟨_, rfl⟩
        obtain ⟨yq, hyq⟩ : ∃ y, y = d1[a]! := ⟨_, rfl⟩
        have cz1 : ∀ zz : Later wr.heap.size wr, zz.val.cell? ⟨g, t, none⟩ = some (.int .u64 (xq.toNat : Int)) := fun zz => cell_kept zz.prop (by rw [hxq]; exact HRT.out.cell (htn))
        have cz2 : ∀ zz : Later wr.heap.size wr, zz.val.cell? ⟨g, a, none⟩ = some (.int .u64 (yq.toNat : Int)) := fun zz => cell_kept zz.prop (by rw [hyq]; exact HRT.out.cell (han))
        have HLq := Lib.hid (fun W => less_any xq yq W)
        obtain ⟨q, hq⟩ : ∃ b, b = ltU xq yq := ⟨_, rfl⟩
        rw [← hq] at HLq
        rw [hxq, hyq] at hq
        have Hq := Lib.hid hq
        have pz1 : (t : Int) < (n : Int) := by have := htn; omega
        have pz2 : (a : Int) < (n : Int) := by have := han; omega
        have pz3 : (0 : Int) ≤ (t : Int) := by omega
        have pz4 : (0 : Int) ≤ (a : Int) := by omega
        clear hxq hyq hq
        go_wp2_with fail
        refine wp_region_later wr.heap.size (by kernel_rfl) (by kernel_rfl) ?_
        repeat (go_big_quiet_step ((go_at_call 72; exact Later.calls (Nat.le_refl _) (HLq.out _))))
        refine wpQuiet_nil ?_
        rintro w9 ⟨zz, rfl⟩
        have HR9 := Lib.hid (HRT.out.later zz.prop)
        clear cz1 cz2 pz1 pz2 pz3 pz4 HLq
        generalize zz.val = w9 at *
        cases q
        · have HS2 := Lib.hid (show t = i2 from by
                  rw [← HS.out]
                  conv => rhs; unfold scanUp
                  rw [if_neg (by rw [← Hq.out]; simp)])
          clear z1 z2 e2
          go_wp2_with fail
          go_meet
          case rel => exact ⟨by rw [HS2.out], HR9.out⟩
        · have HS2 := Lib.hid (show scanUp (fun x => ltU x d1[a]!) d1 j0 (t + 1) = i2 from by
                  rw [← HS.out]
                  conv => rhs; unfold scanUp
                  rw [if_pos (by rw [← Hq.out]; simp; omega)])
          clear z1 z2
          go_wp2_with fail
          go_roundw
          case rel => exact ⟨t + 1, rfl, by omega, HS2, HR9.out⟩
          case measure => simp [intOf]; omega
      · have z1 : ¬ ((t : Int) ≤ (j0 : Int)) := by omega
        have z2 : decide (t ≤ j0) = false := by simpa using hle
        have z3 : decide ((t : Int) ≤ (j0 : Int)) = false := by rw [decide_eq_false_iff_not]; exact z1
        have HS2 := Lib.hid (show t = i2 from by
              rw [← HS.out]
              conv => rhs; unfold scanUp
              rw [if_neg (by simp; omega)])
        clear hle
        go_wp2_with fail
        go_quiet (fail)
        go_wp2_with fail
        go_meet
        case rel => exact ⟨by rw [HS2.out], HRT.out.drewN _⟩
  case rest =>
    rename World => W2
    obtain ⟨rfl, hr⟩ := hcut
    have HR2 := Lib.hid hr
    clear hr
    have hi2 : i0 ≤ i2 ∧ (i2 ≤ j0 + 1 ∨ i2 = i0) := by rw [Hi2.out]; exact scanUp_ge _ _ (Nat.le_refl _)
    have hi21 : 1 ≤ i2 := by omega
    obtain ⟨j2, hj2⟩ : ∃ x, x = scanDown (fun x => !ltU x d1[a]!) d1 i2 j0 := ⟨_, rfl⟩
    have Hj2 := Lib.hid hj2
    clear hj2
    go_upto_block 2 with (fail)
    go_cut [11] from 46 to 62 (fun v W => v = .int .i64 (j2 : Int) ∧ Ro w0 base g n cap d1 W)
    case first =>
      go_wp2_with fail
      go_loopw [11] (fun v W => ∃ t : Nat, v = .int .i64 (t : Int) ∧ (t ≤ j0) ∧ Hid (scanDown (fun x => !ltU x d1[a]!) d1 i2 t = j2) ∧ Ro w0 base g n cap d1 W) (fun v _ => (intOf v).toNat)
      case atStart => exact ⟨j0, rfl, by omega, Lib.hid Hj2.out.symm, HR2.out⟩
      case round =>
        obtain ⟨t, rfl, ht, HS, hr⟩ := hrel
        have HRT := Lib.hid hr
        clear hr
        by_cases hle : i2 ≤ t
        · have z1 : (i2 : Int) ≤ (t : Int) := by omega
          have z2 : decide (i2 ≤ t) = true := by simpa using hle
          have htn : t < n := by omega
          have e2 : IntKind.i64.wrap ((t : Int) - 1) = ((t - 1 : Nat) : Int) := by rw [IntKind.wrap_i64]; omega
          obtain ⟨xq, hxq⟩ : ∃ x, x = d1[t]! := ⟨_, rfl⟩
          obtain ⟨yq, hyq⟩ : ∃ y, y = d1[a]! := ⟨_, rfl⟩
          have cz1 : ∀ zz : Later wr.heap.size wr, zz.val.cell? ⟨g, t, none⟩ = some (.int .u64 (xq.toNat : Int)) := fun zz => cell_kept zz.prop (by rw [hxq]; exact HRT.out.cell (htn))
          have cz2 : ∀ zz : Later wr.heap.size wr, zz.val.cell? ⟨g, a, none⟩ = some (.int .u64 (yq.toNat : Int)) := fun zz => cell_kept zz.prop (by rw [hyq]; exact HRT.out.cell (han))
          have HLq := Lib.hid (fun W => less_any xq yq W)
          obtain ⟨q, hq⟩ : ∃ b, b = ltU xq yq := ⟨_, rfl⟩
          rw [← hq] at HLq
          rw [hxq, hyq] at hq
          have Hq := Lib.hid hq
          have pz1 : (t : Int) < (n : Int) := by have := htn; omega
          have pz2 : (a : Int) < (n : Int) := by have := han; omega
          have pz3 : (0 : Int) ≤ (t : Int) := by omega
          have pz4 : (0 : Int) ≤ (a : Int) := by omega
          clear hxq hyq hq
          go_wp2_with fail
          refine wp_region_later wr.heap.size (by kernel_rfl) (by kernel_rfl) ?_
          repeat (go_big_quiet_step ((go_at_call 72; exact Later.calls (Nat.le_refl _) (HLq.out _))))
          refine wpQuiet_nil ?_
          rintro w9 ⟨zz, rfl⟩
          have HR9 := Lib.hid (HRT.out.later zz.prop)
          clear cz1 cz2 pz1 pz2 pz3 pz4 HLq
          generalize zz.val = w9 at *
          cases q
          · have HS2 := Lib.hid (show scanDown (fun x => !ltU x d1[a]!) d1 i2 (t - 1) = j2 from by
                    rw [← HS.out]
                    cases t with
                    | zero => omega
                    | succ t =>
                      rw [Nat.add_sub_cancel]
                      conv => rhs; unfold scanDown
                      rw [if_pos (by rw [← Hq.out]; simp; omega)])
            clear z1 z2
            go_wp2_with fail
            go_roundw
            case rel => exact ⟨t - 1, rfl, by omega, HS2, HR9.out⟩
            case measure => simp [intOf]; omega
          · have HS2 := Lib.hid (show t = j2 from by
                    rw [← HS.out]
                    cases t with
                    | zero => rfl
                    | succ t => 
                      conv => rhs; unfold scanDown
                      rw [if_neg (by rw [← Hq.out]; simp)])
            clear z1 z2 e2
            go_wp2_with fail
            go_meet
            case rel => exact ⟨by rw [HS2.out], HR9.out⟩
        · have z1 : ¬ ((i2 : Int) ≤ (t : Int)) := by omega
          have z2 : decide (i2 ≤ t) = false := by simpa using hle
          have z3 : decide ((i2 : Int) ≤ (t : Int)) = false := by rw [decide_eq_false_iff_not]; exact z1
          have HS2 := Lib.hid (show t = j2 from by
                rw [← HS.out]
                cases t with
                | zero => rfl
                | succ t => 
                  conv => rhs; unfold scanDown
                  rw [if_neg (by simp; omega)])
          clear hle
          go_wp2_with fail
          go_quiet (fail)
          go_wp2_with fail
          go_meet
          case rel => exact ⟨by rw [HS2.out], HRT.out.drewN _⟩
    case rest =>
      rename World => W3
      obtain ⟨rfl, hr⟩ := hcut
      have HR3 := Lib.hid hr
      clear hr
      have hj2 : j2 ≤ j0 := by rw [Hj2.out]; exact scanDown_le _
      have hj2n : j2 < n := by omega
      have HV := Lib.hid (show partition ltU d a b pv = if i2 > j2 then (j2, true, swp d1 j2 a) else ((partLoop ltU a (i2 + 1) (j2 - 1) (swp d1 i2 j2)).1, false, swp (partLoop ltU a (i2 + 1) (j2 - 1) (swp d1 i2 j2)).2 (partLoop ltU a (i2 + 1) (j2 - 1) (swp d1 i2 j2)).1 a) from by
        rw [Hj2.out, Hi2.out, HD1.out, HI0.out, HJ0.out]; rfl)
      by_cases hgt : i2 > j2
      · have y1 : (i2 : Int) > (j2 : Int) := by omega
        have HE := Lib.hid (HV.out.trans (if_pos hgt))
        clear hgt v1 v2 v3 v4 HV
        obtain ⟨xs, hxs⟩ : ∃ x, x = d1[j2]! := ⟨_, rfl⟩
        obtain ⟨ys, hys⟩ : ∃ y, y = d1[a]! := ⟨_, rfl⟩
        have cz1 : W3.cell? ⟨g, j2, none⟩ = some (.int .u64 (xs.toNat : Int)) := by rw [hxs]; exact HR3.out.cell (hj2n)
        have cz2 : W3.cell? ⟨g, a, none⟩ = some (.int .u64 (ys.toNat : Int)) := by rw [hys]; exact HR3.out.cell (han)
        have cz3 := HR3.out.put_cell (hj2n) (han) hys
        have HSX := Lib.hid hxs
        have HSY := Lib.hid hys
        have pz1 : (j2 : Int) < (n : Int) := by have := hj2n; omega
        have pz2 : (a : Int) < (n : Int) := by have := han; omega
        have pz3 : (0 : Int) ≤ (j2 : Int) := by omega
        have pz4 : (0 : Int) ≤ (a : Int) := by omega
        have fz : ∀ o, W3.frozen? ⟨g, o, none⟩ = false := fun o => HR3.out.free o
        clear hxs hys
        go_wp2_with fail
        go_region
        have HR4 := Lib.hid ((HR3.out.put2 (hj2n) (han) HSX.out HSY.out).drew)
        clear cz1 cz2 cz3 pz1 pz2 pz3 pz4 fz HSX HSY
        go_wp2_with fail
        go_ret2
        exact ⟨ret_part (by rw [HE.out]) (by rw [HE.out]), by rw [HE.out]; exact HR4.out⟩
      · have y1 : ¬ ((i2 : Int) > (j2 : Int)) := by omega
        have HE := Lib.hid (HV.out.trans (if_neg hgt))
        have hi2n : i2 < n := by omega
        obtain ⟨i3, hi3⟩ : ∃ i, i = i2 + 1 := ⟨_, rfl⟩
        obtain ⟨j3, hj3⟩ : ∃ i, i = j2 - 1 := ⟨_, rfl⟩
        have HI3 := Lib.hid hi3
        have HJ3 := Lib.hid hj3
        have y2 : IntKind.i64.wrap ((i2 : Int) + 1) = (i3 : Int) := by rw [IntKind.wrap_i64]; omega
        have y3 : IntKind.i64.wrap ((j2 : Int) - 1) = (j3 : Int) := by rw [IntKind.wrap_i64]; omega
        have y4 : (i2 : Int) + 1 = (i3 : Int) := by omega
        have y5 : (j2 : Int) - 1 = (j3 : Int) := by omega
        have y6 : 1 ≤ i3 := by omega
        have y7 : j3 < n := by omega
        rw [← hi3, ← hj3] at HE
        clear hgt v1 v2 v3 v4 HV hi3 hj3
        obtain ⟨xs, hxs⟩ : ∃ x, x = d1[i2]! := ⟨_, rfl⟩
        obtain ⟨ys, hys⟩ : ∃ y, y = d1[j2]! := ⟨_, rfl⟩
        have cz1 : W3.cell? ⟨g, i2, none⟩ = some (.int .u64 (xs.toNat : Int)) := by rw [hxs]; exact HR3.out.cell (hi2n)
        have cz2 : W3.cell? ⟨g, j2, none⟩ = some (.int .u64 (ys.toNat : Int)) := by rw [hys]; exact HR3.out.cell (hj2n)
        have cz3 := HR3.out.put_cell (hi2n) (hj2n) hys
        have HSX := Lib.hid hxs
        have HSY := Lib.hid hys
        have pz1 : (i2 : Int) < (n : Int) := by have := hi2n; omega
        have pz2 : (j2 : Int) < (n : Int) := by have := hj2n; omega
        have pz3 : (0 : Int) ≤ (i2 : Int) := by omega
        have pz4 : (0 : Int) ≤ (j2 : Int) := by omega
        have fz : ∀ o, W3.frozen? ⟨g, o, none⟩ = false := fun o => HR3.out.free o
        clear hxs hys
        go_wp2_with fail
        go_region
        have HR4 := Lib.hid ((HR3.out.put2 (hi2n) (hj2n) HSX.out HSY.out).drew)
        clear cz1 cz2 cz3 pz1 pz2 pz3 pz4 fz HSX HSY
        obtain ⟨d2, hd2⟩ : ∃ x, x = swp d1 i2 j2 := ⟨_, rfl⟩
        rw [← hd2] at HR4 HE
        obtain ⟨R, hRR⟩ : ∃ x, x = partLoop ltU a i3 j3 d2 := ⟨_, rfl⟩
        have HRR := Lib.hid hRR
        rw [← hRR] at HE
        clear hd2 hRR
        go_wp2_with fail
        clear y1 y2 y3 y4 y5
        go_loopw [10, 11] (fun v10 v11 W => ∃ (i j : Nat) (e : Array UInt64), v10 = .int .i64 (i : Int) ∧ v11 = .int .i64 (j : Int) ∧ 1 ≤ i ∧ j < n ∧ i ≤ n ∧ Hid (partLoop ltU a i j e = R) ∧ Ro w0 base g n cap e W) (fun v10 v11 _ => (intOf v11 + 1 - intOf v10).toNat)
        case atStart => exact ⟨i3, j3, d2, rfl, rfl, y6, y7, by have := HI3.out; omega, Lib.hid HRR.out.symm, HR4.out⟩
        case round =>
          obtain ⟨i, j, e, rfl, rfl, hi1, hjn, hin, HP, hr⟩ := hrel
          have HRE := Lib.hid hr
          clear hr
          obtain ⟨k2, hk2⟩ : ∃ x, x = scanUp (fun x => ltU x e[a]!) e j i := ⟨_, rfl⟩
          have Hk2 := Lib.hid hk2
          clear hk2
          go_upto_block 6 with (fail)
          go_cut [10] from 99 to 114 (fun v W => v = .int .i64 (k2 : Int) ∧ Ro w0 base g n cap e W)
          case first =>
            go_wp2_with fail
            go_loopw [10] (fun v W => ∃ t : Nat, v = .int .i64 (t : Int) ∧ (i ≤ t ∧ (t ≤ j + 1 ∨ t = i)) ∧ Hid (scanUp (fun x => ltU x e[a]!) e j t = k2) ∧ Ro w0 base g n cap e W) (fun v _ => j + 1 - (intOf v).toNat)
            case atStart => exact ⟨i, rfl, by omega, Lib.hid Hk2.out.symm, HRE.out⟩
            case round =>
              obtain ⟨t, rfl, ht, HS, hr⟩ := hrel
              have HRT := Lib.hid hr
              clear hr
              by_cases hle : t ≤ j
              · have z1 : (t : Int) ≤ (j : Int) := by omega
                have z2 : decide (t ≤ j) = true := by simpa using hle
                have htn : t < n := by omega
                have e2 : IntKind.i64.wrap ((t : Int) + 1) = ((t + 1 : Nat) : Int) := by rw [IntKind.wrap_i64]; omega
                obtain ⟨xq, hxq⟩ : ∃ x, x = e[t]! := ⟨_, rfl⟩
                obtain ⟨yq, hyq⟩ : ∃ y, y = e[a]! := ⟨_, rfl⟩
                have cz1 : ∀ zz : Later wr.heap.size wr, zz.val.cell? ⟨g, t, none⟩ = some (.int .u64 (xq.toNat : Int)) := fun zz => cell_kept zz.prop (by rw [hxq]; exact HRT.out.cell (htn))
                have cz2 : ∀ zz : Later wr.heap.size wr, zz.val.cell? ⟨g, a, none⟩ = some (.int .u64 (yq.toNat : Int)) := fun zz => cell_kept zz.prop (by rw [hyq]; exact HRT.out.cell (han))
                have HLq := Lib.hid (fun W => less_any xq yq W)
                obtain ⟨q, hq⟩ : ∃ b, b = ltU xq yq := ⟨_, rfl⟩
                rw [← hq] at HLq
                rw [hxq, hyq] at hq
                have Hq := Lib.hid hq
                have pz1 : (t : Int) < (n : Int) := by have := htn; omega
                have pz2 : (a : Int) < (n : Int) := by have := han; omega
                have pz3 : (0 : Int) ≤ (t : Int) := by omega
                have pz4 : (0 : Int) ≤ (a : Int) := by omega
                clear hxq hyq hq
                go_wp2_with fail
                refine wp_region_later wr.heap.size (by kernel_rfl) (by kernel_rfl) ?_
                repeat (go_big_quiet_step ((go_at_call 72; exact Later.calls (Nat.le_refl _) (HLq.out _))))
                refine wpQuiet_nil ?_
                rintro w9 ⟨zz, rfl⟩
                have HR9 := Lib.hid (HRT.out.later zz.prop)
                clear cz1 cz2 pz1 pz2 pz3 pz4 HLq
                generalize zz.val = w9 at *
                cases q
                · have HS2 := Lib.hid (show t = k2 from by
                          rw [← HS.out]
                          conv => rhs; unfold scanUp
                          rw [if_neg (by rw [← Hq.out]; simp)])
                  clear z1 z2 e2
                  go_wp2_with fail
                  go_meet
                  case rel => exact ⟨by rw [HS2.out], HR9.out⟩
                · have HS2 := Lib.hid (show scanUp (fun x => ltU x e[a]!) e j (t + 1) = k2 from by
                          rw [← HS.out]
                          conv => rhs; unfold scanUp
                          rw [if_pos (by rw [← Hq.out]; simp; omega)])
                  clear z1 z2
                  go_wp2_with fail
                  go_roundw
                  case rel => exact ⟨t + 1, rfl, by omega, HS2, HR9.out⟩
                  case measure => simp [intOf]; omega
              · have z1 : ¬ ((t : Int) ≤ (j : Int)) := by omega
                have z2 : decide (t ≤ j) = false := by simpa using hle
                have z3 : decide ((t : Int) ≤ (j : Int)) = false := by rw [decide_eq_false_iff_not]; exact z1
                have HS2 := Lib.hid (show t = k2 from by
                      rw [← HS.out]
                      conv => rhs; unfold scanUp
                      rw [if_neg (by simp; omega)])
                clear hle
                go_wp2_with fail
                go_quiet (fail)
                go_wp2_with fail
                go_meet
                case rel => exact ⟨by rw [HS2.out], HRT.out.drewN _⟩
          case rest =>
            rename World => W5
            obtain ⟨rfl, hr⟩ := hcut
            have HR5 := Lib.hid hr
            clear hr
            have hk2 : i ≤ k2 ∧ (k2 ≤ j + 1 ∨ k2 = i) := by rw [Hk2.out]; exact scanUp_ge _ _ (Nat.le_refl _)
            have hk21 : 1 ≤ k2 := by omega
            obtain ⟨m2, hm2⟩ : ∃ x, x = scanDown (fun x => !ltU x e[a]!) e k2 j := ⟨_, rfl⟩
            have Hm2 := Lib.hid hm2
            clear hm2
            go_upto_block 8 with (fail)
            go_cut [11] from 115 to 131 (fun v W => v = .int .i64 (m2 : Int) ∧ Ro w0 base g n cap e W)
            case first =>
              go_wp2_with fail
              go_loopw [11] (fun v W => ∃ t : Nat, v = .int .i64 (t : Int) ∧ (t ≤ j) ∧ Hid (scanDown (fun x => !ltU x e[a]!) e k2 t = m2) ∧ Ro w0 base g n cap e W) (fun v _ => (intOf v).toNat)
              case atStart => exact ⟨j, rfl, by omega, Lib.hid Hm2.out.symm, HR5.out⟩
              case round =>
                obtain ⟨t, rfl, ht, HS, hr⟩ := hrel
                have HRT := Lib.hid hr
                clear hr
                by_cases hle : k2 ≤ t
                · have z1 : (k2 : Int) ≤ (t : Int) := by omega
                  have z2 : decide (k2 ≤ t) = true := by simpa using hle
                  have htn : t < n := by omega
                  have e2 : IntKind.i64.wrap ((t : Int) - 1) = ((t - 1 : Nat) : Int) := by rw [IntKind.wrap_i64]; omega
                  obtain ⟨xq, hxq⟩ : ∃ x, x = e[t]! := ⟨_, rfl⟩
                  obtain ⟨yq, hyq⟩ : ∃ y, y = e[a]! := ⟨_, rfl⟩
                  have cz1 : ∀ zz : Later wr.heap.size wr, zz.val.cell? ⟨g, t, none⟩ = some (.int .u64 (xq.toNat : Int)) := fun zz => cell_kept zz.prop (by rw [hxq]; exact HRT.out.cell (htn))
                  have cz2 : ∀ zz : Later wr.heap.size wr, zz.val.cell? ⟨g, a, none⟩ = some (.int .u64 (yq.toNat : Int)) := fun zz => cell_kept zz.prop (by rw [hyq]; exact HRT.out.cell (han))
                  have HLq := Lib.hid (fun W => less_any xq yq W)
                  obtain ⟨q, hq⟩ : ∃ b, b = ltU xq yq := ⟨_, rfl⟩
                  rw [← hq] at HLq
                  rw [hxq, hyq] at hq
                  have Hq := Lib.hid hq
                  have pz1 : (t : Int) < (n : Int) := by have := htn; omega
                  have pz2 : (a : Int) < (n : Int) := by have := han; omega
                  have pz3 : (0 : Int) ≤ (t : Int) := by omega
                  have pz4 : (0 : Int) ≤ (a : Int) := by omega
                  clear hxq hyq hq
                  go_wp2_with fail
                  refine wp_region_later wr.heap.size (by kernel_rfl) (by kernel_rfl) ?_
                  repeat (go_big_quiet_step ((go_at_call 72; exact Later.calls (Nat.le_refl _) (HLq.out _))))
                  refine wpQuiet_nil ?_
                  rintro w9 ⟨zz, rfl⟩
                  have HR9 := Lib.hid (HRT.out.later zz.prop)
                  clear cz1 cz2 pz1 pz2 pz3 pz4 HLq
                  generalize zz.val = w9 at *
                  cases q
                  · have HS2 := Lib.hid (show scanDown (fun x => !ltU x e[a]!) e k2 (t - 1) = m2 from by
                            rw [← HS.out]
                            cases t with
                            | zero => omega
                            | succ t =>
                              rw [Nat.add_sub_cancel]
                              conv => rhs; unfold scanDown
                              rw [if_pos (by rw [← Hq.out]; simp; omega)])
                    clear z1 z2
                    go_wp2_with fail
                    go_roundw
                    case rel => exact ⟨t - 1, rfl, by omega, HS2, HR9.out⟩
                    case measure => simp [intOf]; omega
                  · have HS2 := Lib.hid (show t = m2 from by
                            rw [← HS.out]
                            cases t with
                            | zero => rfl
                            | succ t => 
                              conv => rhs; unfold scanDown
                              rw [if_neg (by rw [← Hq.out]; simp)])
                    clear z1 z2 e2
                    go_wp2_with fail
                    go_meet
                    case rel => exact ⟨by rw [HS2.out], HR9.out⟩
                · have z1 : ¬ ((k2 : Int) ≤ (t : Int)) := by omega
                  have z2 : decide (k2 ≤ t) = false := by simpa using hle
                  have z3 : decide ((k2 : Int) ≤ (t : Int)) = false := by rw [decide_eq_false_iff_not]; exact z1
                  have HS2 := Lib.hid (show t = m2 from by
                        rw [← HS.out]
                        cases t with
                        | zero => rfl
                        | succ t => 
                          conv => rhs; unfold scanDown
                          rw [if_neg (by simp; omega)])
                  clear hle
                  go_wp2_with fail
                  go_quiet (fail)
                  go_wp2_with fail
                  go_meet
                  case rel => exact ⟨by rw [HS2.out], HRT.out.drewN _⟩
            case rest =>
              rename World => W6
              obtain ⟨rfl, hr⟩ := hcut
              have HR6 := Lib.hid hr
              clear hr
              have hm2 : m2 ≤ j := by rw [Hm2.out]; exact scanDown_le _
              have hm2n : m2 < n := by omega
              by_cases hgt : k2 > m2
              · have y1 : (k2 : Int) > (m2 : Int) := by omega
                have HZ := Lib.hid (show R = (m2, e) from by rw [← HP.out]; exact partLoop_stop Hk2.out Hm2.out hgt)
                clear hgt
                go_wp2_with fail
                obtain ⟨xs, hxs⟩ : ∃ x, x = e[m2]! := ⟨_, rfl⟩
                obtain ⟨ys, hys⟩ : ∃ y, y = e[a]! := ⟨_, rfl⟩
                have cz1 : W6.cell? ⟨g, m2, none⟩ = some (.int .u64 (xs.toNat : Int)) := by rw [hxs]; exact HR6.out.cell (hm2n)
                have cz2 : W6.cell? ⟨g, a, none⟩ = some (.int .u64 (ys.toNat : Int)) := by rw [hys]; exact HR6.out.cell (han)
                have cz3 := HR6.out.put_cell (hm2n) (han) hys
                have HSX := Lib.hid hxs
                have HSY := Lib.hid hys
                have pz1 : (m2 : Int) < (n : Int) := by have := hm2n; omega
                have pz2 : (a : Int) < (n : Int) := by have := han; omega
                have pz3 : (0 : Int) ≤ (m2 : Int) := by omega
                have pz4 : (0 : Int) ≤ (a : Int) := by omega
                have fz : ∀ o, W6.frozen? ⟨g, o, none⟩ = false := fun o => HR6.out.free o
                clear hxs hys
                go_wp2_with fail
                go_region
                have HR7 := Lib.hid ((HR6.out.put2 (hm2n) (han) HSX.out HSY.out).drew)
                clear cz1 cz2 cz3 pz1 pz2 pz3 pz4 fz HSX HSY
                go_wp2_with fail
                go_ret2
                exact ⟨ret_part (by rw [HE.out, HZ.out]) (by rw [HE.out]), by rw [HE.out, HZ.out]; exact HR7.out⟩
              · have y1 : ¬ ((k2 : Int) > (m2 : Int)) := by omega
                have hk2n : k2 < n := by omega
                have HZ := Lib.hid (show partLoop ltU a (k2 + 1) (m2 - 1) (swp e k2 m2) = R from by rw [← HP.out]; exact (partLoop_go Hk2.out Hm2.out hgt hk2.1 hm2 hk21).symm)
                have y2 : IntKind.i64.wrap ((k2 : Int) + 1) = ((k2 + 1 : Nat) : Int) := by rw [IntKind.wrap_i64]; omega
                have y3 : IntKind.i64.wrap ((m2 : Int) - 1) = ((m2 - 1 : Nat) : Int) := by rw [IntKind.wrap_i64]; omega
                have HG := Lib.hid hgt
                clear hgt
                obtain ⟨xs, hxs⟩ : ∃ x, x = e[k2]! := ⟨_, rfl⟩
                obtain ⟨ys, hys⟩ : ∃ y, y = e[m2]! := ⟨_, rfl⟩
                have cz1 : W6.cell? ⟨g, k2, none⟩ = some (.int .u64 (xs.toNat : Int)) := by rw [hxs]; exact HR6.out.cell (hk2n)
                have cz2 : W6.cell? ⟨g, m2, none⟩ = some (.int .u64 (ys.toNat : Int)) := by rw [hys]; exact HR6.out.cell (hm2n)
                have cz3 := HR6.out.put_cell (hk2n) (hm2n) hys
                have HSX := Lib.hid hxs
                have HSY := Lib.hid hys
                have pz1 : (k2 : Int) < (n : Int) := by have := hk2n; omega
                have pz2 : (m2 : Int) < (n : Int) := by have := hm2n; omega
                have pz3 : (0 : Int) ≤ (k2 : Int) := by omega
                have pz4 : (0 : Int) ≤ (m2 : Int) := by omega
                have fz : ∀ o, W6.frozen? ⟨g, o, none⟩ = false := fun o => HR6.out.free o
                clear hxs hys
                go_wp2_with fail
                go_region
                have HR7 := Lib.hid ((HR6.out.put2 (hk2n) (hm2n) HSX.out HSY.out).drew)
                clear cz1 cz2 cz3 pz1 pz2 pz3 pz4 fz HSX HSY
                go_wp2_with fail
                go_roundw
                case rel => exact ⟨k2 + 1, m2 - 1, swp e k2 m2, rfl, by first | rfl | (rw [show (m2 : Int) - 1 = ((m2 - 1 : Nat) : Int) by omega]), by omega, by omega, by omega, HZ, HR7.out⟩
                case measure => have := HG.out; simp [intOf]; omega
end Go.Proofs.Tryd.Sq
