/- Numbers parted into like ones and greater ones; a row turned round. -/
import Derived.Test.YtkeaalacepjadaaDoorSq3
set_option linter.unusedVariables false
set_option linter.unusedSimpArgs false
set_option maxRecDepth 100000
namespace Go.Proofs.Tryd.Sq
open Go.RowKit Go.Cph Go.Sort

theorem partEq_stop {a i j i2 j2 : Nat} {d : Array UInt64} (hi : i2 = scanUp (fun x => !ltU d[a]! x) d j i) (hj : j2 = scanDown (fun x => ltU d[a]! x) d i2 j) (h : i2 > j2) : partEqLoop ltU a i j d = (i2, d) := by
  conv => lhs; unfold partEqLoop
  simp only
  rw [← hi, ← hj, if_pos h]
theorem partEq_go {a i j i2 j2 : Nat} {d : Array UInt64} (hi : i2 = scanUp (fun x => !ltU d[a]! x) d j i) (hj : j2 = scanDown (fun x => ltU d[a]! x) d i2 j) (h : ¬ i2 > j2) (h1 : i ≤ i2) (h2 : j2 ≤ j) (h3 : 1 ≤ i2) : partEqLoop ltU a i j d = partEqLoop ltU a (i2 + 1) (j2 - 1) (swp d i2 j2) := by
  conv => lhs; unfold partEqLoop
  simp only
  rw [← hi, ← hj, if_neg h, dif_pos (by omega)]
def EqPost (w0 : World) (base g n cap : Nat) (r : Nat × Array UInt64) (e : Ending) (w' : World) : Prop := e = .returned (.int .i64 (r.1 : Int)) ∧ Ro w0 base g n cap r.2 w'

set_option maxHeartbeats 16000000 in
theorem partEq_any {base g n cap : Nat} (a b pv : Nat) (d : Array UInt64) (w0 w : World) (h : Ro w0 base g n cap d w) (hap : a ≤ pv) (hpb : pv < b) (hb : b ≤ n) (hn : n ≤ 1000000) :
    Calls Tryd.prog 73 #[.slice (some ⟨g, 0, none⟩) n cap, .int .i64 a, .int .i64 b, .int .i64 pv] w (EqPost w0 base g n cap (partitionEqual ltU d a b pv)) := by
  have HR := Lib.hid h
  clear h
  obtain ⟨i0, hi0⟩ : ∃ i, i = a + 1 := ⟨_, rfl⟩
  obtain ⟨j0, hj0⟩ : ∃ i, i = b - 1 := ⟨_, rfl⟩
  have HI0 := Lib.hid hi0
  have HJ0 := Lib.hid hj0
  have v1 : IntKind.i64.wrap ((a : Int) + 1) = (i0 : Int) := by rw [IntKind.wrap_i64]; omega
  have v2 : IntKind.i64.wrap ((b : Int) - 1) = (j0 : Int) := by rw [IntKind.wrap_i64]; omega
  have v3 : (a : Int) + 1 = (i0 : Int) := by omega
  have v4 : (b : Int) - 1 = (j0 : Int) := by omega
  have han : a < n := by omega
  have hpn : pv < n := by omega
  have hi01 : 1 ≤ i0 := by omega
  have hj0n : j0 < n := by omega
  clear hi0 hj0
  go_enter Tryd.func73, Tryd.ntmps73
  obtain ⟨xs, hxs⟩ : ∃ x, x = d[a]! := ⟨_, rfl⟩
  obtain ⟨ys, hys⟩ : ∃ y, y = d[pv]! := ⟨_, rfl⟩
  have cz1 : w.cell? ⟨g, a, none⟩ = some (.int .u64 (xs.toNat : Int)) := by rw [hxs]; exact HR.out.cell (han)
  have cz2 : w.cell? ⟨g, pv, none⟩ = some (.int .u64 (ys.toNat : Int)) := by rw [hys]; exact HR.out.cell (hpn)
  have cz3 := HR.out.put_cell (han) (hpn) hys
  have HSX := Lib.hid hxs
  have HSY := Lib.hid hys
  have pz1 : (a : Int) < (n : Int) := by have := han; omega
  have pz2 : (pv : Int) < (n : Int) := by have := hpn; omega
  have pz3 : (0 : Int) ≤ (a : Int) := by omega
  have pz4 : (0 : Int) ≤ (pv : Int) := by omega
  have fz : ∀ o, w.frozen? ⟨g, o, none⟩ = false := fun o => HR.out.free o
  clear hxs hys
  go_wp2_with fail
  go_region
  have HR1 := Lib.hid ((HR.out.put2 (han) (hpn) HSX.out HSY.out).drew)
  clear cz1 cz2 cz3 pz1 pz2 pz3 pz4 fz HSX HSY
  obtain ⟨d1, hd1⟩ : ∃ x, x = swp d a pv := ⟨_, rfl⟩
  rw [← hd1] at HR1
  obtain ⟨R, hRR⟩ : ∃ x, x = partEqLoop ltU a i0 j0 d1 := ⟨_, rfl⟩
  have HE := Lib.hid (show partitionEqual ltU d a b pv = R from by rw [hRR, hd1, HI0.out, HJ0.out]; rfl)
  have HRR := Lib.hid hRR
  clear hd1 hRR
  go_wp2_with fail
  clear v1 v2 v3 v4
  go_loopw [9, 10] (fun v9 v10 W => ∃ (i j : Nat) (e : Array UInt64), v9 = .int .i64 (i : Int) ∧ v10 = .int .i64 (j : Int) ∧ 1 ≤ i ∧ j < n ∧ i ≤ n ∧ Hid (partEqLoop ltU a i j e = R) ∧ Ro w0 base g n cap e W) (fun v9 v10 _ => (intOf v10 + 1 - intOf v9).toNat)
  case atStart => exact ⟨i0, j0, d1, rfl, rfl, hi01, hj0n, by have := HI0.out; omega, Lib.hid HRR.out.symm, HR1.out⟩
  case round =>
    obtain ⟨i, j, e, rfl, rfl, hi1, hjn, hin, HP, hr⟩ := hrel
    have HRE := Lib.hid hr
    clear hr
    obtain ⟨k2, hk2⟩ : ∃ x, x = scanUp (fun x => !ltU e[a]! x) e j i := ⟨_, rfl⟩
    have Hk2 := Lib.hid hk2
    clear hk2
    go_upto_block 2 with (fail)
    go_cut [9] from 29 to 45 (fun v W => v = .int .i64 (k2 : Int) ∧ Ro w0 base g n cap e W)
    case first =>
      go_wp2_with fail
      go_loopw [9] (fun v W => ∃ t : Nat, v = .int .i64 (t : Int) ∧ (i ≤ t ∧ (t ≤ j + 1 ∨ t = i)) ∧ Hid (scanUp (fun x => !ltU e[a]! x) e j t = k2) ∧ Ro w0 base g n cap e W) (fun v _ => j + 1 - (intOf v).toNat)
      case atStart => exact ⟨i, rfl, by omega, Lib.hid Hk2.out.symm, HRE.out⟩
      case round =>
        obtain ⟨t, rfl, ht, HS, hr⟩ := hrel
        have HRT := Lib.hid hr
        clear hr
        by_cases hle : t ≤ j
        · have z1 : (t : Int) ≤ (j : Int) := by omega
          have z2 : decide (t ≤ j) = true := by simpa using hle
          have htn : t < n := by omega
          have e2 : IntKind.i64.wrap ((t : Int) + 1) = ((t + 1 : Nat) : Int) := by rw [IntKind.wrap_i64]; omega
          obtain ⟨xq, hxq⟩ : ∃ x, x = e[a]! := ⟨_, rfl⟩
          obtain ⟨yq, hyq⟩ : ∃ y, y = e[t]! := ⟨_, rfl⟩
          have cz1 : ∀ zz : Later wr.heap.size wr, zz.val.cell? ⟨g, a, none⟩ = some (.int .u64 (xq.toNat : Int)) := fun zz => cell_kept zz.prop (by rw [hxq]; exact HRT.out.cell (han))
          have cz2 : ∀ zz : Later wr.heap.size wr, zz.val.cell? ⟨g, t, none⟩ = some (.int .u64 (yq.toNat : Int)) := fun zz => cell_kept zz.prop (by rw [hyq]; exact HRT.out.cell (htn))
          have HLq := Lib.hid (fun W => less_any xq yq W)
          obtain ⟨q, hq⟩ : ∃ b, b = ltU xq yq := ⟨_, rfl⟩
          rw [← hq] at HLq
          rw [hxq, hyq] at hq
          have Hq := Lib.hid hq
          have pz1 : (a : Int) < (n : Int) := by have := han; omega
          have pz2 : (t : Int) < (n : Int) := by have := htn; omega
          have pz3 : (0 : Int) ≤ (a : Int) := by omega
          have pz4 : (0 : Int) ≤ (t : Int) := by omega
          clear hxq hyq hq
          go_wp2_with fail
          refine wp_region_later wr.heap.size (by kernel_rfl) (by kernel_rfl) ?_
          repeat (go_big_quiet_step ((go_at_call 72; exact Later.calls (Nat.le_refl _) (HLq.out _))))
          refine wpQuiet_nil ?_
          rintro w9 ⟨zz, rfl⟩
          have HR9 := Lib.hid (HRT.out.later zz.prop)
          clear cz1 cz2 pz1 pz2 pz3 pz4 HLq
          generalize zz.val = w9 at *
          cases q
          · have HS2 := Lib.hid (show scanUp (fun x => !ltU e[a]! x) e j (t + 1) = k2 from by
                    rw [← HS.out]
                    conv => rhs; unfold scanUp
                    rw [if_pos (by rw [← Hq.out]; simp; omega)])
            clear z1 z2
            go_wp2_with fail
            go_roundw
            case rel => exact ⟨t + 1, rfl, by omega, HS2, HR9.out⟩
            case measure => simp [intOf]; omega
          · have HS2 := Lib.hid (show t = k2 from by
                    rw [← HS.out]
                    conv => rhs; unfold scanUp
                    rw [if_neg (by rw [← Hq.out]; simp)])
            clear z1 z2 e2
            go_wp2_with fail
            go_meet
            case rel => exact ⟨by rw [HS2.out], HR9.out⟩
        · have z1 : ¬ ((t : Int) ≤ (j : Int)) := by omega
          have z2 : decide (t ≤ j) = false := by simpa using hle
          have z3 : decide ((t : Int) ≤ (j : Int)) = false := by rw [decide_eq_false_iff_not]; exact z1
          have HS2 := Lib.hid (show t = k2 from by
                rw [← HS.out]
                conv => rhs; unfold scanUp
                rw [if_neg (by simp; omega)])
          clear hle
          go_wp2_with fail
          go_quiet (fail)
          go_wp2_with fail
          go_meet
          case rel => exact ⟨by rw [HS2.out], HRT.out.drewN _⟩
    case rest =>
      rename World => W5
      obtain ⟨rfl, hr⟩ := hcut
      have HR5 := Lib.hid hr
      clear hr
      have hk2 : i ≤ k2 ∧ (k2 ≤ j + 1 ∨ k2 = i) := by rw [Hk2.out]; exact scanUp_ge _ _ (Nat.le_refl _)
      have hk21 : 1 ≤ k2 := by omega
      obtain ⟨m2, hm2⟩ : ∃ x, x = scanDown (fun x => ltU e[a]! x) e k2 j := ⟨_, rfl⟩
      have Hm2 := Lib.hid hm2
      clear hm2
      go_upto_block 4 with (fail)
      go_cut [10] from 46 to 61 (fun v W => v = .int .i64 (m2 : Int) ∧ Ro w0 base g n cap e W)
      case first =>
        go_wp2_with fail
        go_loopw [10] (fun v W => ∃ t : Nat, v = .int .i64 (t : Int) ∧ (t ≤ j) ∧ Hid (scanDown (fun x => ltU e[a]! x) e k2 t = m2) ∧ Ro w0 base g n cap e W) (fun v _ => (intOf v).toNat)
        case atStart => exact ⟨j, rfl, by omega, Lib.hid Hm2.out.symm, HR5.out⟩
        case round =>
          obtain ⟨t, rfl, ht, HS, hr⟩ := hrel
          have HRT := Lib.hid hr
          clear hr
          by_cases hle : k2 ≤ t
          · have z1 : (k2 : Int) ≤ (t : Int) := by omega
            have z2 : decide (k2 ≤ t) = true := by simpa using hle
            have htn : t < n := by omega
            have e2 : IntKind.i64.wrap ((t : Int) - 1) = ((t - 1 : Nat) : Int) := by rw [IntKind.wrap_i64]; omega
            obtain ⟨xq, hxq⟩ : ∃ x, x = e[a]! := ⟨_, rfl⟩
            obtain ⟨yq, hyq⟩ : ∃ y, y = e[t]! := ⟨_, rfl⟩
            have cz1 : ∀ zz : Later wr.heap.size wr, zz.val.cell? ⟨g, a, none⟩ = some (.int .u64 (xq.toNat : Int)) := fun zz => cell_kept zz.prop (by rw [hxq]; exact HRT.out.cell (han))
            have cz2 : ∀ zz : Later wr.heap.size wr, zz.val.cell? ⟨g, t, none⟩ = some (.int .u64 (yq.toNat : Int)) := fun zz => cell_kept zz.prop (by rw [hyq]; exact HRT.out.cell (htn))
            have HLq := Lib.hid (fun W => less_any xq yq W)
            obtain ⟨q, hq⟩ : ∃ b, b = ltU xq yq := ⟨_, rfl⟩
            rw [← hq] at HLq
            rw [hxq, hyq] at hq
            have Hq := Lib.hid hq
            have pz1 : (a : Int) < (n : Int) := by have := han; omega
            have pz2 : (t : Int) < (n : Int) := by have := htn; omega
            have pz3 : (0 : Int) ≤ (a : Int) := by omega
            have pz4 : (0 : Int) ≤ (t : Int) := by omega
            clear hxq hyq hq
            go_wp2_with fail
            refine wp_region_later wr.heap.size (by kernel_rfl) (by kernel_rfl) ?_
            repeat (go_big_quiet_step ((go_at_call 72; exact Later.calls (Nat.le_refl _) (HLq.out _))))
            refine wpQuiet_nil ?_
            rintro w9 ⟨zz, rfl⟩
            have HR9 := Lib.hid (HRT.out.later zz.prop)
            clear cz1 cz2 pz1 pz2 pz3 pz4 HLq
            generalize zz.val = w9 at *
            cases q
            · have HS2 := Lib.hid (show t = m2 from by
                      rw [← HS.out]
                      cases t with
                      | zero => rfl
                      | succ t => 
                        conv => rhs; unfold scanDown
                        rw [if_neg (by rw [← Hq.out]; simp)])
              clear z1 z2 e2
              go_wp2_with fail
              go_meet
              case rel => exact ⟨by rw [HS2.out], HR9.out⟩
            · have HS2 := Lib.hid (show scanDown (fun x => ltU e[a]! x) e k2 (t - 1) = m2 from by
                      rw [← HS.out]
                      cases t with
                      | zero => omega
                      | succ t =>
                        rw [Nat.add_sub_cancel]
                        conv => rhs; unfold scanDown
                        rw [if_pos (by rw [← Hq.out]; simp; omega)])
              clear z1 z2
              go_wp2_with fail
              go_roundw
              case rel => exact ⟨t - 1, rfl, by omega, HS2, HR9.out⟩
              case measure => simp [intOf]; omega
          · have z1 : ¬ ((k2 : Int) ≤ (t : Int)) := by omega
            have z2 : decide (k2 ≤ t) = false := by simpa using hle
            have z3 : decide ((k2 : Int) ≤ (t : Int)) = false := by rw [decide_eq_false_iff_not]; exact z1
            have HS2 := Lib.hid (show t = m2 from by
                  rw [← HS.out]
                  cases t with
                  | zero => rfl
                  | succ t => 
                    conv => rhs; unfold scanDown
                    rw [if_neg (by simp; omega)])
            clear hle
            go_wp2_with fail
            go_quiet (fail)
            go_wp2_with fail
            go_meet
            case rel => exact ⟨by rw [HS2.out], HRT.out.drewN _⟩
      case rest =>
        rename World => W6
        obtain ⟨rfl, hr⟩ := hcut
        have HR6 := Lib.hid hr
        clear hr
        have hm2 : m2 ≤ j := by rw [Hm2.out]; exact scanDown_le _
        have hm2n : m2 < n := by omega
        by_cases hgt : k2 > m2
        · have y1 : (k2 : Int) > (m2 : Int) := by omega
          have HZ := Lib.hid (show partitionEqual ltU d a b pv = (k2, e) from by rw [HE.out, ← HP.out]; exact partEq_stop Hk2.out Hm2.out hgt)
          clear hgt
          go_wp2_with fail
          go_ret
          exact ⟨ret_int (by rw [HZ.out]), by rw [HZ.out]; exact HR6.out⟩
        · have y1 : ¬ ((k2 : Int) > (m2 : Int)) := by omega
          have hk2n : k2 < n := by omega
          have HZ := Lib.hid (show partEqLoop ltU a (k2 + 1) (m2 - 1) (swp e k2 m2) = R from by rw [← HP.out]; exact (partEq_go Hk2.out Hm2.out hgt hk2.1 hm2 hk21).symm)
          have y2 : IntKind.i64.wrap ((k2 : Int) + 1) = ((k2 + 1 : Nat) : Int) := by rw [IntKind.wrap_i64]; omega
          have y3 : IntKind.i64.wrap ((m2 : Int) - 1) = ((m2 - 1 : Nat) : Int) := by rw [IntKind.wrap_i64]; omega
          have HG := Lib.hid hgt
          clear hgt
          obtain ⟨xs, hxs⟩ : ∃ x, x = e[k2]! := ⟨_, rfl⟩
          obtain ⟨ys, hys⟩ : ∃ y, y = e[m2]! := ⟨_, rfl⟩
          have cz1 : W6.cell? ⟨g, k2, none⟩ = some (.int .u64 (xs.toNat : Int)) := by rw [hxs]; exact HR6.out.cell (hk2n)
          have cz2 : W6.cell? ⟨g, m2, none⟩ = some (.int .u64 (ys.toNat : Int)) := by rw [hys]; exact HR6.out.cell (hm2n)
          have cz3 := HR6.out.put_cell (hk2n) (hm2n) hys
          have HSX := Lib.hid hxs
          have HSY := Lib.hid hys
          have pz1 : (k2 : Int) < (n : Int) := by have := hk2n; omega
          have pz2 : (m2 : Int) < (n : Int) := by have := hm2n; omega
          have pz3 : (0 : Int) ≤ (k2 : Int) := by omega
          have pz4 : (0 : Int) ≤ (m2 : Int) := by omega
          have fz : ∀ o, W6.frozen? ⟨g, o, none⟩ = false := fun o => HR6.out.free o
          clear hxs hys
          go_wp2_with fail
          go_region
          have HR7 := Lib.hid ((HR6.out.put2 (hk2n) (hm2n) HSX.out HSY.out).drew)
          clear cz1 cz2 cz3 pz1 pz2 pz3 pz4 fz HSX HSY
          go_wp2_with fail
          go_roundw
          case rel => exact ⟨k2 + 1, m2 - 1, swp e k2 m2, rfl, by first | rfl | (rw [show (m2 : Int) - 1 = ((m2 - 1 : Nat) : Int) by omega]), by omega, by omega, by omega, HZ, HR7.out⟩
          case measure => have := HG.out; simp [intOf]; omega
end Go.Proofs.Tryd.Sq
