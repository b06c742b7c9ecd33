/- The sort itself. -/
import Derived.Test.YtkeaalacepjadaaDoorSq7
import Derived.Sort.Walk13a
import Derived.Deep.LoopGhost
set_option linter.unusedVariables false
set_option linter.unusedSimpArgs false
set_option maxRecDepth 100000
namespace Go.Proofs.Tryd.Sq
open Go.RowKit Go.Cph Go.Sort

theorem swo_ltU : SWO ltU where
  irrefl x := by simp [ltU]
  trans x y z h1 h2 := by simp [ltU] at *; omega
  ntrans x y z h1 h2 := by simp [ltU] at *; omega
theorem eighth {x y p q : Nat} (h1 : q ≤ p) (h2 : y ≤ x) : decide (((x : Int) - (y : Int)) / 8 ≤ (p : Int) - (q : Int)) = decide (p - q ≥ (x - y) / 8) :=
  decide_eq_decide.2 ⟨fun h => by omega, fun h => by omega⟩
theorem hintI_two {h : Hint} (e : hintI h = 2) : h = .decreasing := by cases h <;> simp [hintI] at e ⊢

set_option maxHeartbeats 400000 in
theorem less_same (x y : UInt64) (w : World) : Calls Tryd.prog 72 #[.int .u64 (x.toNat : Int), .int .u64 (y.toNat : Int)] w fun e w' => e = .returned (.bool (ltU x y)) ∧ w' = w := by
  have HV := Lib.hid (show ltU x y = decide ((x.toNat : Int) < (y.toNat : Int)) from by unfold ltU; rw [decide_eq_decide]; omega)
  go_enter Tryd.func72, Tryd.ntmps72
  go_wp2_with (go_at_call 61; refine (isNaN_any _ _).mono ?_; rintro e w' ⟨rfl, rfl⟩)
  go_ret
  exact ⟨ret_bool (by rw [HV.out]; simp), rfl⟩

set_option maxHeartbeats 16000000 in
theorem pdq_any {base g n cap : Nat} (w0 : World) (hn : n ≤ 1000000) : ∀ (N a b limit : Nat) (d : Array UInt64) (w : World), b - a < N → Ro w0 base g n cap d w → a ≤ b → b ≤ n → limit ≤ 100 → Go.Sort.Below ltU a b d →
    Calls Tryd.prog 56 #[.slice (some ⟨g, 0, none⟩) n cap, .int .i64 a, .int .i64 b, .int .i64 limit] w (RoPost w0 base g n cap (pdq ltU d a b limit true true)) := by
  intro N
  induction N with
  | zero => intro _ _ _ _ _ h; exact absurd h (Nat.not_lt_zero _)
  | succ N ih =>
    intro a b limit d w hN hR0 hab hb hlimit hBel0
    have HIH := Lib.hid ih
    clear ih
    have HR := Lib.hid hR0
    have HB0 := Lib.hid hBel0
    clear hR0 hBel0
    obtain ⟨Z, hZ⟩ : ∃ Z, Z = pdq ltU d a b limit true true := ⟨_, rfl⟩
    have HZ := Lib.hid hZ
    rw [← hZ]
    clear hZ
    go_enter Tryd.func56, Tryd.ntmps56
    go_wp2_with fail
    go_loopw [1, 2, 3, 8, 9] (fun v1 v2 v3 v8 v9 W => ∃ (a' b' lim : Nat) (wb wp : Bool) (dk : Array UInt64), v1 = .int .i64 (a' : Int) ∧ v2 = .int .i64 (b' : Int) ∧ v3 = .int .i64 (lim : Int) ∧ v8 = .bool wb ∧ v9 = .bool wp ∧ a' ≤ b' ∧ b' ≤ n ∧ b' - a' < N + 1 ∧ lim ≤ 100 ∧ Hid (Go.Sort.Below ltU a' b' dk) ∧ Hid (pdq ltU dk a' b' lim wb wp = Z) ∧ Ro w0 base g n cap dk W) (fun v1 v2 _ _ _ _ => (intOf v2 - intOf v1).toNat)
    case atStart => exact ⟨a, b, limit, true, true, d, rfl, rfl, rfl, rfl, rfl, hab, hb, hN, hlimit, HB0, Lib.hid HZ.out.symm, HR.out⟩
    case round =>
      clear hab hb hN hlimit HB0 HZ HR
      obtain ⟨a', b', lim, wb, wp, dk, rfl, rfl, rfl, rfl, rfl, hab', hb', hk, hlim, HB, HP, hr⟩ := hrel
      have HRK := Lib.hid hr
      have hsz : dk.size = n := hr.len
      clear hr
      by_cases h12 : b' - a' ≤ 12
      · have h12z : (b' : Int) - (a' : Int) ≤ 12 := by omega
        have HC := Lib.hid (insertion a' b' dk w0 wr HRK.out hab' hb' hn)
        have HE := Lib.hid (show insertionSort ltU dk a' b' = Z from by rw [← HP.out, pdq_small h12])
        clear h12
        go_wp2_with (go_at_call 66; refine HC.out.mono ?_; rintro e w1 ⟨rfl, hw1⟩)
        (try simp only [Exit.inBlock, Exit.then]); refine bodyPost_ret (results_none rfl _ _ _) rfl ?_
        exact ⟨rfl, hw1.to HE.out⟩
      · have h12z : ¬ ((b' : Int) - (a' : Int) ≤ 12) := by omega
        by_cases hl0 : lim = 0
        · subst hl0
          have HC := Lib.hid (heap a' b' dk w0 wr HRK.out (by omega) hb' hn)
          have HE := Lib.hid (show heapSort ltU dk a' b' = Z from by rw [← HP.out, pdq_heap h12 rfl])
          clear h12
          go_wp2_with (go_at_call 67; refine HC.out.mono ?_; rintro e w1 ⟨rfl, hw1⟩)
          (try simp only [Exit.inBlock, Exit.then]); refine bodyPost_ret (results_none rfl _ _ _) rfl ?_
          exact ⟨rfl, hw1.to HE.out⟩
        · have hl0z : ¬ ((lim : Int) = 0) := by omega
          have hl0w : ((lim : Int) == 0) = false := by simp; omega
          obtain ⟨R, hR⟩ : ∃ R, R = rd ltU dk a' b' lim wb wp := ⟨_, rfl⟩
          have hf := rd_facts (limit := lim) (wb := wb) (wp := wp) swo_ltU partialInsertionSort_holds reverseRange_holds (show a' < b' by omega) (show b' ≤ dk.size by omega) HB.out
          rw [← hR] at hf
          obtain ⟨s1, B1, hc1, s2, B2, hpv, s3, B3⟩ := hf
          have hli : R.lim ≤ lim := by rw [hR]; exact rd_lim_le
          have PB := Lib.hid (show if wb then R.d1 = dk ∧ R.lim = lim else R.d1 = breakPatterns dk a' b' ∧ R.lim = lim - 1 from by rw [hR]; cases wb <;> exact ⟨rfl, rfl⟩)
          have PC := Lib.hid (show R.c = choosePivot ltU R.d1 a' b' from by rw [hR]; rfl)
          have PDe := Lib.hid (show R.c.2 = .decreasing → R.d2 = reverseRange R.d1 a' b' ∧ R.pivot = (b' - 1) - (R.c.1 - a') ∧ R.hint = .increasing from by rw [hR]; exact fun hh => rd_dec hh)
          have PNo := Lib.hid (show R.c.2 ≠ .decreasing → R.d2 = R.d1 ∧ R.pivot = R.c.1 ∧ R.hint = R.c.2 from by rw [hR]; exact fun hh => rd_not hh)
          have PY := Lib.hid (show (wb && wp && decide (R.hint = .increasing)) = true → R.pi = partialInsertionSort ltU R.d2 a' b' from by rw [hR]; exact fun hh => rd_pi_yes hh)
          have PN := Lib.hid (show (wb && wp && decide (R.hint = .increasing)) = false → R.pi = (R.d2, false) from by rw [hR]; exact fun hh => rd_pi_no hh)
          have QD := Lib.hid (show R.pi.2 = true → R.pi.1 = Z from by rw [hR, ← HP.out]; exact fun hh => (pdq_done h12 hl0 hh).symm)
          have QE := Lib.hid (show R.pi.2 = false → (decide (a' > 0) && !ltU R.pi.1[a' - 1]! R.pi.1[R.pivot]!) = true → a' < (partitionEqual ltU R.pi.1 a' b' R.pivot).1 ∧ (partitionEqual ltU R.pi.1 a' b' R.pivot).1 ≤ b' → pdq ltU (partitionEqual ltU R.pi.1 a' b' R.pivot).2 (partitionEqual ltU R.pi.1 a' b' R.pivot).1 b' R.lim wb wp = Z from by rw [hR, ← HP.out]; exact fun h1 h2 h3 => (pdq_eq h12 hl0 h1 h2 h3).symm)
          have QL := Lib.hid (show R.pi.2 = false → (decide (a' > 0) && !ltU R.pi.1[a' - 1]! R.pi.1[R.pivot]!) = false → a' ≤ (partition ltU R.pi.1 a' b' R.pivot).1 ∧ (partition ltU R.pi.1 a' b' R.pivot).1 < b' → (partition ltU R.pi.1 a' b' R.pivot).1 - a' < b' - (partition ltU R.pi.1 a' b' R.pivot).1 → pdq ltU (pdq ltU (partition ltU R.pi.1 a' b' R.pivot).2.2 a' (partition ltU R.pi.1 a' b' R.pivot).1 R.lim true true) ((partition ltU R.pi.1 a' b' R.pivot).1 + 1) b' R.lim (decide ((partition ltU R.pi.1 a' b' R.pivot).1 - a' ≥ (b' - a') / 8)) (partition ltU R.pi.1 a' b' R.pivot).2.1 = Z from by rw [hR, ← HP.out]; exact fun h1 h2 h3 h4 => (pdq_left h12 hl0 h1 h2 h3 h4).symm)
          have QR := Lib.hid (show R.pi.2 = false → (decide (a' > 0) && !ltU R.pi.1[a' - 1]! R.pi.1[R.pivot]!) = false → a' ≤ (partition ltU R.pi.1 a' b' R.pivot).1 ∧ (partition ltU R.pi.1 a' b' R.pivot).1 < b' → ¬ (partition ltU R.pi.1 a' b' R.pivot).1 - a' < b' - (partition ltU R.pi.1 a' b' R.pivot).1 → pdq ltU (pdq ltU (partition ltU R.pi.1 a' b' R.pivot).2.2 ((partition ltU R.pi.1 a' b' R.pivot).1 + 1) b' R.lim true true) a' (partition ltU R.pi.1 a' b' R.pivot).1 R.lim (decide (b' - (partition ltU R.pi.1 a' b' R.pivot).1 ≥ (b' - a') / 8)) (partition ltU R.pi.1 a' b' R.pivot).2.1 = Z from by rw [hR, ← HP.out]; exact fun h1 h2 h3 h4 => (pdq_right h12 hl0 h1 h2 h3 h4).symm)
          have HB3 := Lib.hid B3
          have hab12 : a' + 12 < b' := by omega
          have hsp : b' ≤ R.pi.1.size := by omega
          clear hR B1 B2 B3 s1 s2 s3 hsz h12 HP HB
          go_upto_if 35 with fail
          go_cut [3] from 19 (fun v3 wc => v3 = .int .i64 (R.lim : Int) ∧ Ro w0 base g n cap R.d1 wc)
          case first =>
            cases wb
            · have HC := Lib.hid (break_any a' b' dk w0 wr HRK.out hab12 hb' hn)
              have e1 : IntKind.i64.wrap ((lim : Int) - 1) = (lim : Int) - 1 := by rw [IntKind.wrap_i64]; omega
              have HE := Lib.hid (show (lim : Int) - 1 = (R.lim : Int) from by have := PB.out; rw [if_neg (by decide)] at this; omega)
              have HD := Lib.hid (show breakPatterns dk a' b' = R.d1 from by have := PB.out; rw [if_neg (by decide)] at this; exact this.1.symm)
              go_wp2_with (go_at_call 68; refine HC.out.mono ?_; rintro e w1 ⟨rfl, hw1⟩)
              go_meet
              case rel => exact ⟨by rw [HE.out], hw1.to HD.out⟩
            · have HD := Lib.hid (show dk = R.d1 ∧ lim = R.lim from by have := PB.out; rw [if_pos rfl] at this; exact ⟨this.1.symm, this.2.symm⟩)
              go_wp2_with fail
              go_meet
              case rel => exact ⟨by rw [HD.out.2], HRK.out.to HD.out.1⟩
          case rest =>
            obtain ⟨rfl, hr⟩ := hcut
            have HP0 := Lib.hid (pivot_any a' b' R.d1 w0 _ hr hab12 hb' hn)
            rw [← PC.out] at HP0
            clear hr
            go_upto_if 50 with (go_at_call 69; refine HP0.out.mono ?_; rintro e w2 ⟨rfl, hw2⟩)
            have HR2 := Lib.hid hw2
            clear hw2
            go_cut [11, 12] from 19 (fun v11 v12 wc => v11 = .int .i64 (R.pivot : Int) ∧ v12 = .int .i64 (hintI R.hint) ∧ Ro w0 base g n cap R.d2 wc)
            case first =>
              by_cases hh : R.c.2 = .decreasing
              · have hcode : hintI R.c.2 = 2 := by rw [hh]; rfl
                have PD := Lib.hid (PDe.out hh)
                have HC := Lib.hid (reverse_any a' b' R.d1 w0 w2 HR2.out (by omega) hb' hn)
                have f1 : IntKind.i64.wrap ((b' : Int) - 1) = (b' : Int) - 1 := by rw [IntKind.wrap_i64]; omega
                have f2 : IntKind.i64.wrap ((R.c.1 : Int) - (a' : Int)) = (R.c.1 : Int) - (a' : Int) := by rw [IntKind.wrap_i64]; omega
                have f3 : IntKind.i64.wrap ((b' : Int) - 1 - ((R.c.1 : Int) - (a' : Int))) = (b' : Int) - 1 - ((R.c.1 : Int) - (a' : Int)) := by rw [IntKind.wrap_i64]; omega
                have HV := Lib.hid (show (b' : Int) - 1 - ((R.c.1 : Int) - (a' : Int)) = (R.pivot : Int) from by rw [PD.out.2.1]; omega)
                clear hh
                go_wp2_with (go_at_call 70; refine HC.out.mono ?_; rintro e w3 ⟨rfl, hw3⟩)
                go_meet
                case rel => exact ⟨by rw [HV.out], by rw [PD.out.2.2]; rfl, hw3.to PD.out.1.symm⟩
              · have hcode : ¬ (hintI R.c.2 = 2) := fun h => hh (hintI_two h)
                have hcode2 : (hintI R.c.2 == 2) = false := by simpa using hcode
                have PD := Lib.hid (PNo.out hh)
                clear hh
                go_wp2_with fail
                go_meet
                case rel => exact ⟨by rw [PD.out.2.1], by rw [PD.out.2.2], HR2.out.to PD.out.1.symm⟩
            case rest =>
              rename World => w3
              obtain ⟨rfl, rfl, hr⟩ := hcut
              have HR3 := Lib.hid hr
              clear hr
              go_upto_region 15 with fail
              go_cut [12, 68] from 19 (fun v12 v68 wx => v12 = .int .i64 (hintI R.hint) ∧ v68 = .bool (wb && wp && decide (R.hint = .increasing)) ∧ wx = w3)
              case first =>
                cases wb <;> cases wp <;> cases hh3 : R.hint <;>
                  (have hcode3 := congrArg hintI hh3
                   simp only [hintI] at hcode3
                   go_wp2_with fail
                   go_meet
                   exact ⟨by simp [hh3, hintI], by simp [hh3, hintI], rfl⟩)
              case rest =>
                obtain ⟨rfl, rfl, rfl⟩ := hcut
                go_upto_if 68 with fail
                go_cut [] from 19 (fun wx => Hid (R.pi.2 = false) ∧ Ro w0 base g n cap R.pi.1 wx)
                case first =>
                  cases h68 : (wb && wp && decide (R.hint = .increasing))
                  · have epi := Lib.hid (PN.out h68)
                    clear h68
                    go_wp2_with fail
                    go_meet
                    case rel => exact ⟨Lib.hid (by rw [epi.out]), HR3.out.to (by rw [epi.out])⟩
                  · have epi := Lib.hid (PY.out h68)
                    have HC := Lib.hid (partial_any a' b' R.d2 w0 _ HR3.out (by omega) hb' hn)
                    rw [← epi.out] at HC
                    clear h68
                    cases h2 : R.pi.2
                    · have HF := Lib.hid h2
                      unfold InsPost at HC
                      rw [h2] at HC
                      clear h2
                      go_wp2_with (go_at_call 71; refine HC.out.mono ?_; rintro e w4 ⟨rfl, hw4⟩)
                      go_meet
                      case rel => exact ⟨HF, hw4⟩
                    · have HF := Lib.hid (QD.out h2)
                      unfold InsPost at HC
                      rw [h2] at HC
                      clear h2
                      go_wp2_with (go_at_call 71; refine HC.out.mono ?_; rintro e w4 ⟨rfl, hw4⟩)
                      (try simp only [Exit.inBlock, Exit.then]); refine bodyPost_ret (results_none rfl _ _ _) rfl ?_
                      exact ⟨rfl, hw4.to HF.out⟩
                case rest =>
                  rename World => w5
                  obtain ⟨HF, hr⟩ := hcut
                  have HR5 := Lib.hid hr
                  clear hr
                  obtain ⟨cond, hcond⟩ : ∃ c, c = (decide (a' > 0) && !ltU R.pi.1[a' - 1]! R.pi.1[R.pivot]!) := ⟨_, rfl⟩
                  have HCO := Lib.hid hcond
                  clear hcond
                  go_upto_region 17 with fail
                  go_cut [87] from 19 (fun v87 wx => v87 = .bool cond ∧ Ro w0 base g n cap R.pi.1 wx)
                  case first =>
                    rcases Nat.eq_zero_or_pos a' with ha0 | ha0
                    · have ha0z : decide ((a' : Int) > 0) = false := decide_eq_false (by omega)
                      have HX := Lib.hid (show cond = false from by rw [HCO.out, ha0]; rfl)
                      go_big_quiet (first | (go_at_call 72; refine Calls.quiet_of_same (less_same _ _ _)))
                      go_wp2_with fail
                      go_meet
                      case rel => exact ⟨by rw [HX.out], HR5.out.drewN _⟩
                    · have ha0z : (a' : Int) > 0 := by omega
                      have ha0w : decide ((a' : Int) > 0) = true := decide_eq_true ha0z
                      obtain ⟨m, hm⟩ : ∃ m, m = a' - 1 := ⟨_, rfl⟩
                      have m1 : IntKind.i64.wrap ((a' : Int) - 1) = (m : Int) := by rw [IntKind.wrap_i64]; omega
                      have m2 : (a' : Int) - 1 = (m : Int) := by omega
                      obtain ⟨x, hx⟩ : ∃ x, x = R.pi.1[m]! := ⟨_, rfl⟩
                      obtain ⟨y, hy⟩ : ∃ x, x = R.pi.1[R.pivot]! := ⟨_, rfl⟩
                      have HX := Lib.hid (show cond = !ltU x y from by rw [HCO.out, hx, hy, hm, show decide (a' > 0) = true from decide_eq_true ha0]; rfl)
                      have p1 : (m : Int) < (n : Int) := by omega
                      have p2 : (0 : Int) ≤ (m : Int) := by omega
                      have p3 : (R.pivot : Int) < (n : Int) := by omega
                      have p4 : (0 : Int) ≤ (R.pivot : Int) := by omega
                      have cz1 : w5.cell? ⟨g, m, none⟩ = some (.int .u64 (x.toNat : Int)) := by rw [hx]; exact HR5.out.cell (by omega)
                      have cz2 : w5.cell? ⟨g, R.pivot, none⟩ = some (.int .u64 (y.toNat : Int)) := by rw [hy]; exact HR5.out.cell (by omega)
                      have HL := Lib.hid (fun W => less_same x y W)
                      generalize hq : ltU x y = q at HX HL
                      clear hq hx hy hm
                      go_big_quiet (first | (go_at_call 72; refine Calls.quiet_of_same (HL.out _)))
                      go_wp2_with fail
                      go_meet
                      case rel => exact ⟨by rw [HX.out], HR5.out.drewN _⟩
                  case rest =>
                    rename World => w6
                    obtain ⟨rfl, hr⟩ := hcut
                    have HR6 := Lib.hid hr
                    clear hr
                    cases cond
                    · obtain ⟨⟨mid, ap, d4⟩, hx⟩ : ∃ r, r = partition ltU R.pi.1 a' b' R.pivot := ⟨_, rfl⟩
                      have HPA := Lib.hid (part_any a' b' R.pivot R.pi.1 w0 w6 HR6.out hpv.1 hpv.2 hb' hn)
                      have QL1 := Lib.hid (QL.out HF.out HCO.out.symm)
                      have QR1 := Lib.hid (QR.out HF.out HCO.out.symm)
                      rw [← hx] at HPA QL1 QR1
                      obtain ⟨r1, r2, r3, r4, r5, r6, r7⟩ := round_part swo_ltU (partition_holds _) hpv.1 hpv.2 hsp HB3.out hx.symm
                      have R4 := Lib.hid r4
                      have R5 := Lib.hid r5
                      have R6 := Lib.hid r6
                      have R7 := Lib.hid r7
                      have hs4 : b' ≤ d4.size := by omega
                      clear hx r3 r4 r5 r6 r7
                      have g1 : IntKind.i64.wrap ((mid : Int) - (a' : Int)) = (mid : Int) - (a' : Int) := by rw [IntKind.wrap_i64]; omega
                      have g2 : IntKind.i64.wrap ((b' : Int) - (mid : Int)) = (b' : Int) - (mid : Int) := by rw [IntKind.wrap_i64]; omega
                      have g3 : IntKind.i64.wrap ((mid : Int) + 1) = (mid : Int) + 1 := by rw [IntKind.wrap_i64]; omega
                      have G4 := Lib.hid (show (mid : Int) + 1 = ((mid + 1 : Nat) : Int) from by omega)
                      have g5 : Int.tdiv ((b' : Int) - (a' : Int)) 8 = ((b' : Int) - (a' : Int)) / 8 := Int.tdiv_eq_ediv_of_nonneg (by omega)
                      go_upto_if 113 with (go_at_call 74; refine HPA.out.mono ?_; rintro e w7 ⟨rfl, hw7⟩)
                      have HR7 := Lib.hid hw7
                      clear hw7
                      by_cases h4 : mid - a' < b' - mid
                      · have HQ := Lib.hid (QL1.out ⟨r1, r2⟩ h4)
                        have h4z : (mid : Int) - (a' : Int) < (b' : Int) - (mid : Int) := by omega
                        have HS := pdq_sorts ltU swo_ltU d4 a' mid R.lim true true (by omega) (by omega) R4.out
                        have HBN := Lib.hid ((R6.out _ HS.1 HS.2).1)
                        have HC := Lib.hid (HIH.out a' mid R.lim d4 w7 (by omega) HR7.out (by omega) (by omega) (by omega) R4.out)
                        obtain ⟨d5, hd5⟩ : ∃ d5, d5 = pdq ltU d4 a' mid R.lim true true := ⟨_, rfl⟩
                        rw [← hd5] at HQ HBN HC
                        obtain ⟨wb2, hwb2⟩ : ∃ x, x = decide (mid - a' ≥ (b' - a') / 8) := ⟨_, rfl⟩
                        rw [← hwb2] at HQ
                        have HWB := Lib.hid (show decide (((b' : Int) - (a' : Int)) / 8 ≤ (mid : Int) - (a' : Int)) = wb2 from by rw [hwb2]; exact eighth (by omega) (by omega))
                        clear HS hd5 hwb2 h4
                        go_wp2_with (go_at_call 56; refine HC.out.mono ?_; rintro e w8 ⟨rfl, hw8⟩)
                        have HR8 := Lib.hid hw8
                        clear hw8
                        go_roundw
                        case rel => exact ⟨mid + 1, b', R.lim, wb2, ap, d5, by first | rfl | rw [G4.out], rfl, rfl, by rw [HWB.out], rfl, by omega, by omega, by omega, by omega, HBN, HQ, HR8.out⟩
                        case measure => simp [intOf]; omega
                      · have HQ := Lib.hid (QR1.out ⟨r1, r2⟩ h4)
                        have h4z : ¬ ((mid : Int) - (a' : Int) < (b' : Int) - (mid : Int)) := by omega
                        have HS := pdq_sorts ltU swo_ltU d4 (mid + 1) b' R.lim true true (by omega) (by omega) R5.out
                        have HBN := Lib.hid ((R7.out _ HS.1 HS.2).1)
                        have HC := Lib.hid (HIH.out (mid + 1) b' R.lim d4 w7 (by omega) HR7.out (by omega) (by omega) (by omega) R5.out)
                        obtain ⟨d5, hd5⟩ : ∃ d5, d5 = pdq ltU d4 (mid + 1) b' R.lim true true := ⟨_, rfl⟩
                        rw [← hd5] at HQ HBN HC
                        obtain ⟨wb2, hwb2⟩ : ∃ x, x = decide (b' - mid ≥ (b' - a') / 8) := ⟨_, rfl⟩
                        rw [← hwb2] at HQ
                        have HWB := Lib.hid (show decide (((b' : Int) - (a' : Int)) / 8 ≤ (b' : Int) - (mid : Int)) = wb2 from by rw [hwb2]; exact eighth (by omega) (by omega))
                        clear HS hd5 hwb2 h4
                        go_wp2_with (go_at_call 56; refine HC.out.mono ?_; rintro e w8 ⟨rfl, hw8⟩)
                        have HR8 := Lib.hid hw8
                        clear hw8
                        go_roundw
                        case rel => exact ⟨a', mid, R.lim, wb2, ap, d5, by first | rfl | rw [G4.out], rfl, rfl, by rw [HWB.out], rfl, by omega, by omega, by omega, by omega, HBN, HQ, HR8.out⟩
                        case measure => simp [intOf]; omega
                    · obtain ⟨⟨mid, d4⟩, hx⟩ : ∃ r, r = partitionEqual ltU R.pi.1 a' b' R.pivot := ⟨_, rfl⟩
                      have HPA := Lib.hid (partEq_any a' b' R.pivot R.pi.1 w0 w6 HR6.out hpv.1 hpv.2 hb' hn)
                      have QE1 := Lib.hid (QE.out HF.out HCO.out.symm)
                      have hcc := HCO.out
                      rw [eq_comm, Bool.and_eq_true, Bool.not_eq_true', decide_eq_true_eq] at hcc
                      rw [← hx] at HPA QE1
                      obtain ⟨r1, r2, r3, r4, -⟩ := round_eq swo_ltU (partitionEqual_holds _) hcc.1 hpv.1 hpv.2 hsp HB3.out hcc.2 hx.symm
                      have R4 := Lib.hid r4
                      have HQ := Lib.hid (QE1.out ⟨r1, r2⟩)
                      clear hx r3 r4 hcc QE1
                      go_wp2_with (go_at_call 73; refine HPA.out.mono ?_; rintro e w7 ⟨rfl, hw7⟩)
                      have HR7 := Lib.hid hw7
                      clear hw7
                      go_roundw
                      case rel => exact ⟨mid, b', R.lim, wb, wp, d4, rfl, rfl, rfl, rfl, rfl, by omega, by omega, by omega, by omega, R4, HQ, HR7.out⟩
                      case measure => simp [intOf]; omega
end Go.Proofs.Tryd.Sq
