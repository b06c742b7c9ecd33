/- A row turned round; a few steps of insertion. -/
import Derived.Test.YtkeaalacepjadaaDoorSq4
set_option linter.unusedVariables false
set_option linter.unusedSimpArgs false
set_option maxRecDepth 100000
namespace Go.Proofs.Tryd.Sq
open Go.RowKit Go.Cph Go.Sort

set_option maxHeartbeats 8000000 in
theorem reverse_any {base g n cap : Nat} (a b : Nat) (d : Array UInt64) (w0 w : World) (h : Ro w0 base g n cap d w) (hab : a < b) (hb : b ≤ n) (hn : n ≤ 1000000) :
    Calls Tryd.prog 70 #[.slice (some ⟨g, 0, none⟩) n cap, .int .i64 a, .int .i64 b] w (RoPost w0 base g n cap (reverseRange d a b)) := by
  have HR := Lib.hid h
  clear h
  obtain ⟨j0, hj0⟩ : ∃ i, i = b - 1 := ⟨_, rfl⟩
  have HJ0 := Lib.hid hj0
  have v2 : IntKind.i64.wrap ((b : Int) - 1) = (j0 : Int) := by rw [IntKind.wrap_i64]; omega
  have v4 : (b : Int) - 1 = (j0 : Int) := by omega
  have hj0n : j0 < n := by omega
  have han : a < n := by omega
  clear hj0
  go_enter Tryd.func70, Tryd.ntmps70
  go_wp2_with fail
  clear v2 v4
  go_loopw [6, 7] (fun v6 v7 W => ∃ (i j : Nat) (e : Array UInt64), v6 = .int .i64 (i : Int) ∧ v7 = .int .i64 (j : Int) ∧ j < n ∧ i ≤ n ∧ Hid (reverseLoop i j e = reverseRange d a b) ∧ Ro w0 base g n cap e W) (fun v6 v7 _ => (intOf v7 - intOf v6).toNat)
  case atStart => exact ⟨a, j0, d, rfl, rfl, hj0n, by omega, Lib.hid (by rw [HJ0.out]; rfl), HR.out⟩
  case round =>
    obtain ⟨i, j, e, rfl, rfl, hjn, hin, HP, hr⟩ := hrel
    have HRE := Lib.hid hr
    clear hr
    by_cases hlt : i < j
    · have y1 : (i : Int) < (j : Int) := by omega
      have hin2 : i < n := by omega
      have HZ := Lib.hid (show reverseLoop (i + 1) (j - 1) (swp e i j) = reverseRange d a b from by
        rw [← HP.out]
        conv => rhs; unfold reverseLoop
        rw [if_pos hlt])
      have y2 : IntKind.i64.wrap ((i : Int) + 1) = ((i + 1 : Nat) : Int) := by rw [IntKind.wrap_i64]; omega
      have y3 : IntKind.i64.wrap ((j : Int) - 1) = ((j - 1 : Nat) : Int) := by rw [IntKind.wrap_i64]; omega
      obtain ⟨xs, hxs⟩ : ∃ x, x = e[i]! := ⟨_, rfl⟩
      obtain ⟨ys, hys⟩ : ∃ y, y = e[j]! := ⟨_, rfl⟩
      have cz1 : wr.cell? ⟨g, i, none⟩ = some (.int .u64 (xs.toNat : Int)) := by rw [hxs]; exact HRE.out.cell (hin2)
      have cz2 : wr.cell? ⟨g, j, none⟩ = some (.int .u64 (ys.toNat : Int)) := by rw [hys]; exact HRE.out.cell (hjn)
      have cz3 := HRE.out.put_cell (hin2) (hjn) hys
      have HSX := Lib.hid hxs
      have HSY := Lib.hid hys
      have pz1 : (i : Int) < (n : Int) := by have := hin2; omega
      have pz2 : (j : Int) < (n : Int) := by have := hjn; omega
      have pz3 : (0 : Int) ≤ (i : Int) := by omega
      have pz4 : (0 : Int) ≤ (j : Int) := by omega
      have fz : ∀ o, wr.frozen? ⟨g, o, none⟩ = false := fun o => HRE.out.free o
      clear hxs hys
      go_wp2_with fail
      go_region
      have HR7 := Lib.hid ((HRE.out.put2 (hin2) (hjn) HSX.out HSY.out).drew)
      clear cz1 cz2 cz3 pz1 pz2 pz3 pz4 fz HSX HSY
      go_wp2_with fail
      go_roundw
      case rel => exact ⟨i + 1, j - 1, swp e i j, rfl, by first | rfl | (rw [show (j : Int) - 1 = ((j - 1 : Nat) : Int) by omega]), by omega, by omega, HZ, HR7.out⟩
      case measure => simp [intOf]; omega
    · have y1 : ¬ ((i : Int) < (j : Int)) := by omega
      have HZ := Lib.hid (show e = reverseRange d a b from by
        rw [← HP.out]
        conv => rhs; unfold reverseLoop
        rw [if_neg hlt])
      go_wp2_with fail
      go_end0
      exact ⟨rfl, HRE.out.to HZ.out⟩
theorem scanSorted_ge {d : Array UInt64} {b : Nat} : ∀ (k i : Nat), b - i ≤ k → i ≤ b → i ≤ scanSorted ltU d b i ∧ scanSorted ltU d b i ≤ b := by
  intro k
  induction k with
  | zero =>
    intro i h hi
    unfold scanSorted
    rw [if_neg (by simp; omega)]
    exact ⟨Nat.le_refl _, hi⟩
  | succ k ih =>
    intro i h hi
    unfold scanSorted
    split
    · rename_i hc
      simp at hc
      have := ih (i + 1) (by omega) (by omega)
      omega
    · exact ⟨Nat.le_refl _, hi⟩
def goD (a b k : Nat) (d : Array UInt64) : Array UInt64 := if k - a ≥ 2 then shiftDown ltU (k - 1) d else d
def goU (b k : Nat) (d : Array UInt64) : Array UInt64 := if b - k ≥ 2 then shiftUp ltU b (k + 1) d else d
theorem pins_true {a b s i k : Nat} {d : Array UInt64} (hk : k = scanSorted ltU d b i) (h : k = b) : partialIns ltU a b (s + 1) i d = (d, true) := by
  unfold partialIns
  simp only
  rw [← hk, if_pos h]
theorem pins_short {a b s i k : Nat} {d : Array UInt64} (hk : k = scanSorted ltU d b i) (h : k ≠ b) (h2 : b - a < 50) : partialIns ltU a b (s + 1) i d = (d, false) := by
  unfold partialIns
  simp only
  rw [← hk, if_neg h, if_pos h2]
theorem pins_go {a b s i k : Nat} {d : Array UInt64} (hk : k = scanSorted ltU d b i) (h : k ≠ b) (h2 : ¬ b - a < 50) : partialIns ltU a b (s + 1) i d = partialIns ltU a b s k (goU b k (goD a b k (swp d k (k - 1)))) := by
  conv => lhs; unfold partialIns
  simp only
  rw [← hk, if_neg h, if_neg h2]
  rfl
def InsPost (w0 : World) (base g n cap : Nat) (r : Array UInt64 × Bool) (e : Ending) (w' : World) : Prop := e = .returned (.bool r.2) ∧ Ro w0 base g n cap r.1 w'

set_option maxHeartbeats 16000000 in
theorem partial_any {base g n cap : Nat} (a b : Nat) (d : Array UInt64) (w0 w : World) (h : Ro w0 base g n cap d w) (hab : a < b) (hb : b ≤ n) (hn : n ≤ 1000000) :
    Calls Tryd.prog 71 #[.slice (some ⟨g, 0, none⟩) n cap, .int .i64 a, .int .i64 b] w (InsPost w0 base g n cap (partialInsertionSort ltU d a b)) := by
  have HR := Lib.hid h
  clear h
  obtain ⟨i0, hi0⟩ : ∃ i, i = a + 1 := ⟨_, rfl⟩
  have HI0 := Lib.hid hi0
  have v1 : IntKind.i64.wrap ((a : Int) + 1) = (i0 : Int) := by rw [IntKind.wrap_i64]; omega
  have v3 : (a : Int) + 1 = (i0 : Int) := by omega
  obtain ⟨R, hRR⟩ : ∃ x, x = partialInsertionSort ltU d a b := ⟨_, rfl⟩
  have HRR := Lib.hid (show partialIns ltU a b 5 i0 d = R from by rw [hRR, hi0]; rfl)
  rw [← hRR]
  have hib : i0 ≤ b := by omega
  have hia : a < i0 := by omega
  clear hi0 hRR
  go_enter Tryd.func71, Tryd.ntmps71
  go_wp2_with fail
  clear v1 v3
  go_loopw [7, 8] (fun v7 v8 W => ∃ (i st : Nat) (e : Array UInt64), v7 = .int .i64 (i : Int) ∧ v8 = .int .i64 (st : Int) ∧ a < i ∧ i ≤ b ∧ st ≤ 5 ∧ Hid (partialIns ltU a b (5 - st) i e = R) ∧ Ro w0 base g n cap e W) (fun _ v8 _ => (5 - intOf v8).toNat)
  case atStart => exact ⟨i0, 0, d, rfl, rfl, hia, hib, by omega, Lib.hid HRR.out, HR.out⟩
  case round =>
    obtain ⟨i, st, e, rfl, rfl, hai, hib2, hst, HP, hr⟩ := hrel
    have HRE := Lib.hid hr
    clear hr
    by_cases hs5 : st < 5
    · have y1 : (st : Int) < 5 := by omega
      obtain ⟨s, hs⟩ : ∃ s, 5 - st = s + 1 := ⟨4 - st, by omega⟩
      have HS := Lib.hid hs
      have y2 : IntKind.i64.wrap ((st : Int) + 1) = ((st + 1 : Nat) : Int) := by rw [IntKind.wrap_i64]; omega
      obtain ⟨k, hk⟩ : ∃ x, x = scanSorted ltU e b i := ⟨_, rfl⟩
      have Hk := Lib.hid hk
      have hkk : i ≤ k ∧ k ≤ b := by rw [hk]; exact scanSorted_ge _ _ (Nat.le_refl _) hib2
      clear hs hk
      go_upto_block 2 with (fail)
      go_cut [7] from 17 to 34 (fun v W => v = .int .i64 (k : Int) ∧ Ro w0 base g n cap e W)
      case first =>
        clear y1 y2
        go_wp2_with fail
        go_loopw [7] (fun v W => ∃ t : Nat, v = .int .i64 (t : Int) ∧ (i ≤ t ∧ t ≤ b) ∧ Hid (scanSorted ltU e b t = k) ∧ Ro w0 base g n cap e W) (fun v _ => b - (intOf v).toNat)
        case atStart => exact ⟨i, rfl, by omega, Lib.hid Hk.out.symm, HRE.out⟩
        case round =>
          obtain ⟨t, rfl, ht, HT, hr⟩ := hrel
          have HRT := Lib.hid hr
          clear hr
          by_cases hle : t < b
          · have z1 : (t : Int) < (b : Int) := by omega
            have z2 : decide (t < b) = true := by simpa using hle
            obtain ⟨m, hm⟩ : ∃ m, m = t - 1 := ⟨_, rfl⟩
            have HM := Lib.hid hm
            have e1 : IntKind.i64.wrap ((t : Int) - 1) = (m : Int) := by rw [IntKind.wrap_i64]; omega
            have e2 : IntKind.i64.wrap ((t : Int) + 1) = ((t + 1 : Nat) : Int) := by rw [IntKind.wrap_i64]; omega
            have htn : t < n := by omega
            have hmn : m < n := by omega
            clear hm
            obtain ⟨xq, hxq⟩ : ∃ x, x = e[t]! := ⟨_, rfl⟩
            obtain ⟨yq, hyq⟩ : ∃ y, y = e[m]! := ⟨_, rfl⟩
            have cz1 : ∀ zz : Later wr.heap.size wr, zz.val.cell? ⟨g, t, none⟩ = some (.int .u64 (xq.toNat : Int)) := fun zz => cell_kept zz.prop (by rw [hxq]; exact HRT.out.cell (htn))
            have cz2 : ∀ zz : Later wr.heap.size wr, zz.val.cell? ⟨g, m, none⟩ = some (.int .u64 (yq.toNat : Int)) := fun zz => cell_kept zz.prop (by rw [hyq]; exact HRT.out.cell (hmn))
            have HLq := Lib.hid (fun W => less_any xq yq W)
            obtain ⟨q, hq⟩ : ∃ b, b = ltU xq yq := ⟨_, rfl⟩
            rw [← hq] at HLq
            rw [hxq, hyq] at hq
            have Hq := Lib.hid hq
            have pz1 : (t : Int) < (n : Int) := by have := htn; omega
            have pz2 : (m : Int) < (n : Int) := by have := hmn; omega
            have pz3 : (0 : Int) ≤ (t : Int) := by omega
            have pz4 : (0 : Int) ≤ (m : Int) := by omega
            clear hxq hyq hq
            go_wp2_with fail
            refine wp_region_later wr.heap.size (by kernel_rfl) (by kernel_rfl) ?_
            repeat (go_big_quiet_step ((go_at_call 72; exact Later.calls (Nat.le_refl _) (HLq.out _))))
            refine wpQuiet_nil ?_
            rintro w9 ⟨zz, rfl⟩
            have HR9 := Lib.hid (HRT.out.later zz.prop)
            clear cz1 cz2 pz1 pz2 pz3 pz4 HLq
            generalize zz.val = w9 at *
            cases q
            · have HT2 := Lib.hid (show scanSorted ltU e b (t + 1) = k from by
                rw [← HT.out]
                conv => rhs; unfold scanSorted
                rw [if_pos (by rw [← HM.out, ← Hq.out]; simp; omega)])
              clear z1 z2 e1
              go_wp2_with fail
              go_roundw
              case rel => exact ⟨t + 1, rfl, by omega, HT2, HR9.out⟩
              case measure => simp [intOf]; omega
            · have HT2 := Lib.hid (show t = k from by
                rw [← HT.out]
                conv => rhs; unfold scanSorted
                rw [if_neg (by rw [← HM.out, ← Hq.out]; simp)])
              clear z1 z2 e1 e2
              go_wp2_with fail
              go_meet
              case rel => exact ⟨by rw [HT2.out], HR9.out⟩
          · have z1 : ¬ ((t : Int) < (b : Int)) := by omega
            have z2 : decide (t < b) = false := by simpa using hle
            have z3 : decide ((t : Int) < (b : Int)) = false := by rw [decide_eq_false_iff_not]; exact z1
            have HT2 := Lib.hid (show t = k from by
              rw [← HT.out]
              conv => rhs; unfold scanSorted
              rw [if_neg (by simp; omega)])
            clear hle
            go_wp2_with fail
            go_quiet (fail)
            go_wp2_with fail
            go_meet
            case rel => exact ⟨by rw [HT2.out], HRT.out.drewN _⟩
      case rest =>
        rename World => W2
        obtain ⟨rfl, hr⟩ := hcut
        have HR2 := Lib.hid hr
        clear hr
        obtain ⟨l, hl⟩ : ∃ l, l = b - a := ⟨_, rfl⟩
        have HL := Lib.hid hl
        have x1 : IntKind.i64.wrap ((b : Int) - (a : Int)) = (l : Int) := by rw [IntKind.wrap_i64]; omega
        have x1' : (b : Int) - (a : Int) = (l : Int) := by omega
        clear hl
        by_cases hkb : k = b
        · have x2 : ((k : Int) == (b : Int)) = true := by simp [hkb]
          have HE := Lib.hid (show R = (e, true) from by rw [← HP.out, HS.out]; exact pins_true Hk.out hkb)
          clear hkb x1 x1'
          go_wp2_with fail
          go_ret
          exact ⟨ret_bool (by rw [HE.out]), by rw [HE.out]; exact HR2.out⟩
        · have x2 : ((k : Int) == (b : Int)) = false := by simp; omega
          by_cases h50 : l < 50
          · have x3 : (l : Int) < 50 := by omega
            have HE := Lib.hid (show R = (e, false) from by rw [← HP.out, HS.out]; exact pins_short Hk.out hkb (by rw [← HL.out]; exact h50))
            clear hkb
            go_wp2_with fail
            go_ret
            exact ⟨ret_bool (by rw [HE.out]), by rw [HE.out]; exact HR2.out⟩
          · have x3 : ¬ (l : Int) < 50 := by omega
            have HG := Lib.hid (show partialIns ltU a b s k (goU b k (goD a b k (swp e k (k - 1)))) = R from by rw [← HP.out, HS.out]; exact (pins_go Hk.out hkb (by rw [← HL.out]; exact h50)).symm)
            have hkbl : k < b := by omega
            obtain ⟨k1, hk1⟩ : ∃ x, x = k - 1 := ⟨_, rfl⟩
            obtain ⟨q1, hq1⟩ : ∃ x, x = k - a := ⟨_, rfl⟩
            obtain ⟨q2, hq2⟩ : ∃ x, x = b - k := ⟨_, rfl⟩
            have HK1 := Lib.hid hk1
            have HQ1 := Lib.hid hq1
            have HQ2 := Lib.hid hq2
            have x4 : IntKind.i64.wrap ((k : Int) - 1) = (k1 : Int) := by rw [IntKind.wrap_i64]; omega
            have x4' : (k : Int) - 1 = (k1 : Int) := by omega
            have x5 : IntKind.i64.wrap ((k : Int) - (a : Int)) = (q1 : Int) := by rw [IntKind.wrap_i64]; omega
            have x5' : (k : Int) - (a : Int) = (q1 : Int) := by omega
            have x6 : IntKind.i64.wrap ((b : Int) - (k : Int)) = (q2 : Int) := by rw [IntKind.wrap_i64]; omega
            have x6' : (b : Int) - (k : Int) = (q2 : Int) := by omega
            have x7 : IntKind.i64.wrap ((k : Int) + 1) = ((k + 1 : Nat) : Int) := by rw [IntKind.wrap_i64]; omega
            have hkn : k < n := by omega
            have hk1n : k1 < n := by omega
            rw [← hk1] at HG
            clear hkb h50 hk1 hq1 hq2
            obtain ⟨xs, hxs⟩ : ∃ x, x = e[k]! := ⟨_, rfl⟩
            obtain ⟨ys, hys⟩ : ∃ y, y = e[k1]! := ⟨_, rfl⟩
            have cz1 : W2.cell? ⟨g, k, none⟩ = some (.int .u64 (xs.toNat : Int)) := by rw [hxs]; exact HR2.out.cell (hkn)
            have cz2 : W2.cell? ⟨g, k1, none⟩ = some (.int .u64 (ys.toNat : Int)) := by rw [hys]; exact HR2.out.cell (hk1n)
            have cz3 := HR2.out.put_cell (hkn) (hk1n) hys
            have HSX := Lib.hid hxs
            have HSY := Lib.hid hys
            have pz1 : (k : Int) < (n : Int) := by have := hkn; omega
            have pz2 : (k1 : Int) < (n : Int) := by have := hk1n; omega
            have pz3 : (0 : Int) ≤ (k : Int) := by omega
            have pz4 : (0 : Int) ≤ (k1 : Int) := by omega
            have fz : ∀ o, W2.frozen? ⟨g, o, none⟩ = false := fun o => HR2.out.free o
            clear hxs hys
            go_wp2_with fail
            go_region
            have HR3 := Lib.hid ((HR2.out.put2 (hkn) (hk1n) HSX.out HSY.out).drew)
            clear cz1 cz2 cz3 pz1 pz2 pz3 pz4 fz HSX HSY
            obtain ⟨f, hf⟩ : ∃ x, x = swp e k k1 := ⟨_, rfl⟩
            rw [← hf] at HR3 HG
            clear hf
            obtain ⟨f3, hf3⟩ : ∃ x, x = goD a b k f := ⟨_, rfl⟩
            have HF3 := Lib.hid hf3
            have HGD := Lib.hid (show partialIns ltU a b s k (goU b k f3) = R from by rw [hf3]; exact HG.out)
            clear hf3
            go_upto_if 61 with (fail)
            go_cut [9] from 62 to 94 (fun v W => Ro w0 base g n cap f3 W)
            case first =>
             clear y1 y2 HGD
             by_cases h1 : q1 ≥ 2
             · have x8 : (q1 : Int) ≥ 2 := by omega
               have HX := Lib.hid (show f3 = shiftDown ltU k1 f from by rw [HF3.out]; unfold goD; rw [if_pos (by rw [← HQ1.out]; exact h1), ← HK1.out])
               clear h1
               go_wp2_with fail
               clear x1 x1' x2 x3 x4 x4' x5 x5' x6 x6' x7 x8
               go_loopw [9] (fun v W => ∃ (t : Nat) (f2 : Array UInt64), v = .int .i64 (t : Int) ∧ t ≤ k1 ∧ Hid (shiftDown ltU t f2 = shiftDown ltU k1 f) ∧ Ro w0 base g n cap f2 W) (fun v _ => (intOf v).toNat)
               case atStart => exact ⟨k1, f, rfl, Nat.le_refl _, Lib.hid rfl, HR3.out⟩
               case round =>
                 obtain ⟨t, f2, rfl, ht, HT, hr⟩ := hrel
                 have HRT := Lib.hid hr
                 clear hr
                 by_cases hle : 1 ≤ t
                 · have z1 : (t : Int) ≥ 1 := by omega
                   obtain ⟨m, hm⟩ : ∃ m, t = m + 1 := ⟨t - 1, by omega⟩
                   have HM := Lib.hid hm
                   have e1 : IntKind.i64.wrap ((t : Int) - 1) = (m : Int) := by rw [IntKind.wrap_i64]; omega
                   have htn : t < n := by omega
                   have hmn : m < n := by omega
                   clear hm
                   obtain ⟨xq, hxq⟩ : ∃ x, x = f2[t]! := ⟨_, rfl⟩
                   obtain ⟨yq, hyq⟩ : ∃ y, y = f2[m]! := ⟨_, rfl⟩
                   have cz1 : ∀ zz : Later wr.heap.size wr, zz.val.cell? ⟨g, t, none⟩ = some (.int .u64 (xq.toNat : Int)) := fun zz => cell_kept zz.prop (by rw [hxq]; exact HRT.out.cell (htn))
                   have cz2 : ∀ zz : Later wr.heap.size wr, zz.val.cell? ⟨g, m, none⟩ = some (.int .u64 (yq.toNat : Int)) := fun zz => cell_kept zz.prop (by rw [hyq]; exact HRT.out.cell (hmn))
                   have HLq := Lib.hid (fun W => less_any xq yq W)
                   obtain ⟨q, hq⟩ : ∃ b, b = ltU xq yq := ⟨_, rfl⟩
                   rw [← hq] at HLq
                   rw [hxq, hyq] at hq
                   have Hq := Lib.hid hq
                   have pz1 : (t : Int) < (n : Int) := by have := htn; omega
                   have pz2 : (m : Int) < (n : Int) := by have := hmn; omega
                   have pz3 : (0 : Int) ≤ (t : Int) := by omega
                   have pz4 : (0 : Int) ≤ (m : Int) := by omega
                   clear hxq hyq hq
                   go_wp2_with fail
                   refine wp_region_later wr.heap.size (by kernel_rfl) (by kernel_rfl) ?_
                   repeat (go_big_quiet_step ((go_at_call 72; exact Later.calls (Nat.le_refl _) (HLq.out _))))
                   refine wpQuiet_nil ?_
                   rintro w9 ⟨zz, rfl⟩
                   have HR9 := Lib.hid (HRT.out.later zz.prop)
                   clear cz1 cz2 pz1 pz2 pz3 pz4 HLq
                   generalize zz.val = w9 at *
                   cases q
                   · have HT2 := Lib.hid (show f2 = f3 from by
                       rw [HX.out, ← HT.out]
                       have hq := Hq.out
                       rw [HM.out] at hq ⊢
                       conv => rhs; unfold shiftDown
                       rw [if_pos (by rw [← hq]; rfl)])
                     clear z1 e1
                     go_wp2_with fail
                     go_meet
                     case rel => exact HR9.out.to HT2.out
                   · have HT2 := Lib.hid (show shiftDown ltU m (swp f2 t m) = shiftDown ltU k1 f from by
                       rw [← HT.out]
                       have hq := Hq.out
                       rw [HM.out] at hq ⊢
                       conv => rhs; unfold shiftDown
                       rw [if_neg (by rw [← hq]; simp)])
                     clear z1
                     obtain ⟨xs, hxs⟩ : ∃ x, x = f2[t]! := ⟨_, rfl⟩
                     obtain ⟨ys, hys⟩ : ∃ y, y = f2[m]! := ⟨_, rfl⟩
                     have cz1 : w9.cell? ⟨g, t, none⟩ = some (.int .u64 (xs.toNat : Int)) := by rw [hxs]; exact HR9.out.cell (htn)
                     have cz2 : w9.cell? ⟨g, m, none⟩ = some (.int .u64 (ys.toNat : Int)) := by rw [hys]; exact HR9.out.cell (hmn)
                     have cz3 := HR9.out.put_cell (htn) (hmn) hys
                     have HSX := Lib.hid hxs
                     have HSY := Lib.hid hys
                     have pz1 : (t : Int) < (n : Int) := by have := htn; omega
                     have pz2 : (m : Int) < (n : Int) := by have := hmn; omega
                     have pz3 : (0 : Int) ≤ (t : Int) := by omega
                     have pz4 : (0 : Int) ≤ (m : Int) := by omega
                     have fz : ∀ o, w9.frozen? ⟨g, o, none⟩ = false := fun o => HR9.out.free o
                     clear hxs hys
                     go_wp2_with fail
                     go_region
                     have HR10 := Lib.hid ((HR9.out.put2 (htn) (hmn) HSX.out HSY.out).drew)
                     clear cz1 cz2 cz3 pz1 pz2 pz3 pz4 fz HSX HSY
                     go_wp2_with fail
                     go_roundw
                     case rel => exact ⟨m, swp f2 t m, by first | rfl | (rw [show (t : Int) - 1 = (m : Int) by have := HM.out; omega]), by have := HM.out; omega, HT2, HR10.out⟩
                     case measure => have := HM.out; simp [intOf]; omega
                 · obtain rfl : t = 0 := by omega
                   have HT2 := Lib.hid (show f2 = f3 from by
                     rw [HX.out, ← HT.out]
                     rfl)
                   clear hle ht
                   go_wp2_with fail
                   go_meet
                   case rel => exact HRT.out.to HT2.out
             · have x8 : ¬ (q1 : Int) ≥ 2 := by omega
               have HX := Lib.hid (show f = f3 from by rw [HF3.out]; unfold goD; rw [if_neg (by rw [← HQ1.out]; exact h1)])
               clear h1
               go_wp2_with fail
               go_meet
               case rel => exact HR3.out.to HX.out
            case rest =>
              rename World => W7
              have HR7 := Lib.hid hcut
              clear hcut
              by_cases h2 : q2 ≥ 2
              · have x9 : (q2 : Int) ≥ 2 := by omega
                have HGU := Lib.hid (show partialIns ltU a b s k (shiftUp ltU b (k + 1) f3) = R from by rw [← HGD.out]; unfold goU; rw [if_pos (by rw [← HQ2.out]; exact h2)])
                clear h2
                go_wp2_with fail
                clear x9
                go_loopw [10] (fun v W => ∃ (t : Nat) (f2 : Array UInt64), v = .int .i64 (t : Int) ∧ (k + 1 ≤ t ∧ t ≤ b) ∧ Hid (shiftUp ltU b t f2 = shiftUp ltU b (k + 1) f3) ∧ Ro w0 base g n cap f2 W) (fun v _ => b - (intOf v).toNat)
                case atStart => exact ⟨k + 1, f3, by first | rfl | go_num, by omega, Lib.hid rfl, HR7.out⟩
                case round =>
                  obtain ⟨t, f2, rfl, ht, HT, hr⟩ := hrel
                  have HRT := Lib.hid hr
                  clear hr
                  by_cases hle : t < b
                  · have z1 : (t : Int) < (b : Int) := by omega
                    obtain ⟨m, hm⟩ : ∃ m, m = t - 1 := ⟨_, rfl⟩
                    have HM := Lib.hid hm
                    have e1 : IntKind.i64.wrap ((t : Int) - 1) = (m : Int) := by rw [IntKind.wrap_i64]; omega
                    have e2 : IntKind.i64.wrap ((t : Int) + 1) = ((t + 1 : Nat) : Int) := by rw [IntKind.wrap_i64]; omega
                    have htn : t < n := by omega
                    have hmn : m < n := by omega
                    clear hm
                    obtain ⟨xq, hxq⟩ : ∃ x, x = f2[t]! := ⟨_, rfl⟩
                    obtain ⟨yq, hyq⟩ : ∃ y, y = f2[m]! := ⟨_, rfl⟩
                    have cz1 : ∀ zz : Later wr.heap.size wr, zz.val.cell? ⟨g, t, none⟩ = some (.int .u64 (xq.toNat : Int)) := fun zz => cell_kept zz.prop (by rw [hxq]; exact HRT.out.cell (htn))
                    have cz2 : ∀ zz : Later wr.heap.size wr, zz.val.cell? ⟨g, m, none⟩ = some (.int .u64 (yq.toNat : Int)) := fun zz => cell_kept zz.prop (by rw [hyq]; exact HRT.out.cell (hmn))
                    have HLq := Lib.hid (fun W => less_any xq yq W)
                    obtain ⟨q, hq⟩ : ∃ b, b = ltU xq yq := ⟨_, rfl⟩
                    rw [← hq] at HLq
                    rw [hxq, hyq] at hq
                    have Hq := Lib.hid hq
                    have pz1 : (t : Int) < (n : Int) := by have := htn; omega
                    have pz2 : (m : Int) < (n : Int) := by have := hmn; omega
                    have pz3 : (0 : Int) ≤ (t : Int) := by omega
                    have pz4 : (0 : Int) ≤ (m : Int) := by omega
                    clear hxq hyq hq
                    go_wp2_with fail
                    refine wp_region_later wr.heap.size (by kernel_rfl) (by kernel_rfl) ?_
                    repeat (go_big_quiet_step ((go_at_call 72; exact Later.calls (Nat.le_refl _) (HLq.out _))))
                    refine wpQuiet_nil ?_
                    rintro w9 ⟨zz, rfl⟩
                    have HR9 := Lib.hid (HRT.out.later zz.prop)
                    clear cz1 cz2 pz1 pz2 pz3 pz4 HLq
                    generalize zz.val = w9 at *
                    cases q
                    · have HT2 := Lib.hid (show f2 = shiftUp ltU b (k + 1) f3 from by
                        rw [← HT.out]
                        conv => rhs; unfold shiftUp
                        rw [if_pos hle, if_pos (by rw [← HM.out, ← Hq.out]; rfl)])
                      have HRU := Lib.hid (HR9.out.to HT2.out)
                      clear z1 e1 e2
                      go_wp2_with fail
                      go_roundw
                      case rel => exact ⟨k, st + 1, _, rfl, rfl, by omega, by omega, by omega, Lib.hid (by rw [show 5 - (st + 1) = s by have := HS.out; omega]; exact HGU.out), HRU.out⟩
                      case measure => simp [intOf]; omega
                    · have HT2 := Lib.hid (show shiftUp ltU b (t + 1) (swp f2 t m) = shiftUp ltU b (k + 1) f3 from by
                        rw [← HT.out]
                        conv => rhs; unfold shiftUp
                        rw [if_pos hle, if_neg (by rw [← HM.out, ← Hq.out]; simp), ← HM.out])
                      clear z1
                      obtain ⟨xs, hxs⟩ : ∃ x, x = f2[t]! := ⟨_, rfl⟩
                      obtain ⟨ys, hys⟩ : ∃ y, y = f2[m]! := ⟨_, rfl⟩
                      have cz1 : w9.cell? ⟨g, t, none⟩ = some (.int .u64 (xs.toNat : Int)) := by rw [hxs]; exact HR9.out.cell (htn)
                      have cz2 : w9.cell? ⟨g, m, none⟩ = some (.int .u64 (ys.toNat : Int)) := by rw [hys]; exact HR9.out.cell (hmn)
                      have cz3 := HR9.out.put_cell (htn) (hmn) hys
                      have HSX := Lib.hid hxs
                      have HSY := Lib.hid hys
                      have pz1 : (t : Int) < (n : Int) := by have := htn; omega
                      have pz2 : (m : Int) < (n : Int) := by have := hmn; omega
                      have pz3 : (0 : Int) ≤ (t : Int) := by omega
                      have pz4 : (0 : Int) ≤ (m : Int) := by omega
                      have fz : ∀ o, w9.frozen? ⟨g, o, none⟩ = false := fun o => HR9.out.free o
                      clear hxs hys
                      go_wp2_with fail
                      go_region
                      have HR10 := Lib.hid ((HR9.out.put2 (htn) (hmn) HSX.out HSY.out).drew)
                      clear cz1 cz2 cz3 pz1 pz2 pz3 pz4 fz HSX HSY
                      go_wp2_with fail
                      go_roundw
                      case rel => exact ⟨t + 1, swp f2 t m, rfl, by omega, HT2, HR10.out⟩
                      case measure => simp [intOf]; omega
                  · have z1 : ¬ ((t : Int) < (b : Int)) := by omega
                    have HT2 := Lib.hid (show f2 = shiftUp ltU b (k + 1) f3 from by
                      rw [← HT.out]
                      conv => rhs; unfold shiftUp
                      rw [if_neg hle])
                    have HRU := Lib.hid (HRT.out.to HT2.out)
                    clear hle
                    go_wp2_with fail
                    go_roundw
                    case rel => exact ⟨k, st + 1, _, rfl, rfl, by omega, by omega, by omega, Lib.hid (by rw [show 5 - (st + 1) = s by have := HS.out; omega]; exact HGU.out), HRU.out⟩
                    case measure => simp [intOf]; omega
              · have x9 : ¬ (q2 : Int) ≥ 2 := by omega
                have HGU := Lib.hid (show partialIns ltU a b s k f3 = R from by rw [← HGD.out]; unfold goU; rw [if_neg (by rw [← HQ2.out]; exact h2)])
                clear h2
                go_wp2_with fail
                go_roundw
                case rel => exact ⟨k, st + 1, _, rfl, rfl, by omega, by omega, by omega, Lib.hid (by rw [show 5 - (st + 1) = s by have := HS.out; omega]; exact HGU.out), HR7.out⟩
                case measure => simp [intOf]; omega
    · have y1 : ¬ (st : Int) < 5 := by omega
      have HE := Lib.hid (show R = (e, false) from by
        rw [← HP.out, show 5 - st = 0 by omega]
        rfl)
      clear hs5
      go_wp2_with fail
      go_ret
      exact ⟨ret_bool (by rw [HE.out]), by rw [HE.out]; exact HRE.out⟩
end Go.Proofs.Tryd.Sq
