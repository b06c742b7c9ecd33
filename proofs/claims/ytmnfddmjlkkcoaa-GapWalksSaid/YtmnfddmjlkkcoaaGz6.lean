/- GapWalks: its walk. -/
import Derived.Test.YtmnfddmjlkkcoaaGz1
import Derived.Test.YtmnfddmjlkkcoaaGk9
import Derived.Test.YtmnfddmjlkkcoaaGp6
import Derived.Deep.RegionHeld3
import Derived.Deep.DeepCutAuto
set_option linter.unusedVariables false
set_option linter.unusedSimpArgs false
namespace Go.Proofs.Try.Gp
open Go.RowKit Go.Cph Go.Cph.Px Go.Cph.Gp Go.Cph.So
open Pfx (encA)
def lenV : Value → Nat
  | .slice _ n _ => n
  | _ => 0
theorem covered_row {ls : List (List Sp)} {y : Ad} (h : coveredD ls.flatten y = false) {i : Nat} (hi : i < ls.length) : coveredD ls[i] y = false := by
  unfold coveredD at h ⊢
  rw [List.any_eq_false] at h ⊢
  exact fun s hs => h s (List.mem_flatten.2 ⟨_, List.getElem_mem hi, hs⟩)
theorem wrap_u64 (x : Nat) (h : x < 18446744073709551616) : IntKind.u64.wrap (x : Int) = (x : Int) := by
  simp only [IntKind.wrap, IntKind.signed, IntKind.bits]
  have e : (2 : Int) ^ 64 = 18446744073709551616 := by decide
  simp only [e]
  first | omega | (simp; omega)
theorem add_u64 (x y : UInt64) : IntKind.u64.wrap ((x.toNat : Int) + (y.toNat : Int)) = ((x + y).toNat : Int) := by
  rw [UInt64.toNat_add]
  simp only [IntKind.wrap, IntKind.signed, IntKind.bits]
  have e : (2 : Int) ^ 64 = 18446744073709551616 := by decide
  have e2 : 2 ^ 64 = 18446744073709551616 := by decide
  simp only [e, e2]
  first | omega | (simp <;> omega)

set_option maxRecDepth 100000 in
set_option maxHeartbeats 32000000 in
theorem walks_law (a : Ad) (m : UInt8) (v : Value) (ls : List (List Sp)) (w : World) (h : SpsOf w v ls) (hlm : ls.length ≤ 9223372036854775807) (hls : ∀ l ∈ ls, l.length ≤ 9223372036854775807) :
    Calls Try.prog 8 #[v, encA a, .int .u8 (m.toNat : Int)] w (AwPost w) := by
  obtain ⟨ao, cap, hv⟩ := h.slice
  subst hv
  have GA := Lib.hid (heap_alloc_new w (boxA a))
  have BE := Lib.hid (show Below w.heap.size w (w.alloc (boxA a)) from (Below.refl _ _).alloc (Nat.le_refl _) _)
  have LS := Lib.hid (h.kept BE.out)
  have HGR := Lib.hid (great_any _ ls _ LS.out hlm (by unfold maxLen; exact hls))
  obtain ⟨n, hn⟩ : ∃ n, n = w.heap.size := ⟨_, rfl⟩
  have HN := Lib.hid hn
  have GA := Lib.hid (by have := GA.out; rw [← hn] at this; exact this)
  obtain ⟨k, hk⟩ : ∃ k, k = m.toNat % 40 := ⟨_, rfl⟩
  have HK39 := Lib.hid (show k ≤ 39 by omega)
  have km := Lib.hid (show ((m.toNat : Int)).tmod 40 = (k : Int) by rw [Int.tmod_eq_emod_of_nonneg (by omega)]; omega)
  have km2 := Lib.hid (show ((m.toNat : Int)) % 40 = (k : Int) by omega)
  clear hn h hlm hls hk
  go_enter Try.func8, Try.ntmps8
  go_wp2_with fail
  generalize w.alloc (boxA a) = w1 at *
  rw [← HN.out]
  refine HGR.out.mono ?_
  rintro e w2 ⟨r, rfl, hsm, hb⟩
  have GA1 := Lib.hid (blk_kept hb GA.out)
  have BE1 := Lib.hid (below_step BE.out hb BE.out.size)
  have LS1 := Lib.hid (LS.out.kept hb)
  clear hb HGR
  cases r
  · have HSM := Lib.hid (hsm rfl)
    clear hsm
    have hl4 : ls.length ≤ 4 := HSM.out.num
    have hfl : ls.flatten.length ≤ 80 := HSM.out.flat
    have HLE := Lib.hid (fun b W v T (hT : T.length ≤ 41) (h : SpsOf W v (ls ++ [T])) => (show Calls Try.prog 18 #[encA a, encA b, v] W (LeastPostP a b (covS (ls.flatten ++ T)) W) from by
      have := least_any a b v (ls ++ [T]) W h (by simp; omega) (by simp; simp at hfl; omega)
      simpa using this))
    obtain ⟨A, hA⟩ : ∃ A, A = ls.flatten := ⟨_, rfl⟩
    rw [← hA] at hfl HLE
    have HAE := Lib.hid hA
    have HFL := Lib.hid hfl
    have HL4 := Lib.hid hl4
    obtain ⟨lo, hlo⟩ : ∃ lo, lo = a.2.2 + UInt64.ofNat k := ⟨_, rfl⟩
    have HT := Lib.hid (show stepA a k = (a.1, a.2.1, lo) from by rw [hlo]; rfl)
    have HLO := Lib.hid (show (a.2.2.toNat + k < 18446744073709551616 → lo.toNat = a.2.2.toNat + k) ∧ (lo.toNat = a.2.2.toNat + k ∨ lo.toNat < a.2.2.toNat) from by
      have h1 := a.2.2.toNat_lt
      have h2 := HK39.out
      have h3 : lo.toNat = (a.2.2.toNat + k) % 18446744073709551616 := by
        rw [hlo, UInt64.toNat_add, UInt64.toNat_ofNat']; omega
      exact ⟨fun h => by omega, by omega⟩)
    have w8 : IntKind.u64.wrap (k : Int) = (k : Int) := wrap_u64 k (by have := HK39.out; omega)
    have w9 : IntKind.u64.wrap ((a.2.2.toNat : Int) + (k : Int)) = (lo.toNat : Int) := by
      rw [hlo, ← add_u64, UInt64.toNat_ofNat', Nat.mod_eq_of_lt (by have := HK39.out; omega)]
    have wk : IntKind.i64.wrap (k : Int) = (k : Int) := by rw [IntKind.wrap_i64]; have := HK39.out; omega
    have wk0 : (0 : Int) ≤ (k : Int) := by omega
    have k1 := km.out
    have k2 := km2.out
    clear hA hfl hl4 hlo
    have f0 := box_n0 GA1.out
    have f1 := box_n1 GA1.out
    have f2 := box_n2 GA1.out
    have hbx : Below w2.heap.size w2 (w2.alloc (boxA a)) := (Below.refl _ _).alloc (Nat.le_refl _) _
    have GA_3 := Lib.hid (blk_kept hbx GA1.out)
    have BE_3 := Lib.hid (below_step BE1.out hbx BE1.out.size)
    have LS_3 := Lib.hid (LS1.out.kept hbx)
    have GT := Lib.hid (heap_alloc_new w2 (boxA a))
    clear hbx
    have g0 := box_n0 GA_3.out
    have g1 := box_n1 GA_3.out
    have g2 := box_n2 GA_3.out
    have t0 := box_n0 GT.out
    have t1 := box_n1 GT.out
    have t2 := box_n2 GT.out
    have fz : ∀ j, (w2.alloc (boxA a)).frozen? ⟨w2.heap.size, j, none⟩ = false := fun j => by rw [blk_frozen GT.out]; simp
    have n1 : w2.heap.size ≠ n := by have := blk_lt GA1.out; omega
    have n2 : n ≠ w2.heap.size := fun e => n1 e.symm
    go_upto_region 5 with (fail)
    clear f0 f1 f2 g0 g1 g2 t0 t1 t2 fz n1 n2 GT w9 k1 k2
    obtain ⟨T, hT⟩ : ∃ T : Ad, T = (a.1, a.2.1, lo) := ⟨_, rfl⟩
    have HTT := Lib.hid (show stepA a k = T from by rw [hT]; exact HT.out)
    have hlt : lo = T.2.2 := by rw [hT]
    have GT := Lib.hid (show (w2.alloc (.cells #[.int .u8 (a.1.toNat : Int), .int .u64 (a.2.1.toNat : Int), .int .u64 (lo.toNat : Int)] 25)).heap[w2.heap.size]? = some (boxA T) from by rw [hT]; exact heap_alloc_new _ _)
    have hbx : Below w2.heap.size w2 (w2.alloc (.cells #[.int .u8 (a.1.toNat : Int), .int .u64 (a.2.1.toNat : Int), .int .u64 (lo.toNat : Int)] 25)) := (Below.refl _ _).alloc (Nat.le_refl _) _
    have GA_3 := Lib.hid (blk_kept hbx GA1.out)
    have BE_3 := Lib.hid (below_step BE1.out hbx BE1.out.size)
    have LS_3 := Lib.hid (LS1.out.kept hbx)
    clear hbx hT
    obtain ⟨kT, hkT⟩ : ∃ k, k = w2.heap.size := ⟨_, rfl⟩
    rw [← hkT] at GT ⊢
    clear hkT
    generalize w2.alloc (.cells #[.int .u8 (a.1.toNat : Int), .int .u64 (a.2.1.toNat : Int), .int .u64 (lo.toNat : Int)] 25) = w3 at *
    subst hlt
    have f0 := box_n0 GA_3.out
    have f1 := box_n1 GA_3.out
    have f2 := box_n2 GA_3.out
    have t0 := box_n0 GT.out
    have t1 := box_n1 GT.out
    have t2 := box_n2 GT.out
    obtain ⟨bad, hbad⟩ : ∃ b : Bool, b = (decide (T.2.2.toNat < a.2.2.toNat) || (decide (a.1.toNat = 4) && decide (4294967296 ≤ T.2.2.toNat))) := ⟨_, rfl⟩
    have HBAD := Lib.hid hbad
    clear hbad
    go_cut [42] (fun s wx => s = .bool bad ∧ wx = w3)
    case first =>
      have hb := HBAD.out
      by_cases c1 : T.2.2.toNat < a.2.2.toNat
      · have d1 : bad = true := by rw [hb]; simp [c1]
        clear hb HBAD
        subst d1
        go_wp2_with fail
        go_meet
        case rel => exact ⟨rfl, rfl⟩
      · have e1 : decide (T.2.2.toNat < a.2.2.toNat) = false := by simpa using c1
        by_cases c2 : a.1.toNat = 4
        · have e2 : ((a.1.toNat : Int) == 4) = true := by simp; omega
          by_cases c3 : 4294967296 ≤ T.2.2.toNat
          · have d1 : bad = true := by rw [hb]; simp [c2, c3]
            have e3 : (4294967296 : Int) ≤ (T.2.2.toNat : Int) := by omega
            clear hb HBAD c2
            subst d1
            go_wp2_with fail
            go_meet
            case rel => exact ⟨rfl, rfl⟩
          · have d1 : bad = false := by rw [hb]; simp [c1, c3]
            have e3 : ¬ (4294967296 : Int) ≤ (T.2.2.toNat : Int) := by omega
            clear hb HBAD c2
            subst d1
            go_wp2_with fail
            go_meet
            case rel => exact ⟨rfl, rfl⟩
        · have d1 : bad = false := by rw [hb]; simp [c1, c2]
          have e2 : ((a.1.toNat : Int) == 4) = false := by simp; omega
          clear hb HBAD c2
          subst d1
          go_wp2_with fail
          go_meet
          case rel => exact ⟨rfl, rfl⟩
    case rest =>
      obtain ⟨rfl, rfl⟩ := hcut
      clear f0 f1 f2 t0 t1 t2
      cases bad
      · have HRG := Lib.hid (show Rng a k from by
          have hb := HBAD.out
          have hq := HLO.out
          have h3 := HK39.out
          simp only [Bool.false_eq, Bool.or_eq_false_iff, Bool.and_eq_false_iff, decide_eq_false_iff_not] at hb
          have h4 : T.2.2.toNat = a.2.2.toNat + k := by omega
          refine ⟨h3, by have := T.2.2.toNat_lt; omega, fun h => ?_⟩
          have h5 : a.1.toNat = 4 := by rw [h]; rfl
          omega)
        clear HBAD HLO HT
        have f0 := box_n0 GA_3.out
        have f1 := box_n1 GA_3.out
        have f2 := box_n2 GA_3.out
        have HBX := Lib.hid (show Below wc.heap.size wc (wc.alloc (boxA a)) from (Below.refl _ _).alloc (Nat.le_refl _) _)
        have HGX := Lib.hid (heap_alloc_new wc (boxA a))
        go_wp2_with fail
        clear f0 f1 f2
        obtain ⟨kx, hkx⟩ : ∃ k, k = wc.heap.size := ⟨_, rfl⟩
        have HKX := Lib.hid hkx
        rw [← hkx] at HBX HGX ⊢
        clear hkx
        go_loopw [8, 10] (fun vf vi W => ∃ i : Nat, i ≤ k + 1 ∧ vi = .int .i64 i ∧ vf = .int .i64 (freeJ a A i).length ∧ W.heap[kx]? = some (boxA (stepA a i)) ∧ Below kx wc W) (fun _ vi _ => k + 1 - (intOf vi).toNat)
        case atStart => exact ⟨0, Nat.zero_le _, rfl, rfl, by rw [step_zero]; exact HGX.out, HBX.out⟩
        case round =>
          obtain ⟨i, hi, rfl, rfl, hgx, hbel⟩ := hrel
          have HB := Lib.hid hbel
          obtain ⟨f, hf⟩ : ∃ f, f = (freeJ a A i).length := ⟨_, rfl⟩
          rw [← hf]
          have HF := Lib.hid hf
          by_cases hlt : i ≤ k
          · have HLT := Lib.hid hlt
            have HFI := Lib.hid (show f ≤ 40 from by have := freeJ_len a A i; have := HK39.out; omega)
            obtain ⟨x, hx⟩ : ∃ x, x = stepA a i := ⟨_, rfl⟩
            rw [← hx] at hgx
            have HX := Lib.hid hx
            have HGX2 := Lib.hid hgx
            have k1 : (i : Int) ≤ (k : Int) := by omega
            have k4 : IntKind.i64.wrap ((i : Int) + 1) = (i : Int) + 1 := by rw [IntKind.wrap_i64]; have := HK39.out; omega
            have k1' := km.out
            have k2' := km2.out
            clear hi hlt hf hx hgx hbel
            go_wp2_with fail
            go_loopw [11, 12] (fun vc vj W => ∃ (j : Nat) (c : Bool), j ≤ ls.length ∧ vj = .int .i64 j ∧ vc = .bool c ∧ c = coveredD (ls.take j).flatten x ∧ W.heap[kx]? = some (boxA x) ∧ Below kx wc W) (fun _ vj _ => ls.length - (intOf vj).toNat)
            case atStart => exact ⟨0, false, Nat.zero_le _, rfl, rfl, rfl, HGX2.out, HB.out⟩
            case round =>
              obtain ⟨j, c', hj, rfl, rfl, hc, hgx, hbel⟩ := hrel
              have HB2 := Lib.hid hbel
              have HC := Lib.hid hc
              have HGX3 := Lib.hid hgx
              by_cases hjl : j < ls.length
              · have HJL := Lib.hid hjl
                obtain ⟨b', off, cap', hve, hcs⟩ := LS_3.out.cell (by omega)
                injection hve with hx1 hx2 hx3
                subst hx1
                clear hx2 hx3
                obtain ⟨u, hu2, hue⟩ := hcs j hjl
                have HCT := Lib.hid (coveredD_take_flat hjl x)
                obtain ⟨g, hg⟩ : ∃ g, g = ls[j]'hjl := ⟨_, rfl⟩
                have hg20 : g.length ≤ 20 := by rw [hg]; exact HSM.out.one hjl
                rw [← hg] at HCT
                have hbw : Below wc.heap.size wc wr := by rw [← HKX.out]; exact hbel
                replace hue : SpsAt wr u g := by rw [hg]; exact Seg.kept hue hbw
                have HUE := Lib.hid hue
                have hu := cell_kept hbw hu2
                have HH := Lib.hid (fun (zz : Later wr.heap.size wr) => has_list u g x zz.val (HUE.out.kept zz.prop) (by omega))
                obtain ⟨r, hr⟩ : ∃ r, r = coveredD g x := ⟨_, rfl⟩
                rw [← hr] at HH HCT
                have e0 : ∀ zz : Later wr.heap.size wr, zz.val.cell? ⟨b', off + j, none⟩ = some u := fun zz => Later.cell hu (World.block_lt_of_cell? _ _ hu) zz
                have e1 : ∀ zz : Later wr.heap.size wr, zz.val.cell? ⟨kx, 0, none⟩ = some (.int .u8 (x.1.toNat : Int)) := fun zz => Later.cell (box_n0 hgx) (blk_lt hgx) zz
                have e2 : ∀ zz : Later wr.heap.size wr, zz.val.cell? ⟨kx, 1, none⟩ = some (.int .u64 (x.2.1.toNat : Int)) := fun zz => Later.cell (box_n1 hgx) (blk_lt hgx) zz
                have e3 : ∀ zz : Later wr.heap.size wr, zz.val.cell? ⟨kx, 2, none⟩ = some (.int .u64 (x.2.2.toNat : Int)) := fun zz => Later.cell (box_n2 hgx) (blk_lt hgx) zz
                obtain ⟨uo, uc, hub⟩ := elems_slice hue
                subst hub
                have j1 : (0 : Int) ≤ (j : Int) := by omega
                have j2 : (j : Int) < (ls.length : Int) := by omega
                have j4 : IntKind.i64.wrap ((j : Int) + 1) = (j : Int) + 1 := by rw [IntKind.wrap_i64]; have := HL4.out; omega
                clear hbel hbw hc hcs hue hu hu2 hg hj hjl hr hgx hg20
                cases c' <;> cases r
                all_goals
                  go_wp2_with fail
                  refine wp_region_later wr.heap.size (by kernel_rfl) (by kernel_rfl) ?_
                  repeat (go_big_quiet_step ((go_at_call 30; exact Later.calls (Nat.le_refl _) (HH.out _))))
                  refine wpQuiet_nil ?_
                  rintro wq ⟨zz, rfl⟩
                  have HB3 := Lib.hid (below_step HB2.out zz.prop (Nat.le_of_lt (blk_lt HGX3.out)))
                  have HGX4 := Lib.hid (blk_kept zz.prop HGX3.out)
                  clear e0 e1 e2 e3
                  generalize zz.val = wq at *
                  go_wp2_with fail
                  go_roundw
                  case rel => exact ⟨j + 1, _, HJL.out, by go_num, rfl, by rw [HCT.out, ← HC.out]; rfl, HGX4.out, HB3.out⟩
                  case measure => have := HJL.out; simp [intOf]; omega
              · obtain rfl : ls.length = j := by omega
                rw [List.take_length, ← HAE.out] at hc
                have HC2 := Lib.hid hc
                have j2 : ¬ (ls.length : Int) < (ls.length : Int) := by omega
                have HR := Lib.hid (fun W => Pfx.right x W)
                obtain ⟨r, hr⟩ : ∃ r, r = rightA x := ⟨_, rfl⟩
                rw [← hr] at HR
                have HRX := Lib.hid hr
                have HFB := Lib.hid (show freeB a A i = (r && !c') from by rw [freeB_eq, ← HX.out, ← hr, ← HC2.out])
                have HFS := Lib.hid (freeJ_succ a A i)
                have k5 : IntKind.i64.wrap ((f : Int) + 1) = (f : Int) + 1 := by rw [IntKind.wrap_i64]; have := HFI.out; omega
                obtain ⟨y, hy⟩ : ∃ y : UInt64, y = x.2.2 + 1 := ⟨_, rfl⟩
                have HSX := Lib.hid (show stepA a (i + 1) = (x.1, x.2.1, y) from by rw [step_one, hy, HX.out]; rfl)
                have hy2 : IntKind.u64.wrap ((x.2.2.toNat : Int) + 1) = (y.toNat : Int) := by rw [hy, ← add_u64]; rfl
                have e0 := box_n0 HGX3.out
                have e1 := box_n1 HGX3.out
                have e2 := box_n2 HGX3.out
                clear hbel hc hgx hj hjl hr hy HC
                cases c' <;> cases r
                all_goals
                  go_wp2_with fail
                  clear e0 e1 e2
                  refine (HR.out _).mono ?_
                  rintro e w7 ⟨rfl, hb⟩
                  have HB5 := Lib.hid (below_step HB2.out hb (Nat.le_of_lt (blk_lt HGX3.out)))
                  have HGX5 := Lib.hid (blk_kept hb HGX3.out)
                  clear hb
                  have e0 := box_n0 HGX5.out
                  have e1 := box_n1 HGX5.out
                  have e2 := box_n2 HGX5.out
                  have fz : ∀ j, w7.frozen? ⟨kx, j, none⟩ = false := fun j => by rw [blk_frozen HGX5.out]; simp
                  go_wp2_with fail
                  clear e0 e1 e2 fz
                  go_roundw
                  case rel => exact ⟨i + 1, by have := HLT.out; omega, by go_num, by rw [HFS.out, HFB.out, HF.out]; first | rfl | (simp; done), by rw [HSX.out]; exact blk_set HGX5.out 2 _, HB5.out.setCell (Nat.le_refl _) _⟩
                  case measure => have := HLT.out; simp [intOf]; omega
          · have hik : i = k + 1 := by omega
            have hbw : Below wc.heap.size wc wr := by rw [← HKX.out]; exact hbel
            have GAk := Lib.hid (blk_kept hbw GA_3.out)
            have BEk := Lib.hid (below_step BE_3.out hbw BE_3.out.size)
            have LSk := Lib.hid (LS_3.out.kept hbw)
            have GTk := Lib.hid (blk_kept hbw GT.out)
            obtain ⟨F, hF⟩ : ∃ F, F = freeJ a A i := ⟨_, rfl⟩
            rw [← hF] at hf
            rw [hik] at hF
            have HFJ := Lib.hid hF
            have HFF := Lib.hid (show F.length ≤ 40 from by have := freeJ_len a A (k + 1); rw [← hF] at this; have := HK39.out; omega)
            have HFE := Lib.hid hf
            have k1 : ¬ (i : Int) ≤ (k : Int) := by omega
            have k1' := km.out
            have k2' := km2.out
            clear hik hbw hbel hgx hi hlt hF hf HF HB
            obtain ⟨w5, rfl⟩ : ∃ w5 : World, w5 = wr := ⟨_, rfl⟩
            rw [HFE.out]
            go_wp2_with fail
            clear k1 k1' k2' w8 wk wk0
            go_loopw [13] (fun vt W => ∃ L R, F = L ++ R ∧ W.ownsRow w5.heap.size TE 6 vt L.length ((takS a L).flatMap encC) ∧ Below w5.heap.size w5 W) (fun vt _ => F.length - lenV vt)
            case atStart => exact ⟨[], F, rfl, World.ownsRow_nil _ _ _ _, Below.refl _ _⟩
            case round =>
              obtain ⟨L, R, hF, ho, hbel⟩ := hrel
              have HFS := Lib.hid hF
              have HB := Lib.hid hbel
              obtain ⟨tp, tc, htv⟩ := owns_slice1 ho
              subst htv
              have HO := Lib.hid ho
              have HLL := Lib.hid (show L.length ≤ 40 from by have := HFF.out; rw [hF, List.length_append] at this; omega)
              have HTS := Lib.hid (show SpsAt wr (.slice tp L.length tc) (takS a L) from by
                have h9 := Seg.of_owns ho
                rw [← takS_len a L] at h9 ⊢
                exact h9)
              have GAl := Lib.hid (blk_kept hbel GAk.out)
              have BEl := Lib.hid (below_step BEk.out hbel BEk.out.size)
              have LSl := Lib.hid (LSk.out.kept hbel)
              have GTl := Lib.hid (blk_kept hbel GTk.out)
              obtain ⟨TK, hTK⟩ : ∃ l, l = takS a L := ⟨_, rfl⟩
              rw [← hTK] at HTS
              have HTK := Lib.hid hTK
              have HTL := Lib.hid (show TK.length ≤ 41 from by rw [hTK, takS_len]; have := HLL.out; omega)
              have HC := Lib.hid (show ∀ W, Below wr.heap.size wr W → W.cell? ⟨n, 0, none⟩ = some (.int .u8 (a.1.toNat : Int)) ∧ W.cell? ⟨n, 1, none⟩ = some (.int .u64 (a.2.1.toNat : Int)) ∧ W.cell? ⟨n, 2, none⟩ = some (.int .u64 (a.2.2.toNat : Int)) ∧ W.cell? ⟨kT, 0, none⟩ = some (.int .u8 (T.1.toNat : Int)) ∧ W.cell? ⟨kT, 1, none⟩ = some (.int .u64 (T.2.1.toNat : Int)) ∧ W.cell? ⟨kT, 2, none⟩ = some (.int .u64 (T.2.2.toNat : Int)) from fun W hbb => by
                have q := blk_kept hbb GAl.out
                have r := blk_kept hbb GTl.out
                exact ⟨box_n0 q, box_n1 q, box_n2 q, box_n0 r, box_n1 r, box_n2 r⟩)
              have HD := Lib.hid (show Below wr.heap.size wr wr.drew from (Below.refl _ _).drew)
              have HNN := Lib.hid (show n < wr.heap.size ∧ kT < wr.heap.size from ⟨blk_lt GAl.out, blk_lt GTl.out⟩)
              clear hF ho hbel hTK
              go_upto_region 21 with (fail)
              go_cut [14, 15] (fun s14 s15 wx => ∃ kk y ok, s14 = .pointer (some ⟨kk, 0, none⟩) ∧ s15 = .bool ok ∧ LeastIs a T (covS (A ++ TK)) (y, ok) ∧ wx.heap[kk]? = some (boxA y) ∧ Below wr.heap.size wr wx)
              case first =>
                rename_i zQ1 zK2 za4 zK1 za3 zQ0 zK0 za2 zJ zK za1 za0
                clear za4 za3 za2
                clear_value zQ0
                have c0 := (HC.out _ HD.out).1
                have c1 := (HC.out _ HD.out).2.1
                have c2 := (HC.out _ HD.out).2.2.1
                have c3 := (HC.out _ HD.out).2.2.2.1
                have c4 := (HC.out _ HD.out).2.2.2.2.1
                have c5 := (HC.out _ HD.out).2.2.2.2.2
                go_region_held3 (fun W => W.cell? ⟨n, 0, none⟩ = some (.int .u8 (a.1.toNat : Int)) ∧ W.cell? ⟨n, 1, none⟩ = some (.int .u64 (a.2.1.toNat : Int)) ∧ W.cell? ⟨n, 2, none⟩ = some (.int .u64 (a.2.2.toNat : Int)) ∧ W.cell? ⟨kT, 0, none⟩ = some (.int .u8 (T.1.toNat : Int)) ∧ W.cell? ⟨kT, 1, none⟩ = some (.int .u64 (T.2.1.toNat : Int)) ∧ W.cell? ⟨kT, 2, none⟩ = some (.int .u64 (T.2.2.toNat : Int))) (((refine HC.out _ ?_); (repeat (first | exact HB3.out | exact HB2.out | exact HB1.out | exact HD.out | exact Below.refl _ _ | refine bel_drew ?_ | refine bel_alloc ?_ _ | refine bel_set ?_ (by first | exact Nat.le_refl _ | exact HB2.out.size | exact HB1.out.size | (have := HB1.out.size; simp only; omega) | (simp only; omega)) _)); done))
                  (first
                    | ((refine step_app1 rfl (.tmp 82) (.tmp 83) rfl (by rfl) (by rfl) (by first | exact heap_alloc_new _ _ | exact blk_alloc (heap_alloc_new _ _) _ | exact blk_alloc (blk_alloc (heap_alloc_new _ _) _) _ | exact heap_new1 _ _ _ | exact blk_alloc (heap_new1 _ _ _) _ | exact heap_new2 _ _ _ _) (by first | exact Nat.le_refl _ | omega) (by ((repeat (first | exact HB3.out | exact HB2.out | exact HB1.out | exact HD.out | exact Below.refl _ _ | refine bel_drew ?_ | refine bel_alloc ?_ _)); done)) LSl.out (by have := HL4.out; omega) ?_); intro v1 u1 hr1 hb1 hg1; have HR1 := Lib.hid hr1; have HB1 := Lib.hid hb1; (try (have K1 : Hid (u1.heap[wr.heap.size]? = some box0a) := Lib.hid (grown_far hg1 (by first | exact heap_alloc_new _ _ | exact blk_alloc (heap_alloc_new _ _) _ | exact blk_alloc (blk_alloc (heap_alloc_new _ _) _) _ | exact heap_new1 _ _ _ | exact blk_alloc (heap_new1 _ _ _) _ | exact heap_new2 _ _ _ _) (by first | exact heap_alloc_new _ _ | exact blk_alloc (heap_alloc_new _ _) _ | exact blk_alloc (blk_alloc (heap_alloc_new _ _) _) _ | exact heap_new1 _ _ _ | exact blk_alloc (heap_new1 _ _ _) _ | exact heap_new2 _ _ _ _) (ne_cells (by decide))))); (try (have KB : Hid (u1.heap[wr.heap.size]? = some (.cells #[.slice tp L.length tc] TS)) := Lib.hid (grown_far hg1 (by first | exact heap_alloc_new _ _ | exact blk_alloc (heap_alloc_new _ _) _ | exact blk_alloc (blk_alloc (heap_alloc_new _ _) _) _ | exact heap_new1 _ _ _ | exact blk_alloc (heap_new1 _ _ _) _ | exact heap_new2 _ _ _ _) (by first | exact heap_alloc_new _ _ | exact blk_alloc (heap_alloc_new _ _) _ | exact blk_alloc (blk_alloc (heap_alloc_new _ _) _) _ | exact heap_new1 _ _ _ | exact blk_alloc (heap_new1 _ _ _) _ | exact heap_new2 _ _ _ _) ne_empty))); (try (have K1 : Hid (u1.heap[wr.heap.size + 1]? = some box0a) := Lib.hid (grown_far hg1 (by first | exact heap_alloc_new _ _ | exact blk_alloc (heap_alloc_new _ _) _ | exact blk_alloc (blk_alloc (heap_alloc_new _ _) _) _ | exact heap_new1 _ _ _ | exact blk_alloc (heap_new1 _ _ _) _ | exact heap_new2 _ _ _ _) (by first | exact heap_alloc_new _ _ | exact blk_alloc (heap_alloc_new _ _) _ | exact blk_alloc (blk_alloc (heap_alloc_new _ _) _) _ | exact heap_new1 _ _ _ | exact blk_alloc (heap_new1 _ _ _) _ | exact heap_new2 _ _ _ _) (ne_cells (by decide))))); (try (have KB : Hid (u1.heap[wr.heap.size + 1]? = some (.cells #[.slice tp L.length tc] TS)) := Lib.hid (grown_far hg1 (by first | exact heap_alloc_new _ _ | exact blk_alloc (heap_alloc_new _ _) _ | exact blk_alloc (blk_alloc (heap_alloc_new _ _) _) _ | exact heap_new1 _ _ _ | exact blk_alloc (heap_new1 _ _ _) _ | exact heap_new2 _ _ _ _) (by first | exact heap_alloc_new _ _ | exact blk_alloc (heap_alloc_new _ _) _ | exact blk_alloc (blk_alloc (heap_alloc_new _ _) _) _ | exact heap_new1 _ _ _ | exact blk_alloc (heap_new1 _ _ _) _ | exact heap_new2 _ _ _ _) ne_empty))); (try (have K1 : Hid (u1.heap[wr.heap.size + 1 + 1]? = some box0a) := Lib.hid (grown_far hg1 (by first | exact heap_alloc_new _ _ | exact blk_alloc (heap_alloc_new _ _) _ | exact blk_alloc (blk_alloc (heap_alloc_new _ _) _) _ | exact heap_new1 _ _ _ | exact blk_alloc (heap_new1 _ _ _) _ | exact heap_new2 _ _ _ _) (by first | exact heap_alloc_new _ _ | exact blk_alloc (heap_alloc_new _ _) _ | exact blk_alloc (blk_alloc (heap_alloc_new _ _) _) _ | exact heap_new1 _ _ _ | exact blk_alloc (heap_new1 _ _ _) _ | exact heap_new2 _ _ _ _) (ne_cells (by decide))))); (try (have KB : Hid (u1.heap[wr.heap.size + 1 + 1]? = some (.cells #[.slice tp L.length tc] TS)) := Lib.hid (grown_far hg1 (by first | exact heap_alloc_new _ _ | exact blk_alloc (heap_alloc_new _ _) _ | exact blk_alloc (blk_alloc (heap_alloc_new _ _) _) _ | exact heap_new1 _ _ _ | exact blk_alloc (heap_new1 _ _ _) _ | exact heap_new2 _ _ _ _) (by first | exact heap_alloc_new _ _ | exact blk_alloc (heap_alloc_new _ _) _ | exact blk_alloc (blk_alloc (heap_alloc_new _ _) _) _ | exact heap_new1 _ _ _ | exact blk_alloc (heap_new1 _ _ _) _ | exact heap_new2 _ _ _ _) ne_empty))); clear hr1 hb1 hg1)
                    | ((refine step_app2 (W0 := wr) (ls := ls) (tv := .slice tp L.length tc) (T := TK) rfl (.tmp 84) (.tmp 86) rfl (by rfl) (by rfl) (by first | exact KB.out | exact blk_alloc KB.out _ | first | exact heap_alloc_new _ _ | exact blk_alloc (heap_alloc_new _ _) _ | exact blk_alloc (blk_alloc (heap_alloc_new _ _) _) _ | exact heap_new1 _ _ _ | exact blk_alloc (heap_new1 _ _ _) _ | exact heap_new2 _ _ _ _) (by ((repeat (first | exact HR1.out | refine RowOf.drew ?_ | refine RowOf.alloc ?_ _)); done)) (by ((repeat (first | exact HB3.out | exact HB2.out | exact HB1.out | exact HD.out | exact Below.refl _ _ | refine bel_drew ?_ | refine bel_alloc ?_ _)); done)) HTS.out (by have := HL4.out; omega) ?_); intro v2 u2 hr2 hb2 hg2; have HR2 := Lib.hid hr2; have HB2 := Lib.hid hb2; (try (have K2 : Hid (u2.heap[wr.heap.size]? = some box0a) := Lib.hid (RowOf.far (W0 := wr) (ls := ls) (by ((repeat (first | exact HR1.out | refine RowOf.drew ?_ | refine RowOf.alloc ?_ _)); done)) hg2 (by first | exact K1.out | exact blk_alloc K1.out _ | first | exact heap_alloc_new _ _ | exact blk_alloc (heap_alloc_new _ _) _ | exact blk_alloc (blk_alloc (heap_alloc_new _ _) _) _ | exact heap_new1 _ _ _ | exact blk_alloc (heap_new1 _ _ _) _ | exact heap_new2 _ _ _ _) (by decide)))); (try (have K2 : Hid (u2.heap[wr.heap.size + 1]? = some box0a) := Lib.hid (RowOf.far (W0 := wr) (ls := ls) (by ((repeat (first | exact HR1.out | refine RowOf.drew ?_ | refine RowOf.alloc ?_ _)); done)) hg2 (by first | exact K1.out | exact blk_alloc K1.out _ | first | exact heap_alloc_new _ _ | exact blk_alloc (heap_alloc_new _ _) _ | exact blk_alloc (blk_alloc (heap_alloc_new _ _) _) _ | exact heap_new1 _ _ _ | exact blk_alloc (heap_new1 _ _ _) _ | exact heap_new2 _ _ _ _) (by decide)))); (try (have K2 : Hid (u2.heap[wr.heap.size + 1 + 1]? = some box0a) := Lib.hid (RowOf.far (W0 := wr) (ls := ls) (by ((repeat (first | exact HR1.out | refine RowOf.drew ?_ | refine RowOf.alloc ?_ _)); done)) hg2 (by first | exact K1.out | exact blk_alloc K1.out _ | first | exact heap_alloc_new _ _ | exact blk_alloc (heap_alloc_new _ _) _ | exact blk_alloc (blk_alloc (heap_alloc_new _ _) _) _ | exact heap_new1 _ _ _ | exact blk_alloc (heap_new1 _ _ _) _ | exact heap_new2 _ _ _ _) (by decide)))); (try (have K2 : Hid (u2.heap[u1.heap.size]? = some box0a) := Lib.hid (RowOf.far (W0 := wr) (ls := ls) (by ((repeat (first | exact HR1.out | refine RowOf.drew ?_ | refine RowOf.alloc ?_ _)); done)) hg2 (by first | exact K1.out | exact blk_alloc K1.out _ | first | exact heap_alloc_new _ _ | exact blk_alloc (heap_alloc_new _ _) _ | exact blk_alloc (blk_alloc (heap_alloc_new _ _) _) _ | exact heap_new1 _ _ _ | exact blk_alloc (heap_new1 _ _ _) _ | exact heap_new2 _ _ _ _) (by decide)))); (try (have K2 : Hid (u2.heap[u1.heap.size + 1]? = some box0a) := Lib.hid (RowOf.far (W0 := wr) (ls := ls) (by ((repeat (first | exact HR1.out | refine RowOf.drew ?_ | refine RowOf.alloc ?_ _)); done)) hg2 (by first | exact K1.out | exact blk_alloc K1.out _ | first | exact heap_alloc_new _ _ | exact blk_alloc (heap_alloc_new _ _) _ | exact blk_alloc (blk_alloc (heap_alloc_new _ _) _) _ | exact heap_new1 _ _ _ | exact blk_alloc (heap_new1 _ _ _) _ | exact heap_new2 _ _ _ _) (by decide)))); clear hr2 hb2 hg2)
                    | (go_at_call 18; (refine (HLE.out T _ v2 TK HTL.out (RowOf.lists (W0 := wr) (by ((repeat (first | exact HR2.out | refine RowOf.drew ?_ | refine RowOf.alloc ?_ _)); done)) (by ((repeat (first | exact HB3.out | exact HB2.out | exact HB1.out | exact HD.out | exact Below.refl _ _ | refine bel_drew ?_ | refine bel_alloc ?_ _)); done)))).mono ?_); rintro e u3 ⟨⟨r3, rfl, hr3⟩, hb⟩; obtain ⟨y, ok⟩ := r3; have HLS := Lib.hid hr3; have HB3 := Lib.hid (bel_step (w := wr) (by ((repeat (first | exact HB3.out | exact HB2.out | exact HB1.out | exact HD.out | exact Below.refl _ _ | refine bel_drew ?_ | refine bel_alloc ?_ _)); done)) hb); (first | (have K3 : Hid (u3.heap[u2.heap.size]? = some box0a) := Lib.hid (blk_kept hb (heap_alloc_new _ _))) | (have K3 := Lib.hid (blk_kept hb K2.out)) | skip); clear hr3 hb; (try (have y0 := box0a_0 K3.out; have y1 := box0a_1 K3.out; have y2 := box0a_2 K3.out; have fz := box0a_f K3.out))))
                all_goals
                  go_wp2_with fail
                  go_meet
                  case rel => first
                    | exact ⟨_, _, _, rfl, rfl, HLS.out, heap_alloc_new _ _, bel_alloc HB3.out _⟩
                    | exact ⟨_, _, _, rfl, rfl, HLS.out, put_box0a K3.out y, put_below (o := 0) HB3.out (by first | exact Nat.le_refl _ | exact HB2.out.size | exact HB1.out.size | (have := HB1.out.size; omega) | omega) y⟩
              case rest =>
                obtain ⟨kk, y, ok, rfl, rfl, hls, hgy, hbel⟩ := hcut
                have HLS := Lib.hid hls
                have HGY := Lib.hid hgy
                have HO2 := Lib.hid (row_kept1 HO.out fun q hq => hbel.block q (HO.out.lt q hq).2)
                have GAm := Lib.hid (blk_kept hbel GAl.out)
                have BEm := Lib.hid (below_step BEl.out hbel BEl.out.size)
                have LSm := Lib.hid (LSl.out.kept hbel)
                have GTm := Lib.hid (blk_kept hbel GTl.out)
                have HBm := Lib.hid (below_step HB.out hbel HB.out.size)
                have HTSm := Lib.hid (HTS.out.kept hbel)
                have HKF := Lib.hid (show freeJ a A (k + 1) = L ++ R from HFJ.out.symm.trans HFS.out)
                have HFN := Lib.hid (show F.length = L.length + R.length from by rw [HFS.out, List.length_append])
                clear hls hgy hbel HC HD HNN
                cases ok
                · have hr0 : R = [] := walk_none HRG.out HKF.out (by rw [HTT.out, ← HTK.out]; exact HLS.out)
                  have hfl : F.length = L.length := by rw [HFN.out, hr0]; rfl
                  rw [hfl]
                  have e1 : ((L.length : Int) == (L.length : Int)) = true := by simp
                  clear hr0 hfl
                  go_wp2_with fail
                  clear e1
                  refine (awake_any _).mono ?_
                  rintro e w8 ⟨rfl, hb⟩
                  have HB9 := Lib.hid (below_step BEm.out hb BEm.out.size)
                  clear hb
                  go_wp2_with fail
                  go_ret
                  exact ⟨rfl, HB9.out⟩
                · obtain ⟨j, R', hRj, hyj, hcov, hbl⟩ := walk_some HRG.out HKF.out (show LeastIs a (stepA a k) (covS (A ++ takS a L)) (y, true) by rw [HTT.out, ← HTK.out]; exact HLS.out)
                  have HRJ := Lib.hid hRj
                  have HYJ := Lib.hid hyj
                  have HCOV := Lib.hid hcov
                  have HBL := Lib.hid hbl
                  have HLF := Lib.hid (show L.length < F.length from by rw [HFN.out, hRj]; simp)
                  clear hRj hyj hcov hbl
                  go_upto_region 23 with (fail)
                  go_cut [113] (fun s wx => s = .bool false ∧ Below wc.heap.size wc wx)
                  case first =>
                    have hlf := HLF.out
                    have m1 : decide (F.length ≤ L.length) = false := decide_eq_false (by omega)
                    have m2 : ¬ (F.length : Int) ≤ (L.length : Int) := by omega
                    by_cases h0 : L.length = 0
                    · have n1 : decide ((0 : Int) < (L.length : Int)) = false := decide_eq_false (by omega)
                      have n2 : decide (0 < L.length) = false := decide_eq_false (by omega)
                      have n3 : ¬ (0 : Int) < (L.length : Int) := by omega
                      clear h0 hlf
                      refine wp_region_later wc.heap.size (by kernel_rfl) (by kernel_rfl) ?_
                      repeat (go_big_quiet_step (fail))
                      refine wpQuiet_nil ?_
                      rintro wq ⟨zz, rfl⟩
                      have HZ := Lib.hid zz.prop
                      generalize zz.val = wq at *
                      go_wp2_with fail
                      go_meet
                      case rel => exact ⟨rfl, HZ.out⟩
                    · obtain ⟨q, hq⟩ : ∃ q, L.length = q + 1 := ⟨L.length - 1, by omega⟩
                      have htl : TK.length = L.length := by rw [HTK.out, takS_len]
                      have n1 : decide ((0 : Int) < (L.length : Int)) = true := decide_eq_true (by omega)
                      have n2 : decide (0 < L.length) = true := decide_eq_true (by omega)
                      have n3 : (0 : Int) < (L.length : Int) := by omega
                      have n4 : IntKind.i64.wrap ((L.length : Int) - 1) = (q : Int) := by rw [IntKind.wrap_i64]; have := HLL.out; omega
                      have n5 : (0 : Int) ≤ (q : Int) := by omega
                      have n6 : (q : Int) < (L.length : Int) := by omega
                      obtain ⟨tb, toff, tcap, hve, hcs⟩ := sps_cells HTSm.out (by omega)
                      injection hve with hx1 hx2 hx3
                      subst hx1
                      clear hx2 hx3
                      have hcx := hcs q (by omega)
                      have hqx : ∃ x, TK[q]'(by omega) = (x, x) ∧ belowA x y = true := by
                        have hql : q < L.length := by omega
                        refine ⟨stepA a L[q], ?_, HBL.out _ (List.getElem_mem hql)⟩
                        have := HTK.out
                        subst this
                        unfold takS
                        simp
                      obtain ⟨x, hx, hb⟩ := hqx
                      rw [hx] at hcx
                      have HBW := Lib.hid (fun W => below_any x y W)
                      rw [hb] at HBW
                      have c0 : ∀ zz : Later wc.heap.size wc, zz.val.cell? ⟨tb, toff + q * 6, none⟩ = some (.int .u8 (x.1.toNat : Int)) := fun zz => Later.cell hcx.c0 (World.block_lt_of_cell? _ _ hcx.c0) zz
                      have c1 : ∀ zz : Later wc.heap.size wc, zz.val.cell? ⟨tb, toff + q * 6 + 1, none⟩ = some (.int .u64 (x.2.1.toNat : Int)) := fun zz => Later.cell hcx.c1 (World.block_lt_of_cell? _ _ hcx.c1) zz
                      have c2 : ∀ zz : Later wc.heap.size wc, zz.val.cell? ⟨tb, toff + q * 6 + 2, none⟩ = some (.int .u64 (x.2.2.toNat : Int)) := fun zz => Later.cell hcx.c2 (World.block_lt_of_cell? _ _ hcx.c2) zz
                      have d0 : ∀ zz : Later wc.heap.size wc, zz.val.cell? ⟨kk, 0, none⟩ = some (.int .u8 (y.1.toNat : Int)) := fun zz => Later.cell (box_n0 HGY.out) (blk_lt HGY.out) zz
                      have d1 : ∀ zz : Later wc.heap.size wc, zz.val.cell? ⟨kk, 1, none⟩ = some (.int .u64 (y.2.1.toNat : Int)) := fun zz => Later.cell (box_n1 HGY.out) (blk_lt HGY.out) zz
                      have d2 : ∀ zz : Later wc.heap.size wc, zz.val.cell? ⟨kk, 2, none⟩ = some (.int .u64 (y.2.2.toNat : Int)) := fun zz => Later.cell (box_n2 HGY.out) (blk_lt HGY.out) zz
                      clear h0 hq htl hcs hcx hx hb hlf
                      refine wp_region_later wc.heap.size (by kernel_rfl) (by kernel_rfl) ?_
                      repeat (go_big_quiet_step ((go_at_call 21; exact Later.calls (Nat.le_refl _) (HBW.out _))))
                      refine wpQuiet_nil ?_
                      rintro wq ⟨zz, rfl⟩
                      have HZ := Lib.hid zz.prop
                      clear c0 c1 c2 d0 d1 d2
                      generalize zz.val = wq at *
                      go_wp2_with fail
                      go_meet
                      case rel => exact ⟨rfl, HZ.out⟩
                  case rest =>
                    obtain ⟨rfl, hbel⟩ := hcut
                    have HO3 := Lib.hid (row_kept1 HO2.out fun q hq => hbel.block q (HO2.out.lt q hq).2)
                    have GAn := Lib.hid (blk_kept hbel GAm.out)
                    have BEn := Lib.hid (below_step BEm.out hbel BEm.out.size)
                    have LSn := Lib.hid (LSm.out.kept hbel)
                    have GTn := Lib.hid (blk_kept hbel GTm.out)
                    have HBn := Lib.hid (below_step HBm.out hbel HBm.out.size)
                    have HTSn := Lib.hid (HTSm.out.kept hbel)
                    have HGYn := Lib.hid (blk_kept hbel HGY.out)
                    clear hbel
                    obtain ⟨wz, rfl⟩ : ∃ wz : World, wz = wc := ⟨_, rfl⟩
                    go_wp2_with fail
                    go_loopw [16] (fun vi W => ∃ i : Nat, i ≤ ls.length ∧ vi = .int .i64 i ∧ Below wz.heap.size wz W) (fun vi _ => ls.length - (intOf vi).toNat)
                    case atStart => exact ⟨0, Nat.zero_le _, rfl, Below.refl _ _⟩
                    case round =>
                      obtain ⟨i4, hi, rfl, hbel⟩ := hrel
                      have HB4 := Lib.hid hbel
                      by_cases hlt : i4 < ls.length
                      · have HLT := Lib.hid hlt
                        obtain ⟨b', off, cap', hve, hcs⟩ := LSn.out.cell (by omega)
                        injection hve with hx1 hx2 hx3
                        subst hx1
                        clear hx2 hx3
                        obtain ⟨u, hu2, hue⟩ := hcs i4 hlt
                        obtain ⟨g, hg⟩ : ∃ g, g = ls[i4]'hlt := ⟨_, rfl⟩
                        have hg20 : g.length ≤ 20 := by rw [hg]; exact HSM.out.one hlt
                        have hcg : coveredD g y = false := by
                          rw [hg]
                          have h9 := HCOV.out
                          rw [HAE.out] at h9
                          exact covered_row h9 hlt
                        replace hue : SpsAt wr u g := by rw [hg]; exact Seg.kept hue hbel
                        have HUE := Lib.hid hue
                        have hu := cell_kept hbel hu2
                        have HH := Lib.hid (fun (zz : Later wr.heap.size wr) => has_list u g y zz.val (HUE.out.kept zz.prop) (by omega))
                        rw [hcg] at HH
                        have hgy := blk_kept hbel HGYn.out
                        have e0 : ∀ zz : Later wr.heap.size wr, zz.val.cell? ⟨b', off + i4, none⟩ = some u := fun zz => Later.cell hu (World.block_lt_of_cell? _ _ hu) zz
                        have d0 : ∀ zz : Later wr.heap.size wr, zz.val.cell? ⟨kk, 0, none⟩ = some (.int .u8 (y.1.toNat : Int)) := fun zz => Later.cell (box_n0 hgy) (blk_lt hgy) zz
                        have d1 : ∀ zz : Later wr.heap.size wr, zz.val.cell? ⟨kk, 1, none⟩ = some (.int .u64 (y.2.1.toNat : Int)) := fun zz => Later.cell (box_n1 hgy) (blk_lt hgy) zz
                        have d2 : ∀ zz : Later wr.heap.size wr, zz.val.cell? ⟨kk, 2, none⟩ = some (.int .u64 (y.2.2.toNat : Int)) := fun zz => Later.cell (box_n2 hgy) (blk_lt hgy) zz
                        obtain ⟨uo, uc, hub⟩ := elems_slice hue
                        subst hub
                        have j1 : (0 : Int) ≤ (i4 : Int) := by omega
                        have j2 : (i4 : Int) < (ls.length : Int) := by omega
                        have j4 : IntKind.i64.wrap ((i4 : Int) + 1) = (i4 : Int) + 1 := by rw [IntKind.wrap_i64]; have := HL4.out; omega
                        clear hbel hcs hue hu hu2 hg hcg hi hlt hg20 hgy
                        go_wp2_with fail
                        refine wp_region_later wr.heap.size (by kernel_rfl) (by kernel_rfl) ?_
                        repeat (go_big_quiet_step ((go_at_call 30; exact Later.calls (Nat.le_refl _) (HH.out _))))
                        refine wpQuiet_nil ?_
                        rintro wq ⟨zz, rfl⟩
                        have HB5 := Lib.hid (below_step HB4.out zz.prop HB4.out.size)
                        clear e0 d0 d1 d2
                        generalize zz.val = wq at *
                        go_wp2_with fail
                        go_roundw
                        case rel => exact ⟨i4 + 1, HLT.out, by go_num, HB5.out⟩
                        case measure => have := HLT.out; simp [intOf]; omega
                      · obtain rfl : ls.length = i4 := by omega
                        have j2 : ¬ (ls.length : Int) < (ls.length : Int) := by omega
                        have HO4 := Lib.hid (row_kept1 HO3.out fun q hq => hbel.block q (HO3.out.lt q hq).2)
                        have HB6 := Lib.hid (below_step HBn.out hbel HBn.out.size)
                        have HGZ := Lib.hid (blk_kept hbel HGYn.out)
                        have HL9 := Lib.hid (show L.length + 1 ≤ 1099511627776 by have := HLL.out; omega)
                        have HSN := Lib.hid (show (takS a (L ++ [j])).flatMap encC = (takS a L).flatMap encC ++ encC (y, y) from by rw [takS_snoc, List.flatMap_append, HYJ.out]; simp)
                        have d0 := box_n0 HGZ.out
                        have d1 := box_n1 HGZ.out
                        have d2 := box_n2 HGZ.out
                        clear hbel hi hlt
                        go_wp2_with (at_builtin; refine wpList_append1 rfl (.tmp 126) (.tmp 130) 28 rfl w5.heap.size TE _ 6 48 Try.underlying28 infoE rfl (by decide) _ L.length _ (encC (y, y)) rfl HO4.out _ 1 rfl rfl rfl (encC_one1 (y, y)) HL9.out (by decide) HB6.out.size w5.heap.size w5 HB6.out (Nat.le_refl _) ?_; intro v5 w6 ho5 hgr5 hb5 hsz5; have HO5 := Lib.hid ho5; have HB5 := Lib.hid hb5; obtain ⟨o5, c5, hv5⟩ := owns_slice1 ho5; subst hv5; clear ho5 hgr5 hb5 hsz5 d0 d1 d2)
                        go_roundw
                        case rel => exact ⟨L ++ [j], R', by rw [HFS.out, HRJ.out]; simp, by rw [HSN.out, List.length_append]; exact HO5.out, HB5.out⟩
                        case measure => have := HLF.out; simp [lenV]; omega
      · go_wp2_with fail
        refine (awake_any _).mono ?_
        rintro e w4 ⟨rfl, hb⟩
        have HB3 := Lib.hid (below_step BE_3.out hb BE_3.out.size)
        clear hb
        go_wp2_with fail
        go_ret
        exact ⟨rfl, HB3.out⟩

  · go_wp2_with fail
    refine (awake_any _).mono ?_
    rintro e w3 ⟨rfl, hb⟩
    have HB3 := Lib.hid (below_step BE1.out hb BE1.out.size)
    clear hb
    go_wp2_with fail
    go_ret
    exact ⟨rfl, HB3.out⟩
end Go.Proofs.Try.Gp
