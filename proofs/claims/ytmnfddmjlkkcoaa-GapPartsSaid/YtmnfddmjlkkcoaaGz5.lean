/- GapParts: its walk. -/
import Derived.Test.YtmnfddmjlkkcoaaGz1
import Derived.Test.YtmnfddmjlkkcoaaGp6
import Derived.Test.YtmnfddmjlkkcoaaGk8
import Derived.Deep.RegionHeld3
import Derived.Deep.DeepCutAuto
set_option linter.unusedVariables false
set_option linter.unusedSimpArgs false
namespace Go.Proofs.Try.Gp
open Go.RowKit Go.Cph Go.Cph.Px Go.Cph.Gp Go.Cph.So
open Pfx (encA)
/-- What the two loops ask: the probe, both ends, then each span's ends. -/
def asksL (c a b : Ad) (A : List Sp) : List Ad := [c, a, b] ++ A.flatMap fun s => [s.1, s.2]
theorem asks_len (c a b : Ad) (A : List Sp) : (asksL c a b A).length = 3 + A.length * 2 := by
  unfold asksL
  rw [List.length_append]
  have : ∀ A : List Sp, (A.flatMap fun s => [s.1, s.2]).length = A.length * 2 := by
    intro A
    induction A with
    | nil => rfl
    | cons s A ih => rw [List.flatMap_cons, List.length_append, ih, List.length_cons]; simp; omega
  rw [this]; rfl
theorem asks_snoc (c a b : Ad) (A : List Sp) (s : Sp) : asksL c a b (A ++ [s]) = asksL c a b A ++ [s.1, s.2] := by unfold asksL; simp

set_option maxRecDepth 100000 in
set_option maxHeartbeats 32000000 in
theorem parts_law (a b c : Ad) (v : Value) (ls : List (List Sp)) (w : World) (h : SpsOf w v ls) (hlm : ls.length ≤ 9223372036854775807) (hls : ∀ l ∈ ls, l.length ≤ 9223372036854775807) :
    Calls Try.prog 7 #[v, encA a, encA b, encA c] w (AwPost w) := by
  obtain ⟨ao, cap, hv⟩ := h.slice
  subst hv
  have hg1 := heap_alloc_new (w.alloc (boxA a)) (boxA b)
  rw [World.size_alloc] at hg1
  have hg2 := heap_alloc_new ((w.alloc (boxA a)).alloc (boxA b)) (boxA c)
  simp only [World.size_alloc] at hg2
  have GA := Lib.hid (show (((w.alloc (boxA a)).alloc (boxA b)).alloc (boxA c)).heap[w.heap.size]? = some (boxA a) from blk_alloc (blk_alloc (heap_alloc_new _ _) _) _)
  have GB := Lib.hid (blk_alloc hg1 (boxA c))
  have GC := Lib.hid hg2
  have BE := Lib.hid (show Below w.heap.size w (((w.alloc (boxA a)).alloc (boxA b)).alloc (boxA c)) from (((Below.refl _ _).alloc (Nat.le_refl _) _).alloc (by simp) _).alloc (by simp; omega) _)
  have LS := Lib.hid (h.kept BE.out)
  have HGR := Lib.hid (great_any _ ls _ LS.out hlm (by unfold maxLen; exact hls))
  obtain ⟨n, hn⟩ : ∃ n, n = w.heap.size := ⟨_, rfl⟩
  have HN := Lib.hid hn
  have GA := Lib.hid (by have := GA.out; rw [← hn] at this; exact this)
  have GB := Lib.hid (by have := GB.out; rw [← hn] at this; exact this)
  have GC := Lib.hid (by have := GC.out; rw [← hn] at this; exact this)
  clear hn hg1 hg2 h hlm hls
  go_enter Try.func7, Try.ntmps7
  go_wp2_with fail
  generalize ((w.alloc (boxA a)).alloc (boxA b)).alloc (boxA c) = w1 at *
  rw [← HN.out]
  refine HGR.out.mono ?_
  rintro e w2 ⟨r, rfl, hsm, hb⟩
  have GA1 := Lib.hid (blk_kept hb GA.out)
  have GB1 := Lib.hid (blk_kept hb GB.out)
  have GC1 := Lib.hid (blk_kept hb GC.out)
  have BE1 := Lib.hid (below_step BE.out hb BE.out.size)
  have LS1 := Lib.hid (LS.out.kept hb)
  clear hb HGR
  cases r
  · have HSM := Lib.hid (hsm rfl)
    clear hsm
    have hl4 : ls.length ≤ 4 := HSM.out.num
    have hfl : ls.flatten.length ≤ 80 := HSM.out.flat
    have HJN := Lib.hid (fun W v (h : SpsOf W v ls) => join_any v ls W h (by omega) (by omega))
    have HFR := Lib.hid (fun W v (h : SpsOf W v ls) => free_any a b v ls W h (by omega) (by omega))
    have HLE := Lib.hid (fun W v (h : SpsOf W v ls) => least_any a b v ls W h (by omega) (by omega))
    obtain ⟨A, hA⟩ : ∃ A, A = ls.flatten := ⟨_, rfl⟩
    rw [← hA] at hfl HJN HFR HLE
    have HAE := Lib.hid hA
    have HFL := Lib.hid hfl
    have HL4 := Lib.hid hl4
    clear hA hfl hl4
    go_wp2_with fail
    refine (HJN.out _ _ LS1.out).mono ?_
    rintro e x3 ⟨j, hset, hln, v2, rfl, ho, hb⟩
    have GA_3 := Lib.hid (blk_kept hb GA1.out)
    have GB_3 := Lib.hid (blk_kept hb GB1.out)
    have GC_3 := Lib.hid (blk_kept hb GC1.out)
    have BE_3 := Lib.hid (below_step BE1.out hb BE1.out.size)
    have LS_3 := Lib.hid (LS1.out.kept hb)
    have HJ := Lib.hid hset
    have HJLN := Lib.hid hln
    have J := Lib.hid (show SpsAt x3 v2 j from Seg.of_owns ho)
    obtain ⟨jo, jc, hv⟩ := elems_slice J.out
    subst hv
    clear hset hln ho
    clear hb
    have f0 := box_n0 GA_3.out
    have f1 := box_n1 GA_3.out
    have f2 := box_n2 GA_3.out
    have g0 := box_n0 GB_3.out
    have g1 := box_n1 GB_3.out
    have g2 := box_n2 GB_3.out
    go_wp2_with fail
    clear f0 f1 f2 g0 g1 g2
    refine (HFR.out _ _ LS_3.out).mono ?_
    rintro e x4 ⟨f, hset, hln, v1, rfl, ho, hb⟩
    have GA_4 := Lib.hid (blk_kept hb GA_3.out)
    have GB_4 := Lib.hid (blk_kept hb GB_3.out)
    have GC_4 := Lib.hid (blk_kept hb GC_3.out)
    have BE_4 := Lib.hid (below_step BE_3.out hb BE_3.out.size)
    have LS_4 := Lib.hid (LS_3.out.kept hb)
    have J_4 := Lib.hid (J.out.kept hb)
    have HF := Lib.hid hset
    have HFLN := Lib.hid hln
    have F := Lib.hid (show SpsAt x4 v1 f from Seg.of_owns ho)
    obtain ⟨fo, fc, hv⟩ := elems_slice F.out
    subst hv
    clear hset hln ho
    clear hb
    have HS := Lib.hid (apart_any _ j _ _ J_4.out (by have := HJLN.out; have := HFL.out; omega) HJ.out)
    go_wp2_with fail
    refine (HS.out).mono ?_
    rintro e x5 ⟨rfl, hb⟩
    have GA_5 := Lib.hid (blk_kept hb GA_4.out)
    have GB_5 := Lib.hid (blk_kept hb GB_4.out)
    have GC_5 := Lib.hid (blk_kept hb GC_4.out)
    have BE_5 := Lib.hid (below_step BE_4.out hb BE_4.out.size)
    have LS_5 := Lib.hid (LS_4.out.kept hb)
    have J_5 := Lib.hid (J_4.out.kept hb)
    have F_5 := Lib.hid (F.out.kept hb)
    clear hb
    clear HS
    have HS := Lib.hid (apart_any _ f _ _ F_5.out (by have := HFLN.out; have := HFL.out; omega) HF.out)
    go_wp2_with fail
    refine (HS.out).mono ?_
    rintro e x6 ⟨rfl, hb⟩
    have GA_6 := Lib.hid (blk_kept hb GA_5.out)
    have GB_6 := Lib.hid (blk_kept hb GB_5.out)
    have GC_6 := Lib.hid (blk_kept hb GC_5.out)
    have BE_6 := Lib.hid (below_step BE_5.out hb BE_5.out.size)
    have LS_6 := Lib.hid (LS_5.out.kept hb)
    have J_6 := Lib.hid (J_5.out.kept hb)
    have F_6 := Lib.hid (F_5.out.kept hb)
    clear hb
    clear HS
    have f0 := box_n0 GA_6.out
    have f1 := box_n1 GA_6.out
    have f2 := box_n2 GA_6.out
    have g0 := box_n0 GB_6.out
    have g1 := box_n1 GB_6.out
    have g2 := box_n2 GB_6.out
    go_upto_region 8 with (fail)
    clear f0 f1 f2 g0 g1 g2
    have hbx : Below x6.heap.size x6 (x6.alloc (boxS (a, b))) := (Below.refl _ _).alloc (Nat.le_refl _) _
    have GA_7 := Lib.hid (blk_kept hbx GA_6.out)
    have GB_7 := Lib.hid (blk_kept hbx GB_6.out)
    have GC_7 := Lib.hid (blk_kept hbx GC_6.out)
    have BE_7 := Lib.hid (below_step BE_6.out hbx BE_6.out.size)
    have LS_7 := Lib.hid (LS_6.out.kept hbx)
    have J_7 := Lib.hid (J_6.out.kept hbx)
    have F_7 := Lib.hid (F_6.out.kept hbx)
    have AL := Lib.hid (heap_alloc_new x6 (boxS (a, b)))
    clear hbx
    obtain ⟨kA, hkA⟩ : ∃ k, k = x6.heap.size := ⟨_, rfl⟩
    rw [← hkA] at AL ⊢
    clear hkA
    generalize x6.alloc (boxS (a, b)) = y7 at *
    have f0 := box_n0 GA_7.out
    have f1 := box_n1 GA_7.out
    have f2 := box_n2 GA_7.out
    have g0 := box_n0 GB_7.out
    have g1 := box_n1 GB_7.out
    have g2 := box_n2 GB_7.out
    have m0 := box_n0 GC_7.out
    have m1 := box_n1 GC_7.out
    have m2 := box_n2 GC_7.out
    have HRW := Lib.hid (ads_lit y7 [c, a, b] y7.heap.size (Nat.le_refl _) (by simp))
    have hbx : Below y7.heap.size y7 (y7.alloc (.cells ([c, a, b].flatMap encD).toArray TAd)) := (Below.refl _ _).alloc (Nat.le_refl _) _
    have GA_8 := Lib.hid (blk_kept hbx GA_7.out)
    have GB_8 := Lib.hid (blk_kept hbx GB_7.out)
    have GC_8 := Lib.hid (blk_kept hbx GC_7.out)
    have BE_8 := Lib.hid (below_step BE_7.out hbx BE_7.out.size)
    have LS_8 := Lib.hid (LS_7.out.kept hbx)
    have J_8 := Lib.hid (J_7.out.kept hbx)
    have F_8 := Lib.hid (F_7.out.kept hbx)
    have AL_8 := Lib.hid (blk_kept hbx AL.out)
    have QQ := Lib.hid (heap_alloc_new y7 (.cells ([c, a, b].flatMap encD).toArray TAd))
    clear hbx
    go_wp2_with fail
    clear f0 f1 f2 g0 g1 g2
    clear m0 m1 m2
    have BQ := Lib.hid (show Below y7.heap.size y7 (y7.alloc (.cells ([c, a, b].flatMap encD).toArray TAd)) from (Below.refl _ _).alloc (Nat.le_refl _) _)
    go_loopw [12, 13] (fun vo vi W => ∃ i : Nat, i ≤ ls.length ∧ vi = .int .i64 i ∧ W.ownsRow y7.heap.size TAd 3 vo (asksL c a b (ls.take i).flatten).length ((asksL c a b (ls.take i).flatten).flatMap encD) ∧ Below y7.heap.size y7 W) (fun _ vi _ => ls.length - (intOf vi).toNat)
    case atStart => exact ⟨0, Nat.zero_le _, rfl, HRW.out, BQ.out⟩
    case round =>
      obtain ⟨i, hi, rfl, ho, hbel⟩ := hrel
      have HBE := Lib.hid hbel
      by_cases hlt : i < ls.length
      · have HLT := Lib.hid hlt
        obtain ⟨b', off, cap', hve, hcs⟩ := LS_7.out.cell (by omega)
        injection hve with hx1 hx2 hx3
        subst hx1
        clear hx2 hx3
        obtain ⟨u, hu2, hue⟩ := hcs i hlt
        obtain ⟨g, hg⟩ : ∃ g, g = ls[i]'hlt := ⟨_, rfl⟩
        have HFT := Lib.hid (show (ls.take (i + 1)).flatten = (ls.take i).flatten ++ g from by rw [flatten_take ls hlt, hg])
        obtain ⟨D, hD⟩ : ∃ D, D = (ls.take i).flatten := ⟨_, rfl⟩
        rw [← hD] at ho HFT
        have HDL := Lib.hid (show D.length + g.length ≤ 80 from by
          have h1 := flatten_le ls (i + 1)
          rw [HFT.out, List.length_append, ← HAE.out] at h1
          have := HFL.out; omega)
        replace hue : SpsAt y7 u g := by rw [hg]; exact hue
        obtain ⟨uo, uc, hub⟩ := elems_slice hue
        subst hub
        have HUE := Lib.hid hue
        have HU2 := Lib.hid hu2
        obtain ⟨oo, oc, hov⟩ := owns_slice1 ho
        obtain ⟨an, han⟩ : ∃ an, an = (asksL c a b D).length := ⟨_, rfl⟩
        have HAN := Lib.hid (show an = 3 + D.length * 2 from by rw [han, asks_len])
        rw [← han] at ho hov
        subst hov
        have HO := Lib.hid ho
        have k1 : (0 : Int) ≤ (i : Int) := by omega
        have k2 : (i : Int) < (ls.length : Int) := by omega
        have k4 : IntKind.i64.wrap ((i : Int) + 1) = (i : Int) + 1 := by rw [IntKind.wrap_i64]; have := HL4.out; omega
        have hu := cell_kept hbel hu2
        clear hbel hcs hue hu2 hg hi hlt ho hD han
        go_wp2_with fail
        clear hu
        go_loopw [12, 14] (fun vo vk W => ∃ k : Nat, k ≤ g.length ∧ vk = .int .i64 k ∧ W.ownsRow y7.heap.size TAd 3 vo (an + k * 2) ((asksL c a b (D ++ g.take k)).flatMap encD) ∧ Below y7.heap.size y7 W) (fun _ vk _ => g.length - (intOf vk).toNat)
        case atStart => exact ⟨0, Nat.zero_le _, rfl, by simpa using HO.out, HBE.out⟩
        case round =>
          obtain ⟨k, hk, rfl, ho, hbel⟩ := hrel
          have HB2 := Lib.hid hbel
          have hu := cell_kept hbel HU2.out
          obtain ⟨o2, c2, hov⟩ := owns_slice1 ho
          subst hov
          by_cases hkl : k < g.length
          · obtain ⟨gb, go_, gc, hub, hgc⟩ := sps_cells HUE.out (by omega)
            injection hub with hu1 _ hu3
            subst hu1
            obtain rfl : gc = uc := hu3.symm
            have hcx := (hgc k hkl).kept hbel
            obtain ⟨x, hx⟩ : ∃ x, x = g[k]'hkl := ⟨_, rfl⟩
            rw [← hx] at hcx
            have HTK := Lib.hid (show asksL c a b (D ++ g.take (k + 1)) = asksL c a b (D ++ g.take k) ++ [x.1, x.2] from by rw [List.take_succ_eq_append_getElem hkl, ← hx, ← List.append_assoc, asks_snoc])
            have HKL := Lib.hid hkl
            have j1 : (0 : Int) ≤ (k : Int) := by omega
            have j2 : (k : Int) < (g.length : Int) := by omega
            have j4 : IntKind.i64.wrap ((k : Int) + 1) = (k : Int) + 1 := by rw [IntKind.wrap_i64]; have := HDL.out; omega
            have HBX := Lib.hid (show Below wr.heap.size wr ((wr.alloc (.cells ([x.1, x.2].flatMap encD).toArray TAd)).drew) from ((Below.refl _ _).alloc (Nat.le_refl _) _).drew)
            have HO2 := Lib.hid (row_kept1 ho fun q hq => HBX.out.block q (ho.lt q hq).2)
            have HSG := Lib.hid (show Seg ((wr.alloc (.cells ([x.1, x.2].flatMap encD).toArray TAd)).drew) 3 (.slice (some ⟨wr.heap.size, 0, none⟩) 2 2) 2 ([x.1, x.2].flatMap encD) from (ads_seg wr [x.1, x.2]).kept ((Below.refl _ _).drew))
            obtain ⟨v9, w9, hr9, ho9, hg9, -⟩ := run_append_seg (P := Try.prog) ((wr.alloc (.cells ([x.1, x.2].flatMap encD).toArray TAd)).drew) TAs TAs TAd _ 3 24 Try.underlying55 infoAd rfl (by decide) HO2.out HSG.out encD_one (by have := HDL.out; have := HAN.out; omega) (by decide) (Nat.le_trans HB2.out.size HBX.out.size)
            have HR9 := Lib.hid hr9
            have HB9 := Lib.hid (below_grown (below_step HB2.out HBX.out HB2.out.size) hg9 HO2.out (Nat.le_refl _) (Nat.le_trans HB2.out.size HBX.out.size))
            have HO9 := Lib.hid ho9
            have hcd := hcx.kept HBX.out
            have hud := cell_kept HBX.out hu
            have hc9 := (hgc k hkl).kept HB9.out
            rw [← hx] at hc9
            have hu9 := cell_kept HB9.out HU2.out
            have d0 := hcx.c0
            have d1 := hcx.c1
            have d2 := hcx.c2
            have d3 := hcx.c3
            have d4 := hcx.c4
            have d5 := hcx.c5
            have e0 := hcd.c0
            have e1 := hcd.c1
            have e2 := hcd.c2
            have e3 := hcd.c3
            have e4 := hcd.c4
            have e5 := hcd.c5
            have f0 := hc9.c0
            have f1 := hc9.c1
            have f2 := hc9.c2
            have f3 := hc9.c3
            have f4 := hc9.c4
            have f5 := hc9.c5
            clear ho hbel hgc hcx hcd hx hk hkl hr9 ho9 hg9 hc9
            go_wp2_with fail
            have hcr := (show CellsOf wr.drew gb (go_ + k * 6) x from ⟨d0, d1, d2, d3, d4, d5⟩)
            have hur := (show wr.drew.cell? ⟨b', off + i, none⟩ = some (.slice (some ⟨gb, go_, none⟩) g.length gc) from hu)
            have r0 := hcr.c0
            have r1 := hcr.c1
            have r2 := hcr.c2
            have r3 := hcr.c3
            have r4 := hcr.c4
            have r5 := hcr.c5
            clear hcr
            go_region_held3 (fun W => W.cell? ⟨b', off + i, none⟩ = some (.slice (some ⟨gb, go_, none⟩) g.length gc) ∧ W.cell? ⟨gb, go_ + k * 6, none⟩ = some (.int .u8 (x.1.1.toNat : Int)) ∧ W.cell? ⟨gb, go_ + k * 6 + 1, none⟩ = some (.int .u64 (x.1.2.1.toNat : Int)) ∧ W.cell? ⟨gb, go_ + k * 6 + 2, none⟩ = some (.int .u64 (x.1.2.2.toNat : Int)) ∧ W.cell? ⟨gb, go_ + k * 6 + 3, none⟩ = some (.int .u8 (x.2.1.toNat : Int)) ∧ W.cell? ⟨gb, go_ + k * 6 + 4, none⟩ = some (.int .u64 (x.2.2.1.toNat : Int)) ∧ W.cell? ⟨gb, go_ + k * 6 + 5, none⟩ = some (.int .u64 (x.2.2.2.toNat : Int))) (go_keep)
              ((refine step_append rfl (.tmp 60) (.tmp 77) TAs TAs rfl (.slice o2 (an + k * 2) c2) (.slice (some ⟨wr.heap.size, 0, none⟩) 2 2) (by simp [Act.eval, Act.put]) (by simp [Act.eval, Act.put]) HR9.out ?_))
            all_goals
              go_wp2_with fail
              go_roundw
              case rel => exact ⟨k + 1, HKL.out, by go_num, by rw [HTK.out, List.flatMap_append, Nat.succ_mul, ← Nat.add_assoc]; exact HO9.out, HB9.out⟩
              case measure => have := HKL.out; simp [intOf]; omega
          · obtain rfl : g.length = k := by omega
            have j2 : ¬ (g.length : Int) < (g.length : Int) := by omega
            rw [List.take_length, ← HFT.out] at ho
            have HO3 := Lib.hid (show wr.ownsRow y7.heap.size TAd 3 (.slice o2 (an + g.length * 2) c2) (asksL c a b (ls.take (i + 1)).flatten).length ((asksL c a b (ls.take (i + 1)).flatten).flatMap encD) from by
              rw [show (asksL c a b (ls.take (i + 1)).flatten).length = an + g.length * 2 from by rw [asks_len, HFT.out, List.length_append, HAN.out]; omega]
              exact ho)
            clear ho hbel hkl hk
            go_wp2_with fail
            go_roundw
            case rel => exact ⟨i + 1, HLT.out, by go_num, HO3.out, HB2.out⟩
            case measure => have := HLT.out; simp [intOf]; omega
      · obtain rfl : ls.length = i := by omega
        have k2 : ¬ (ls.length : Int) < (ls.length : Int) := by omega
        rw [List.take_length, ← HAE.out] at ho
        obtain ⟨Q, hQ⟩ : ∃ Q, Q = asksL c a b A := ⟨_, rfl⟩
        have HQN := Lib.hid (show Q.length ≤ 200 from by rw [hQ, asks_len]; have := HFL.out; omega)
        rw [← hQ] at ho
        obtain ⟨qo, qc, hqv⟩ := owns_slice1 ho
        subst hqv
        have HQ := Lib.hid (show AdsAt wr (.slice qo Q.length qc) Q from Seg.of_owns ho)
        clear ho hQ hi hlt
        obtain ⟨wo, rfl⟩ : ∃ wo : World, wo = wr := ⟨_, rfl⟩
        have GAo := Lib.hid (blk_kept hbel GA_7.out)
        have GBo := Lib.hid (blk_kept hbel GB_7.out)
        have ALo := Lib.hid (blk_kept hbel AL.out)
        have BEo := Lib.hid (below_step BE_7.out hbel BE_7.out.size)
        have LSo := Lib.hid (LS_7.out.kept hbel)
        have Jo := Lib.hid (J_7.out.kept hbel)
        have Fo := Lib.hid (F_7.out.kept hbel)
        clear hbel HBE
        go_wp2_with fail
        go_loopw [15] (fun vi W => ∃ i : Nat, i ≤ Q.length ∧ vi = .int .i64 i ∧ Below wo.heap.size wo W) (fun vi _ => Q.length - (intOf vi).toNat)
        case atStart => exact ⟨0, Nat.zero_le _, rfl, Below.refl _ _⟩
        case round =>
          obtain ⟨i, hi, rfl, hbel⟩ := hrel
          have HB := Lib.hid hbel
          by_cases hlt : i < Q.length
          · have HLT := Lib.hid hlt
            obtain ⟨qb, qoff, qcap, hve, hcq⟩ := ads_cells HQ.out (by omega)
            injection hve with hx1 hx2 hx3
            subst hx1
            clear hx2 hx3
            have hqx := hcq i hlt
            obtain ⟨x, hx⟩ : ∃ x, x = Q[i]'hlt := ⟨_, rfl⟩
            rw [← hx] at hqx
            have HQX := Lib.hid hqx
            clear hbel hcq hqx hx hi hlt
            have k1 : (0 : Int) ≤ (i : Int) := by omega
            have k2 : (i : Int) < (Q.length : Int) := by have := HLT.out; omega
            have k4 : IntKind.i64.wrap ((i : Int) + 1) = (i : Int) + 1 := by rw [IntKind.wrap_i64]; have := HQN.out; omega
            go_wp2_with fail
            go_loopw [16, 17] (fun vc vk W => ∃ (k : Nat) (c : Bool), k ≤ ls.length ∧ vk = .int .i64 k ∧ vc = .bool c ∧ c = coveredD (ls.take k).flatten x ∧ Below wo.heap.size wo W) (fun _ vk _ => ls.length - (intOf vk).toNat)
            case atStart => exact ⟨0, false, Nat.zero_le _, rfl, rfl, rfl, HB.out⟩
            case round =>
              obtain ⟨k, c', hk, rfl, rfl, hc, hbel⟩ := hrel
              have HB2 := Lib.hid hbel
              have HC := Lib.hid hc
              by_cases hkl : k < ls.length
              · have HKL := Lib.hid hkl
                obtain ⟨b', off, cap', hve, hcs⟩ := LSo.out.cell (by omega)
                injection hve with hx1 hx2 hx3
                subst hx1
                clear hx2 hx3
                obtain ⟨u, hu2, hue⟩ := hcs k hkl
                have HCT := Lib.hid (coveredD_take_flat hkl x)
                obtain ⟨g, hg⟩ : ∃ g, g = ls[k]'hkl := ⟨_, rfl⟩
                have hg20 : g.length ≤ 20 := by rw [hg]; exact HSM.out.one hkl
                rw [← hg] at HCT
                replace hue : SpsAt wr u g := by rw [hg]; exact Seg.kept hue hbel
                have HUE := Lib.hid hue
                have hu := cell_kept hbel hu2
                have HH := Lib.hid (fun (zz : Later wr.heap.size wr) => has_list u g x zz.val (HUE.out.kept zz.prop) (by omega))
                obtain ⟨r, hr⟩ : ∃ r, r = coveredD g x := ⟨_, rfl⟩
                rw [← hr] at HH HCT
                have hqx := HQX.out.kept hbel
                have e0 : ∀ zz : Later wr.heap.size wr, zz.val.cell? ⟨b', off + k, none⟩ = some u := fun zz => Later.cell hu (World.block_lt_of_cell? _ _ hu) zz
                have e1 : ∀ zz : Later wr.heap.size wr, zz.val.cell? ⟨qb, qoff + i * 3, none⟩ = some (.int .u8 (x.1.toNat : Int)) := fun zz => Later.cell hqx.c0 (World.block_lt_of_cell? _ _ hqx.c0) zz
                have e2 : ∀ zz : Later wr.heap.size wr, zz.val.cell? ⟨qb, qoff + i * 3 + 1, none⟩ = some (.int .u64 (x.2.1.toNat : Int)) := fun zz => Later.cell hqx.c1 (World.block_lt_of_cell? _ _ hqx.c1) zz
                have e3 : ∀ zz : Later wr.heap.size wr, zz.val.cell? ⟨qb, qoff + i * 3 + 2, none⟩ = some (.int .u64 (x.2.2.toNat : Int)) := fun zz => Later.cell hqx.c2 (World.block_lt_of_cell? _ _ hqx.c2) zz
                obtain ⟨uo, uc, hub⟩ := elems_slice hue
                subst hub
                have j1 : (0 : Int) ≤ (k : Int) := by omega
                have j2 : (k : Int) < (ls.length : Int) := by omega
                have j4 : IntKind.i64.wrap ((k : Int) + 1) = (k : Int) + 1 := by rw [IntKind.wrap_i64]; have := HL4.out; omega
                clear hbel hc hcs hue hu hu2 hg hk hkl hr hqx hg20
                cases c' <;> cases r
                all_goals
                  go_wp2_with fail
                  refine wp_region_later wr.heap.size (by kernel_rfl) (by kernel_rfl) ?_
                  repeat (go_big_quiet_step ((go_at_call 30; exact Later.calls (Nat.le_refl _) (HH.out _))))
                  refine wpQuiet_nil ?_
                  rintro wq ⟨zz, rfl⟩
                  have HB3 := Lib.hid (below_step HB2.out zz.prop HB2.out.size)
                  clear e0 e1 e2 e3
                  generalize zz.val = wq at *
                  go_wp2_with fail
                  go_roundw
                  case rel => exact ⟨k + 1, _, HKL.out, by go_num, rfl, by rw [HCT.out, ← HC.out]; rfl, HB3.out⟩
                  case measure => have := HKL.out; simp [intOf]; omega
              · obtain rfl : ls.length = k := by omega
                rw [List.take_length, ← HAE.out] at hc
                have j2 : ¬ (ls.length : Int) < (ls.length : Int) := by omega
                have hjo := Jo.out.kept hbel
                have hfo := Fo.out.kept hbel
                have HP1 := Lib.hid (fun (zz : Later wr.heap.size wr) => has_list _ j x zz.val (hjo.kept zz.prop) (by have := HJLN.out; have := HFL.out; omega))
                have HP2 := Lib.hid (fun (zz : Later wr.heap.size wr) => has_list _ f x zz.val (hfo.kept zz.prop) (by have := HFLN.out; have := HFL.out; omega))
                have HP3 := Lib.hid (fun W => has_any (a, b) x W)
                rw [parts_j HJ.out x, ← hc] at HP1
                rw [parts_f HF.out x, ← hc] at HP2
                obtain ⟨y, hy⟩ : ∃ y, y = hasS (a, b) x := ⟨_, rfl⟩
                rw [← hy] at HP2 HP3
                have hqx := HQX.out.kept hbel
                have e1 : ∀ zz : Later wr.heap.size wr, zz.val.cell? ⟨qb, qoff + i * 3, none⟩ = some (.int .u8 (x.1.toNat : Int)) := fun zz => Later.cell hqx.c0 (World.block_lt_of_cell? _ _ hqx.c0) zz
                have e2 : ∀ zz : Later wr.heap.size wr, zz.val.cell? ⟨qb, qoff + i * 3 + 1, none⟩ = some (.int .u64 (x.2.1.toNat : Int)) := fun zz => Later.cell hqx.c1 (World.block_lt_of_cell? _ _ hqx.c1) zz
                have e3 : ∀ zz : Later wr.heap.size wr, zz.val.cell? ⟨qb, qoff + i * 3 + 2, none⟩ = some (.int .u64 (x.2.2.toNat : Int)) := fun zz => Later.cell hqx.c2 (World.block_lt_of_cell? _ _ hqx.c2) zz
                have GAL := Lib.hid (blk_kept hbel ALo.out)
                have d0 : ∀ zz : Later wr.heap.size wr, zz.val.cell? ⟨kA, 0, none⟩ = some (.int .u8 ((a, b).1.1.toNat : Int)) := fun zz => Later.cell (box_s0 GAL.out) (blk_lt GAL.out) zz
                have d1 : ∀ zz : Later wr.heap.size wr, zz.val.cell? ⟨kA, 1, none⟩ = some (.int .u64 ((a, b).1.2.1.toNat : Int)) := fun zz => Later.cell (box_s1 GAL.out) (blk_lt GAL.out) zz
                have d2 : ∀ zz : Later wr.heap.size wr, zz.val.cell? ⟨kA, 2, none⟩ = some (.int .u64 ((a, b).1.2.2.toNat : Int)) := fun zz => Later.cell (box_s2 GAL.out) (blk_lt GAL.out) zz
                have d3 : ∀ zz : Later wr.heap.size wr, zz.val.cell? ⟨kA, 3, none⟩ = some (.int .u8 ((a, b).2.1.toNat : Int)) := fun zz => Later.cell (box_s3 GAL.out) (blk_lt GAL.out) zz
                have d4 : ∀ zz : Later wr.heap.size wr, zz.val.cell? ⟨kA, 4, none⟩ = some (.int .u64 ((a, b).2.2.1.toNat : Int)) := fun zz => Later.cell (box_s4 GAL.out) (blk_lt GAL.out) zz
                have d5 : ∀ zz : Later wr.heap.size wr, zz.val.cell? ⟨kA, 5, none⟩ = some (.int .u64 ((a, b).2.2.2.toNat : Int)) := fun zz => Later.cell (box_s5 GAL.out) (blk_lt GAL.out) zz
                clear hbel hc hqx hy hjo hfo hkl hk
                cases c' <;> cases y
                all_goals
                  go_wp2_with fail
                  refine wp_region_later wr.heap.size (by kernel_rfl) (by kernel_rfl) ?_
                  repeat (go_big_quiet_step (first | (go_at_call 30; first | (with_reducible exact Later.calls (Nat.le_refl _) (HP1.out _)) | (with_reducible exact Later.calls (Nat.le_refl _) (HP2.out _)) | exact Later.calls (Nat.le_refl _) (HP1.out _) | exact Later.calls (Nat.le_refl _) (HP2.out _)) | (go_at_call 24; exact Later.calls (Nat.le_refl _) (HP3.out _))))
                  refine wpQuiet_nil ?_
                  rintro wq ⟨zz, rfl⟩
                  have HB3 := Lib.hid (below_step HB2.out zz.prop HB2.out.size)
                  clear e1 e2 e3 d0 d1 d2 d3 d4 d5
                  generalize zz.val = wq at *
                  go_wp2_with fail
                  go_roundw
                  case rel => exact ⟨i + 1, HLT.out, by go_num, HB3.out⟩
                  case measure => have := HLT.out; simp [intOf]; omega
          · obtain rfl : Q.length = i := by omega
            have k2 : ¬ (Q.length : Int) < (Q.length : Int) := by omega
            have GAp := Lib.hid (blk_kept hbel GAo.out)
            have GBp := Lib.hid (blk_kept hbel GBo.out)
            have BEp := Lib.hid (below_step BEo.out hbel BEo.out.size)
            have LSp := Lib.hid (LSo.out.kept hbel)
            have Fp := Lib.hid (Fo.out.kept hbel)
            have Jp := Lib.hid (Jo.out.kept hbel)
            have ALp := Lib.hid (blk_kept hbel ALo.out)
            have f0 := box_n0 GAp.out
            have f1 := box_n1 GAp.out
            have f2 := box_n2 GAp.out
            have g0 := box_n0 GBp.out
            have g1 := box_n1 GBp.out
            have g2 := box_n2 GBp.out
            clear hbel hi hlt
            go_wp2_with fail
            clear f0 f1 f2 g0 g1 g2
            refine (HLE.out _ _ LSp.out).mono ?_
            rintro e w5 ⟨⟨r, rfl, hr⟩, hb⟩
            have HL := Lib.hid hr
            obtain ⟨x, ok⟩ := r
            have BEq := Lib.hid (below_step BEp.out hb BEp.out.size)
            have Fq := Lib.hid (Fp.out.kept hb)
            have Jq := Lib.hid (Jp.out.kept hb)
            have ALq := Lib.hid (blk_kept hb ALp.out)
            clear hb hr
            have hbx : Below w5.heap.size w5 (w5.alloc (boxA x)) := (Below.refl _ _).alloc (Nat.le_refl _) _
            have BEr := Lib.hid (below_step BEq.out hbx BEq.out.size)
            have Fr := Lib.hid (Fq.out.kept hbx)
            have Jr := Lib.hid (Jq.out.kept hbx)
            have ALr := Lib.hid (blk_kept hbx ALq.out)
            have GX := Lib.hid (heap_alloc_new w5 (boxA x))
            clear hbx
            cases ok
            · obtain ⟨hf, hx⟩ := least_none HL.out HF.out
              subst hf
              subst hx
              have d0 : (w5.alloc (boxA zeroA)).cell? ⟨w5.heap.size, 0, none⟩ = some (.int .u8 0) := box_n0 GX.out
              have d1 : (w5.alloc (boxA zeroA)).cell? ⟨w5.heap.size, 1, none⟩ = some (.int .u64 0) := box_n1 GX.out
              have d2 : (w5.alloc (boxA zeroA)).cell? ⟨w5.heap.size, 2, none⟩ = some (.int .u64 0) := box_n2 GX.out
              go_wp2_with fail
              clear d0 d1 d2
              refine (awake_any _).mono ?_
              rintro e w8 ⟨rfl, hb⟩
              have HB9 := Lib.hid (below_step BEr.out hb BEr.out.size)
              clear hb
              go_wp2_with fail
              go_ret
              exact ⟨rfl, HB9.out⟩
            · have h1 : ∃ s l, f = s :: l ∧ s.1 = x := least_some HL.out HF.out
              have hpos : 0 < f.length := by obtain ⟨s, l, hf, -⟩ := h1; rw [hf]; simp
              have h0 : (f[0]'hpos).1 = x := by obtain ⟨s, l, hf, hx⟩ := h1; subst hf; exact hx
              have HP := Lib.hid hpos
              obtain ⟨fb, foff, fcap, hve, hcs⟩ := sps_cells Fr.out hpos
              injection hve with hx1 hx2 hx3
              subst hx1
              clear hx2 hx3 h1
              have hc0 := hcs 0 hpos
              simp only [Nat.zero_mul, Nat.add_zero] at hc0
              go_upto_region 29 with (fail)
              obtain ⟨kX, hkX⟩ : ∃ k, k = w5.heap.size := ⟨_, rfl⟩
              rw [← hkX] at GX ⊢
              clear hkX
              generalize w5.alloc (boxA x) = w6 at *
              have b0 : ∀ zz : Later w6.heap.size w6, zz.val.cell? ⟨fb, foff, none⟩ = some (.int .u8 (x.1.toNat : Int)) := fun zz => by rw [← h0]; exact Later.cell hc0.c0 (World.block_lt_of_cell? _ _ hc0.c0) zz
              have b1 : ∀ zz : Later w6.heap.size w6, zz.val.cell? ⟨fb, foff + 1, none⟩ = some (.int .u64 (x.2.1.toNat : Int)) := fun zz => by rw [← h0]; exact Later.cell hc0.c1 (World.block_lt_of_cell? _ _ hc0.c1) zz
              have b2 : ∀ zz : Later w6.heap.size w6, zz.val.cell? ⟨fb, foff + 2, none⟩ = some (.int .u64 (x.2.2.toNat : Int)) := fun zz => by rw [← h0]; exact Later.cell hc0.c2 (World.block_lt_of_cell? _ _ hc0.c2) zz
              have d0 : ∀ zz : Later w6.heap.size w6, zz.val.cell? ⟨kX, 0, none⟩ = some (.int .u8 (x.1.toNat : Int)) := fun zz => Later.cell (box_n0 GX.out) (blk_lt GX.out) zz
              have d1 : ∀ zz : Later w6.heap.size w6, zz.val.cell? ⟨kX, 1, none⟩ = some (.int .u64 (x.2.1.toNat : Int)) := fun zz => Later.cell (box_n1 GX.out) (blk_lt GX.out) zz
              have d2 : ∀ zz : Later w6.heap.size w6, zz.val.cell? ⟨kX, 2, none⟩ = some (.int .u64 (x.2.2.toNat : Int)) := fun zz => Later.cell (box_n2 GX.out) (blk_lt GX.out) zz
              have q : ∀ W, (binOp .neq 25 (encA x) (encA x)).run Try.prog W = .ok (.bool false) W := fun W => by
                have := run_neqAa x x W
                rwa [beq_self_eq_true] at this
              have n1 : ((f.length : Int) == 0) = false := by simp; intro h; rw [h] at hpos; simp at hpos
              have n2 : decide (f.length = 0) = false := by simp; intro h; rw [h] at hpos; simp at hpos
              have n3 : (0 : Int) < (f.length : Int) := by omega
              have n4 : ¬ f = [] := by intro h; rw [h] at hpos; simp at hpos
              clear h0 hc0 hcs hpos
              refine wp_region_later w6.heap.size (by kernel_rfl) (by kernel_rfl) ?_
              repeat (go_big_quiet_step (fail))
              refine wpQuiet_nil ?_
              rintro wq ⟨zz, rfl⟩
              have BEs := Lib.hid (below_step BEr.out zz.prop BEr.out.size)
              have Fs := Lib.hid (Fr.out.kept zz.prop)
              have Js := Lib.hid (Jr.out.kept zz.prop)
              have ALs := Lib.hid (blk_kept zz.prop ALr.out)
              clear q b0 b1 b2 d0 d1 d2 n1 n2 n3 n4 GX
              generalize zz.val = w7 at *
              have HFN := Lib.hid (show f.length ≤ 200 from by have := HFLN.out; have := HFL.out; omega)
              go_wp2_with fail
              go_loopw [20] (fun vi W => ∃ i : Nat, i ≤ f.length ∧ vi = .int .i64 i ∧ Below w7.heap.size w7 W) (fun vi _ => f.length - (intOf vi).toNat)
              case atStart => exact ⟨0, Nat.zero_le _, rfl, Below.refl _ _⟩
              case round =>
                obtain ⟨i, hi, rfl, hbel⟩ := hrel
                have HB := Lib.hid hbel
                by_cases hlt : i < f.length
                · have HLT := Lib.hid hlt
                  obtain ⟨b', off, cap', hve, hcs⟩ := sps_cells (Fs.out.kept hbel) HP.out
                  injection hve with hx1 hx2 hx3
                  injection hx1 with hx1
                  injection hx1 with hx1 hx4
                  have hx1 := hx1.symm
                  have hx4 := hx4.symm
                  subst hx1
                  subst hx4
                  clear hx2 hx3
                  have hcx := hcs i hlt
                  obtain ⟨hp1, hp2, hp3, hp4⟩ := parts_ends HF.out HJ.out (List.getElem_mem hlt)
                  obtain ⟨s, hs⟩ : ∃ s, s = f[i]'hlt := ⟨_, rfl⟩
                  rw [← hs] at hcx hp1 hp2 hp3 hp4
                  have hj := Js.out.kept hbel
                  have HH1 := Lib.hid (fun W => has_any (a, b) s.1 W)
                  have HH2 := Lib.hid (fun W => has_any (a, b) s.2 W)
                  have HH3 := Lib.hid (fun (zz : Later wr.heap.size wr) => has_list _ j s.1 zz.val (hj.kept zz.prop) (by have := HJLN.out; have := HFL.out; omega))
                  have HH4 := Lib.hid (fun (zz : Later wr.heap.size wr) => has_list _ j s.2 zz.val (hj.kept zz.prop) (by have := HJLN.out; have := HFL.out; omega))
                  rw [hp1] at HH1
                  rw [hp2] at HH2
                  rw [hp3] at HH3
                  rw [hp4] at HH4
                  have GAL := Lib.hid (blk_kept hbel ALs.out)
                  have k1 : (0 : Int) ≤ (i : Int) := by omega
                  have k2 : (i : Int) < (f.length : Int) := by omega
                  have k4 : IntKind.i64.wrap ((i : Int) + 1) = (i : Int) + 1 := by rw [IntKind.wrap_i64]; have := HFN.out; omega
                  have c0 : ∀ zz : Later wr.heap.size wr, zz.val.cell? ⟨b', off + i * 6, none⟩ = some (.int .u8 (s.1.1.toNat : Int)) := fun zz => Later.cell hcx.c0 (World.block_lt_of_cell? _ _ hcx.c0) zz
                  have c1 : ∀ zz : Later wr.heap.size wr, zz.val.cell? ⟨b', off + i * 6 + 1, none⟩ = some (.int .u64 (s.1.2.1.toNat : Int)) := fun zz => Later.cell hcx.c1 (World.block_lt_of_cell? _ _ hcx.c1) zz
                  have c2 : ∀ zz : Later wr.heap.size wr, zz.val.cell? ⟨b', off + i * 6 + 2, none⟩ = some (.int .u64 (s.1.2.2.toNat : Int)) := fun zz => Later.cell hcx.c2 (World.block_lt_of_cell? _ _ hcx.c2) zz
                  have c3 : ∀ zz : Later wr.heap.size wr, zz.val.cell? ⟨b', off + i * 6 + 3, none⟩ = some (.int .u8 (s.2.1.toNat : Int)) := fun zz => Later.cell hcx.c3 (World.block_lt_of_cell? _ _ hcx.c3) zz
                  have c4 : ∀ zz : Later wr.heap.size wr, zz.val.cell? ⟨b', off + i * 6 + 4, none⟩ = some (.int .u64 (s.2.2.1.toNat : Int)) := fun zz => Later.cell hcx.c4 (World.block_lt_of_cell? _ _ hcx.c4) zz
                  have c5 : ∀ zz : Later wr.heap.size wr, zz.val.cell? ⟨b', off + i * 6 + 5, none⟩ = some (.int .u64 (s.2.2.2.toNat : Int)) := fun zz => Later.cell hcx.c5 (World.block_lt_of_cell? _ _ hcx.c5) zz
                  have d0 : ∀ zz : Later wr.heap.size wr, zz.val.cell? ⟨kA, 0, none⟩ = some (.int .u8 ((a, b).1.1.toNat : Int)) := fun zz => Later.cell (box_s0 GAL.out) (blk_lt GAL.out) zz
                  have d1 : ∀ zz : Later wr.heap.size wr, zz.val.cell? ⟨kA, 1, none⟩ = some (.int .u64 ((a, b).1.2.1.toNat : Int)) := fun zz => Later.cell (box_s1 GAL.out) (blk_lt GAL.out) zz
                  have d2 : ∀ zz : Later wr.heap.size wr, zz.val.cell? ⟨kA, 2, none⟩ = some (.int .u64 ((a, b).1.2.2.toNat : Int)) := fun zz => Later.cell (box_s2 GAL.out) (blk_lt GAL.out) zz
                  have d3 : ∀ zz : Later wr.heap.size wr, zz.val.cell? ⟨kA, 3, none⟩ = some (.int .u8 ((a, b).2.1.toNat : Int)) := fun zz => Later.cell (box_s3 GAL.out) (blk_lt GAL.out) zz
                  have d4 : ∀ zz : Later wr.heap.size wr, zz.val.cell? ⟨kA, 4, none⟩ = some (.int .u64 ((a, b).2.2.1.toNat : Int)) := fun zz => Later.cell (box_s4 GAL.out) (blk_lt GAL.out) zz
                  have d5 : ∀ zz : Later wr.heap.size wr, zz.val.cell? ⟨kA, 5, none⟩ = some (.int .u64 ((a, b).2.2.2.toNat : Int)) := fun zz => Later.cell (box_s5 GAL.out) (blk_lt GAL.out) zz
                  clear hbel hcs hcx hs hlt hi hp1 hp2 hp3 hp4 hj
                  go_wp2_with fail
                  refine wp_region_later wr.heap.size (by kernel_rfl) (by kernel_rfl) ?_
                  repeat (go_big_quiet_step (first | (go_at_call 30; first | (with_reducible exact Later.calls (Nat.le_refl _) (HH3.out _)) | (with_reducible exact Later.calls (Nat.le_refl _) (HH4.out _))) | (go_at_call 24; first | (with_reducible exact Later.calls (Nat.le_refl _) (HH1.out _)) | (with_reducible exact Later.calls (Nat.le_refl _) (HH2.out _)))))
                  refine wpQuiet_nil ?_
                  rintro wq ⟨zz, rfl⟩
                  have HB3 := Lib.hid (below_step HB.out zz.prop HB.out.size)
                  clear c0 c1 c2 c3 c4 c5 d0 d1 d2 d3 d4 d5
                  generalize zz.val = wq at *
                  go_wp2_with fail
                  go_roundw
                  case rel => exact ⟨i + 1, HLT.out, by go_num, HB3.out⟩
                  case measure => have := HLT.out; simp [intOf]; omega
                · obtain rfl : f.length = i := by omega
                  have k2 : ¬ (f.length : Int) < (f.length : Int) := by omega
                  have BEz := Lib.hid (below_step BEs.out hbel BEs.out.size)
                  clear hbel hi hlt
                  go_wp2_with fail
                  refine (awake_any _).mono ?_
                  rintro e w8 ⟨rfl, hb⟩
                  have HB9 := Lib.hid (below_step BEz.out hb BEz.out.size)
                  clear hb
                  go_wp2_with fail
                  go_ret
                  exact ⟨rfl, HB9.out⟩
  · go_wp2_with fail
    refine (awake_any _).mono ?_
    rintro e w3 ⟨rfl, hb⟩
    have HB3 := Lib.hid (below_step BE1.out hb BE1.out.size)
    clear hb
    go_wp2_with fail
    go_ret
    exact ⟨rfl, HB3.out⟩
end Go.Proofs.Try.Gp
