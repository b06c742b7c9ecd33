/- Blocks of a row of entries: two change places; two are turned round. -/
import Derived.Test.YtkeaalacepjadaaDoorVs2
import Derived.Test.YtkeaalacepjadaaDoorVA
set_option linter.unusedVariables false
set_option linter.unusedSimpArgs false
set_option maxRecDepth 100000
namespace Go.Proofs.Tryd.Vr
open Go.RowKit Go.Cph Go.Cph.Skip Go.Cph.So Go.Cph.Ve
variable {C : Cap}

set_option maxHeartbeats 4000000 in
theorem swap_range {base g n cap : Nat} (a b k : Nat) (p u m v q : List Tb) (w0 w : World) (h : Row C w0 base g n cap (p ++ (u ++ (m ++ (v ++ q)))) w) (ha : p.length = a) (hb : p.length + u.length + m.length = b) (hu : u.length = k) (hv : v.length = k) (hn : n ≤ 1000000) :
    Calls Tryd.prog 86 #[.slice (some ⟨g, 0, none⟩) n cap, .int .i64 a, .int .i64 b, .int .i64 k, (CMP C)] w (RowPost C w0 base g n cap (p ++ (v ++ (m ++ (u ++ q))))) := by
  have hbn : b + k ≤ n := by rw [← h.len]; simp; omega
  have han : a + k ≤ n := by omega
  have HR := Lib.hid h
  have HA := Lib.hid ha
  have HB := Lib.hid hb
  have HU := Lib.hid hu
  have HV := Lib.hid hv
  clear h ha hb hu hv
  go_enter Tryd.func86, Tryd.ntmps86
  go_wp2_with fail
  go_loopw [10] (fun vi wr => ∃ t : Nat, t ≤ k ∧ vi = .int .i64 t ∧ Row C w0 base g n cap (exA p u m v q t) wr) (fun vi _ => k - (intOf vi).toNat)
  case atStart => exact ⟨0, Nat.zero_le _, rfl, HR.out.to (exA_start p u m v q).symm⟩
  case round =>
    obtain ⟨t, ht, rfl, hr⟩ := hrel
    have HRT := Lib.hid hr
    clear hr
    by_cases hlt : t < k
    · have huv : u.length = v.length := by rw [HU.out, HV.out]
      have htu : t < u.length := by rw [HU.out]; exact hlt
      have HUV := Lib.hid huv
      have HTU := Lib.hid htu
      have hx := exA_at1 p u m v q huv htu
      have hy := exA_at2 p u m v q huv htu
      obtain ⟨x, hxe⟩ : ∃ x, x = u[t]'(HTU.out) := ⟨_, rfl⟩
      obtain ⟨y, hye⟩ : ∃ y, y = v[t]'(HUV.out ▸ HTU.out) := ⟨_, rfl⟩
      obtain ⟨i, hi⟩ : ∃ i, i = a + t := ⟨_, rfl⟩
      obtain ⟨j, hj⟩ : ∃ j, j = b + t := ⟨_, rfl⟩
      have hin : i < n := by omega
      have hjn : j < n := by omega
      rw [HA.out, ← hi, ← hxe] at hx
      rw [HB.out, ← hj, ← hye] at hy
      have hcx := HRT.out.cells hin hx
      have hcy := HRT.out.cells hjn hy
      have hst := exA_step p u m v q huv htu
      rw [HB.out, HA.out, ← hi, ← hj, ← hxe, ← hye] at hst
      have HST := Lib.hid hst
      have HAN := Lib.hid hin
      have HBN := Lib.hid hjn
      have HX := Lib.hid hxe
      clear hx hy hst hxe hye huv htu
      have e1 : (a : Int) + (t : Int) = (i : Int) := by omega
      have e2 : (b : Int) + (t : Int) = (j : Int) := by omega
      have z1 : (i : Int) < (n : Int) := by omega
      have z2 : (j : Int) < (n : Int) := by omega
      have z3 : (0 : Int) ≤ (i : Int) := by omega
      have z4 : (0 : Int) ≤ (j : Int) := by omega
      have z5 : IntKind.i64.wrap (i : Int) = (i : Int) := by rw [IntKind.wrap_i64]; omega
      have z6 : IntKind.i64.wrap (j : Int) = (j : Int) := by rw [IntKind.wrap_i64]; omega
      have z7 : i < j := by have := HB.out; have := HA.out; have := HU.out; omega
      clear hi hj
      have d0 := hcx.c0
      have d1 := hcx.c1
      have d2 := hcx.c2
      have d3 := hcx.c3
      have d4 := hcx.c4
      have d5 := hcx.c5
      have d6 := hcx.c6
      have d7 := hcx.c7
      have f0 := hcy.c0
      have f1 := hcy.c1
      have f2 := hcy.c2
      have f3 := hcy.c3
      have f4 := hcy.c4
      have f5 := hcy.c5
      have f6 := hcy.c6
      have f7 := hcy.c7
      have fz : ∀ o, wr.frozen? ⟨g, o, none⟩ = false := fun o => HRT.out.free o
      clear hcx hcy
      go_wp2_with fail
      go_region
      have HR3 := Lib.hid ((HRT.out.put i HAN.out y).put j HBN.out x).drew
      clear d0 d1 d2 d3 d4 d5 d6 d7 f0 f1 f2 f3 f4 f5 f6 f7 fz
      clear e1 e2 z5 z6
      go_wp2_with fail
      go_roundw
      case rel => exact ⟨t + 1, hlt, by go_num, HR3.out.to HST.out⟩
      case measure => simp [intOf]; omega
    · have HE := Lib.hid (HRT.out.to (exA_end p u m v q (by rw [HU.out]; omega) (by rw [HV.out]; omega)))
      go_wp2_with fail
      go_end0
      exact ⟨rfl, HE.out⟩

set_option maxHeartbeats 4000000 in
theorem rotate {base g n cap : Nat} (a m b : Nat) (p u v q : List Tb) (w0 w : World) (h : Row C w0 base g n cap (p ++ (u ++ (v ++ q))) w) (ha : p.length = a) (hm : p.length + u.length = m) (hb : p.length + u.length + v.length = b) (hu0 : 0 < u.length) (hv0 : 0 < v.length) (hn : n ≤ 1000000) :
    Calls Tryd.prog 84 #[.slice (some ⟨g, 0, none⟩) n cap, .int .i64 a, .int .i64 m, .int .i64 b, (CMP C)] w (RowPost C w0 base g n cap (p ++ (v ++ (u ++ q)))) := by
  have hbn : b ≤ n := by rw [← h.len]; simp; omega
  obtain ⟨i0, hi0⟩ : ∃ i, i = u.length := ⟨_, rfl⟩
  obtain ⟨j0, hj0⟩ : ∃ j, j = v.length := ⟨_, rfl⟩
  have hmi : a + i0 = m := by omega
  have hbj : m + j0 = b := by omega
  obtain ⟨gl, hgl⟩ : ∃ l, l = p ++ (v ++ (u ++ q)) := ⟨_, rfl⟩
  have HRT0 := Lib.hid (show ∃ d, Row C w0 base g n cap d w ∧ Rot d gl m i0 j0 from ⟨_, h, ⟨p, u, v, q, rfl, hgl, hi0.symm, hj0.symm, hm⟩⟩)
  rw [← hgl]
  have hi1 : 0 < i0 := by omega
  have hj1 : 0 < j0 := by omega
  clear h ha hm hb hu0 hv0 hi0 hj0 hgl
  have HMI := Lib.hid hmi
  have HBJ := Lib.hid hbj
  have e1 : (m : Int) - (a : Int) = (i0 : Int) := by omega
  have e2 : (b : Int) - (m : Int) = (j0 : Int) := by omega
  have e3 : i0 ≤ m := by omega
  have e4 : i0 + j0 ≤ n := by omega
  have e5 : m ≤ n := by omega
  clear hmi hbj
  go_enter Tryd.func84, Tryd.ntmps84
  go_wp2_with fail
  clear e1 e2
  have hbn2 : m + j0 ≤ n := by rw [HBJ.out]; exact hbn
  go_loopw [10, 11] (fun vi vj wr => ∃ i j : Nat, 0 < i ∧ 0 < j ∧ i ≤ m ∧ m + j ≤ n ∧ vi = .int .i64 i ∧ vj = .int .i64 j ∧ ∃ d, Row C w0 base g n cap d wr ∧ Rot d gl m i j) (fun vi vj _ => (intOf vi).toNat + (intOf vj).toNat)
  case atStart => exact ⟨i0, j0, hi1, hj1, e3, hbn2, rfl, rfl, HRT0.out⟩
  case round =>
    obtain ⟨i, j, hi, hj, him, hjn, rfl, rfl, d, hr, ⟨p', U, V, q', rfl, hg, hU, hV, hp⟩⟩ := hrel
    have HR := Lib.hid hr
    have HG := Lib.hid hg
    have HU := Lib.hid hU
    have HV := Lib.hid hV
    have HP := Lib.hid hp
    clear hr hg hU hV hp
    by_cases hij : i = j
    · subst hij
      have z1 : ((i : Int) == (i : Int)) = true := by simp
      obtain ⟨s, hs⟩ : ∃ s, s = m - i := ⟨_, rfl⟩
      have HC := Lib.hid (swap_range s m i p' U [] V q' w0 wr (by simpa using HR.out) (by have := HU.out; have := HP.out; omega) (by simpa using HP.out) HU.out HV.out hn)
      have e1 : (m : Int) - (i : Int) = (s : Int) := by omega
      clear hs
      go_wp2_with fail
      refine HC.out.mono ?_
      rintro e w1 ⟨rfl, hr⟩
      have HR2 := Lib.hid hr
      clear hr
      go_wp2_with fail
      go_end0
      exact ⟨rfl, by rw [HG.out]; simpa using HR2.out⟩
    · have z1 : ((i : Int) == (j : Int)) = false := by simpa using (show ¬ (i : Int) = j by omega)
      have z0 : (i == j) = false := by simpa using hij
      by_cases hgt : j < i
      · obtain ⟨s, hs⟩ : ∃ s, s = m - i := ⟨_, rfl⟩
        obtain ⟨r, hr⟩ : ∃ r, r = i - j := ⟨_, rfl⟩
        obtain ⟨U1, U2, rfl, l1, l2⟩ : ∃ U1 U2, U = U1 ++ U2 ∧ U1.length = j ∧ U2.length = r := ⟨U.take j, U.drop j, (List.take_append_drop _ _).symm, by rw [List.length_take, HU.out]; omega, by rw [List.length_drop, HU.out]; omega⟩
        have HC := Lib.hid (swap_range s m j p' U1 U2 V q' w0 wr (by simpa only [List.append_assoc] using HR.out) (by have h1 := HU.out; have h2 := HP.out; rw [List.length_append] at h1 h2; omega) (by have h1 := HU.out; have h2 := HP.out; rw [List.length_append] at h1 h2; omega) l1 HV.out hn)
        have HN := Lib.hid (show Rot (p' ++ (V ++ (U2 ++ (U1 ++ q')))) gl m r j from ⟨p' ++ V, U2, U1, q', by simp, by rw [HG.out]; simp, l2, l1, by have h1 := HU.out; have h2 := HP.out; have h3 := HV.out; rw [List.length_append] at h1 h2 ⊢; omega⟩)
        have e1 : (m : Int) - (i : Int) = (s : Int) := by omega
        have e2 : (i : Int) - (j : Int) = (r : Int) := by omega
        have hr0 : 0 < r := by omega
        have hrm : r ≤ m := by omega
        have hri : r + j ≤ i := by omega
        clear l1 l2 hs hr hij
        go_wp2_with fail
        refine HC.out.mono ?_
        rintro e w1 ⟨rfl, hr⟩
        have HR2 := Lib.hid hr
        clear hr
        go_wp2_with fail
        go_roundw
        case rel => exact ⟨r, j, hr0, hj, hrm, hjn, rfl, rfl, _, HR2.out, HN.out⟩
        case measure => simp [intOf]; omega
      · obtain ⟨s, hs⟩ : ∃ s, s = m - i := ⟨_, rfl⟩
        obtain ⟨r, hr⟩ : ∃ r, r = j - i := ⟨_, rfl⟩
        obtain ⟨t, ht⟩ : ∃ t, t = m + j - i := ⟨_, rfl⟩
        obtain ⟨V1, V2, rfl, l1, l2⟩ : ∃ V1 V2, V = V1 ++ V2 ∧ V1.length = r ∧ V2.length = i := ⟨V.take r, V.drop r, (List.take_append_drop _ _).symm, by rw [List.length_take, HV.out]; omega, by rw [List.length_drop, HV.out]; omega⟩
        have HC := Lib.hid (swap_range s t i p' U V1 V2 q' w0 wr (by simpa only [List.append_assoc] using HR.out) (by have := HU.out; have := HP.out; omega) (by rw [l1]; have := HU.out; have := HP.out; omega) HU.out l2 hn)
        have HN := Lib.hid (show Rot (p' ++ (V2 ++ (V1 ++ (U ++ q')))) gl m i r from ⟨p', V2, V1, U ++ q', by simp, by rw [HG.out]; simp, l2, l1, by rw [l2]; have := HU.out; have := HP.out; omega⟩)
        have e1 : (m : Int) - (i : Int) = (s : Int) := by omega
        have e2 : (j : Int) - (i : Int) = (r : Int) := by omega
        have e6 : (m : Int) + (j : Int) - (i : Int) = (t : Int) := by omega
        have hr0 : 0 < r := by omega
        have hrn : m + r ≤ n := by omega
        have hri : r + i ≤ j := by omega
        clear l1 l2 hs hr ht hij
        go_wp2_with fail
        refine HC.out.mono ?_
        rintro e w1 ⟨rfl, hr⟩
        have HR2 := Lib.hid hr
        clear hr
        go_wp2_with fail
        go_roundw
        case rel => exact ⟨i, r, hi, hr0, him, hrn, rfl, rfl, _, HR2.out, HN.out⟩
        case measure => simp [intOf]; omega
end Go.Proofs.Tryd.Vr
