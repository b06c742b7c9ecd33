/- MergeRows: the walk. -/
import Derived.Test.YtggcdeabnibibaaMp6
import Derived.Test.YtggcdeabnibibaaMz5
import Derived.Test.YtggcdeabnibibaaMp4
set_option linter.unusedVariables false
set_option linter.unusedSimpArgs false
namespace Go.Proofs.Try.Mg
open Go.RowKit Go.Cph Go.Cph.Skip Go.Cph.So

theorem run_eq_same (x y : Ent) (w : World) : (binOp .eql TE (encP x) (encP y)).run Try.prog w = .ok (.bool (decide (x = y))) w := by
  rw [ent_eq]
  cases b0 : (x.1.toList == y.1.toList) <;> cases b1 : (x.2.1.toList == y.2.1.toList) <;> cases b2 : ((x.2.2.1.toNat : Int) == (y.2.2.1.toNat : Int)) <;> cases b3 : (x.2.2.2 == y.2.2.2) <;> go_simp
/-- Is a version of the key and the number among the first m? -/
def thereB (L : List Ent) (x : Ent) (m : Nat) : Bool := (L.take m).any fun y => decide (y.1 = x.1) && decide (y.2.2.1 = x.2.2.1)
theorem thereB_snoc (L : List Ent) (x y : Ent) {m : Nat} (h : L[m]? = some y) : thereB L x (m + 1) = (thereB L x m || (decide (y.1 = x.1) && decide (y.2.2.1 = x.2.2.1))) := by
  have hm : m < L.length := by
    refine Nat.lt_of_not_le fun h' => ?_
    rw [List.getElem?_eq_none h'] at h; cases h
  rw [List.getElem?_eq_getElem hm] at h
  injection h with h
  unfold thereB
  rw [List.take_succ_eq_append_getElem hm, List.any_append, h]; simp
def inB (K : List Ent) (x : Ent) (m : Nat) : Bool := (K.take m).any fun y => decide (y = x)
theorem inB_snoc (K : List Ent) (x y : Ent) {m : Nat} (h : K[m]? = some y) : inB K x (m + 1) = (inB K x m || decide (y = x)) := by
  have hm : m < K.length := by
    refine Nat.lt_of_not_le fun h' => ?_
    rw [List.getElem?_eq_none h'] at h; cases h
  rw [List.getElem?_eq_getElem hm] at h
  injection h with h
  unfold inB
  rw [List.take_succ_eq_append_getElem hm, List.any_append, h]; simp
theorem last_live1 {L K : List Ent} (hs : Strict ltE L) {bottom : Bool} {snaps : List UInt64} (hK : K = keepL L bottom snaps) {i : Nat} {x : Ent} (hx : K[i]? = some x) (hb : bottom = true) (hg : x.2.2.2 = true) : ∃ y, K[i + 1]? = some y ∧ y.1 = x.1 := by
  subst hb
  subst hK
  have hi : i < (keepL L true snaps).length := by
    refine Nat.lt_of_not_le fun h => ?_
    rw [List.getElem?_eq_none h] at hx; cases hx
  rw [List.getElem?_eq_getElem hi] at hx
  injection hx with hx
  obtain ⟨h1, h2⟩ := last_live hs hi (by rw [hx]; exact hg)
  exact ⟨_, List.getElem?_eq_getElem h1, by rw [h2, hx]⟩
theorem first_in {L K : List Ent} (hs : Strict ltE L) {bottom : Bool} {snaps : List UInt64} (hK : K = keepL L bottom snaps) {i : Nat} {x : Ent} (hx : L[i]? = some x) (hh : headB L i = true) (hg : bottom = false ∨ x.2.2.2 = false) : inB K x K.length = true := by
  subst hK
  unfold inB
  rw [List.take_of_length_le (Nat.le_refl _), List.any_eq_true]
  exact ⟨x, first_there hs hx hh hg, by simp⟩
set_option maxRecDepth 100000 in
set_option maxHeartbeats 16000000 in
theorem rows_walk (v : Value) (ls : List (List Ent)) (bottom : Bool) (no : Option Addr) (ncap : Nat) (snaps : List UInt64) (w : World) (h : EntsOf w v ls) (hlm : ls.length ≤ 9223372036854775807) (hls : ∀ l ∈ ls, l.length ≤ 9223372036854775807 ∧ ∀ a ∈ l, SizesOK a) (hnum : NumsAt w (.slice no snaps.length ncap) snaps) (hnl : snaps.length ≤ 9223372036854775807) :
    Calls Try.prog 8 #[v, .bool bottom, .slice no snaps.length ncap] w (AwPost w) := by
  have HG := Lib.hid (great_any 5 v ls w h (by omega) hlm (fun l hl => by unfold maxLen; exact (hls l hl).1) (fun l hl e he => (hls l hl).2 e he))
  obtain ⟨ao, cap, hv⟩ := h.slice
  subst hv
  have HL := Lib.hid h
  have HN := Lib.hid hnum
  clear h hls hlm hnum
  go_enter Try.func8, Try.ntmps8
  go_wp2_with fail
  refine HG.out.mono ?_
  rintro e w1 ⟨r, rfl, hr, hb⟩
  have HB1 := Lib.hid hb
  have HSM := Lib.hid hr
  clear hb hr HG
  cases r
  · by_cases hsn : snaps.length ≤ 10
    · have HSS := Lib.hid (HSM.out rfl)
      have hl5 : ls.length ≤ 5 := HSS.out.num
      have hfl : ls.flatten.length ≤ 300 := small_len HSS.out
      have HL1 := Lib.hid (HL.out.kept HB1.out)
      have HN1 := Lib.hid (HN.out.kept HB1.out)
      clear HSM HL HN
      have k0 : ¬ (10 : Int) < (snaps.length : Int) := by omega
      go_wp2_with fail
      refine (merge_any _ ls w1 HL1.out (by omega) (by omega)).mono ?_
      rintro e w2 ⟨v2, rfl, ho, hb⟩
      obtain ⟨L, hL⟩ : ∃ L, L = mergeL ltE ls.flatten := ⟨_, rfl⟩
      have hLs : Strict ltE L := by rw [hL]; exact mergeL_strict weakE _
      have hLl : L.length ≤ ls.flatten.length := by rw [hL]; exact mergeL_length weakE _
      have HTH := Lib.hid (show ∀ x ∈ ls.flatten, thereB L x L.length = true from fun x hx => by
        obtain ⟨y, hy, h1, h2⟩ := merge_there hx
        rw [← hL] at hy
        unfold thereB
        rw [List.take_of_length_le (Nat.le_refl _), List.any_eq_true]
        exact ⟨y, hy, by simp [h1, h2]⟩)
      rw [← hL] at ho
      obtain ⟨o7, c7, hv7⟩ := owns_slice1 ho
      subst hv7
      have HL2 := Lib.hid (show EntsAt w2 (.slice o7 L.length c7) L from Seg.of_owns ho)
      have HB2 := Lib.hid (below_step HB1.out hb HB1.out.size)
      have HN2 := Lib.hid (HN1.out.kept hb)
      have HV2 := Lib.hid (HL1.out.kept hb)
      have HLS := Lib.hid hLs
      clear ho hb hL hLs
      go_wp2_with fail
      refine (keep_any _ L bottom _ snaps w2 HL2.out (by omega) HN2.out (by omega)).mono ?_
      rintro e w3 ⟨v8, rfl, ho, hb⟩
      rw [mergeL_self weakE HLS.out] at ho
      obtain ⟨K, hK⟩ : ∃ K, K = keepL L bottom snaps := ⟨_, rfl⟩
      have hKL : K.length ≤ L.length := by rw [hK]; exact (keep_sub HLS.out bottom snaps).length_le
      have HKE := Lib.hid hK
      rw [← hK] at ho
      obtain ⟨o8, c8, hv8⟩ := owns_slice1 ho
      subst hv8
      have HK3 := Lib.hid (show EntsAt w3 (.slice o8 K.length c8) K from Seg.of_owns ho)
      have HL3 := Lib.hid (HL2.out.kept hb)
      have HV3 := Lib.hid (HV2.out.kept hb)
      have HB3 := Lib.hid (below_step HB2.out hb HB2.out.size)
      clear ho hb hK
      have HR1 := Lib.hid (right_any _ L w3 HL3.out (by omega))
      rw [rightL_iff.2 HLS.out] at HR1
      go_wp2_with fail
      refine HR1.out.mono ?_
      rintro e w4 ⟨rfl, hb⟩
      have HK4 := Lib.hid (HK3.out.kept hb)
      have HL4 := Lib.hid (HL3.out.kept hb)
      have HV4 := Lib.hid (HV3.out.kept hb)
      have HB4 := Lib.hid (below_step HB3.out hb HB3.out.size)
      clear hb HR1
      have HR2 := Lib.hid (right_any _ K w4 HK4.out (by omega))
      rw [rightL_iff.2 (by rw [HKE.out]; exact keep_strict HLS.out bottom snaps)] at HR2
      go_wp2_with fail
      refine HR2.out.mono ?_
      rintro e w5 ⟨rfl, hb⟩
      have HK5 := Lib.hid (HK4.out.kept hb)
      have HL5 := Lib.hid (HL4.out.kept hb)
      have HV5 := Lib.hid (HV4.out.kept hb)
      have HB5 := Lib.hid (below_step HB4.out hb HB4.out.size)
      clear hb HR2
      go_wp2_with fail
      have HBR := Lib.hid (Below.refl w5.heap.size w5)
      go_loopw [9, 10] (fun vn vi W => ∃ (i n : Nat), i ≤ ls.length ∧ vi = .int .i64 i ∧ vn = .int .i64 n ∧ n = (ls.take i).flatten.length ∧ Below w5.heap.size w5 W) (fun _ vi _ => ls.length - (intOf vi).toNat)
      case atStart => exact ⟨0, 0, Nat.zero_le _, rfl, rfl, by simp, Below.refl _ _⟩
      case round =>
        obtain ⟨wa, rfl⟩ : ∃ wa : World, wa = wr := ⟨_, rfl⟩
        obtain ⟨i, n, hi, rfl, rfl, hn, hbel⟩ := hrel
        have HBE := Lib.hid hbel
        have HNN := Lib.hid hn
        by_cases hlt : i < ls.length
        · obtain ⟨b7, off7, cap7, hve, hcs7⟩ := (HV5.out.kept hbel).cell (by omega)
          injection hve with hx1 hx2 hx3
          subst hx1
          clear hx2 hx3
          obtain ⟨u7, hu7, hue7⟩ := hcs7 i hlt
          have hnx := flat_next ls i hlt
          have hfle := flat_le ls (i + 1)
          rw [hnx, ← hn] at hfle
          rw [← hn] at hnx
          obtain ⟨g, hg⟩ : ∃ g, g = ls[i] := ⟨_, rfl⟩
          have HGM := Lib.hid (show ∀ x ∈ g, x ∈ ls.flatten from fun x hx => List.mem_flatten.2 ⟨g, by rw [hg]; exact List.getElem_mem _, hx⟩)
          rw [← hg] at hue7 hfle hnx
          obtain ⟨p4, p5, p6⟩ := elems_slice hue7
          subst p6
          have HUE := Lib.hid hue7
          have HU7 := Lib.hid hu7
          obtain ⟨n', hn'⟩ : ∃ n', n' = n + g.length := ⟨_, rfl⟩
          have HNX := Lib.hid (hnx.trans hn'.symm)
          have k1 : (0 : Int) ≤ (i : Int) := by omega
          have k2 : (i : Int) < (ls.length : Int) := by omega
          have k3 : IntKind.i64.wrap ((n : Int) + (g.length : Int)) = (n' : Int) := by rw [IntKind.wrap_i64]; omega
          have k4 : IntKind.i64.wrap ((i : Int) + 1) = (i : Int) + 1 := by rw [IntKind.wrap_i64]; omega
          have hgl : g.length ≤ 300 := by omega
          clear hbel hn hcs7 hue7 hnx hg hn' hfle
          go_wp2_with fail
          have HWB := Lib.hid (Below.refl wa.heap.size wa)
          go_loopw [11] (fun vj W => ∃ j : Nat, j ≤ g.length ∧ vj = .int .i64 j ∧ Below wa.heap.size wa W) (fun vj _ => g.length - (intOf vj).toNat)
          case atStart => exact ⟨0, Nat.zero_le _, rfl, HWB.out⟩
          case round =>
            obtain ⟨wb, rfl⟩ : ∃ wb : World, wb = wr := ⟨_, rfl⟩
            obtain ⟨j, hj, rfl, hbj⟩ := hrel
            have HBJ := Lib.hid hbj
            by_cases hjl : j < g.length
            · obtain ⟨x, hx⟩ : ∃ x, g[j]? = some x := ⟨_, List.getElem?_eq_getElem hjl⟩
              obtain ⟨gb, go, gc, hve, hcg⟩ := ents_cells (HUE.out.kept hbj) (by omega)
              injection hve with hx1 hx2 hx3
              subst hx1
              clear hx2 hx3
              have hcx := hcg j hjl
              rw [show g[j] = x from Option.some.inj ((List.getElem?_eq_getElem hjl).symm.trans hx)] at hcx
              have HCX := Lib.hid hcx
              have HT := Lib.hid (HTH.out x (HGM.out x (List.mem_of_getElem? hx)))
              have HUJ := Lib.hid (cell_kept hbj HU7.out)
              have HBW := Lib.hid (below_step HBE.out hbj HBE.out.size)
              have j1 : (0 : Int) ≤ (j : Int) := by omega
              have j2 : (j : Int) < (g.length : Int) := by omega
              have j4 : IntKind.i64.wrap ((j : Int) + 1) = (j : Int) + 1 := by rw [IntKind.wrap_i64]; omega
              have hu8 := HUJ.out
              clear hbj hcg hcx hx hu7
              go_wp2_with fail
              go_loopw [12, 13] (fun vb vm W => ∃ (m : Nat) (tb : Bool), m ≤ L.length ∧ vm = .int .i64 m ∧ vb = .bool tb ∧ tb = thereB L x m ∧ Below wb.heap.size wb W) (fun _ vm _ => L.length - (intOf vm).toNat)
              case atStart => exact ⟨0, false, Nat.zero_le _, rfl, rfl, by simp [thereB], Below.refl _ _⟩
              case round =>
                obtain ⟨wc, rfl⟩ : ∃ wc : World, wc = wr := ⟨_, rfl⟩
                obtain ⟨m, tb, hm, rfl, rfl, htb, hbm⟩ := hrel
                have HTB := Lib.hid htb
                have HBM := Lib.hid hbm
                by_cases hml : m < L.length
                · obtain ⟨y, hy⟩ : ∃ y, L[m]? = some y := ⟨_, List.getElem?_eq_getElem hml⟩
                  have HY := Lib.hid hy
                  obtain ⟨lb, lo, lc, hve, hcl⟩ := ents_cells (HL5.out.kept (below_step HBW.out hbm HBW.out.size)) (by omega)
                  injection hve with hx1 hx2 hx3
                  subst hx1
                  clear hx2 hx3
                  have hcy := hcl m hml
                  rw [show L[m] = y from Option.some.inj ((List.getElem?_eq_getElem hml).symm.trans hy)] at hcy
                  have hcx := HCX.out.kept hbm
                  have u9 := cell_kept hbm HUJ.out
                  have d0 := hcy.c0
                  have d2 := hcy.c2
                  have e0 := hcx.c0
                  have e2 := hcx.c2
                  have m1 : (0 : Int) ≤ (m : Int) := by omega
                  have m2 : (m : Int) < (L.length : Int) := by omega
                  have m4 : IntKind.i64.wrap ((m : Int) + 1) = (m : Int) + 1 := by rw [IntKind.wrap_i64]; omega
                  have HD := Lib.hid (show ∀ nq, Below wb.heap.size wb (wc.drewN nq) from fun nq => below_step HBM.out (show Below wc.heap.size wc (wc.drewN nq) from ⟨rfl, rfl, rfl, Nat.le_refl _, fun _ _ => rfl⟩) HBM.out.size)
                  clear hbm hcl hcx hcy hy htb hu8
                  cases tb
                  · by_cases hky : y.1 = x.1
                    · have j5 : (y.1.toList == x.1.toList) = true := by rw [beq_toList]; simpa using hky
                      by_cases hse : y.2.2.1 = x.2.2.1
                      · have j7 : ((y.2.2.1.toNat : Int) == (x.2.2.1.toNat : Int)) = true := by rw [hse]; simp
                        have j8 : (y.2.2.1.toNat == x.2.2.1.toNat) = true := by rw [hse]; simp
                        go_wp2_with fail
                        go_quiet (fail)
                        clear d0 d2 e0 e2 u9
                        have HBQ := Lib.hid (HD.out nq)
                        generalize wc.drewN nq = wq at *
                        go_wp2_with fail
                        go_roundw
                        case rel => exact ⟨m + 1, true, hml, by go_num, rfl, by rw [thereB_snoc L x y HY.out, ← HTB.out]; simp [hky, hse], HBQ.out⟩
                        case measure => simp [intOf]; omega
                      · have hzn : y.2.2.1.toNat ≠ x.2.2.1.toNat := fun e => hse (UInt64.toNat_inj.1 e)
                        have j7 : ((y.2.2.1.toNat : Int) == (x.2.2.1.toNat : Int)) = false := by simp; omega
                        have j8 : (y.2.2.1.toNat == x.2.2.1.toNat) = false := by simpa using hzn
                        go_wp2_with fail
                        go_quiet (fail)
                        clear d0 d2 e0 e2 u9
                        have HBQ := Lib.hid (HD.out nq)
                        generalize wc.drewN nq = wq at *
                        go_wp2_with fail
                        go_roundw
                        case rel => exact ⟨m + 1, false, hml, by go_num, rfl, by rw [thereB_snoc L x y HY.out, ← HTB.out]; simp [hse], HBQ.out⟩
                        case measure => simp [intOf]; omega
                    · have j5 : (y.1.toList == x.1.toList) = false := by rw [beq_toList]; simpa using hky
                      go_wp2_with fail
                      go_quiet (fail)
                      clear d0 d2 e0 e2 u9
                      have HBQ := Lib.hid (HD.out nq)
                      generalize wc.drewN nq = wq at *
                      go_wp2_with fail
                      go_roundw
                      case rel => exact ⟨m + 1, false, hml, by go_num, rfl, by rw [thereB_snoc L x y HY.out, ← HTB.out]; simp [hky], HBQ.out⟩
                      case measure => simp [intOf]; omega
                  · clear d0 d2 e0 e2 u9
                    go_wp2_with fail
                    go_quiet (fail)
                    have HBQ := Lib.hid (HD.out nq)
                    generalize wc.drewN nq = wq at *
                    go_wp2_with fail
                    go_roundw
                    case rel => exact ⟨m + 1, true, hml, by go_num, rfl, by rw [thereB_snoc L x y HY.out, ← HTB.out]; simp [], HBQ.out⟩
                    case measure => simp [intOf]; omega
                · obtain rfl : m = L.length := by omega
                  obtain rfl : tb = true := by rw [htb]; exact HT.out
                  have HBX := Lib.hid (below_step HBJ.out hbm HBJ.out.size)
                  clear hbm htb
                  go_wp2_with fail
                  go_roundw
                  case rel => exact ⟨j + 1, hjl, by go_num, HBX.out⟩
                  case measure => simp [intOf]; omega
            · have HBX := Lib.hid (below_step HBE.out hbj HBE.out.size)
              have hu8 := cell_kept hbj HU7.out
              clear hbj hu7
              go_wp2_with fail
              go_roundw
              case rel => exact ⟨i + 1, n', hlt, by go_num, rfl, HNX.out.symm, HBX.out⟩
              case measure => simp [intOf]; omega
        · have hnn : n = ls.flatten.length := by rw [hn, List.take_of_length_le (by omega)]
          have k5 : ¬ n < L.length := by omega
          have k5b : decide (n < L.length) = false := by simp; omega
          have k5c : ¬ (n : Int) < (L.length : Int) := by omega
          have k6 : ¬ L.length < K.length := by omega
          have k6b : decide (L.length < K.length) = false := by simp; omega
          have k6c : ¬ (L.length : Int) < (K.length : Int) := by omega
          have HKS := Lib.hid (show K.Sublist L from by rw [HKE.out]; exact keep_sub HLS.out bottom snaps)
          clear hbel hn hnn
          go_wp2_with fail
          clear k5 k5b k5c k6 k6b k6c
          go_loopw [14, 15] (fun va vi W => ∃ (i q : Nat), i ≤ K.length ∧ vi = .int .i64 i ∧ va = .int .i64 q ∧ q ≤ L.length ∧ (K.drop i).Sublist (L.drop q) ∧ Below w5.heap.size w5 W) (fun _ vi _ => K.length - (intOf vi).toNat)
          case atStart => exact ⟨0, 0, Nat.zero_le _, rfl, rfl, Nat.zero_le _, HKS.out, HBE.out⟩
          case round =>
            obtain ⟨wb, rfl⟩ : ∃ wb : World, wb = wr := ⟨_, rfl⟩
            clear hlt
            obtain ⟨i, q, hi, rfl, rfl, hq, hsub, hbi⟩ := hrel
            have HBI := Lib.hid hbi
            have HSB := Lib.hid hsub
            by_cases hlt : i < K.length
            · obtain ⟨x, hx⟩ : ∃ x, K[i]? = some x := ⟨_, List.getElem?_eq_getElem hlt⟩
              have HX := Lib.hid hx
              have hdr : K.drop i = x :: K.drop (i + 1) := by
                rw [List.drop_eq_getElem_cons hlt, show K[i] = x from Option.some.inj ((List.getElem?_eq_getElem hlt).symm.trans hx)]
              have HDR := Lib.hid hdr
              obtain ⟨kb, ko, kc, hve, hck⟩ := ents_cells (HK5.out.kept hbi) (by omega)
              injection hve with hx1 hx2 hx3
              subst hx1
              clear hx2 hx3
              have HCK := Lib.hid (show ∀ j y, K[j]? = some y → CellsOf wb kb (ko + j * 4) y from fun j y hy => by
                have hj : j < K.length := by
                  refine Nat.lt_of_not_le fun h => ?_
                  rw [List.getElem?_eq_none h] at hy; cases hy
                rw [List.getElem?_eq_getElem hj] at hy; cases hy; exact hck j hj)
              have k1 : (0 : Int) ≤ (i : Int) := by omega
              have k2 : (i : Int) < (K.length : Int) := by omega
              have k4 : IntKind.i64.wrap ((i : Int) + 1) = (i : Int) + 1 := by rw [IntKind.wrap_i64]; omega
              clear hbi hsub hx hdr hck
              go_wp2_with fail
              go_loopw [14] (fun va W => ∃ q : Nat, va = .int .i64 q ∧ q ≤ L.length ∧ (K.drop i).Sublist (L.drop q) ∧ Below wb.heap.size wb W) (fun va _ => L.length - (intOf va).toNat)
              case atStart => exact ⟨q, rfl, hq, HSB.out, Below.refl _ _⟩
              case round =>
                obtain ⟨wc, rfl⟩ : ∃ wc : World, wc = wr := ⟨_, rfl⟩
                clear hq HSB
                obtain ⟨q, rfl, hq, hsub, hbq⟩ := hrel
                have HBC := Lib.hid hbq
                have hql : q < L.length := by
                  refine Nat.lt_of_not_le fun h => ?_
                  rw [HDR.out, List.drop_of_length_le h] at hsub
                  cases hsub
                obtain ⟨y, hy⟩ : ∃ y, y = L[q] := ⟨_, rfl⟩
                have hdl : L.drop q = y :: L.drop (q + 1) := by rw [List.drop_eq_getElem_cons hql, hy]
                have HSB := Lib.hid hsub
                have HDL := Lib.hid hdl
                have hbw := below_step HBI.out hbq HBI.out.size
                obtain ⟨lb, lo, lc, hve, hcl⟩ := ents_cells (HL5.out.kept hbw) (by omega)
                injection hve with hx1 hx2 hx3
                subst hx1
                clear hx2 hx3
                have hcy := hcl q hql
                rw [← hy] at hcy
                have hcx := (HCK.out i x HX.out).kept hbq
                have d0 := hcy.c0
                have d1 := hcy.c1
                have d2 := hcy.c2
                have d3 := hcy.c3
                have e0 := hcx.c0
                have e1 := hcx.c1
                have e2 := hcx.c2
                have e3 := hcx.c3
                have m1 : (0 : Int) ≤ (q : Int) := by omega
                have m2 : (q : Int) < (L.length : Int) := by omega
                have m4 : IntKind.i64.wrap ((q : Int) + 1) = (q : Int) + 1 := by rw [IntKind.wrap_i64]; omega
                have hne := fun W => run_neq_same y x W
                have HNE := Lib.hid hne
                have HD := Lib.hid (show ∀ nq, Below wb.heap.size wb (wc.drewN nq) from fun nq => below_step HBC.out (show Below wc.heap.size wc (wc.drewN nq) from ⟨rfl, rfl, rfl, Nat.le_refl _, fun _ _ => rfl⟩) HBC.out.size)
                clear hne hbq hsub hdl hbw hcl hcy hcx hy
                by_cases hyx : y = x
                · have w1' : (!decide (y = x)) = false := by simp [hyx]
                  have hne := HNE.out
                  rw [w1'] at hne
                  have HST := Lib.hid (show (K.drop (i + 1)).Sublist (L.drop (q + 1)) from by
                    have := HSB.out
                    rw [HDR.out, HDL.out, hyx] at this
                    exact sub_step this)
                  clear w1' hyx
                  have m5 : ((q : Int) == (L.length : Int)) = false := by simp; omega
                  go_wp2_with fail
                  go_quiet (fail)
                  clear hne d0 d1 d2 d3 e0 e1 e2 e3
                  have HBQ := Lib.hid (HD.out nq)
                  generalize wc.drewN nq = wq at *
                  have hcx := (HCK.out i x HX.out).kept HBQ.out
                  have e0 := hcx.c0
                  have HD2 := Lib.hid (show ∀ nq, Below wb.heap.size wb (wq.drewN nq) from fun nq => below_step HBQ.out (show Below wq.heap.size wq (wq.drewN nq) from ⟨rfl, rfl, rfl, Nat.le_refl _, fun _ _ => rfl⟩) HBQ.out.size)
                  have HGN := Lib.hid (fun hb hg => last_live1 HLS.out HKE.out HX.out hb hg)
                  have s0 : IntKind.i64.wrap ((K.length : Int) - 1) = (K.length : Int) - 1 := by rw [IntKind.wrap_i64]; omega
                  clear hcx
                  by_cases hlast : i + 1 = K.length
                  · have s1 : ((i : Int) == (K.length : Int) - 1) = true := by simp; omega
                    have HNO := Lib.hid (show ¬ ∃ y, K[i + 1]? = some y ∧ y.1 = x.1 from fun ⟨y, hy, _⟩ => by rw [List.getElem?_eq_none (by omega)] at hy; cases hy)
                    clear hlast
                    cases bottom
                    · go_wp2_with fail
                      go_quiet (fail)
                      clear e0
                      have HBR2 := Lib.hid (HD2.out nq)
                      generalize wq.drewN nq = wr2 at *
                      go_wp2_with fail
                      go_roundw
                      case rel => exact ⟨i + 1, q + 1, hlt, by go_num, by go_num, hql, HST.out, below_step HBI.out HBR2.out HBI.out.size⟩
                      case measure => simp [intOf]; omega
                    · have hg : x.2.2.2 = false := by
                        cases h : x.2.2.2
                        · rfl
                        · exact absurd (HGN.out rfl h) HNO.out
                      have HGG := Lib.hid hg
                      clear hg
                      go_wp2_with fail
                      go_quiet (fail)
                      clear e0
                      have HBR2 := Lib.hid (HD2.out nq)
                      generalize wq.drewN nq = wr2 at *
                      have e3 := ((HCK.out i x HX.out).kept HBR2.out).c3
                      rw [HGG.out] at e3
                      go_wp2_with fail
                      go_roundw
                      case rel => exact ⟨i + 1, q + 1, hlt, by go_num, by go_num, hql, HST.out, below_step HBI.out HBR2.out HBI.out.size⟩
                      case measure => simp [intOf]; omega
                  · obtain ⟨z, hz⟩ : ∃ z, K[i + 1]? = some z := ⟨_, List.getElem?_eq_getElem (show i + 1 < K.length by omega)⟩
                    have hcz := (HCK.out (i + 1) z hz).kept HBQ.out
                    have f0 := hcz.c0
                    have s1 : ((i : Int) == (K.length : Int) - 1) = false := by simp; omega
                    have s2 : (0 : Int) ≤ (i : Int) + 1 := by omega
                    have s3 : (i : Int) + 1 < (K.length : Int) := by omega
                    have s4 : ((i : Int) + 1).toNat = i + 1 := by omega
                    clear hcz hlast
                    by_cases hky : z.1 = x.1
                    · have j7 : (z.1.toList == x.1.toList) = true := by rw [beq_toList]; simpa using hky
                      clear hky hz
                      cases bottom
                      · go_wp2_with fail
                        go_quiet (fail)
                        clear e0 f0
                        have HBR2 := Lib.hid (HD2.out nq)
                        generalize wq.drewN nq = wr2 at *
                        go_wp2_with fail
                        go_roundw
                        case rel => exact ⟨i + 1, q + 1, hlt, by go_num, by go_num, hql, HST.out, below_step HBI.out HBR2.out HBI.out.size⟩
                        case measure => simp [intOf]; omega
                      · go_wp2_with fail
                        go_quiet (fail)
                        clear e0 f0
                        have HBR2 := Lib.hid (HD2.out nq)
                        generalize wq.drewN nq = wr2 at *
                        go_wp2_with fail
                        go_roundw
                        case rel => exact ⟨i + 1, q + 1, hlt, by go_num, by go_num, hql, HST.out, below_step HBI.out HBR2.out HBI.out.size⟩
                        case measure => simp [intOf]; omega
                    · have j7 : (z.1.toList == x.1.toList) = false := by rw [beq_toList]; simpa using hky
                      have HNO := Lib.hid (show ¬ ∃ y, K[i + 1]? = some y ∧ y.1 = x.1 from fun ⟨y, hy, h1⟩ => by rw [hz] at hy; injection hy with hy; subst hy; exact hky h1)
                      clear hky hz
                      cases bottom
                      · go_wp2_with fail
                        go_quiet (fail)
                        clear e0 f0
                        have HBR2 := Lib.hid (HD2.out nq)
                        generalize wq.drewN nq = wr2 at *
                        go_wp2_with fail
                        go_roundw
                        case rel => exact ⟨i + 1, q + 1, hlt, by go_num, by go_num, hql, HST.out, below_step HBI.out HBR2.out HBI.out.size⟩
                        case measure => simp [intOf]; omega
                      · have hg : x.2.2.2 = false := by
                          cases h : x.2.2.2
                          · rfl
                          · exact absurd (HGN.out rfl h) HNO.out
                        have HGG := Lib.hid hg
                        clear hg
                        go_wp2_with fail
                        go_quiet (fail)
                        clear e0 f0
                        have HBR2 := Lib.hid (HD2.out nq)
                        generalize wq.drewN nq = wr2 at *
                        have e3 := ((HCK.out i x HX.out).kept HBR2.out).c3
                        rw [HGG.out] at e3
                        go_wp2_with fail
                        go_roundw
                        case rel => exact ⟨i + 1, q + 1, hlt, by go_num, by go_num, hql, HST.out, below_step HBI.out HBR2.out HBI.out.size⟩
                        case measure => simp [intOf]; omega
                · have w1' : (!decide (y = x)) = true := by simp [hyx]
                  have hne := HNE.out
                  rw [w1'] at hne
                  have HST := Lib.hid (show (K.drop i).Sublist (L.drop (q + 1)) from by
                    have := HSB.out
                    rw [HDR.out, HDL.out] at this
                    rw [HDR.out]
                    exact sub_skip this hyx)
                  clear w1' hyx
                  go_wp2_with fail
                  go_quiet (fail)
                  clear hne d0 d1 d2 d3 e0 e1 e2 e3
                  have HBQ := Lib.hid (HD.out nq)
                  generalize wc.drewN nq = wq at *
                  go_wp2_with fail
                  go_roundw
                  case rel => exact ⟨q + 1, by go_num, hql, HST.out, HBQ.out⟩
                  case measure => simp [intOf]; omega
            · obtain rfl : i = K.length := by omega
              clear hsub HSB hbi
              go_wp2_with fail
              go_loopw [17] (fun vi W => ∃ i : Nat, i ≤ L.length ∧ vi = .int .i64 i ∧ Below w5.heap.size w5 W) (fun vi _ => L.length - (intOf vi).toNat)
              case atStart => exact ⟨0, Nat.zero_le _, rfl, HBI.out⟩
              case round =>
                clear HBI hi hlt hq
                obtain ⟨wc, rfl⟩ : ∃ wc : World, wc = wr := ⟨_, rfl⟩
                obtain ⟨i, hi, rfl, hbi⟩ := hrel
                have HBI := Lib.hid hbi
                by_cases hlt : i < L.length
                · obtain ⟨x, hx⟩ : ∃ x, L[i]? = some x := ⟨_, List.getElem?_eq_getElem hlt⟩
                  have HX := Lib.hid hx
                  obtain ⟨lb, lo, lc, hve, hcl⟩ := ents_cells (HL5.out.kept hbi) (by omega)
                  injection hve with hx1 hx2 hx3
                  subst hx1
                  clear hx2 hx3
                  have HCL := Lib.hid (show ∀ j y, L[j]? = some y → CellsOf wc lb (lo + j * 4) y from fun j y hy => by
                    have hj : j < L.length := by
                      refine Nat.lt_of_not_le fun h => ?_
                      rw [List.getElem?_eq_none h] at hy; cases hy
                    rw [List.getElem?_eq_getElem hj] at hy; cases hy; exact hcl j hj)
                  have HCX := Lib.hid (HCL.out i x hx)
                  have HFT := Lib.hid (fun hh hg => first_in HLS.out HKE.out hx hh hg)
                  have HD := Lib.hid (show ∀ nq, Below wc.heap.size wc (wc.drewN nq) from fun nq => ⟨rfl, rfl, rfl, Nat.le_refl _, fun _ _ => rfl⟩)
                  have k1 : (0 : Int) ≤ (i : Int) := by omega
                  have k2 : (i : Int) < (L.length : Int) := by omega
                  have k4 : IntKind.i64.wrap ((i : Int) + 1) = (i : Int) + 1 := by rw [IntKind.wrap_i64]; omega
                  have d0 := HCX.out.c0
                  clear hbi hcl hx
                  by_cases hi0 : i = 0
                  · have s1 : ((i : Int) == 0) = true := by simp; omega
                    have HH := Lib.hid (show headB L i = true by rw [hi0]; rfl)
                    clear hi0
                    go_wp2_with fail
                    go_quiet (fail)
                    clear d0 s1
                    have HBQ := Lib.hid (HD.out nq)
                    generalize wc.drewN nq = wq at *
                    have HCQ := Lib.hid (show ∀ W, Below wq.heap.size wq W → CellsOf W lb (lo + i * 4) x from fun W h => HCX.out.kept (below_step HBQ.out h HBQ.out.size))
                    have HBW := Lib.hid (below_step HBI.out HBQ.out HBI.out.size)
                    go_wp2_with fail
                    go_loopw [19, 20] (fun vb vm W => ∃ (m : Nat) (tb : Bool), m ≤ K.length ∧ vm = .int .i64 m ∧ vb = .bool tb ∧ tb = inB K x m ∧ Below wq.heap.size wq W) (fun _ vm _ => K.length - (intOf vm).toNat)
                    case atStart => exact ⟨0, false, Nat.zero_le _, rfl, rfl, by simp [inB], Below.refl _ _⟩
                    case round =>
                      obtain ⟨wd, rfl⟩ : ∃ wd : World, wd = wr := ⟨_, rfl⟩
                      obtain ⟨m, tb, hm, rfl, rfl, htb, hbm⟩ := hrel
                      have HTB := Lib.hid htb
                      have HBM := Lib.hid hbm
                      by_cases hml : m < K.length
                      · obtain ⟨y, hy⟩ : ∃ y, K[m]? = some y := ⟨_, List.getElem?_eq_getElem hml⟩
                        have HY := Lib.hid hy
                        obtain ⟨kb, ko, kc, hve, hck⟩ := ents_cells (HK5.out.kept (below_step HBW.out hbm HBW.out.size)) (by omega)
                        injection hve with hx1 hx2 hx3
                        subst hx1
                        clear hx2 hx3
                        have hcy := hck m hml
                        rw [show K[m] = y from Option.some.inj ((List.getElem?_eq_getElem hml).symm.trans hy)] at hcy
                        have hcx := HCQ.out wd hbm
                        have d0 := hcy.c0
                        have d1 := hcy.c1
                        have d2 := hcy.c2
                        have d3 := hcy.c3
                        have e0 := hcx.c0
                        have e1 := hcx.c1
                        have e2 := hcx.c2
                        have e3 := hcx.c3
                        have m1 : (0 : Int) ≤ (m : Int) := by omega
                        have m2 : (m : Int) < (K.length : Int) := by omega
                        have m4 : IntKind.i64.wrap ((m : Int) + 1) = (m : Int) + 1 := by rw [IntKind.wrap_i64]; omega
                        have hne := fun W => run_eq_same y x W
                        have HNE := Lib.hid hne
                        have HD2 := Lib.hid (show ∀ nq, Below wq.heap.size wq (wd.drewN nq) from fun nq => below_step HBM.out (show Below wd.heap.size wd (wd.drewN nq) from ⟨rfl, rfl, rfl, Nat.le_refl _, fun _ _ => rfl⟩) HBM.out.size)
                        clear hne hbm hck hcx hcy hy htb
                        cases tb
                        · by_cases hyx : y = x
                          · have hne := HNE.out
                            rw [show decide (y = x) = true by simp [hyx]] at hne
                            have HIN := Lib.hid (show true = inB K x (m + 1) by rw [inB_snoc K x y HY.out]; simp [hyx])
                            clear hyx
                            go_wp2_with fail
                            go_quiet (fail)
                            clear hne d0 d1 d2 d3 e0 e1 e2 e3
                            have HBE2 := Lib.hid (HD2.out nq)
                            generalize wd.drewN nq = we at *
                            go_wp2_with fail
                            go_roundw
                            case rel => exact ⟨m + 1, true, hml, by go_num, rfl, HIN.out, HBE2.out⟩
                            case measure => simp [intOf]; omega
                          · have hne := HNE.out
                            rw [show decide (y = x) = false by simp [hyx]] at hne
                            have HIN := Lib.hid (show false = inB K x (m + 1) by rw [inB_snoc K x y HY.out, ← HTB.out]; simp [hyx])
                            clear hyx
                            go_wp2_with fail
                            go_quiet (fail)
                            clear hne d0 d1 d2 d3 e0 e1 e2 e3
                            have HBE2 := Lib.hid (HD2.out nq)
                            generalize wd.drewN nq = we at *
                            go_wp2_with fail
                            go_roundw
                            case rel => exact ⟨m + 1, false, hml, by go_num, rfl, HIN.out, HBE2.out⟩
                            case measure => simp [intOf]; omega
                        · clear d0 d1 d2 d3 e0 e1 e2 e3
                          have HIN := Lib.hid (show true = inB K x (m + 1) by rw [inB_snoc K x y HY.out, ← HTB.out]; simp)
                          go_wp2_with fail
                          go_quiet (fail)
                          have HBE2 := Lib.hid (HD2.out nq)
                          generalize wd.drewN nq = we at *
                          go_wp2_with fail
                          go_roundw
                          case rel => exact ⟨m + 1, true, hml, by go_num, rfl, HIN.out, HBE2.out⟩
                          case measure => simp [intOf]; omega
                      · obtain rfl : m = K.length := by omega
                        have HBX := Lib.hid (below_step HBW.out hbm HBW.out.size)
                        cases tb
                        · have HFF := Lib.hid (show bottom = true ∧ x.2.2.2 = true from by
                            have h0 := fun hg => HTB.out.trans (HFT.out HH.out hg)
                            cases bottom
                            · exact absurd (h0 (Or.inl rfl)) (by simp)
                            · cases h : x.2.2.2
                              · exact absurd (h0 (Or.inr h)) (by simp)
                              · exact ⟨rfl, rfl⟩)
                          have e3 := (HCQ.out wd hbm).c3
                          rw [HFF.out.2] at e3
                          obtain rfl : bottom = true := HFF.out.1
                          clear hbm htb
                          go_wp2_with fail
                          clear e3
                          go_roundw
                          case rel => exact ⟨i + 1, hlt, by go_num, HBX.out⟩
                          case measure => simp [intOf]; omega
                        · clear hbm htb
                          go_wp2_with fail
                          go_roundw
                          case rel => exact ⟨i + 1, hlt, by go_num, HBX.out⟩
                          case measure => simp [intOf]; omega
                  · obtain ⟨m, hm⟩ : ∃ m, i = m + 1 := ⟨i - 1, by omega⟩
                    obtain ⟨y, hy⟩ : ∃ y, L[m]? = some y := ⟨_, List.getElem?_eq_getElem (show m < L.length by omega)⟩
                    have hcy := HCL.out m y hy
                    have e0 := hcy.c0
                    have hh : headB L i = decide (y.1 ≠ x.1) := by
                      have h2 := HX.out
                      rw [hm] at h2 ⊢
                      unfold headB
                      simp only
                      rw [hy, h2]
                      simp
                    have s1 : ((i : Int) == 0) = false := by simp; omega
                    have j3 : IntKind.i64.wrap ((i : Int) - 1) = (i : Int) - 1 := by rw [IntKind.wrap_i64]; omega
                    have j4 : (0 : Int) ≤ (i : Int) - 1 := by omega
                    have j5 : (i : Int) - 1 < (L.length : Int) := by omega
                    have j6 : ((i : Int) - 1).toNat = m := by omega
                    by_cases hky : y.1 = x.1
                    · have j7 : (y.1.toList == x.1.toList) = true := by rw [beq_toList]; simpa using hky
                      clear hi0 hm hcy hy hh hky
                      go_wp2_with fail
                      go_quiet (fail)
                      clear e0 j3 j4 j5 j6 j7
                      clear d0 s1
                      have HBQ := Lib.hid (HD.out nq)
                      generalize wc.drewN nq = wq at *
                      have HCQ := Lib.hid (show ∀ W, Below wq.heap.size wq W → CellsOf W lb (lo + i * 4) x from fun W h => HCX.out.kept (below_step HBQ.out h HBQ.out.size))
                      have HBW := Lib.hid (below_step HBI.out HBQ.out HBI.out.size)
                      go_wp2_with fail
                      go_loopw [19, 20] (fun vb vm W => ∃ (m : Nat) (tb : Bool), m ≤ K.length ∧ vm = .int .i64 m ∧ vb = .bool tb ∧ tb = inB K x m ∧ Below wq.heap.size wq W) (fun _ vm _ => K.length - (intOf vm).toNat)
                      case atStart => exact ⟨0, false, Nat.zero_le _, rfl, rfl, by simp [inB], Below.refl _ _⟩
                      case round =>
                        obtain ⟨wd, rfl⟩ : ∃ wd : World, wd = wr := ⟨_, rfl⟩
                        obtain ⟨m, tb, hm, rfl, rfl, htb, hbm⟩ := hrel
                        have HTB := Lib.hid htb
                        have HBM := Lib.hid hbm
                        by_cases hml : m < K.length
                        · obtain ⟨y, hy⟩ : ∃ y, K[m]? = some y := ⟨_, List.getElem?_eq_getElem hml⟩
                          have HY := Lib.hid hy
                          obtain ⟨kb, ko, kc, hve, hck⟩ := ents_cells (HK5.out.kept (below_step HBW.out hbm HBW.out.size)) (by omega)
                          injection hve with hx1 hx2 hx3
                          subst hx1
                          clear hx2 hx3
                          have hcy := hck m hml
                          rw [show K[m] = y from Option.some.inj ((List.getElem?_eq_getElem hml).symm.trans hy)] at hcy
                          have hcx := HCQ.out wd hbm
                          have d0 := hcy.c0
                          have d1 := hcy.c1
                          have d2 := hcy.c2
                          have d3 := hcy.c3
                          have e0 := hcx.c0
                          have e1 := hcx.c1
                          have e2 := hcx.c2
                          have e3 := hcx.c3
                          have m1 : (0 : Int) ≤ (m : Int) := by omega
                          have m2 : (m : Int) < (K.length : Int) := by omega
                          have m4 : IntKind.i64.wrap ((m : Int) + 1) = (m : Int) + 1 := by rw [IntKind.wrap_i64]; omega
                          have hne := fun W => run_eq_same y x W
                          have HNE := Lib.hid hne
                          have HD2 := Lib.hid (show ∀ nq, Below wq.heap.size wq (wd.drewN nq) from fun nq => below_step HBM.out (show Below wd.heap.size wd (wd.drewN nq) from ⟨rfl, rfl, rfl, Nat.le_refl _, fun _ _ => rfl⟩) HBM.out.size)
                          clear hne hbm hck hcx hcy hy htb
                          cases tb
                          · by_cases hyx : y = x
                            · have hne := HNE.out
                              rw [show decide (y = x) = true by simp [hyx]] at hne
                              have HIN := Lib.hid (show true = inB K x (m + 1) by rw [inB_snoc K x y HY.out]; simp [hyx])
                              clear hyx
                              go_wp2_with fail
                              go_quiet (fail)
                              clear hne d0 d1 d2 d3 e0 e1 e2 e3
                              have HBE2 := Lib.hid (HD2.out nq)
                              generalize wd.drewN nq = we at *
                              go_wp2_with fail
                              go_roundw
                              case rel => exact ⟨m + 1, true, hml, by go_num, rfl, HIN.out, HBE2.out⟩
                              case measure => simp [intOf]; omega
                            · have hne := HNE.out
                              rw [show decide (y = x) = false by simp [hyx]] at hne
                              have HIN := Lib.hid (show false = inB K x (m + 1) by rw [inB_snoc K x y HY.out, ← HTB.out]; simp [hyx])
                              clear hyx
                              go_wp2_with fail
                              go_quiet (fail)
                              clear hne d0 d1 d2 d3 e0 e1 e2 e3
                              have HBE2 := Lib.hid (HD2.out nq)
                              generalize wd.drewN nq = we at *
                              go_wp2_with fail
                              go_roundw
                              case rel => exact ⟨m + 1, false, hml, by go_num, rfl, HIN.out, HBE2.out⟩
                              case measure => simp [intOf]; omega
                          · clear d0 d1 d2 d3 e0 e1 e2 e3
                            have HIN := Lib.hid (show true = inB K x (m + 1) by rw [inB_snoc K x y HY.out, ← HTB.out]; simp)
                            go_wp2_with fail
                            go_quiet (fail)
                            have HBE2 := Lib.hid (HD2.out nq)
                            generalize wd.drewN nq = we at *
                            go_wp2_with fail
                            go_roundw
                            case rel => exact ⟨m + 1, true, hml, by go_num, rfl, HIN.out, HBE2.out⟩
                            case measure => simp [intOf]; omega
                        · obtain rfl : m = K.length := by omega
                          have HBX := Lib.hid (below_step HBW.out hbm HBW.out.size)
                          clear hbm htb
                          cases tb
                          · go_wp2_with fail
                            go_roundw
                            case rel => exact ⟨i + 1, hlt, by go_num, HBX.out⟩
                            case measure => simp [intOf]; omega
                          · go_wp2_with fail
                            go_roundw
                            case rel => exact ⟨i + 1, hlt, by go_num, HBX.out⟩
                            case measure => simp [intOf]; omega
                    · have j7 : (y.1.toList == x.1.toList) = false := by rw [beq_toList]; simpa using hky
                      have HH := Lib.hid (show headB L i = true by rw [hh]; simp [hky])
                      clear hi0 hm hcy hy hh hky
                      go_wp2_with fail
                      go_quiet (fail)
                      clear e0 j3 j4 j5 j6 j7
                      clear d0 s1
                      have HBQ := Lib.hid (HD.out nq)
                      generalize wc.drewN nq = wq at *
                      have HCQ := Lib.hid (show ∀ W, Below wq.heap.size wq W → CellsOf W lb (lo + i * 4) x from fun W h => HCX.out.kept (below_step HBQ.out h HBQ.out.size))
                      have HBW := Lib.hid (below_step HBI.out HBQ.out HBI.out.size)
                      go_wp2_with fail
                      go_loopw [19, 20] (fun vb vm W => ∃ (m : Nat) (tb : Bool), m ≤ K.length ∧ vm = .int .i64 m ∧ vb = .bool tb ∧ tb = inB K x m ∧ Below wq.heap.size wq W) (fun _ vm _ => K.length - (intOf vm).toNat)
                      case atStart => exact ⟨0, false, Nat.zero_le _, rfl, rfl, by simp [inB], Below.refl _ _⟩
                      case round =>
                        obtain ⟨wd, rfl⟩ : ∃ wd : World, wd = wr := ⟨_, rfl⟩
                        obtain ⟨m, tb, hm, rfl, rfl, htb, hbm⟩ := hrel
                        have HTB := Lib.hid htb
                        have HBM := Lib.hid hbm
                        by_cases hml : m < K.length
                        · obtain ⟨y, hy⟩ : ∃ y, K[m]? = some y := ⟨_, List.getElem?_eq_getElem hml⟩
                          have HY := Lib.hid hy
                          obtain ⟨kb, ko, kc, hve, hck⟩ := ents_cells (HK5.out.kept (below_step HBW.out hbm HBW.out.size)) (by omega)
                          injection hve with hx1 hx2 hx3
                          subst hx1
                          clear hx2 hx3
                          have hcy := hck m hml
                          rw [show K[m] = y from Option.some.inj ((List.getElem?_eq_getElem hml).symm.trans hy)] at hcy
                          have hcx := HCQ.out wd hbm
                          have d0 := hcy.c0
                          have d1 := hcy.c1
                          have d2 := hcy.c2
                          have d3 := hcy.c3
                          have e0 := hcx.c0
                          have e1 := hcx.c1
                          have e2 := hcx.c2
                          have e3 := hcx.c3
                          have m1 : (0 : Int) ≤ (m : Int) := by omega
                          have m2 : (m : Int) < (K.length : Int) := by omega
                          have m4 : IntKind.i64.wrap ((m : Int) + 1) = (m : Int) + 1 := by rw [IntKind.wrap_i64]; omega
                          have hne := fun W => run_eq_same y x W
                          have HNE := Lib.hid hne
                          have HD2 := Lib.hid (show ∀ nq, Below wq.heap.size wq (wd.drewN nq) from fun nq => below_step HBM.out (show Below wd.heap.size wd (wd.drewN nq) from ⟨rfl, rfl, rfl, Nat.le_refl _, fun _ _ => rfl⟩) HBM.out.size)
                          clear hne hbm hck hcx hcy hy htb
                          cases tb
                          · by_cases hyx : y = x
                            · have hne := HNE.out
                              rw [show decide (y = x) = true by simp [hyx]] at hne
                              have HIN := Lib.hid (show true = inB K x (m + 1) by rw [inB_snoc K x y HY.out]; simp [hyx])
                              clear hyx
                              go_wp2_with fail
                              go_quiet (fail)
                              clear hne d0 d1 d2 d3 e0 e1 e2 e3
                              have HBE2 := Lib.hid (HD2.out nq)
                              generalize wd.drewN nq = we at *
                              go_wp2_with fail
                              go_roundw
                              case rel => exact ⟨m + 1, true, hml, by go_num, rfl, HIN.out, HBE2.out⟩
                              case measure => simp [intOf]; omega
                            · have hne := HNE.out
                              rw [show decide (y = x) = false by simp [hyx]] at hne
                              have HIN := Lib.hid (show false = inB K x (m + 1) by rw [inB_snoc K x y HY.out, ← HTB.out]; simp [hyx])
                              clear hyx
                              go_wp2_with fail
                              go_quiet (fail)
                              clear hne d0 d1 d2 d3 e0 e1 e2 e3
                              have HBE2 := Lib.hid (HD2.out nq)
                              generalize wd.drewN nq = we at *
                              go_wp2_with fail
                              go_roundw
                              case rel => exact ⟨m + 1, false, hml, by go_num, rfl, HIN.out, HBE2.out⟩
                              case measure => simp [intOf]; omega
                          · clear d0 d1 d2 d3 e0 e1 e2 e3
                            have HIN := Lib.hid (show true = inB K x (m + 1) by rw [inB_snoc K x y HY.out, ← HTB.out]; simp)
                            go_wp2_with fail
                            go_quiet (fail)
                            have HBE2 := Lib.hid (HD2.out nq)
                            generalize wd.drewN nq = we at *
                            go_wp2_with fail
                            go_roundw
                            case rel => exact ⟨m + 1, true, hml, by go_num, rfl, HIN.out, HBE2.out⟩
                            case measure => simp [intOf]; omega
                        · obtain rfl : m = K.length := by omega
                          have HBX := Lib.hid (below_step HBW.out hbm HBW.out.size)
                          cases tb
                          · have HFF := Lib.hid (show bottom = true ∧ x.2.2.2 = true from by
                              have h0 := fun hg => HTB.out.trans (HFT.out HH.out hg)
                              cases bottom
                              · exact absurd (h0 (Or.inl rfl)) (by simp)
                              · cases h : x.2.2.2
                                · exact absurd (h0 (Or.inr h)) (by simp)
                                · exact ⟨rfl, rfl⟩)
                            have e3 := (HCQ.out wd hbm).c3
                            rw [HFF.out.2] at e3
                            obtain rfl : bottom = true := HFF.out.1
                            clear hbm htb
                            go_wp2_with fail
                            clear e3
                            go_roundw
                            case rel => exact ⟨i + 1, hlt, by go_num, HBX.out⟩
                            case measure => simp [intOf]; omega
                          · clear hbm htb
                            go_wp2_with fail
                            go_roundw
                            case rel => exact ⟨i + 1, hlt, by go_num, HBX.out⟩
                            case measure => simp [intOf]; omega
                · clear hbi
                  have HB9 := Lib.hid (below_step HB5.out HBI.out HB5.out.size)
                  go_wp2_with fail
                  refine (awake_any _).mono ?_
                  rintro e w2 ⟨rfl, hb⟩
                  have HB2 := Lib.hid (below_step HB9.out hb HB9.out.size)
                  clear hb
                  go_wp2_with fail
                  go_ret
                  exact ⟨rfl, HB2.out⟩
    · have k0 : (10 : Int) < (snaps.length : Int) := by omega
      go_wp2_with fail
      refine (awake_any _).mono ?_
      rintro e w2 ⟨rfl, hb⟩
      have HB2 := Lib.hid (below_step HB1.out hb HB1.out.size)
      clear hb
      go_wp2_with fail
      go_ret
      exact ⟨rfl, HB2.out⟩
  · go_wp2_with fail
    refine (awake_any _).mono ?_
    rintro e w2 ⟨rfl, hb⟩
    have HB2 := Lib.hid (below_step HB1.out hb HB1.out.size)
    clear hb
    go_wp2_with fail
    go_ret
    exact ⟨rfl, HB2.out⟩
end Go.Proofs.Try.Mg
