/- The document's Keep. -/
import Derived.Test.YtggcdeabnibibaaMr6
set_option linter.unusedVariables false
set_option linter.unusedSimpArgs false
namespace Go.Proofs.Try.Mg
open Go.RowKit Go.Cph Go.Cph.Skip Go.Cph.So

theorem any_snoc (p : Nat → Bool) (k : Nat) : (List.range (k + 1)).any p = ((List.range k).any p || p k) := by
  rw [List.range_succ, List.any_append]; simp
theorem any_start (s : List Ent) (snaps : List UInt64) (i : Nat) : (List.range i).any (liveAt s snaps i) = false := by
  rw [List.any_eq_false]
  intro j hj
  rw [List.mem_range] at hj
  unfold liveAt
  split
  · have : decide (i ≤ j) = false := by simp; omega
    rw [this]; simp
  · simp
theorem older_all {s : List Ent} {snaps : List UInt64} {i : Nat} : (List.range s.length).any (liveAt s snaps i) = docOlder s snaps i := rfl
theorem older_stop {s : List Ent} (hs : Strict ltE s) {snaps : List UInt64} {i k : Nat} {x y : Ent} (hx : s[i]? = some x) (hy : s[k]? = some y) (hik : i ≤ k) (hne : y.1 ≠ x.1) : (List.range k).any (liveAt s snaps i) = docOlder s snaps i := by
  have hkl : k < s.length := by
    refine Nat.lt_of_not_le fun h => ?_
    rw [List.getElem?_eq_none h] at hy; cases hy
  have hlt : i < k := by
    rcases Nat.lt_or_eq_of_le hik with h | h
    · exact h
    · subst h; rw [hx] at hy; cases hy; exact absurd rfl hne
  have hil : i < s.length := by omega
  have ex : s[i] = x := Option.some.inj ((List.getElem?_eq_getElem hil).symm.trans hx)
  have ey : s[k] = y := Option.some.inj ((List.getElem?_eq_getElem hkl).symm.trans hy)
  have h1 : klt x.1 y.1 = true := by
    have := List.pairwise_iff_getElem.1 hs i k hil hkl hlt
    rw [ex, ey] at this
    rcases ltE_key this with h | ⟨h, _⟩
    · exact h
    · exact absurd h.symm hne
  rw [← older_all, Bool.eq_iff_iff, List.any_eq_true, List.any_eq_true]
  constructor
  · rintro ⟨j, hj, hl⟩
    exact ⟨j, by rw [List.mem_range] at hj ⊢; omega, hl⟩
  · rintro ⟨j, hj, hl⟩
    rw [List.mem_range] at hj
    refine ⟨j, ?_, hl⟩
    rw [List.mem_range]
    refine Nat.lt_of_not_le fun hkj => ?_
    unfold liveAt at hl
    rw [hx, List.getElem?_eq_getElem hj] at hl
    simp only [Bool.and_eq_true, decide_eq_true_eq] at hl
    have h2 := hl.1.2
    rcases Nat.lt_or_eq_of_le hkj with h | h
    · have := ltE_kle (List.pairwise_iff_getElem.1 hs k j hkl hj h)
      rw [ey, h2, h1] at this; cases this
    · subst h; rw [ey] at h2; exact hne h2
theorem live_at {s : List Ent} {snaps : List UInt64} {i k : Nat} {x y : Ent} (hx : s[i]? = some x) (hy : s[k]? = some y) (hik : i ≤ k) (he : y.1 = x.1) : liveAt s snaps i k = (stayB s k snaps && !y.2.2.2) := by
  unfold liveAt
  rw [hx, hy]
  simp [hik, he]
theorem docKeep_le (s : List Ent) (bottom : Bool) (snaps : List UInt64) (k : Nat) : (docKeep s bottom snaps k).length ≤ k := by
  unfold docKeep
  exact Nat.le_trans (List.length_filterMap_le _ _) (by simp)

set_option maxRecDepth 100000 in
set_option maxHeartbeats 16000000 in
theorem keep16 (v vn : Value) (l : List Ent) (bottom : Bool) (snaps : List UInt64) (w : World) (h : EntsAt w v l) (hnum : NumsAt w vn snaps) (hn : l.length ≤ 100000) (hks : KeysOK l) (hl2 : snaps.length ≤ 1000000) :
    Calls Try.prog 20 #[v, .bool bottom, vn] w (NewRow w (keepL (mergeL ltE l) bottom snaps)) := by
  have HO := Lib.hid (one16 v l w h hn hks)
  have hsl := mergeL_length (lt := ltE) weakE l
  have hst := mergeL_strict (lt := ltE) weakE l
  obtain ⟨s, hs⟩ : ∃ s, s = mergeL ltE l := ⟨_, rfl⟩
  rw [← hs] at HO hsl hst ⊢
  have HSS := Lib.hid hst
  have HDK := Lib.hid (docKeep_all hst bottom snaps)
  obtain ⟨ao, cap, hv⟩ := elems_slice h
  subst hv
  obtain ⟨no, ncap, hnv⟩ := elems_slice hnum
  subst hnv
  have HN := Lib.hid hnum
  have hsn : s.length ≤ 100000 := by omega
  clear h hks hs hst hnum hsl hn
  go_enter Try.func20, Try.ntmps20
  go_wp2_with fail
  refine HO.out.mono ?_
  rintro e w1 ⟨v1, rfl, ho, hb⟩
  obtain ⟨o1, c1, hv1⟩ := owns_slice1 ho
  subst hv1
  have HSW := Lib.hid (show EntsAt w1 (.slice o1 s.length c1) s from Seg.of_owns ho)
  have HNW := Lib.hid (HN.out.kept hb)
  have HB1 := Lib.hid hb
  clear ho hb HO
  go_wp2_with fail
  go_loopw [8, 9] (fun vo vi W => ∃ i : Nat, i ≤ s.length ∧ vi = .int .i64 i ∧ W.ownsRow w1.heap.size TE 4 vo (docKeep s bottom snaps i).length ((docKeep s bottom snaps i).flatMap encC) ∧ Below w1.heap.size w1 W) (fun _ vi _ => s.length - (intOf vi).toNat)
  case atStart => exact ⟨0, Nat.zero_le _, rfl, World.ownsRow_nil _ _ _ _, Below.refl _ _⟩
  case round =>
    obtain ⟨i, hi, rfl, ho, hbel⟩ := hrel
    obtain ⟨oo, oc, hov⟩ := owns_slice1 ho
    have hdl := docKeep_le s bottom snaps i
    have HDS := Lib.hid (docKeep_snoc s bottom snaps i)
    obtain ⟨dk, hdk⟩ : ∃ dk, dk = docKeep s bottom snaps i := ⟨_, rfl⟩
    rw [← hdk] at ho hov hdl HDS
    have HDD := Lib.hid hdk
    subst hov
    have HOW := Lib.hid ho
    have HBE := Lib.hid hbel
    by_cases hlt : i < s.length
    · obtain ⟨x, hx⟩ : ∃ x, s[i]? = some x := ⟨_, List.getElem?_eq_getElem hlt⟩
      have HX := Lib.hid hx
      obtain ⟨b, off, cap', hve, hcs⟩ := ents_cells (HSW.out.kept hbel) (by omega)
      injection hve with hx1 hx2 hx3
      subst hx1
      clear hx2 hx3
      have HCS := Lib.hid (show ∀ j y, s[j]? = some y → CellsOf wr b (off + j * 4) y from fun j y hy => by
        have hj : j < s.length := by
          refine Nat.lt_of_not_le fun h => ?_
          rw [List.getElem?_eq_none h] at hy; cases hy
        rw [List.getElem?_eq_getElem hj] at hy; cases hy; exact hcs j hj)
      have HST := Lib.hid (show ∀ j, j < s.length → ∀ W, Below wr.heap.size wr W → Calls Try.prog 34 #[.slice (some ⟨b, off, none⟩) s.length c1, .int .i64 j, .slice no snaps.length ncap] W fun e w' => e = .returned (.bool (stayB s j snaps)) ∧ Below W.heap.size W w' from fun j hj W hb =>
        stays16 _ _ s j snaps W (HSW.out.kept (below_step HBE.out hb HBE.out.size)) (HNW.out.kept (below_step HBE.out hb HBE.out.size)) HSS.out hj (by omega) hl2)
      have HSA := Lib.hid (HST.out i hlt wr (Below.refl _ _))
      obtain ⟨sb, hsb⟩ : ∃ sb, sb = stayB s i snaps := ⟨_, rfl⟩
      rw [← hsb] at HSA
      have k1 : (0 : Int) ≤ (i : Int) := by omega
      have k2 : (i : Int) < (s.length : Int) := by omega
      have k4 : IntKind.i64.wrap ((i : Int) + 1) = (i : Int) + 1 := by rw [IntKind.wrap_i64]; omega
      clear ho hbel hcs hdk hx
      go_wp2_with fail
      refine HSA.out.mono ?_
      rintro e w2 ⟨rfl, hb⟩
      have HBS := Lib.hid hb
      have HB2 := Lib.hid (below_step HBE.out hb HBE.out.size)
      have HO2 := Lib.hid (row_kept1 HOW.out fun q hq => hb.block q (HOW.out.lt q hq).2)
      clear hb HSA
      cases sb
      · have HNO := Lib.hid (show docKeep s bottom snaps (i + 1) = dk by rw [HDS.out, docKeepAt, ← hsb]; simp)
        clear hsb
        go_wp2_with fail
        go_roundw
        case rel => exact ⟨i + 1, hlt, by go_num, by rw [HNO.out]; exact HO2.out, HB2.out⟩
        case measure => simp [intOf]; omega
      · have HKA := Lib.hid (show docKeepAt s bottom snaps i = if docOlder s snaps i || !bottom then some x else none by rw [docKeepAt, ← hsb, HX.out]; simp)
        clear hsb
        go_wp2_with fail
        go_loopw [10, 11] (fun vq vk W => ∃ (k : Nat) (o : Bool), i ≤ k ∧ k ≤ s.length ∧ vk = .int .i64 k ∧ vq = .bool o ∧ o = (List.range k).any (liveAt s snaps i) ∧ Below w2.heap.size w2 W) (fun _ vk _ => s.length - (intOf vk).toNat)
        case atStart => exact ⟨i, false, Nat.le_refl _, hi, rfl, rfl, (any_start s snaps i).symm, Below.refl _ _⟩
        case round =>
          obtain ⟨wo, rfl⟩ : ∃ wo : World, wo = wr := ⟨_, rfl⟩
          obtain ⟨k, o, hik, hk, rfl, rfl, ho, hbk⟩ := hrel
          have HOO := Lib.hid ho
          have HBK := Lib.hid (below_step HBS.out hbk HBS.out.size)
          have HB3 := Lib.hid (below_step HB2.out hbk HB2.out.size)
          have HO3 := Lib.hid (row_kept1 HO2.out fun q hq => hbk.block q (HO2.out.lt q hq).2)
          have HB22 := Lib.hid hbk
          have HD := Lib.hid (show ∀ nq, Below wo.heap.size wo (wo.drewN nq) from fun nq => ⟨rfl, rfl, rfl, Nat.le_refl _, fun _ _ => rfl⟩)
          have hcx := (HCS.out i x HX.out).kept HBK.out
          have HCX := Lib.hid hcx
          clear ho hbk
          by_cases hkl : k < s.length
          · obtain ⟨y, hy⟩ : ∃ y, s[k]? = some y := ⟨_, List.getElem?_eq_getElem hkl⟩
            have HY := Lib.hid hy
            have hcy := (HCS.out k y hy).kept HBK.out
            have HCY := Lib.hid hcy
            have d0 := hcx.c0
            have e0 := hcy.c0
            have j1 : (0 : Int) ≤ (k : Int) := by omega
            have j2 : (k : Int) < (s.length : Int) := by omega
            have j4 : IntKind.i64.wrap ((k : Int) + 1) = (k : Int) + 1 := by rw [IntKind.wrap_i64]; omega
            by_cases hky : y.1 = x.1
            · have j5 : (y.1.toList == x.1.toList) = true := by rw [beq_toList]; simpa using hky
              have HLV := Lib.hid (live_at (snaps := snaps) HX.out hy hik hky)
              have HAN := Lib.hid (any_snoc (liveAt s snaps i) k)
              have HSK := Lib.hid (HST.out k hkl)
              clear hcx hcy hy hky
              go_wp2_with fail
              go_quiet (fail)
              clear d0 e0
              have HBQ := Lib.hid (HD.out nq)
              have HBW := Lib.hid (below_step HB22.out (HD.out nq) HB22.out.size)
              have HBR := Lib.hid (below_step HBK.out (HD.out nq) HBK.out.size)
              generalize wo.drewN nq = wq at *
              cases o
              · have HSC := Lib.hid (HSK.out wq HBR.out)
                obtain ⟨sk, hsk⟩ : ∃ sk, sk = stayB s k snaps := ⟨_, rfl⟩
                rw [← hsk] at HSC HLV
                clear hsk
                go_wp2_with fail
                refine HSC.out.mono ?_
                rintro e w3 ⟨rfl, hb⟩
                have HBV := Lib.hid (below_step HBW.out hb HBW.out.size)
                have c3 := ((HCY.out.kept HBQ.out).kept hb).c3
                clear hb HSC
                cases sk
                · go_wp2_with fail
                  clear c3
                  go_roundw
                  case rel => exact ⟨k + 1, false, by omega, hkl, by go_num, rfl, by rw [HAN.out, ← HOO.out, HLV.out]; rfl, HBV.out⟩
                  case measure => simp [intOf]; omega
                · obtain ⟨yg, hyg⟩ : ∃ g, g = y.2.2.2 := ⟨_, rfl⟩
                  rw [← hyg] at c3 HLV
                  clear hyg
                  cases yg
                  · go_wp2_with fail
                    clear c3
                    go_roundw
                    case rel => exact ⟨k + 1, true, by omega, hkl, by go_num, rfl, by rw [HAN.out, ← HOO.out, HLV.out]; rfl, HBV.out⟩
                    case measure => simp [intOf]; omega
                  · go_wp2_with fail
                    clear c3
                    go_roundw
                    case rel => exact ⟨k + 1, false, by omega, hkl, by go_num, rfl, by rw [HAN.out, ← HOO.out, HLV.out]; rfl, HBV.out⟩
                    case measure => simp [intOf]; omega
              · clear HSK
                go_wp2_with fail
                go_roundw
                case rel => exact ⟨k + 1, true, by omega, hkl, by go_num, rfl, by rw [HAN.out, ← HOO.out]; rfl, HBW.out⟩
                case measure => simp [intOf]; omega
            · have j5 : (y.1.toList == x.1.toList) = false := by rw [beq_toList]; simpa using hky
              have HOL := Lib.hid (show docOlder s snaps i = o by rw [HOO.out]; exact (older_stop HSS.out HX.out hy hik hky).symm)
              clear hcx hcy hy hky
              go_wp2_with fail
              go_quiet (fail)
              clear d0 e0
              have HBQ := Lib.hid (HD.out nq)
              have HB4 := Lib.hid (below_step HB3.out (HD.out nq) HB3.out.size)
              have HO4 := Lib.hid (row_kept1 HO3.out fun q hq => HBQ.out.block q (HO3.out.lt q hq).2)
              have HC4 := Lib.hid (HCX.out.kept HBQ.out)
              generalize wo.drewN nq = wq at *
              cases o
              · cases bottom
                · have HE := Lib.hid (HDS.out.trans (show _ = dk ++ [x] from by rw [HKA.out, HOL.out]; rfl))
                  have d0 := HC4.out.c0
                  have d1 := HC4.out.c1
                  have d2 := HC4.out.c2
                  have d3 := HC4.out.c3
                  have HL9 := Lib.hid (show dk.length + 1 ≤ 1099511627776 by omega)
                  have HZ4 := Lib.hid HB4.out.size
                  go_wp2_with (at_builtin; refine wpList_append1 rfl (.tmp 65) (.tmp 70) 25 rfl w1.heap.size TE _ 4 48 Try.underlying25 infoE rfl (by decide) _ dk.length _ (encC x) rfl HO4.out _ 1 rfl rfl rfl (encC_one1 x) HL9.out (by decide) HZ4.out w1.heap.size w1 HB4.out (Nat.le_refl _) ?_; intro v5 w5 ho5 hgr5 hb5 hsz5; have HO5 := Lib.hid ho5; have HB5 := Lib.hid hb5; clear ho5 hgr5 hb5 hsz5 d0 d1 d2 d3)
                  go_roundw
                  case rel =>
                    refine ⟨i + 1, hlt, by go_num, ?_, HB5.out⟩
                    rw [HE.out, List.length_append, List.flatMap_append]
                    simpa using HO5.out
                  case measure => simp [intOf]; omega
                · have HE := Lib.hid (HDS.out.trans (show _ = dk from by rw [HKA.out, HOL.out]; simp))
                  go_wp2_with fail
                  go_roundw
                  case rel => exact ⟨i + 1, hlt, by go_num, by rw [HE.out]; exact HO4.out, HB4.out⟩
                  case measure => simp [intOf]; omega
              · have HE := Lib.hid (HDS.out.trans (show _ = dk ++ [x] from by rw [HKA.out, HOL.out]; rfl))
                have d0 := HC4.out.c0
                have d1 := HC4.out.c1
                have d2 := HC4.out.c2
                have d3 := HC4.out.c3
                have HL9 := Lib.hid (show dk.length + 1 ≤ 1099511627776 by omega)
                have HZ4 := Lib.hid HB4.out.size
                go_wp2_with (at_builtin; refine wpList_append1 rfl (.tmp 65) (.tmp 70) 25 rfl w1.heap.size TE _ 4 48 Try.underlying25 infoE rfl (by decide) _ dk.length _ (encC x) rfl HO4.out _ 1 rfl rfl rfl (encC_one1 x) HL9.out (by decide) HZ4.out w1.heap.size w1 HB4.out (Nat.le_refl _) ?_; intro v5 w5 ho5 hgr5 hb5 hsz5; have HO5 := Lib.hid ho5; have HB5 := Lib.hid hb5; clear ho5 hgr5 hb5 hsz5 d0 d1 d2 d3)
                go_roundw
                case rel =>
                  refine ⟨i + 1, hlt, by go_num, ?_, HB5.out⟩
                  rw [HE.out, List.length_append, List.flatMap_append]
                  simpa using HO5.out
                case measure => simp [intOf]; omega
          · obtain rfl : k = s.length := by omega
            have HOL := Lib.hid (show docOlder s snaps i = o by rw [HOO.out, older_all])
            have j2 : ¬ (s.length : Int) < (s.length : Int) := by omega
            clear hcx
            go_wp2_with fail
            go_quiet (fail)
            have HBQ := Lib.hid (HD.out nq)
            have HB4 := Lib.hid (below_step HB3.out (HD.out nq) HB3.out.size)
            have HO4 := Lib.hid (row_kept1 HO3.out fun q hq => HBQ.out.block q (HO3.out.lt q hq).2)
            have HC4 := Lib.hid (HCX.out.kept HBQ.out)
            generalize wo.drewN nq = wq at *
            cases o
            · cases bottom
              · have HE := Lib.hid (HDS.out.trans (show _ = dk ++ [x] from by rw [HKA.out, HOL.out]; rfl))
                have d0 := HC4.out.c0
                have d1 := HC4.out.c1
                have d2 := HC4.out.c2
                have d3 := HC4.out.c3
                have HL9 := Lib.hid (show dk.length + 1 ≤ 1099511627776 by omega)
                have HZ4 := Lib.hid HB4.out.size
                go_wp2_with (at_builtin; refine wpList_append1 rfl (.tmp 65) (.tmp 70) 25 rfl w1.heap.size TE _ 4 48 Try.underlying25 infoE rfl (by decide) _ dk.length _ (encC x) rfl HO4.out _ 1 rfl rfl rfl (encC_one1 x) HL9.out (by decide) HZ4.out w1.heap.size w1 HB4.out (Nat.le_refl _) ?_; intro v5 w5 ho5 hgr5 hb5 hsz5; have HO5 := Lib.hid ho5; have HB5 := Lib.hid hb5; clear ho5 hgr5 hb5 hsz5 d0 d1 d2 d3)
                go_roundw
                case rel =>
                  refine ⟨i + 1, hlt, by go_num, ?_, HB5.out⟩
                  rw [HE.out, List.length_append, List.flatMap_append]
                  simpa using HO5.out
                case measure => simp [intOf]; omega
              · have HE := Lib.hid (HDS.out.trans (show _ = dk from by rw [HKA.out, HOL.out]; simp))
                go_wp2_with fail
                go_roundw
                case rel => exact ⟨i + 1, hlt, by go_num, by rw [HE.out]; exact HO4.out, HB4.out⟩
                case measure => simp [intOf]; omega
            · have HE := Lib.hid (HDS.out.trans (show _ = dk ++ [x] from by rw [HKA.out, HOL.out]; rfl))
              have d0 := HC4.out.c0
              have d1 := HC4.out.c1
              have d2 := HC4.out.c2
              have d3 := HC4.out.c3
              have HL9 := Lib.hid (show dk.length + 1 ≤ 1099511627776 by omega)
              have HZ4 := Lib.hid HB4.out.size
              go_wp2_with (at_builtin; refine wpList_append1 rfl (.tmp 65) (.tmp 70) 25 rfl w1.heap.size TE _ 4 48 Try.underlying25 infoE rfl (by decide) _ dk.length _ (encC x) rfl HO4.out _ 1 rfl rfl rfl (encC_one1 x) HL9.out (by decide) HZ4.out w1.heap.size w1 HB4.out (Nat.le_refl _) ?_; intro v5 w5 ho5 hgr5 hb5 hsz5; have HO5 := Lib.hid ho5; have HB5 := Lib.hid hb5; clear ho5 hgr5 hb5 hsz5 d0 d1 d2 d3)
              go_roundw
              case rel =>
                refine ⟨i + 1, hlt, by go_num, ?_, HB5.out⟩
                rw [HE.out, List.length_append, List.flatMap_append]
                simpa using HO5.out
              case measure => simp [intOf]; omega
    · obtain rfl : i = s.length := by omega
      have HF := Lib.hid (show dk = keepL s bottom snaps by rw [HDD.out, HDK.out])
      clear ho hbel hdk
      go_wp2_with fail
      go_ret
      exact ⟨_, rfl, by rw [← HF.out]; exact owns_mono HOW.out HB1.out.size, below_step HB1.out HBE.out HB1.out.size⟩
end Go.Proofs.Try.Mg
