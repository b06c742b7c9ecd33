/- The laws of okey: OkeyBack's walk. -/
import Derived.Test.YtfijbfnhjnbjeaaDoorOkB
set_option linter.unusedVariables false
set_option linter.unusedSimpArgs false
set_option maxRecDepth 100000
namespace Go.Proofs.Tryd.Ok
open Go.RowKit Go.Cph Go.Cph.Ok Go.Proofs.Tryd.Nu
theorem key_long : ∀ l : List Pt, l.length ≤ (key l).length
  | [] => Nat.zero_le _
  | p :: l => by
    have := key_long l
    rw [key_cons, List.length_append, List.length_cons]
    have hb : 1 ≤ (Cph.Ok.bytes p).length := by unfold Cph.Ok.bytes; split <;> simp
    omega
set_option maxHeartbeats 32000000 in
theorem back_law (v : Value) (s : ByteArray) (x : List Pt) (m : Int) (w : World) (h : PtsAt w v x) (hx : x.length ≤ 9223372036854775807) (hm : MaxAt m w) :
    Calls Tryd.prog 5 #[v, .string s] w (AwPost w) := by
  have X := Lib.hid h
  have HM := Lib.hid hm
  have BE := Lib.hid (Below.refl w.heap.size w)
  have HGX := Lib.hid (great_any v x w h hx)
  clear h hx hm
  go_enter Tryd.func5, Tryd.ntmps5
  go_wp2_with fail
  refine HGX.out.mono ?_
  rintro e w1 ⟨r, rfl, hsx, rfl⟩
  cases r
  · have HSx := Lib.hid (hsx rfl)
    clear hsx HGX
    have hkx := HSx.out.key
    have HRD := Lib.hid (fun (T : ByteArray) (h : T.size ≤ 5000) (l : List Pt) (hl : Cph.Ok.parts T.data.toList = some l) => (show ofBs (key l) = T ∧ l.length ≤ 5000 from by
      have k := (key_parts _ _ _ (Nat.le_refl _) hl).1
      refine ⟨by rw [k, ofBs_data], ?_⟩
      have := key_long l
      rw [k] at this
      have e : T.data.toList.length = T.size := rfl
      omega))
    obtain ⟨z, hz⟩ : ∃ z, z = x.map plainP := ⟨_, rfl⟩
    obtain ⟨K, hK⟩ : ∃ K, K = ofBs (key x) := ⟨_, rfl⟩
    have hzl : z.length = x.length := by rw [hz]; simp
    have HZL := Lib.hid (show z.length ≤ 60 from by rw [hzl]; exact HSx.out.num)
    have HPL := Lib.hid (fun W v (h : PtsAt W v x) => (show Calls Tryd.prog 21 #[v] W (RowPost z W) from by
      rw [hz]; exact plain_any v x W h (by have := HSx.out.num; omega)))
    have HKX := Lib.hid (fun W v (h : PtsAt W v x) (hm : MaxAt m W) => (show Calls Tryd.prog 16 #[v] W fun e w' => e = .returned (.string K) ∧ Below W.heap.size W w' from by
      rw [hK]; exact key_any v x m W h (by have := HSx.out.num; omega) (by omega) hm))
    have HPX := Lib.hid (fun W => (show Calls Tryd.prog 12 #[.string K] W (PartsPost (some z) W) from by
      have := parts_any K W (by rw [hK, ofBs_size]; omega)
      rw [hK, ofBs_list, parts_key, ← hz] at this
      rw [hK]; exact this))
    have HBG := Lib.hid (fun W v u (h : PtsAt W v z) (k : PtsAt W u z) => (show Calls Tryd.prog 20 #[v, u] W fun e w' => e = .returned (.bool true) ∧ Below W.heap.size W w' from by
      have := begins_any v u _ _ W h k (by have := HZL.out; omega) (by have := HZL.out; omega)
      rw [show begL z z = true from begL_iff.2 ⟨[], by simp⟩] at this; exact this))
    clear hz hK hzl hkx
    by_cases hs : s.size ≤ 5000
    · have k1 : ¬ (5000 : Int) < (s.size : Int) := by omega
      have HT := Lib.hid hs
      clear hs
      obtain ⟨o, hoo⟩ : ∃ o, o = Cph.Ok.parts (s).data.toList := ⟨_, rfl⟩
      have HPT := Lib.hid (fun W => (show Calls Tryd.prog 12 #[.string (s)] W (PartsPost o W) from by rw [hoo]; exact parts_any _ W (by have := HT.out; omega)))
      have HO := Lib.hid (fun l (hl : o = some l) => HRD.out _ HT.out l (hoo.symm.trans hl))
      clear hoo
      have ts : ((s).toList == (s).toList) = true := by simp
      have TS := Lib.hid ts
      clear ts
      go_wp2_with fail
      refine (HPL.out _ _ X.out).mono ?_
      rintro e x1 ⟨v7, rfl, ho, hb⟩
      have X_1 := Lib.hid (Seg.kept X.out hb)
      have HM_1 := Lib.hid (cell_kept hb HM.out)
      have BE_1 := Lib.hid (below_step BE.out hb BE.out.size)
      obtain ⟨ao7, cap7, hv7⟩ := owns_slice1 ho
      subst hv7
      have G7 := Lib.hid (show PtsAt x1 (.slice ao7 z.length cap7) z from Seg.of_owns ho)
      clear ho k1
      clear hb
      go_wp2_with fail
      refine (given_any _ x _ X_1.out (by have := HSx.out.num; omega)).mono ?_
      rintro e x2 ⟨vG, rfl, ho, hb⟩
      have X_2 := Lib.hid (Seg.kept X_1.out hb)
      have HM_2 := Lib.hid (cell_kept hb HM_1.out)
      have BE_2 := Lib.hid (below_step BE_1.out hb BE_1.out.size)
      have G7_2 := Lib.hid (Seg.kept G7.out hb)
      have G := Lib.hid (show PtsAt x2 vG x from Seg.of_owns ho)
      clear ho
      clear hb
      go_wp2_with fail
      refine (HKX.out _ _ G.out HM_2.out).mono ?_
      rintro e x3 ⟨rfl, hb⟩
      have X_3 := Lib.hid (Seg.kept X_2.out hb)
      have HM_3 := Lib.hid (cell_kept hb HM_2.out)
      have BE_3 := Lib.hid (below_step BE_2.out hb BE_2.out.size)
      have G7_3 := Lib.hid (Seg.kept G7_2.out hb)
      clear hb
      go_wp2_with fail
      refine (HPX.out _).mono ?_
      rintro e x4 ⟨⟨v8, rfl, ho⟩, hb⟩
      have X_4 := Lib.hid (Seg.kept X_3.out hb)
      have HM_4 := Lib.hid (cell_kept hb HM_3.out)
      have BE_4 := Lib.hid (below_step BE_3.out hb BE_3.out.size)
      have G7_4 := Lib.hid (Seg.kept G7_3.out hb)
      obtain ⟨ao8, cap8, hv8⟩ := owns_slice1 ho
      subst hv8
      have G8 := Lib.hid (show PtsAt x4 (.slice ao8 z.length cap8) z from Seg.of_owns ho)
      clear ho
      clear hb
      go_wp2_with fail
      refine (HBG.out _ _ _ G8.out G7_4.out).mono ?_
      rintro e x5 ⟨rfl, hb⟩
      have X_5 := Lib.hid (Seg.kept X_4.out hb)
      have HM_5 := Lib.hid (cell_kept hb HM_4.out)
      have BE_5 := Lib.hid (below_step BE_4.out hb BE_4.out.size)
      have G7_5 := Lib.hid (Seg.kept G7_4.out hb)
      clear hb
      go_wp2_with fail
      cases o with
      | none =>
        refine (HPT.out _).mono ?_
        rintro e x6 ⟨rfl, hb⟩
        have X_6 := Lib.hid (Seg.kept X_5.out hb)
        have HM_6 := Lib.hid (cell_kept hb HM_5.out)
        have BE_6 := Lib.hid (below_step BE_5.out hb BE_5.out.size)
        clear hb
        go_wp2_with fail
        refine (awake_any m _ HM_6.out).mono ?_
        rintro e x7 ⟨rfl, hb⟩
        have X_7 := Lib.hid (Seg.kept X_6.out hb)
        have HM_7 := Lib.hid (cell_kept hb HM_6.out)
        have BE_7 := Lib.hid (below_step BE_6.out hb BE_6.out.size)
        clear hb
        go_wp2_with fail
        go_ret
        exact ⟨rfl, BE_7.out⟩
      | some l =>
        obtain ⟨hl1, hl2⟩ := HO.out l rfl
        have HL2 := Lib.hid hl2
        have HL1 := Lib.hid hl1
        clear hl1 hl2
        refine (HPT.out _).mono ?_
        rintro e x6 ⟨⟨v9, rfl, ho⟩, hb⟩
        have X_6 := Lib.hid (Seg.kept X_5.out hb)
        have HM_6 := Lib.hid (cell_kept hb HM_5.out)
        have BE_6 := Lib.hid (below_step BE_5.out hb BE_5.out.size)
        obtain ⟨ao9, cap9, hv9⟩ := owns_slice1 ho
        subst hv9
        have G9 := Lib.hid (show PtsAt x6 (.slice ao9 l.length cap9) l from Seg.of_owns ho)
        clear ho
        clear hb
        go_wp2_with fail
        have HKL := Lib.hid (fun W (h : PtsAt W (.slice ao9 l.length cap9) l) (hm : MaxAt m W) => (show Calls Tryd.prog 16 #[.slice ao9 l.length cap9] W fun e w' => e = .returned (.string (s)) ∧ Below W.heap.size W w' from by
          have hl1 := HL1.out
          have := key_any _ l m W h (by have := HL2.out; omega) (by have e := congrArg ByteArray.size hl1; rw [ofBs_size] at e; have := HT.out; omega) hm
          rw [hl1] at this; exact this))
        refine (HKL.out _ G9.out HM_6.out).mono ?_
        rintro e x7 ⟨rfl, hb⟩
        have X_7 := Lib.hid (Seg.kept X_6.out hb)
        have HM_7 := Lib.hid (cell_kept hb HM_6.out)
        have BE_7 := Lib.hid (below_step BE_6.out hb BE_6.out.size)
        have ts := TS.out
        clear hb
        go_wp2_with fail
        refine (awake_any m _ HM_7.out).mono ?_
        rintro e x8 ⟨rfl, hb⟩
        have X_8 := Lib.hid (Seg.kept X_7.out hb)
        have HM_8 := Lib.hid (cell_kept hb HM_7.out)
        have BE_8 := Lib.hid (below_step BE_7.out hb BE_7.out.size)
        clear hb
        go_wp2_with fail
        go_ret
        exact ⟨rfl, BE_8.out⟩
    · have k1 : (5000 : Int) < (s.size : Int) := by omega
      have k2 : 5000 ≤ s.size := by omega
      have HT := Lib.hid (show (s.extract 0 5000).size ≤ 5000 from by simp; omega)
      clear hs
      obtain ⟨o, hoo⟩ : ∃ o, o = Cph.Ok.parts (s.extract 0 5000).data.toList := ⟨_, rfl⟩
      have HPT := Lib.hid (fun W => (show Calls Tryd.prog 12 #[.string (s.extract 0 5000)] W (PartsPost o W) from by rw [hoo]; exact parts_any _ W (by have := HT.out; omega)))
      have HO := Lib.hid (fun l (hl : o = some l) => HRD.out _ HT.out l (hoo.symm.trans hl))
      clear hoo
      have ts : ((s.extract 0 5000).toList == (s.extract 0 5000).toList) = true := by simp
      have TS := Lib.hid ts
      clear ts
      go_wp2_with fail
      refine (HPL.out _ _ X.out).mono ?_
      rintro e x1 ⟨v7, rfl, ho, hb⟩
      have X_1 := Lib.hid (Seg.kept X.out hb)
      have HM_1 := Lib.hid (cell_kept hb HM.out)
      have BE_1 := Lib.hid (below_step BE.out hb BE.out.size)
      obtain ⟨ao7, cap7, hv7⟩ := owns_slice1 ho
      subst hv7
      have G7 := Lib.hid (show PtsAt x1 (.slice ao7 z.length cap7) z from Seg.of_owns ho)
      clear ho k1
      clear hb
      go_wp2_with fail
      refine (given_any _ x _ X_1.out (by have := HSx.out.num; omega)).mono ?_
      rintro e x2 ⟨vG, rfl, ho, hb⟩
      have X_2 := Lib.hid (Seg.kept X_1.out hb)
      have HM_2 := Lib.hid (cell_kept hb HM_1.out)
      have BE_2 := Lib.hid (below_step BE_1.out hb BE_1.out.size)
      have G7_2 := Lib.hid (Seg.kept G7.out hb)
      have G := Lib.hid (show PtsAt x2 vG x from Seg.of_owns ho)
      clear ho
      clear hb
      go_wp2_with fail
      refine (HKX.out _ _ G.out HM_2.out).mono ?_
      rintro e x3 ⟨rfl, hb⟩
      have X_3 := Lib.hid (Seg.kept X_2.out hb)
      have HM_3 := Lib.hid (cell_kept hb HM_2.out)
      have BE_3 := Lib.hid (below_step BE_2.out hb BE_2.out.size)
      have G7_3 := Lib.hid (Seg.kept G7_2.out hb)
      clear hb
      go_wp2_with fail
      refine (HPX.out _).mono ?_
      rintro e x4 ⟨⟨v8, rfl, ho⟩, hb⟩
      have X_4 := Lib.hid (Seg.kept X_3.out hb)
      have HM_4 := Lib.hid (cell_kept hb HM_3.out)
      have BE_4 := Lib.hid (below_step BE_3.out hb BE_3.out.size)
      have G7_4 := Lib.hid (Seg.kept G7_3.out hb)
      obtain ⟨ao8, cap8, hv8⟩ := owns_slice1 ho
      subst hv8
      have G8 := Lib.hid (show PtsAt x4 (.slice ao8 z.length cap8) z from Seg.of_owns ho)
      clear ho
      clear hb
      go_wp2_with fail
      refine (HBG.out _ _ _ G8.out G7_4.out).mono ?_
      rintro e x5 ⟨rfl, hb⟩
      have X_5 := Lib.hid (Seg.kept X_4.out hb)
      have HM_5 := Lib.hid (cell_kept hb HM_4.out)
      have BE_5 := Lib.hid (below_step BE_4.out hb BE_4.out.size)
      have G7_5 := Lib.hid (Seg.kept G7_4.out hb)
      clear hb
      go_wp2_with fail
      cases o with
      | none =>
        refine (HPT.out _).mono ?_
        rintro e x6 ⟨rfl, hb⟩
        have X_6 := Lib.hid (Seg.kept X_5.out hb)
        have HM_6 := Lib.hid (cell_kept hb HM_5.out)
        have BE_6 := Lib.hid (below_step BE_5.out hb BE_5.out.size)
        clear hb
        go_wp2_with fail
        refine (awake_any m _ HM_6.out).mono ?_
        rintro e x7 ⟨rfl, hb⟩
        have X_7 := Lib.hid (Seg.kept X_6.out hb)
        have HM_7 := Lib.hid (cell_kept hb HM_6.out)
        have BE_7 := Lib.hid (below_step BE_6.out hb BE_6.out.size)
        clear hb
        go_wp2_with fail
        go_ret
        exact ⟨rfl, BE_7.out⟩
      | some l =>
        obtain ⟨hl1, hl2⟩ := HO.out l rfl
        have HL2 := Lib.hid hl2
        have HL1 := Lib.hid hl1
        clear hl1 hl2
        refine (HPT.out _).mono ?_
        rintro e x6 ⟨⟨v9, rfl, ho⟩, hb⟩
        have X_6 := Lib.hid (Seg.kept X_5.out hb)
        have HM_6 := Lib.hid (cell_kept hb HM_5.out)
        have BE_6 := Lib.hid (below_step BE_5.out hb BE_5.out.size)
        obtain ⟨ao9, cap9, hv9⟩ := owns_slice1 ho
        subst hv9
        have G9 := Lib.hid (show PtsAt x6 (.slice ao9 l.length cap9) l from Seg.of_owns ho)
        clear ho
        clear hb
        go_wp2_with fail
        have HKL := Lib.hid (fun W (h : PtsAt W (.slice ao9 l.length cap9) l) (hm : MaxAt m W) => (show Calls Tryd.prog 16 #[.slice ao9 l.length cap9] W fun e w' => e = .returned (.string (s.extract 0 5000)) ∧ Below W.heap.size W w' from by
          have hl1 := HL1.out
          have := key_any _ l m W h (by have := HL2.out; omega) (by have e := congrArg ByteArray.size hl1; rw [ofBs_size] at e; have := HT.out; omega) hm
          rw [hl1] at this; exact this))
        refine (HKL.out _ G9.out HM_6.out).mono ?_
        rintro e x7 ⟨rfl, hb⟩
        have X_7 := Lib.hid (Seg.kept X_6.out hb)
        have HM_7 := Lib.hid (cell_kept hb HM_6.out)
        have BE_7 := Lib.hid (below_step BE_6.out hb BE_6.out.size)
        have ts := TS.out
        clear hb
        go_wp2_with fail
        refine (awake_any m _ HM_7.out).mono ?_
        rintro e x8 ⟨rfl, hb⟩
        have X_8 := Lib.hid (Seg.kept X_7.out hb)
        have HM_8 := Lib.hid (cell_kept hb HM_7.out)
        have BE_8 := Lib.hid (below_step BE_7.out hb BE_7.out.size)
        clear hb
        go_wp2_with fail
        go_ret
        exact ⟨rfl, BE_8.out⟩
  · go_wp2_with fail
    refine (awake_any m _ HM.out).mono ?_
    rintro e x1 ⟨rfl, hb⟩
    have X_1 := Lib.hid (Seg.kept X.out hb)
    have HM_1 := Lib.hid (cell_kept hb HM.out)
    have BE_1 := Lib.hid (below_step BE.out hb BE.out.size)
    clear hb
    go_wp2_with fail
    go_ret
    exact ⟨rfl, BE_1.out⟩
end Go.Proofs.Tryd.Ok
