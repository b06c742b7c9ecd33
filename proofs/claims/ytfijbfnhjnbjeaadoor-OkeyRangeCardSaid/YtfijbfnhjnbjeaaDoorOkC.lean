/- The laws of okey: OkeyRange's walk. -/
import Derived.Test.YtfijbfnhjnbjeaaDoorOkB
set_option linter.unusedVariables false
set_option linter.unusedSimpArgs false
set_option maxRecDepth 100000
namespace Go.Proofs.Tryd.Ok
open Go.RowKit Go.Cph Go.Cph.Ok Go.Proofs.Tryd.Nu
theorem toList_app (a b : ByteArray) : (a ++ b).toList = a.toList ++ b.toList := by
  rw [ByteArray.toList_eq, ByteArray.toList_eq, ByteArray.toList_eq]; simp
theorem less_or (x y : Bs) : (Op.bytesLess x y || x == y) = !Op.bytesLess y x := by
  cases h : Op.bytesLess x y
  · cases h2 : Op.bytesLess y x
    · rw [Go.Cph.Skip.bl_total _ _ h h2]; simp
    · obtain ⟨-, h3⟩ := ne_of_less h2; rw [h3]; rfl
  · have : Op.bytesLess y x = false := by
      rw [Bool.eq_false_iff]; intro h2
      have := Go.Cph.Skip.bl_trans _ _ _ h h2
      rw [Go.Cph.Skip.bl_irrefl] at this; cases this
    rw [this]; rfl
set_option maxHeartbeats 32000000 in
theorem range_law (v u : Value) (x y : List Pt) (m : Int) (w : World) (h : PtsAt w v x) (k : PtsAt w u y) (hx : x.length ≤ 9223372036854775807) (hy : y.length ≤ 9223372036854775807) (hm : MaxAt m w) :
    Calls Tryd.prog 8 #[v, u] w (AwPost w) := by
  have X := Lib.hid h
  have Y := Lib.hid k
  have HM := Lib.hid hm
  have BE := Lib.hid (Below.refl w.heap.size w)
  have HGX := Lib.hid (great_any v x w h hx)
  have HGY := Lib.hid (great_any u y w k hy)
  clear h k hx hy hm
  go_enter Tryd.func8, Tryd.ntmps8
  go_wp2_with fail
  refine HGX.out.mono ?_
  rintro e w1 ⟨r, rfl, hsx, rfl⟩
  cases r
  · have HSx := Lib.hid (hsx rfl)
    clear hsx HGX
    go_wp2_with fail
    refine HGY.out.mono ?_
    rintro e w2 ⟨r, rfl, hsy, rfl⟩
    cases r
    · have HSy := Lib.hid (hsy rfl)
      clear hsy HGY
      have hkx := HSx.out.key
      have hky := HSy.out.key
      obtain ⟨pb, hpb⟩ : ∃ pb, pb = (key x).isPrefixOf (key y) := ⟨_, rfl⟩
      have hr1 := key_range x y
      have hr2 := key_range x (x ++ y)
      rw [show (key x).isPrefixOf (key (x ++ y)) = true from by rw [List.isPrefixOf_iff_prefix, key_append]; exact List.prefix_append _ _, key_append] at hr2
      rw [← hpb] at hr1
      have HBG := Lib.hid (fun W v u (h : PtsAt W v (y.map plainP)) (k : PtsAt W u (x.map plainP)) => (show Calls Tryd.prog 20 #[v, u] W fun e w' => e = .returned (.bool pb) ∧ Below W.heap.size W w' from by
        have := begins_any v u _ _ W h k (by have := HSy.out.num; simp; omega) (by have := HSx.out.num; simp; omega)
        rw [begL_pre, ← hpb] at this; exact this))
      obtain ⟨A, hA⟩ : ∃ A, A = ofBs (key x) := ⟨_, rfl⟩
      obtain ⟨D, hD⟩ : ∃ D, D = ofBs (key x ++ [3]) := ⟨_, rfl⟩
      obtain ⟨B, hB⟩ : ∃ B, B = ofBs (key y) := ⟨_, rfl⟩
      have has : A.size = (key x).length := by rw [hA, ofBs_size]
      have hbs : B.size = (key y).length := by rw [hB, ofBs_size]
      have hal : A.toList = key x := by rw [hA]; exact ofBs_toList _
      have hbl : B.toList = key y := by rw [hB]; exact ofBs_toList _
      have hdl : D.toList = key x ++ [3] := by rw [hD]; exact ofBs_toList _
      have hll : (A ++ B).toList = key x ++ key y := by rw [toList_app, hal, hbl]
      have hL : ofBs (key (x ++ y)) = A ++ B := list_eq (by rw [ofBs_list, key_append, ← hll, ByteArray.toList_eq])
      rw [← hdl, ← hbl, ← hal] at hr1
      rw [← hdl, ← hll, ← hal] at hr2
      have HRG := Lib.hid (fun W v (h : PtsAt W v x) (hm : MaxAt m W) => (show Calls Tryd.prog 22 #[v] W fun e w' => e = .returned (.tuple #[.string A, .string D]) ∧ Below W.heap.size W w' from by
        rw [hA, hD]; exact range_any v x m W h (by have := HSx.out.num; omega) (by omega) hm))
      have HKY := Lib.hid (fun W v (h : PtsAt W v y) (hm : MaxAt m W) => (show Calls Tryd.prog 16 #[v] W fun e w' => e = .returned (.string B) ∧ Below W.heap.size W w' from by
        rw [hB]; exact key_any v y m W h (by have := HSy.out.num; omega) (by omega) hm))
      have HKL := Lib.hid (fun W v (h : PtsAt W v (x ++ y)) (hm : MaxAt m W) => (show Calls Tryd.prog 16 #[v] W fun e w' => e = .returned (.string (A ++ B)) ∧ Below W.heap.size W w' from by
        rw [← hL]; exact key_any v (x ++ y) m W h (by have := HSx.out.num; have := HSy.out.num; simp; omega) (by rw [key_append]; simp; omega) hm))
      have has2 : A.size ≤ 12000 := by omega
      have hbs2 : B.size ≤ 12000 := by omega
      have has3 : (A.size : Int) ≤ 12000 := by omega
      have hbs3 : (B.size : Int) ≤ 12000 := by omega
      have HR1 := Lib.hid (show pb = ((Op.bytesLess A.toList B.toList || A.toList == B.toList) && Op.bytesLess B.toList D.toList) from by rw [← hr1, less_or])
      have hr3 : (Op.bytesLess A.toList (A ++ B).toList || A.toList == (A ++ B).toList) = true := by rw [less_or]; revert hr2; cases Op.bytesLess (A ++ B).toList A.toList <;> simp
      have hr4 : Op.bytesLess (A ++ B).toList D.toList = true := by revert hr2; cases Op.bytesLess (A ++ B).toList D.toList <;> simp
      have hr5 : ((A ++ B).toList == (A ++ B).toList) = true := by simp
      have HR3 := Lib.hid hr3
      have HR4 := Lib.hid hr4
      have HR5 := Lib.hid hr5
      have HNX := Lib.hid (show 0 + x.length ≤ 1099511627776 from by have := HSx.out.num; omega)
      have HNY := Lib.hid (show 0 + x.length + y.length ≤ 1099511627776 from by have := HSx.out.num; have := HSy.out.num; omega)
      clear hr1 hr2 hr3 hr4 hr5 hal hbl hdl hll hL has hbs hA hB hD hpb hkx hky
      go_wp2_with fail
      refine (given_any _ x _ X.out (by have := HSx.out.num; omega)).mono ?_
      rintro e x1 ⟨vG1, rfl, ho, hb⟩
      have X_1 := Lib.hid (Seg.kept X.out hb)
      have Y_1 := Lib.hid (Seg.kept Y.out hb)
      have HM_1 := Lib.hid (cell_kept hb HM.out)
      have BE_1 := Lib.hid (below_step BE.out hb BE.out.size)
      have G1 := Lib.hid (show PtsAt x1 vG1 x from Seg.of_owns ho)
      clear ho
      clear hb
      go_wp2_with fail
      refine (HRG.out _ _ G1.out HM_1.out).mono ?_
      rintro e x2 ⟨rfl, hb⟩
      have X_2 := Lib.hid (Seg.kept X_1.out hb)
      have Y_2 := Lib.hid (Seg.kept Y_1.out hb)
      have HM_2 := Lib.hid (cell_kept hb HM_1.out)
      have BE_2 := Lib.hid (below_step BE_1.out hb BE_1.out.size)
      clear hb
      have hb : Below x2.heap.size x2 (x2.alloc (.cells #[] TP)) := (Below.refl _ _).alloc (Nat.le_refl _) _
      have RO := Lib.hid (owns_empty (heap_alloc_new x2 (.cells #[] TP)) (show w2.heap.size ≤ x2.heap.size from BE_2.out.size) 3)
      have X_3 := Lib.hid (Seg.kept X_2.out hb)
      have Y_3 := Lib.hid (Seg.kept Y_2.out hb)
      have HM_3 := Lib.hid (cell_kept hb HM_2.out)
      have BE_3 := Lib.hid (below_step BE_2.out hb BE_2.out.size)
      clear hb
      go_wp2_with fail
      refine (given_any _ x _ X_3.out (by have := HSx.out.num; omega)).mono ?_
      rintro e x3 ⟨vG2, rfl, ho, hb⟩
      have X_4 := Lib.hid (Seg.kept X_3.out hb)
      have Y_4 := Lib.hid (Seg.kept Y_3.out hb)
      have HM_4 := Lib.hid (cell_kept hb HM_3.out)
      have BE_4 := Lib.hid (below_step BE_3.out hb BE_3.out.size)
      have RO_4 := Lib.hid (row_keptB RO.out hb)
      have G2 := Lib.hid (show PtsAt x3 vG2 x from Seg.of_owns ho)
      clear ho
      clear hb
      go_wp2_with (at_builtin; refine wpList_append_seg rfl (.tmp 23) (.tmp 25) 26 rfl w2.heap.size TP _ 3 32 Tryd.underlying26 infoP rfl (by decide) _ 0 ([]) rfl RO_4.out _ x.length (x.flatMap encC) rfl G2.out encC_one HNX.out (by decide) BE_4.out.size ?_; intro v5 wa5 ho hgr _; have BE_5 := Lib.hid (below_grown BE_4.out hgr RO_4.out (Nat.le_refl _) BE_4.out.size); have X_5 := Lib.hid (Seg.kept X.out BE_5.out); have Y_5 := Lib.hid (Seg.kept Y.out BE_5.out); have HM_5 := Lib.hid (cell_kept BE_5.out HM.out); have RO_5 := Lib.hid ho; clear ho hgr)
      refine (given_any _ y _ Y_5.out (by have := HSy.out.num; omega)).mono ?_
      rintro e x4 ⟨vG3, rfl, ho, hb⟩
      have X_6 := Lib.hid (Seg.kept X_5.out hb)
      have Y_6 := Lib.hid (Seg.kept Y_5.out hb)
      have HM_6 := Lib.hid (cell_kept hb HM_5.out)
      have BE_6 := Lib.hid (below_step BE_5.out hb BE_5.out.size)
      have RO_6 := Lib.hid (row_keptB RO_5.out hb)
      have G3 := Lib.hid (show PtsAt x4 vG3 y from Seg.of_owns ho)
      clear ho
      clear hb
      go_wp2_with (at_builtin; refine wpList_append_seg rfl (.tmp 26) (.tmp 28) 26 rfl w2.heap.size TP _ 3 32 Tryd.underlying26 infoP rfl (by decide) _ (0 + x.length) ([] ++ x.flatMap encC) rfl RO_6.out _ y.length (y.flatMap encC) rfl G3.out encC_one HNY.out (by decide) BE_6.out.size ?_; intro v7 wa7 ho hgr _; have BE_7 := Lib.hid (below_grown BE_6.out hgr RO_6.out (Nat.le_refl _) BE_6.out.size); have X_7 := Lib.hid (Seg.kept X.out BE_7.out); have Y_7 := Lib.hid (Seg.kept Y.out BE_7.out); have HM_7 := Lib.hid (cell_kept BE_7.out HM.out); have RO_7 := Lib.hid ho; clear ho hgr)
      have LG := Lib.hid (show PtsAt wa7 v7 (x ++ y) from by
        have h := Seg.of_owns RO_7.out
        rw [show (0 + x.length + y.length) = (x ++ y).length from by simp, show ([] ++ x.flatMap encC) ++ y.flatMap encC = (x ++ y).flatMap encC from by simp] at h
        exact h)
      refine (given_any _ y _ Y_7.out (by have := HSy.out.num; omega)).mono ?_
      rintro e x5 ⟨vG4, rfl, ho, hb⟩
      have X_8 := Lib.hid (Seg.kept X_7.out hb)
      have Y_8 := Lib.hid (Seg.kept Y_7.out hb)
      have HM_8 := Lib.hid (cell_kept hb HM_7.out)
      have BE_8 := Lib.hid (below_step BE_7.out hb BE_7.out.size)
      have LG_8 := Lib.hid (Seg.kept LG.out hb)
      have G4 := Lib.hid (show PtsAt x5 vG4 y from Seg.of_owns ho)
      clear ho
      clear hb
      go_wp2_with fail
      refine (HKY.out _ _ G4.out HM_8.out).mono ?_
      rintro e x6 ⟨rfl, hb⟩
      have X_9 := Lib.hid (Seg.kept X_8.out hb)
      have Y_9 := Lib.hid (Seg.kept Y_8.out hb)
      have HM_9 := Lib.hid (cell_kept hb HM_8.out)
      have BE_9 := Lib.hid (below_step BE_8.out hb BE_8.out.size)
      have LG_9 := Lib.hid (Seg.kept LG_8.out hb)
      clear hb
      go_wp2_with fail
      refine (HKL.out _ _ LG_9.out HM_9.out).mono ?_
      rintro e x7 ⟨rfl, hb⟩
      have X_10 := Lib.hid (Seg.kept X_9.out hb)
      have Y_10 := Lib.hid (Seg.kept Y_9.out hb)
      have HM_10 := Lib.hid (cell_kept hb HM_9.out)
      have BE_10 := Lib.hid (below_step BE_9.out hb BE_9.out.size)
      have LG_10 := Lib.hid (Seg.kept LG_9.out hb)
      clear hb
      by_cases hab : A = B
      · subst hab
        have e1 : (A.toList == A.toList) = true := by simp
        have b1 : Op.bytesLess A.toList A.toList = false := Go.Cph.Skip.bl_irrefl _
        cases b2 : Op.bytesLess A.toList D.toList
        all_goals
          have hpb := HR1.out
          rw [e1, b1, b2] at hpb
          simp only [Bool.or_true, Bool.or_false, Bool.and_true, Bool.and_false] at hpb
          subst hpb
          go_wp2_with fail
          refine (plain_any _ y _ Y_10.out (by have := HSy.out.num; omega)).mono ?_
          rintro e x8 ⟨vG7, rfl, ho, hb⟩
          have X_11 := Lib.hid (Seg.kept X_10.out hb)
          have Y_11 := Lib.hid (Seg.kept Y_10.out hb)
          have HM_11 := Lib.hid (cell_kept hb HM_10.out)
          have BE_11 := Lib.hid (below_step BE_10.out hb BE_10.out.size)
          have G7 := Lib.hid (show PtsAt x8 vG7 (y.map plainP) from Seg.of_owns ho)
          clear ho
          clear hb
          go_wp2_with fail
          refine (plain_any _ x _ X_11.out (by have := HSx.out.num; omega)).mono ?_
          rintro e x9 ⟨vG8, rfl, ho, hb⟩
          have X_12 := Lib.hid (Seg.kept X_11.out hb)
          have Y_12 := Lib.hid (Seg.kept Y_11.out hb)
          have HM_12 := Lib.hid (cell_kept hb HM_11.out)
          have BE_12 := Lib.hid (below_step BE_11.out hb BE_11.out.size)
          have G7_12 := Lib.hid (Seg.kept G7.out hb)
          have G8 := Lib.hid (show PtsAt x9 vG8 (x.map plainP) from Seg.of_owns ho)
          clear ho
          clear hb
          go_wp2_with fail
          refine (HBG.out _ _ _ G7_12.out G8.out).mono ?_
          rintro e x10 ⟨rfl, hb⟩
          have X_13 := Lib.hid (Seg.kept X_12.out hb)
          have Y_13 := Lib.hid (Seg.kept Y_12.out hb)
          have HM_13 := Lib.hid (cell_kept hb HM_12.out)
          have BE_13 := Lib.hid (below_step BE_12.out hb BE_12.out.size)
          have G7_13 := Lib.hid (Seg.kept G7_12.out hb)
          clear hb
          have c4 := HR4.out
          have c5 := HR5.out
          have c3 := HR3.out
          go_wp2_with fail
          refine (awake_any m _ HM_13.out).mono ?_
          rintro e x11 ⟨rfl, hb⟩
          have X_14 := Lib.hid (Seg.kept X_13.out hb)
          have Y_14 := Lib.hid (Seg.kept Y_13.out hb)
          have HM_14 := Lib.hid (cell_kept hb HM_13.out)
          have BE_14 := Lib.hid (below_step BE_13.out hb BE_13.out.size)
          clear hb
          go_wp2_with fail
          go_ret
          exact ⟨rfl, BE_14.out⟩
      · have e1 : (A.toList == B.toList) = false := by rw [beq_eq_false_iff_ne]; intro h; exact hab (list_eq (by rw [← ByteArray.toList_eq, ← ByteArray.toList_eq, h]))
        cases b1 : Op.bytesLess A.toList B.toList
        all_goals
          cases b2 : Op.bytesLess B.toList D.toList
          all_goals
            have hpb := HR1.out
            rw [e1, b1, b2] at hpb
            simp only [Bool.or_true, Bool.or_false, Bool.and_true, Bool.and_false, Bool.or_self, Bool.and_self, Bool.false_and, Bool.true_and] at hpb
            subst hpb
            go_wp2_with fail
            refine (plain_any _ y _ Y_10.out (by have := HSy.out.num; omega)).mono ?_
            rintro e x8 ⟨vG7, rfl, ho, hb⟩
            have X_11 := Lib.hid (Seg.kept X_10.out hb)
            have Y_11 := Lib.hid (Seg.kept Y_10.out hb)
            have HM_11 := Lib.hid (cell_kept hb HM_10.out)
            have BE_11 := Lib.hid (below_step BE_10.out hb BE_10.out.size)
            have G7 := Lib.hid (show PtsAt x8 vG7 (y.map plainP) from Seg.of_owns ho)
            clear ho
            clear hb
            go_wp2_with fail
            refine (plain_any _ x _ X_11.out (by have := HSx.out.num; omega)).mono ?_
            rintro e x9 ⟨vG8, rfl, ho, hb⟩
            have X_12 := Lib.hid (Seg.kept X_11.out hb)
            have Y_12 := Lib.hid (Seg.kept Y_11.out hb)
            have HM_12 := Lib.hid (cell_kept hb HM_11.out)
            have BE_12 := Lib.hid (below_step BE_11.out hb BE_11.out.size)
            have G7_12 := Lib.hid (Seg.kept G7.out hb)
            have G8 := Lib.hid (show PtsAt x9 vG8 (x.map plainP) from Seg.of_owns ho)
            clear ho
            clear hb
            go_wp2_with fail
            refine (HBG.out _ _ _ G7_12.out G8.out).mono ?_
            rintro e x10 ⟨rfl, hb⟩
            have X_13 := Lib.hid (Seg.kept X_12.out hb)
            have Y_13 := Lib.hid (Seg.kept Y_12.out hb)
            have HM_13 := Lib.hid (cell_kept hb HM_12.out)
            have BE_13 := Lib.hid (below_step BE_12.out hb BE_12.out.size)
            have G7_13 := Lib.hid (Seg.kept G7_12.out hb)
            clear hb
            have c4 := HR4.out
            have c5 := HR5.out
            have c3 := HR3.out
            go_wp2_with fail
            refine (awake_any m _ HM_13.out).mono ?_
            rintro e x11 ⟨rfl, hb⟩
            have X_14 := Lib.hid (Seg.kept X_13.out hb)
            have Y_14 := Lib.hid (Seg.kept Y_13.out hb)
            have HM_14 := Lib.hid (cell_kept hb HM_13.out)
            have BE_14 := Lib.hid (below_step BE_13.out hb BE_13.out.size)
            clear hb
            go_wp2_with fail
            go_ret
            exact ⟨rfl, BE_14.out⟩
    · go_wp2_with fail
      refine (awake_any m _ HM.out).mono ?_
      rintro e x1 ⟨rfl, hb⟩
      have X_1 := Lib.hid (Seg.kept X.out hb)
      have Y_1 := Lib.hid (Seg.kept Y.out hb)
      have HM_1 := Lib.hid (cell_kept hb HM.out)
      have BE_1 := Lib.hid (below_step BE.out hb BE.out.size)
      clear hb
      go_wp2_with fail
      go_ret
      exact ⟨rfl, BE_1.out⟩
  · go_wp2_with fail
    refine (awake_any m _ HM.out).mono ?_
    rintro e x1 ⟨rfl, hb⟩
    have X_1 := Lib.hid (Seg.kept X.out hb)
    have Y_1 := Lib.hid (Seg.kept Y.out hb)
    have HM_1 := Lib.hid (cell_kept hb HM.out)
    have BE_1 := Lib.hid (below_step BE.out hb BE.out.size)
    clear hb
    go_wp2_with fail
    go_ret
    exact ⟨rfl, BE_1.out⟩
end Go.Proofs.Tryd.Ok
