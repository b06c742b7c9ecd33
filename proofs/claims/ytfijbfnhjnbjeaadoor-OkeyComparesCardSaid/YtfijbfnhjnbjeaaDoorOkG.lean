/- The laws of okey: OkeyCompares' walk. -/
import Derived.Test.YtfijbfnhjnbjeaaDoorOkF
set_option linter.unusedVariables false
set_option linter.unusedSimpArgs false
set_option maxRecDepth 100000
namespace Go.Proofs.Tryd.Ok
open Go.RowKit Go.Cph Go.Cph.Ok Go.Proofs.Tryd.Nu
set_option maxHeartbeats 32000000 in
theorem compares_law (v u : Value) (x y : List Pt) (m : Int) (w : World) (h : PtsAt w v x) (k : PtsAt w u y) (hx : x.length ≤ 9223372036854775807) (hy : y.length ≤ 9223372036854775807) (hm : MaxAt m w) :
    Calls Tryd.prog 7 #[v, u] w (AwPost w) := by
  have X := Lib.hid h
  have Y := Lib.hid k
  have HM := Lib.hid hm
  have BE := Lib.hid (Below.refl w.heap.size w)
  have HGX := Lib.hid (great_any v x w h hx)
  have HGY := Lib.hid (great_any u y w k hy)
  clear h k hx hy hm
  go_enter Tryd.func7, Tryd.ntmps7
  go_wp2_with fail
  refine HGX.out.mono ?_
  rintro e w1 ⟨r, rfl, hsx, rfl⟩
  cases r
  · have HSx := Lib.hid (hsx rfl)
    clear hsx HGX
    go_wp2_with fail
    refine HGY.out.mono ?_
    rintro e w2 ⟨r, rfl, hsy, rfl⟩
    cases r
    · have HSy := Lib.hid (hsy rfl)
      clear hsy HGY
      have hkx := HSx.out.key
      obtain ⟨c, hc⟩ : ∃ c, c = cmpL x y := ⟨_, rfl⟩
      obtain ⟨A, hA⟩ : ∃ A, A = ofBs (key x) := ⟨_, rfl⟩
      have hD : ofBs (key x ++ [3]) = A ++ ⟨#[3]⟩ := list_eq (by rw [cat_list, hA, ofBs_list, ofBs_list])
      have HRG := Lib.hid (fun W v (h : PtsAt W v x) (hm : MaxAt m W) => (show Calls Tryd.prog 22 #[v] W fun e w' => e = .returned (.tuple #[.string A, .string (A ++ ⟨#[3]⟩)]) ∧ Below W.heap.size W w' from by
        rw [← hD, hA]; exact range_any v x m W h (by have := HSx.out.num; omega) (by omega) hm))
      have HRK := Lib.hid (fun W v (h : PtsAt W v x) => (show Calls Tryd.prog 11 #[v] W fun e w' => e = .returned (.string A) ∧ Below W.heap.size W w' from by
        rw [hA]; exact rkey_any v x W h (by have := HSx.out.num; omega) (by omega)))
      have HCX := Lib.hid (fun W v u (h : PtsAt W v x) (k : PtsAt W u y) => (show Calls Tryd.prog 19 #[v, u] W fun e w' => e = .returned (.int .i64 c) ∧ Below W.heap.size W w' from by
        rw [hc]; exact compare_any v u x y W h k (by have := HSx.out.num; omega) (by have := HSy.out.num; omega)))
      have HRC := Lib.hid (fun W v u (h : PtsAt W v x) (k : PtsAt W u y) => (show Calls Tryd.prog 23 #[v, u] W fun e w' => e = .returned (.int .i64 c) ∧ Below W.heap.size W w' from by
        rw [hc]; exact rcompare_any v u x y W h k HSx.out HSy.out))
      have has : A.size ≤ 12000 := by rw [hA, ofBs_size]; omega
      have has2 : (A.size : Int) ≤ 12000 := by omega
      have ts1 : (A.toList == A.toList) = true := by simp
      have ts2 : ((A ++ ⟨#[3]⟩ : ByteArray).toList == (A ++ ⟨#[3]⟩ : ByteArray).toList) = true := by simp
      clear hc hA hD hkx
      go_wp2_with fail
      refine (given_any _ x _ X.out (by have := HSx.out.num; omega)).mono ?_
      rintro e x1 ⟨vG1, rfl, ho, hb⟩
      have X_1 := Lib.hid (Seg.kept X.out hb)
      have Y_1 := Lib.hid (Seg.kept Y.out hb)
      have HM_1 := Lib.hid (cell_kept hb HM.out)
      have BE_1 := Lib.hid (below_step BE.out hb BE.out.size)
      have G1 := Lib.hid (show PtsAt x1 vG1 x from Seg.of_owns ho)
      clear ho
      clear hb
      go_wp2_with fail
      refine (HRG.out _ _ G1.out HM_1.out).mono ?_
      rintro e x2 ⟨rfl, hb⟩
      have X_2 := Lib.hid (Seg.kept X_1.out hb)
      have Y_2 := Lib.hid (Seg.kept Y_1.out hb)
      have HM_2 := Lib.hid (cell_kept hb HM_1.out)
      have BE_2 := Lib.hid (below_step BE_1.out hb BE_1.out.size)
      clear hb
      go_wp2_with fail
      refine (HRK.out _ _ X_2.out).mono ?_
      rintro e x3 ⟨rfl, hb⟩
      have X_3 := Lib.hid (Seg.kept X_2.out hb)
      have Y_3 := Lib.hid (Seg.kept Y_2.out hb)
      have HM_3 := Lib.hid (cell_kept hb HM_2.out)
      have BE_3 := Lib.hid (below_step BE_2.out hb BE_2.out.size)
      clear hb
      go_wp2_with fail
      refine (given_any _ x _ X_3.out (by have := HSx.out.num; omega)).mono ?_
      rintro e x4 ⟨vG3, rfl, ho, hb⟩
      have X_4 := Lib.hid (Seg.kept X_3.out hb)
      have Y_4 := Lib.hid (Seg.kept Y_3.out hb)
      have HM_4 := Lib.hid (cell_kept hb HM_3.out)
      have BE_4 := Lib.hid (below_step BE_3.out hb BE_3.out.size)
      have G3 := Lib.hid (show PtsAt x4 vG3 x from Seg.of_owns ho)
      clear ho
      clear hb
      go_wp2_with fail
      refine (given_any _ y _ Y_4.out (by have := HSy.out.num; omega)).mono ?_
      rintro e x5 ⟨vG4, rfl, ho, hb⟩
      have X_5 := Lib.hid (Seg.kept X_4.out hb)
      have Y_5 := Lib.hid (Seg.kept Y_4.out hb)
      have HM_5 := Lib.hid (cell_kept hb HM_4.out)
      have BE_5 := Lib.hid (below_step BE_4.out hb BE_4.out.size)
      have G3_5 := Lib.hid (Seg.kept G3.out hb)
      have G4 := Lib.hid (show PtsAt x5 vG4 y from Seg.of_owns ho)
      clear ho
      clear hb
      go_wp2_with fail
      refine (HCX.out _ _ _ G3_5.out G4.out).mono ?_
      rintro e x6 ⟨rfl, hb⟩
      have X_6 := Lib.hid (Seg.kept X_5.out hb)
      have Y_6 := Lib.hid (Seg.kept Y_5.out hb)
      have HM_6 := Lib.hid (cell_kept hb HM_5.out)
      have BE_6 := Lib.hid (below_step BE_5.out hb BE_5.out.size)
      have G3_6 := Lib.hid (Seg.kept G3_5.out hb)
      clear hb
      go_wp2_with fail
      refine (HRC.out _ _ _ X_6.out Y_6.out).mono ?_
      rintro e x7 ⟨rfl, hb⟩
      have X_7 := Lib.hid (Seg.kept X_6.out hb)
      have Y_7 := Lib.hid (Seg.kept Y_6.out hb)
      have HM_7 := Lib.hid (cell_kept hb HM_6.out)
      have BE_7 := Lib.hid (below_step BE_6.out hb BE_6.out.size)
      clear hb
      go_wp2_with fail
      refine (awake_any m _ HM_7.out).mono ?_
      rintro e x8 ⟨rfl, hb⟩
      have X_8 := Lib.hid (Seg.kept X_7.out hb)
      have Y_8 := Lib.hid (Seg.kept Y_7.out hb)
      have HM_8 := Lib.hid (cell_kept hb HM_7.out)
      have BE_8 := Lib.hid (below_step BE_7.out hb BE_7.out.size)
      clear hb
      go_wp2_with fail
      go_ret
      exact ⟨rfl, BE_8.out⟩
    · go_wp2_with fail
      refine (awake_any m _ HM.out).mono ?_
      rintro e x1 ⟨rfl, hb⟩
      have X_1 := Lib.hid (Seg.kept X.out hb)
      have Y_1 := Lib.hid (Seg.kept Y.out hb)
      have HM_1 := Lib.hid (cell_kept hb HM.out)
      have BE_1 := Lib.hid (below_step BE.out hb BE.out.size)
      clear hb
      go_wp2_with fail
      go_ret
      exact ⟨rfl, BE_1.out⟩
  · go_wp2_with fail
    refine (awake_any m _ HM.out).mono ?_
    rintro e x1 ⟨rfl, hb⟩
    have X_1 := Lib.hid (Seg.kept X.out hb)
    have Y_1 := Lib.hid (Seg.kept Y.out hb)
    have HM_1 := Lib.hid (cell_kept hb HM.out)
    have BE_1 := Lib.hid (below_step BE.out hb BE.out.size)
    clear hb
    go_wp2_with fail
    go_ret
    exact ⟨rfl, BE_1.out⟩
end Go.Proofs.Tryd.Ok
