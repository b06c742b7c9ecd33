/- The laws of okey: OkeyOrder's walk. -/
import Derived.Test.YtfijbfnhjnbjeaaDoorOkA
set_option linter.unusedVariables false
set_option linter.unusedSimpArgs false
set_option maxRecDepth 100000
namespace Go.Proofs.Tryd.Ok
open Go.RowKit Go.Cph Go.Cph.Ok Go.Proofs.Tryd.Nu
theorem begL_pre (x y : List Pt) : begL (y.map plainP) (x.map plainP) = (key x).isPrefixOf (key y) := by
  rw [Bool.eq_iff_iff, begL_iff, key_begins]
theorem ofBs_toList (l : Bs) : (ofBs l).toList = l := by rw [ByteArray.toList_eq]; rfl
theorem key_same {x y : List Pt} (h : cmpL x y = 0) : key x = key y := by
  rcases key_cases x y with ⟨h1, -⟩ | ⟨h1, -⟩ | ⟨-, h2⟩
  · rw [h] at h1; cases h1
  · rw [h] at h1; cases h1
  · rw [← key_plain x, h2, key_plain]
theorem ne_of_less {x y : Bs} (h : Op.bytesLess x y = true) : (x == y) = false ∧ (y == x) = false := by
  constructor
  · rw [beq_eq_false_iff_ne]; rintro rfl; rw [Go.Cph.Skip.bl_irrefl] at h; cases h
  · rw [beq_eq_false_iff_ne]; rintro rfl; rw [Go.Cph.Skip.bl_irrefl] at h; cases h
theorem pre_take (x y : Bs) (h : x.length ≤ y.length) : ((y.take x.length) == x) = x.isPrefixOf y := by
  rw [Bool.eq_iff_iff, beq_iff_eq, List.isPrefixOf_iff_prefix]
  constructor
  · intro h; rw [← h]; exact List.take_prefix _ _
  · intro h; exact (List.prefix_iff_eq_take.1 h).symm
theorem pre_long (x y : Bs) (h : ¬ x.length ≤ y.length) : x.isPrefixOf y = false := by
  rw [Bool.eq_false_iff, Ne, List.isPrefixOf_iff_prefix]
  exact fun e => h e.length_le
set_option maxHeartbeats 32000000 in
theorem order_law (v u : Value) (x y : List Pt) (m : Int) (w : World) (h : PtsAt w v x) (k : PtsAt w u y) (hx : x.length ≤ 9223372036854775807) (hy : y.length ≤ 9223372036854775807) (hm : MaxAt m w) :
    Calls Tryd.prog 4 #[v, u] w (AwPost w) := by
  have X := Lib.hid h
  have Y := Lib.hid k
  have HM := Lib.hid hm
  have BE := Lib.hid (Below.refl w.heap.size w)
  have HGX := Lib.hid (great_any v x w h hx)
  have HGY := Lib.hid (great_any u y w k hy)
  clear h k hx hy hm
  go_enter Tryd.func4, Tryd.ntmps4
  go_wp2_with fail
  refine HGX.out.mono ?_
  rintro e w1 ⟨r, rfl, hsx, rfl⟩
  cases r
  · have HSx := Lib.hid (hsx rfl)
    clear hsx HGX
    go_wp2_with fail
    refine HGY.out.mono ?_
    rintro e w2 ⟨r, rfl, hsy, rfl⟩
    cases r
    · have HSy := Lib.hid (hsy rfl)
      clear hsy HGY
      have hkx := HSx.out.key
      have hky := HSy.out.key
      obtain ⟨c, hc⟩ : ∃ c, c = cmpL x y := ⟨_, rfl⟩
      obtain ⟨pb, hpb⟩ : ∃ pb, pb = (key x).isPrefixOf (key y) := ⟨_, rfl⟩
      have hl1 := key_less x y
      have hl2 := key_less y x
      have hfl := cmp_flip x y
      rw [hfl, ← hc] at hl2
      rw [← hc] at hl1
      have HCX := Lib.hid (fun W v u (h : PtsAt W v x) (k : PtsAt W u y) => (show Calls Tryd.prog 19 #[v, u] W fun e w' => e = .returned (.int .i64 c) ∧ Below W.heap.size W w' from by
        have := compare_any v u x y W h k (by have := HSx.out.num; omega) (by have := HSy.out.num; omega)
        rw [← hc] at this; exact this))
      have HCY := Lib.hid (fun W v u (h : PtsAt W v y) (k : PtsAt W u x) => (show Calls Tryd.prog 19 #[v, u] W fun e w' => e = .returned (.int .i64 (-c)) ∧ Below W.heap.size W w' from by
        have := compare_any v u y x W h k (by have := HSy.out.num; omega) (by have := HSx.out.num; omega)
        rw [hfl, ← hc] at this; exact this))
      have HKX := Lib.hid (fun W v (h : PtsAt W v x) (hm : MaxAt m W) => key_any v x m W h (by have := HSx.out.num; omega) (by omega) hm)
      have HKY := Lib.hid (fun W v (h : PtsAt W v y) (hm : MaxAt m W) => key_any v y m W h (by have := HSy.out.num; omega) (by omega) hm)
      have HBG := Lib.hid (fun W v u (h : PtsAt W v (y.map plainP)) (k : PtsAt W u (x.map plainP)) => (show Calls Tryd.prog 20 #[v, u] W fun e w' => e = .returned (.bool pb) ∧ Below W.heap.size W w' from by
        have := begins_any v u _ _ W h k (by have := HSy.out.num; simp; omega) (by have := HSx.out.num; simp; omega)
        rw [begL_pre, ← hpb] at this; exact this))
      have hpl := pre_long (key x) (key y)
      have hpt := pre_take (key x) (key y)
      rw [← hpb] at hpl hpt
      obtain ⟨A, hA⟩ : ∃ A, A = ofBs (key x) := ⟨_, rfl⟩
      obtain ⟨B, hB⟩ : ∃ B, B = ofBs (key y) := ⟨_, rfl⟩
      have has : A.size = (key x).length := by rw [hA, ofBs_size]
      have hbs : B.size = (key y).length := by rw [hB, ofBs_size]
      have hex : (B.extract 0 A.size).toList = (key y).take (key x).length := by
        rw [ByteArray.toList_eq, has, hB]; simp [ofBs]
      have hal : A.toList = key x := by rw [hA]; exact ofBs_toList _
      have hbl : B.toList = key y := by rw [hB]; exact ofBs_toList _
      rw [← hex] at hpt
      rw [← has, ← hbs] at hpl hpt
      rw [← hal] at hpt
      rw [← hal, ← hbl] at hl1 hl2
      rw [← hA] at HKX
      rw [← hB] at HKY
      have hsame : c = 0 → A = B := fun h => by rw [hA, hB, key_same (hc.symm.trans h)]
      have HSAME := Lib.hid hsame
      have hcase : (c = -1 ∨ c = 0 ∨ c = 1) := by rw [hc]; exact cmp_one x y
      have has2 : A.size ≤ 12000 := by omega
      have hbs2 : B.size ≤ 12000 := by omega
      have HCASE := Lib.hid hcase
      have HL1 := Lib.hid hl1
      have HL2 := Lib.hid hl2
      have HPL := Lib.hid hpl
      have HPT := Lib.hid hpt
      clear hcase hsame hl1 hl2 hpl hpt hal hbl hex has hbs hA hB hc hpb hkx hky hfl
      go_wp2_with fail
      refine (given_any _ x _ X.out (by have := HSx.out.num; omega)).mono ?_
      rintro e x1 ⟨vG1, rfl, ho, hb⟩
      have X_1 := Lib.hid (Seg.kept X.out hb)
      have Y_1 := Lib.hid (Seg.kept Y.out hb)
      have HM_1 := Lib.hid (cell_kept hb HM.out)
      have BE_1 := Lib.hid (below_step BE.out hb BE.out.size)
      have G1 := Lib.hid (show PtsAt x1 vG1 x from Seg.of_owns ho)
      clear ho
      clear hb
      go_wp2_with fail
      refine (HKX.out _ _ G1.out HM_1.out).mono ?_
      rintro e x2 ⟨rfl, hb⟩
      have X_2 := Lib.hid (Seg.kept X_1.out hb)
      have Y_2 := Lib.hid (Seg.kept Y_1.out hb)
      have HM_2 := Lib.hid (cell_kept hb HM_1.out)
      have BE_2 := Lib.hid (below_step BE_1.out hb BE_1.out.size)
      clear hb
      go_wp2_with fail
      refine (given_any _ y _ Y_2.out (by have := HSy.out.num; omega)).mono ?_
      rintro e x3 ⟨vG2, rfl, ho, hb⟩
      have X_3 := Lib.hid (Seg.kept X_2.out hb)
      have Y_3 := Lib.hid (Seg.kept Y_2.out hb)
      have HM_3 := Lib.hid (cell_kept hb HM_2.out)
      have BE_3 := Lib.hid (below_step BE_2.out hb BE_2.out.size)
      have G2 := Lib.hid (show PtsAt x3 vG2 y from Seg.of_owns ho)
      clear ho
      clear hb
      go_wp2_with fail
      refine (HKY.out _ _ G2.out HM_3.out).mono ?_
      rintro e x4 ⟨rfl, hb⟩
      have X_4 := Lib.hid (Seg.kept X_3.out hb)
      have Y_4 := Lib.hid (Seg.kept Y_3.out hb)
      have HM_4 := Lib.hid (cell_kept hb HM_3.out)
      have BE_4 := Lib.hid (below_step BE_3.out hb BE_3.out.size)
      clear hb
      rcases HCASE.out with rfl | rfl | rfl
      · have hl1 := HL1.out
        have hl2 := HL2.out
        have b1 : Op.bytesLess A.toList B.toList = true := by rw [hl1]; decide
        have b2 : Op.bytesLess B.toList A.toList = false := by rw [hl2]; decide
        clear hl1 hl2
        obtain ⟨e1, e2⟩ := ne_of_less b1
        by_cases hsz : A.size ≤ B.size
        · have k1 : (A.size : Int) ≤ (B.size : Int) := by omega
          have hpt := HPT.out hsz
          clear hsz HPL
          cases pb
          all_goals
            go_wp2_with fail
            clear b1 b2 k1 hpt e1
            refine (given_any _ x _ X_4.out (by have := HSx.out.num; omega)).mono ?_
            rintro e x5 ⟨vG3, rfl, ho, hb⟩
            have X_5 := Lib.hid (Seg.kept X_4.out hb)
            have Y_5 := Lib.hid (Seg.kept Y_4.out hb)
            have HM_5 := Lib.hid (cell_kept hb HM_4.out)
            have BE_5 := Lib.hid (below_step BE_4.out hb BE_4.out.size)
            have G3 := Lib.hid (show PtsAt x5 vG3 x from Seg.of_owns ho)
            clear ho
            clear hb
            go_wp2_with fail
            refine (given_any _ y _ Y_5.out (by have := HSy.out.num; omega)).mono ?_
            rintro e x6 ⟨vG4, rfl, ho, hb⟩
            have X_6 := Lib.hid (Seg.kept X_5.out hb)
            have Y_6 := Lib.hid (Seg.kept Y_5.out hb)
            have HM_6 := Lib.hid (cell_kept hb HM_5.out)
            have BE_6 := Lib.hid (below_step BE_5.out hb BE_5.out.size)
            have G3_6 := Lib.hid (Seg.kept G3.out hb)
            have G4 := Lib.hid (show PtsAt x6 vG4 y from Seg.of_owns ho)
            clear ho
            clear hb
            go_wp2_with fail
            refine (HCX.out _ _ _ G3_6.out G4.out).mono ?_
            rintro e x7 ⟨rfl, hb⟩
            have X_7 := Lib.hid (Seg.kept X_6.out hb)
            have Y_7 := Lib.hid (Seg.kept Y_6.out hb)
            have HM_7 := Lib.hid (cell_kept hb HM_6.out)
            have BE_7 := Lib.hid (below_step BE_6.out hb BE_6.out.size)
            have G3_7 := Lib.hid (Seg.kept G3_6.out hb)
            clear hb
            go_wp2_with fail
            refine (given_any _ y _ Y_7.out (by have := HSy.out.num; omega)).mono ?_
            rintro e x8 ⟨vG5, rfl, ho, hb⟩
            have X_8 := Lib.hid (Seg.kept X_7.out hb)
            have Y_8 := Lib.hid (Seg.kept Y_7.out hb)
            have HM_8 := Lib.hid (cell_kept hb HM_7.out)
            have BE_8 := Lib.hid (below_step BE_7.out hb BE_7.out.size)
            have G5 := Lib.hid (show PtsAt x8 vG5 y from Seg.of_owns ho)
            clear ho
            clear hb
            go_wp2_with fail
            refine (given_any _ x _ X_8.out (by have := HSx.out.num; omega)).mono ?_
            rintro e x9 ⟨vG6, rfl, ho, hb⟩
            have X_9 := Lib.hid (Seg.kept X_8.out hb)
            have Y_9 := Lib.hid (Seg.kept Y_8.out hb)
            have HM_9 := Lib.hid (cell_kept hb HM_8.out)
            have BE_9 := Lib.hid (below_step BE_8.out hb BE_8.out.size)
            have G5_9 := Lib.hid (Seg.kept G5.out hb)
            have G6 := Lib.hid (show PtsAt x9 vG6 x from Seg.of_owns ho)
            clear ho
            clear hb
            go_wp2_with fail
            refine (HCY.out _ _ _ G5_9.out G6.out).mono ?_
            rintro e x10 ⟨rfl, hb⟩
            have X_10 := Lib.hid (Seg.kept X_9.out hb)
            have Y_10 := Lib.hid (Seg.kept Y_9.out hb)
            have HM_10 := Lib.hid (cell_kept hb HM_9.out)
            have BE_10 := Lib.hid (below_step BE_9.out hb BE_9.out.size)
            have G5_10 := Lib.hid (Seg.kept G5_9.out hb)
            clear hb
            go_wp2_with fail
            refine (plain_any _ y _ Y_10.out (by have := HSy.out.num; omega)).mono ?_
            rintro e x11 ⟨vG7, rfl, ho, hb⟩
            have X_11 := Lib.hid (Seg.kept X_10.out hb)
            have Y_11 := Lib.hid (Seg.kept Y_10.out hb)
            have HM_11 := Lib.hid (cell_kept hb HM_10.out)
            have BE_11 := Lib.hid (below_step BE_10.out hb BE_10.out.size)
            have G7 := Lib.hid (show PtsAt x11 vG7 (y.map plainP) from Seg.of_owns ho)
            clear ho
            clear hb
            go_wp2_with fail
            refine (plain_any _ x _ X_11.out (by have := HSx.out.num; omega)).mono ?_
            rintro e x12 ⟨vG8, rfl, ho, hb⟩
            have X_12 := Lib.hid (Seg.kept X_11.out hb)
            have Y_12 := Lib.hid (Seg.kept Y_11.out hb)
            have HM_12 := Lib.hid (cell_kept hb HM_11.out)
            have BE_12 := Lib.hid (below_step BE_11.out hb BE_11.out.size)
            have G7_12 := Lib.hid (Seg.kept G7.out hb)
            have G8 := Lib.hid (show PtsAt x12 vG8 (x.map plainP) from Seg.of_owns ho)
            clear ho
            clear hb
            go_wp2_with fail
            refine (HBG.out _ _ _ G7_12.out G8.out).mono ?_
            rintro e x13 ⟨rfl, hb⟩
            have X_13 := Lib.hid (Seg.kept X_12.out hb)
            have Y_13 := Lib.hid (Seg.kept Y_12.out hb)
            have HM_13 := Lib.hid (cell_kept hb HM_12.out)
            have BE_13 := Lib.hid (below_step BE_12.out hb BE_12.out.size)
            have G7_13 := Lib.hid (Seg.kept G7_12.out hb)
            clear hb
            go_wp2_with fail
            refine (awake_any m _ HM_13.out).mono ?_
            rintro e x14 ⟨rfl, hb⟩
            have X_14 := Lib.hid (Seg.kept X_13.out hb)
            have Y_14 := Lib.hid (Seg.kept Y_13.out hb)
            have HM_14 := Lib.hid (cell_kept hb HM_13.out)
            have BE_14 := Lib.hid (below_step BE_13.out hb BE_13.out.size)
            clear hb
            go_wp2_with fail
            go_ret
            exact ⟨rfl, BE_14.out⟩
        · have k1 : ¬ (A.size : Int) ≤ (B.size : Int) := by omega
          have hpl := HPL.out hsz
          clear hsz HPT
          subst hpl
          go_wp2_with fail
          clear b1 b2 k1 e1
          refine (given_any _ x _ X_4.out (by have := HSx.out.num; omega)).mono ?_
          rintro e x5 ⟨vG3, rfl, ho, hb⟩
          have X_5 := Lib.hid (Seg.kept X_4.out hb)
          have Y_5 := Lib.hid (Seg.kept Y_4.out hb)
          have HM_5 := Lib.hid (cell_kept hb HM_4.out)
          have BE_5 := Lib.hid (below_step BE_4.out hb BE_4.out.size)
          have G3 := Lib.hid (show PtsAt x5 vG3 x from Seg.of_owns ho)
          clear ho
          clear hb
          go_wp2_with fail
          refine (given_any _ y _ Y_5.out (by have := HSy.out.num; omega)).mono ?_
          rintro e x6 ⟨vG4, rfl, ho, hb⟩
          have X_6 := Lib.hid (Seg.kept X_5.out hb)
          have Y_6 := Lib.hid (Seg.kept Y_5.out hb)
          have HM_6 := Lib.hid (cell_kept hb HM_5.out)
          have BE_6 := Lib.hid (below_step BE_5.out hb BE_5.out.size)
          have G3_6 := Lib.hid (Seg.kept G3.out hb)
          have G4 := Lib.hid (show PtsAt x6 vG4 y from Seg.of_owns ho)
          clear ho
          clear hb
          go_wp2_with fail
          refine (HCX.out _ _ _ G3_6.out G4.out).mono ?_
          rintro e x7 ⟨rfl, hb⟩
          have X_7 := Lib.hid (Seg.kept X_6.out hb)
          have Y_7 := Lib.hid (Seg.kept Y_6.out hb)
          have HM_7 := Lib.hid (cell_kept hb HM_6.out)
          have BE_7 := Lib.hid (below_step BE_6.out hb BE_6.out.size)
          have G3_7 := Lib.hid (Seg.kept G3_6.out hb)
          clear hb
          go_wp2_with fail
          refine (given_any _ y _ Y_7.out (by have := HSy.out.num; omega)).mono ?_
          rintro e x8 ⟨vG5, rfl, ho, hb⟩
          have X_8 := Lib.hid (Seg.kept X_7.out hb)
          have Y_8 := Lib.hid (Seg.kept Y_7.out hb)
          have HM_8 := Lib.hid (cell_kept hb HM_7.out)
          have BE_8 := Lib.hid (below_step BE_7.out hb BE_7.out.size)
          have G5 := Lib.hid (show PtsAt x8 vG5 y from Seg.of_owns ho)
          clear ho
          clear hb
          go_wp2_with fail
          refine (given_any _ x _ X_8.out (by have := HSx.out.num; omega)).mono ?_
          rintro e x9 ⟨vG6, rfl, ho, hb⟩
          have X_9 := Lib.hid (Seg.kept X_8.out hb)
          have Y_9 := Lib.hid (Seg.kept Y_8.out hb)
          have HM_9 := Lib.hid (cell_kept hb HM_8.out)
          have BE_9 := Lib.hid (below_step BE_8.out hb BE_8.out.size)
          have G5_9 := Lib.hid (Seg.kept G5.out hb)
          have G6 := Lib.hid (show PtsAt x9 vG6 x from Seg.of_owns ho)
          clear ho
          clear hb
          go_wp2_with fail
          refine (HCY.out _ _ _ G5_9.out G6.out).mono ?_
          rintro e x10 ⟨rfl, hb⟩
          have X_10 := Lib.hid (Seg.kept X_9.out hb)
          have Y_10 := Lib.hid (Seg.kept Y_9.out hb)
          have HM_10 := Lib.hid (cell_kept hb HM_9.out)
          have BE_10 := Lib.hid (below_step BE_9.out hb BE_9.out.size)
          have G5_10 := Lib.hid (Seg.kept G5_9.out hb)
          clear hb
          go_wp2_with fail
          refine (plain_any _ y _ Y_10.out (by have := HSy.out.num; omega)).mono ?_
          rintro e x11 ⟨vG7, rfl, ho, hb⟩
          have X_11 := Lib.hid (Seg.kept X_10.out hb)
          have Y_11 := Lib.hid (Seg.kept Y_10.out hb)
          have HM_11 := Lib.hid (cell_kept hb HM_10.out)
          have BE_11 := Lib.hid (below_step BE_10.out hb BE_10.out.size)
          have G7 := Lib.hid (show PtsAt x11 vG7 (y.map plainP) from Seg.of_owns ho)
          clear ho
          clear hb
          go_wp2_with fail
          refine (plain_any _ x _ X_11.out (by have := HSx.out.num; omega)).mono ?_
          rintro e x12 ⟨vG8, rfl, ho, hb⟩
          have X_12 := Lib.hid (Seg.kept X_11.out hb)
          have Y_12 := Lib.hid (Seg.kept Y_11.out hb)
          have HM_12 := Lib.hid (cell_kept hb HM_11.out)
          have BE_12 := Lib.hid (below_step BE_11.out hb BE_11.out.size)
          have G7_12 := Lib.hid (Seg.kept G7.out hb)
          have G8 := Lib.hid (show PtsAt x12 vG8 (x.map plainP) from Seg.of_owns ho)
          clear ho
          clear hb
          go_wp2_with fail
          refine (HBG.out _ _ _ G7_12.out G8.out).mono ?_
          rintro e x13 ⟨rfl, hb⟩
          have X_13 := Lib.hid (Seg.kept X_12.out hb)
          have Y_13 := Lib.hid (Seg.kept Y_12.out hb)
          have HM_13 := Lib.hid (cell_kept hb HM_12.out)
          have BE_13 := Lib.hid (below_step BE_12.out hb BE_12.out.size)
          have G7_13 := Lib.hid (Seg.kept G7_12.out hb)
          clear hb
          go_wp2_with fail
          refine (awake_any m _ HM_13.out).mono ?_
          rintro e x14 ⟨rfl, hb⟩
          have X_14 := Lib.hid (Seg.kept X_13.out hb)
          have Y_14 := Lib.hid (Seg.kept Y_13.out hb)
          have HM_14 := Lib.hid (cell_kept hb HM_13.out)
          have BE_14 := Lib.hid (below_step BE_13.out hb BE_13.out.size)
          clear hb
          go_wp2_with fail
          go_ret
          exact ⟨rfl, BE_14.out⟩
      · have hl1 := HL1.out
        have hl2 := HL2.out
        have b1 : Op.bytesLess A.toList B.toList = false := by rw [hl1]; decide
        have b2 : Op.bytesLess B.toList A.toList = false := by rw [hl2]; decide
        clear hl1 hl2
        have hab : A = B := HSAME.out rfl
        subst hab
        have e1 : (A.toList == A.toList) = true := by simp
        have k1 : (A.size : Int) ≤ (A.size : Int) := Int.le_refl _
        have hpb : pb = true := by rw [← HPT.out (Nat.le_refl _)]; simp
        subst hpb
        clear HPT HPL
        go_wp2_with fail
        clear b1 b2 k1 e1
        refine (given_any _ x _ X_4.out (by have := HSx.out.num; omega)).mono ?_
        rintro e x5 ⟨vG3, rfl, ho, hb⟩
        have X_5 := Lib.hid (Seg.kept X_4.out hb)
        have Y_5 := Lib.hid (Seg.kept Y_4.out hb)
        have HM_5 := Lib.hid (cell_kept hb HM_4.out)
        have BE_5 := Lib.hid (below_step BE_4.out hb BE_4.out.size)
        have G3 := Lib.hid (show PtsAt x5 vG3 x from Seg.of_owns ho)
        clear ho
        clear hb
        go_wp2_with fail
        refine (given_any _ y _ Y_5.out (by have := HSy.out.num; omega)).mono ?_
        rintro e x6 ⟨vG4, rfl, ho, hb⟩
        have X_6 := Lib.hid (Seg.kept X_5.out hb)
        have Y_6 := Lib.hid (Seg.kept Y_5.out hb)
        have HM_6 := Lib.hid (cell_kept hb HM_5.out)
        have BE_6 := Lib.hid (below_step BE_5.out hb BE_5.out.size)
        have G3_6 := Lib.hid (Seg.kept G3.out hb)
        have G4 := Lib.hid (show PtsAt x6 vG4 y from Seg.of_owns ho)
        clear ho
        clear hb
        go_wp2_with fail
        refine (HCX.out _ _ _ G3_6.out G4.out).mono ?_
        rintro e x7 ⟨rfl, hb⟩
        have X_7 := Lib.hid (Seg.kept X_6.out hb)
        have Y_7 := Lib.hid (Seg.kept Y_6.out hb)
        have HM_7 := Lib.hid (cell_kept hb HM_6.out)
        have BE_7 := Lib.hid (below_step BE_6.out hb BE_6.out.size)
        have G3_7 := Lib.hid (Seg.kept G3_6.out hb)
        clear hb
        go_wp2_with fail
        refine (given_any _ y _ Y_7.out (by have := HSy.out.num; omega)).mono ?_
        rintro e x8 ⟨vG5, rfl, ho, hb⟩
        have X_8 := Lib.hid (Seg.kept X_7.out hb)
        have Y_8 := Lib.hid (Seg.kept Y_7.out hb)
        have HM_8 := Lib.hid (cell_kept hb HM_7.out)
        have BE_8 := Lib.hid (below_step BE_7.out hb BE_7.out.size)
        have G5 := Lib.hid (show PtsAt x8 vG5 y from Seg.of_owns ho)
        clear ho
        clear hb
        go_wp2_with fail
        refine (given_any _ x _ X_8.out (by have := HSx.out.num; omega)).mono ?_
        rintro e x9 ⟨vG6, rfl, ho, hb⟩
        have X_9 := Lib.hid (Seg.kept X_8.out hb)
        have Y_9 := Lib.hid (Seg.kept Y_8.out hb)
        have HM_9 := Lib.hid (cell_kept hb HM_8.out)
        have BE_9 := Lib.hid (below_step BE_8.out hb BE_8.out.size)
        have G5_9 := Lib.hid (Seg.kept G5.out hb)
        have G6 := Lib.hid (show PtsAt x9 vG6 x from Seg.of_owns ho)
        clear ho
        clear hb
        go_wp2_with fail
        refine (HCY.out _ _ _ G5_9.out G6.out).mono ?_
        rintro e x10 ⟨rfl, hb⟩
        have X_10 := Lib.hid (Seg.kept X_9.out hb)
        have Y_10 := Lib.hid (Seg.kept Y_9.out hb)
        have HM_10 := Lib.hid (cell_kept hb HM_9.out)
        have BE_10 := Lib.hid (below_step BE_9.out hb BE_9.out.size)
        have G5_10 := Lib.hid (Seg.kept G5_9.out hb)
        clear hb
        go_wp2_with fail
        refine (plain_any _ y _ Y_10.out (by have := HSy.out.num; omega)).mono ?_
        rintro e x11 ⟨vG7, rfl, ho, hb⟩
        have X_11 := Lib.hid (Seg.kept X_10.out hb)
        have Y_11 := Lib.hid (Seg.kept Y_10.out hb)
        have HM_11 := Lib.hid (cell_kept hb HM_10.out)
        have BE_11 := Lib.hid (below_step BE_10.out hb BE_10.out.size)
        have G7 := Lib.hid (show PtsAt x11 vG7 (y.map plainP) from Seg.of_owns ho)
        clear ho
        clear hb
        go_wp2_with fail
        refine (plain_any _ x _ X_11.out (by have := HSx.out.num; omega)).mono ?_
        rintro e x12 ⟨vG8, rfl, ho, hb⟩
        have X_12 := Lib.hid (Seg.kept X_11.out hb)
        have Y_12 := Lib.hid (Seg.kept Y_11.out hb)
        have HM_12 := Lib.hid (cell_kept hb HM_11.out)
        have BE_12 := Lib.hid (below_step BE_11.out hb BE_11.out.size)
        have G7_12 := Lib.hid (Seg.kept G7.out hb)
        have G8 := Lib.hid (show PtsAt x12 vG8 (x.map plainP) from Seg.of_owns ho)
        clear ho
        clear hb
        go_wp2_with fail
        refine (HBG.out _ _ _ G7_12.out G8.out).mono ?_
        rintro e x13 ⟨rfl, hb⟩
        have X_13 := Lib.hid (Seg.kept X_12.out hb)
        have Y_13 := Lib.hid (Seg.kept Y_12.out hb)
        have HM_13 := Lib.hid (cell_kept hb HM_12.out)
        have BE_13 := Lib.hid (below_step BE_12.out hb BE_12.out.size)
        have G7_13 := Lib.hid (Seg.kept G7_12.out hb)
        clear hb
        go_wp2_with fail
        refine (awake_any m _ HM_13.out).mono ?_
        rintro e x14 ⟨rfl, hb⟩
        have X_14 := Lib.hid (Seg.kept X_13.out hb)
        have Y_14 := Lib.hid (Seg.kept Y_13.out hb)
        have HM_14 := Lib.hid (cell_kept hb HM_13.out)
        have BE_14 := Lib.hid (below_step BE_13.out hb BE_13.out.size)
        clear hb
        go_wp2_with fail
        go_ret
        exact ⟨rfl, BE_14.out⟩
      · have hl1 := HL1.out
        have hl2 := HL2.out
        have b1 : Op.bytesLess A.toList B.toList = false := by rw [hl1]; decide
        have b2 : Op.bytesLess B.toList A.toList = true := by rw [hl2]; decide
        clear hl1 hl2
        obtain ⟨e2, e1⟩ := ne_of_less b2
        by_cases hsz : A.size ≤ B.size
        · have k1 : (A.size : Int) ≤ (B.size : Int) := by omega
          have hpt := HPT.out hsz
          clear hsz HPL
          cases pb
          all_goals
            go_wp2_with fail
            clear b1 b2 k1 hpt e1
            refine (given_any _ x _ X_4.out (by have := HSx.out.num; omega)).mono ?_
            rintro e x5 ⟨vG3, rfl, ho, hb⟩
            have X_5 := Lib.hid (Seg.kept X_4.out hb)
            have Y_5 := Lib.hid (Seg.kept Y_4.out hb)
            have HM_5 := Lib.hid (cell_kept hb HM_4.out)
            have BE_5 := Lib.hid (below_step BE_4.out hb BE_4.out.size)
            have G3 := Lib.hid (show PtsAt x5 vG3 x from Seg.of_owns ho)
            clear ho
            clear hb
            go_wp2_with fail
            refine (given_any _ y _ Y_5.out (by have := HSy.out.num; omega)).mono ?_
            rintro e x6 ⟨vG4, rfl, ho, hb⟩
            have X_6 := Lib.hid (Seg.kept X_5.out hb)
            have Y_6 := Lib.hid (Seg.kept Y_5.out hb)
            have HM_6 := Lib.hid (cell_kept hb HM_5.out)
            have BE_6 := Lib.hid (below_step BE_5.out hb BE_5.out.size)
            have G3_6 := Lib.hid (Seg.kept G3.out hb)
            have G4 := Lib.hid (show PtsAt x6 vG4 y from Seg.of_owns ho)
            clear ho
            clear hb
            go_wp2_with fail
            refine (HCX.out _ _ _ G3_6.out G4.out).mono ?_
            rintro e x7 ⟨rfl, hb⟩
            have X_7 := Lib.hid (Seg.kept X_6.out hb)
            have Y_7 := Lib.hid (Seg.kept Y_6.out hb)
            have HM_7 := Lib.hid (cell_kept hb HM_6.out)
            have BE_7 := Lib.hid (below_step BE_6.out hb BE_6.out.size)
            have G3_7 := Lib.hid (Seg.kept G3_6.out hb)
            clear hb
            go_wp2_with fail
            refine (given_any _ y _ Y_7.out (by have := HSy.out.num; omega)).mono ?_
            rintro e x8 ⟨vG5, rfl, ho, hb⟩
            have X_8 := Lib.hid (Seg.kept X_7.out hb)
            have Y_8 := Lib.hid (Seg.kept Y_7.out hb)
            have HM_8 := Lib.hid (cell_kept hb HM_7.out)
            have BE_8 := Lib.hid (below_step BE_7.out hb BE_7.out.size)
            have G5 := Lib.hid (show PtsAt x8 vG5 y from Seg.of_owns ho)
            clear ho
            clear hb
            go_wp2_with fail
            refine (given_any _ x _ X_8.out (by have := HSx.out.num; omega)).mono ?_
            rintro e x9 ⟨vG6, rfl, ho, hb⟩
            have X_9 := Lib.hid (Seg.kept X_8.out hb)
            have Y_9 := Lib.hid (Seg.kept Y_8.out hb)
            have HM_9 := Lib.hid (cell_kept hb HM_8.out)
            have BE_9 := Lib.hid (below_step BE_8.out hb BE_8.out.size)
            have G5_9 := Lib.hid (Seg.kept G5.out hb)
            have G6 := Lib.hid (show PtsAt x9 vG6 x from Seg.of_owns ho)
            clear ho
            clear hb
            go_wp2_with fail
            refine (HCY.out _ _ _ G5_9.out G6.out).mono ?_
            rintro e x10 ⟨rfl, hb⟩
            have X_10 := Lib.hid (Seg.kept X_9.out hb)
            have Y_10 := Lib.hid (Seg.kept Y_9.out hb)
            have HM_10 := Lib.hid (cell_kept hb HM_9.out)
            have BE_10 := Lib.hid (below_step BE_9.out hb BE_9.out.size)
            have G5_10 := Lib.hid (Seg.kept G5_9.out hb)
            clear hb
            go_wp2_with fail
            refine (plain_any _ y _ Y_10.out (by have := HSy.out.num; omega)).mono ?_
            rintro e x11 ⟨vG7, rfl, ho, hb⟩
            have X_11 := Lib.hid (Seg.kept X_10.out hb)
            have Y_11 := Lib.hid (Seg.kept Y_10.out hb)
            have HM_11 := Lib.hid (cell_kept hb HM_10.out)
            have BE_11 := Lib.hid (below_step BE_10.out hb BE_10.out.size)
            have G7 := Lib.hid (show PtsAt x11 vG7 (y.map plainP) from Seg.of_owns ho)
            clear ho
            clear hb
            go_wp2_with fail
            refine (plain_any _ x _ X_11.out (by have := HSx.out.num; omega)).mono ?_
            rintro e x12 ⟨vG8, rfl, ho, hb⟩
            have X_12 := Lib.hid (Seg.kept X_11.out hb)
            have Y_12 := Lib.hid (Seg.kept Y_11.out hb)
            have HM_12 := Lib.hid (cell_kept hb HM_11.out)
            have BE_12 := Lib.hid (below_step BE_11.out hb BE_11.out.size)
            have G7_12 := Lib.hid (Seg.kept G7.out hb)
            have G8 := Lib.hid (show PtsAt x12 vG8 (x.map plainP) from Seg.of_owns ho)
            clear ho
            clear hb
            go_wp2_with fail
            refine (HBG.out _ _ _ G7_12.out G8.out).mono ?_
            rintro e x13 ⟨rfl, hb⟩
            have X_13 := Lib.hid (Seg.kept X_12.out hb)
            have Y_13 := Lib.hid (Seg.kept Y_12.out hb)
            have HM_13 := Lib.hid (cell_kept hb HM_12.out)
            have BE_13 := Lib.hid (below_step BE_12.out hb BE_12.out.size)
            have G7_13 := Lib.hid (Seg.kept G7_12.out hb)
            clear hb
            go_wp2_with fail
            refine (awake_any m _ HM_13.out).mono ?_
            rintro e x14 ⟨rfl, hb⟩
            have X_14 := Lib.hid (Seg.kept X_13.out hb)
            have Y_14 := Lib.hid (Seg.kept Y_13.out hb)
            have HM_14 := Lib.hid (cell_kept hb HM_13.out)
            have BE_14 := Lib.hid (below_step BE_13.out hb BE_13.out.size)
            clear hb
            go_wp2_with fail
            go_ret
            exact ⟨rfl, BE_14.out⟩
        · have k1 : ¬ (A.size : Int) ≤ (B.size : Int) := by omega
          have hpl := HPL.out hsz
          clear hsz HPT
          subst hpl
          go_wp2_with fail
          clear b1 b2 k1 e1
          refine (given_any _ x _ X_4.out (by have := HSx.out.num; omega)).mono ?_
          rintro e x5 ⟨vG3, rfl, ho, hb⟩
          have X_5 := Lib.hid (Seg.kept X_4.out hb)
          have Y_5 := Lib.hid (Seg.kept Y_4.out hb)
          have HM_5 := Lib.hid (cell_kept hb HM_4.out)
          have BE_5 := Lib.hid (below_step BE_4.out hb BE_4.out.size)
          have G3 := Lib.hid (show PtsAt x5 vG3 x from Seg.of_owns ho)
          clear ho
          clear hb
          go_wp2_with fail
          refine (given_any _ y _ Y_5.out (by have := HSy.out.num; omega)).mono ?_
          rintro e x6 ⟨vG4, rfl, ho, hb⟩
          have X_6 := Lib.hid (Seg.kept X_5.out hb)
          have Y_6 := Lib.hid (Seg.kept Y_5.out hb)
          have HM_6 := Lib.hid (cell_kept hb HM_5.out)
          have BE_6 := Lib.hid (below_step BE_5.out hb BE_5.out.size)
          have G3_6 := Lib.hid (Seg.kept G3.out hb)
          have G4 := Lib.hid (show PtsAt x6 vG4 y from Seg.of_owns ho)
          clear ho
          clear hb
          go_wp2_with fail
          refine (HCX.out _ _ _ G3_6.out G4.out).mono ?_
          rintro e x7 ⟨rfl, hb⟩
          have X_7 := Lib.hid (Seg.kept X_6.out hb)
          have Y_7 := Lib.hid (Seg.kept Y_6.out hb)
          have HM_7 := Lib.hid (cell_kept hb HM_6.out)
          have BE_7 := Lib.hid (below_step BE_6.out hb BE_6.out.size)
          have G3_7 := Lib.hid (Seg.kept G3_6.out hb)
          clear hb
          go_wp2_with fail
          refine (given_any _ y _ Y_7.out (by have := HSy.out.num; omega)).mono ?_
          rintro e x8 ⟨vG5, rfl, ho, hb⟩
          have X_8 := Lib.hid (Seg.kept X_7.out hb)
          have Y_8 := Lib.hid (Seg.kept Y_7.out hb)
          have HM_8 := Lib.hid (cell_kept hb HM_7.out)
          have BE_8 := Lib.hid (below_step BE_7.out hb BE_7.out.size)
          have G5 := Lib.hid (show PtsAt x8 vG5 y from Seg.of_owns ho)
          clear ho
          clear hb
          go_wp2_with fail
          refine (given_any _ x _ X_8.out (by have := HSx.out.num; omega)).mono ?_
          rintro e x9 ⟨vG6, rfl, ho, hb⟩
          have X_9 := Lib.hid (Seg.kept X_8.out hb)
          have Y_9 := Lib.hid (Seg.kept Y_8.out hb)
          have HM_9 := Lib.hid (cell_kept hb HM_8.out)
          have BE_9 := Lib.hid (below_step BE_8.out hb BE_8.out.size)
          have G5_9 := Lib.hid (Seg.kept G5.out hb)
          have G6 := Lib.hid (show PtsAt x9 vG6 x from Seg.of_owns ho)
          clear ho
          clear hb
          go_wp2_with fail
          refine (HCY.out _ _ _ G5_9.out G6.out).mono ?_
          rintro e x10 ⟨rfl, hb⟩
          have X_10 := Lib.hid (Seg.kept X_9.out hb)
          have Y_10 := Lib.hid (Seg.kept Y_9.out hb)
          have HM_10 := Lib.hid (cell_kept hb HM_9.out)
          have BE_10 := Lib.hid (below_step BE_9.out hb BE_9.out.size)
          have G5_10 := Lib.hid (Seg.kept G5_9.out hb)
          clear hb
          go_wp2_with fail
          refine (plain_any _ y _ Y_10.out (by have := HSy.out.num; omega)).mono ?_
          rintro e x11 ⟨vG7, rfl, ho, hb⟩
          have X_11 := Lib.hid (Seg.kept X_10.out hb)
          have Y_11 := Lib.hid (Seg.kept Y_10.out hb)
          have HM_11 := Lib.hid (cell_kept hb HM_10.out)
          have BE_11 := Lib.hid (below_step BE_10.out hb BE_10.out.size)
          have G7 := Lib.hid (show PtsAt x11 vG7 (y.map plainP) from Seg.of_owns ho)
          clear ho
          clear hb
          go_wp2_with fail
          refine (plain_any _ x _ X_11.out (by have := HSx.out.num; omega)).mono ?_
          rintro e x12 ⟨vG8, rfl, ho, hb⟩
          have X_12 := Lib.hid (Seg.kept X_11.out hb)
          have Y_12 := Lib.hid (Seg.kept Y_11.out hb)
          have HM_12 := Lib.hid (cell_kept hb HM_11.out)
          have BE_12 := Lib.hid (below_step BE_11.out hb BE_11.out.size)
          have G7_12 := Lib.hid (Seg.kept G7.out hb)
          have G8 := Lib.hid (show PtsAt x12 vG8 (x.map plainP) from Seg.of_owns ho)
          clear ho
          clear hb
          go_wp2_with fail
          refine (HBG.out _ _ _ G7_12.out G8.out).mono ?_
          rintro e x13 ⟨rfl, hb⟩
          have X_13 := Lib.hid (Seg.kept X_12.out hb)
          have Y_13 := Lib.hid (Seg.kept Y_12.out hb)
          have HM_13 := Lib.hid (cell_kept hb HM_12.out)
          have BE_13 := Lib.hid (below_step BE_12.out hb BE_12.out.size)
          have G7_13 := Lib.hid (Seg.kept G7_12.out hb)
          clear hb
          go_wp2_with fail
          refine (awake_any m _ HM_13.out).mono ?_
          rintro e x14 ⟨rfl, hb⟩
          have X_14 := Lib.hid (Seg.kept X_13.out hb)
          have Y_14 := Lib.hid (Seg.kept Y_13.out hb)
          have HM_14 := Lib.hid (cell_kept hb HM_13.out)
          have BE_14 := Lib.hid (below_step BE_13.out hb BE_13.out.size)
          clear hb
          go_wp2_with fail
          go_ret
          exact ⟨rfl, BE_14.out⟩
    · go_wp2_with fail
      refine (awake_any m _ HM.out).mono ?_
      rintro e x1 ⟨rfl, hb⟩
      have X_1 := Lib.hid (Seg.kept X.out hb)
      have Y_1 := Lib.hid (Seg.kept Y.out hb)
      have HM_1 := Lib.hid (cell_kept hb HM.out)
      have BE_1 := Lib.hid (below_step BE.out hb BE.out.size)
      clear hb
      go_wp2_with fail
      go_ret
      exact ⟨rfl, BE_1.out⟩
  · go_wp2_with fail
    refine (awake_any m _ HM.out).mono ?_
    rintro e x1 ⟨rfl, hb⟩
    have X_1 := Lib.hid (Seg.kept X.out hb)
    have Y_1 := Lib.hid (Seg.kept Y.out hb)
    have HM_1 := Lib.hid (cell_kept hb HM.out)
    have BE_1 := Lib.hid (below_step BE.out hb BE.out.size)
    clear hb
    go_wp2_with fail
    go_ret
    exact ⟨rfl, BE_1.out⟩
end Go.Proofs.Tryd.Ok
