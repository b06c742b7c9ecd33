/- The laws of rows: RowsBack's walk. -/
import Derived.Test.YtccopljpceolcabDoorRpQ
import Derived.Test.YtccopljpceolcabDoorMF
import Derived.Deep.DeepCutAuto
set_option linter.unusedVariables false
set_option linter.unusedSimpArgs false
set_option maxRecDepth 100000
namespace Go.Proofs.Tryd.Rows
open Go.RowKit Go.Cph Go.Cph.Ok Go.Proofs.Tryd.Nu Go.Proofs.Tryd.Ok
theorem ba_ne4 {a b : ByteArray} (h : ¬ a = b) : (a.toList == b.toList) = false := by
  refine beq_eq_false_iff_ne.2 fun e => h (list_eq ?_)
  rw [← ByteArray.toList_eq, ← ByteArray.toList_eq, e]
set_option maxHeartbeats 12800000 in
theorem back_law (who an s : ByteArray) (how : Int) (a u : UInt64) (m : Int) (w : World) (hm : MaxAt m w) :
    Calls Tryd.prog 3 #[.string who, .string an, .string s, .int .i64 how, .int .u64 (a.toNat : Int), .int .u64 (u.toNat : Int)] w fun e w' => e = .returned (.bool true) ∧ Below w.heap.size w w' := by
  have HM := Lib.hid hm
  have HAW := Lib.hid (fun (W : World) (h : MaxAt m W) => awake_any m W h)
  clear hm
  by_cases h1 : 2000 < who.size
  · have kwho : (2000 : Int) < (who.size : Int) := by omega
    have dwho : decide (2000 < who.size) = true := decide_eq_true (by omega)
    clear h1
    go_enter Tryd.func3, Tryd.ntmps3
    go_wp2_with fail
    refine (HAW.out _ HM.out).mono ?_
    rintro e w1 ⟨rfl, hb⟩
    have HB := Lib.hid hb
    clear hb
    go_wp2_with fail
    go_ret
    exact ⟨rfl, HB.out⟩
  · have kwho : ¬ (2000 : Int) < (who.size : Int) := by omega
    have dwho : decide (2000 < who.size) = false := decide_eq_false (by omega)
    by_cases h2 : 2000 < an.size
    · have kan : (2000 : Int) < (an.size : Int) := by omega
      have dan : decide (2000 < an.size) = true := decide_eq_true (by omega)
      clear h1 h2
      go_enter Tryd.func3, Tryd.ntmps3
      go_wp2_with fail
      refine (HAW.out _ HM.out).mono ?_
      rintro e w1 ⟨rfl, hb⟩
      have HB := Lib.hid hb
      clear hb
      go_wp2_with fail
      go_ret
      exact ⟨rfl, HB.out⟩
    · have kan : ¬ (2000 : Int) < (an.size : Int) := by omega
      have dan : decide (2000 < an.size) = false := decide_eq_false (by omega)
      by_cases h3 : 2000 < s.size
      · have ks : (2000 : Int) < (s.size : Int) := by omega
        have ds : decide (2000 < s.size) = true := decide_eq_true (by omega)
        clear h1 h2 h3
        go_enter Tryd.func3, Tryd.ntmps3
        go_wp2_with fail
        refine (HAW.out _ HM.out).mono ?_
        rintro e w1 ⟨rfl, hb⟩
        have HB := Lib.hid hb
        clear hb
        go_wp2_with fail
        go_ret
        exact ⟨rfl, HB.out⟩
      · have ks : ¬ (2000 : Int) < (s.size : Int) := by omega
        have ds : decide (2000 < s.size) = false := decide_eq_false (by omega)
        obtain ⟨V1, E1, T1, U1, o1, a1, b1, r1⟩ := wr_lease who u (by omega)
        obtain ⟨V2, E2, I2, T2, X2, U2, o2, a2, b2, r2⟩ := wr_event how who a u (by omega)
        obtain ⟨V3, E3, U3, T3, o3, a3, b3, r3⟩ := wr_client a an (by omega)
        have a4 := fun W => number_any a W
        have b4 := fun W => readNumber (ofBs (row a.toNat)) W (by have := row_size a; omega)
        rw [num_of (u := a) (ofBs_list _)] at b4
        unfold encNO at b4
        obtain ⟨K4, hK4⟩ : ∃ K, K = ofBs (row a.toNat) := ⟨_, rfl⟩
        rw [← hK4] at a4 b4
        obtain ⟨U5, o5, a5, r5⟩ := rd_num s (by omega)
        have b5 := fun W => number_any U5 W
        obtain ⟨K5, hK5⟩ : ∃ K, K = ofBs (row U5.toNat) := ⟨_, rfl⟩
        rw [← hK5] at r5 b5
        obtain ⟨T6, U6, o6, V6, E6, a6, b6, r6⟩ := rd_lease s (by omega)
        obtain ⟨I7, T7, X7, U7, o7, V7, E7, a7, b7, r7⟩ := rd_event s (by omega)
        obtain ⟨U8, T8, o8, V8, E8, a8, b8, r8⟩ := rd_client s (by omega)
        have A1 := Lib.hid a1
        have B1 := Lib.hid b1
        have A2 := Lib.hid a2
        have B2 := Lib.hid b2
        have A3 := Lib.hid a3
        have B3 := Lib.hid b3
        have A4 := Lib.hid a4
        have B4 := Lib.hid b4
        have A5 := Lib.hid a5
        have B5 := Lib.hid b5
        have A6 := Lib.hid a6
        have B6 := Lib.hid b6
        have A7 := Lib.hid a7
        have B7 := Lib.hid b7
        have A8 := Lib.hid a8
        have B8 := Lib.hid b8
        have R1 := Lib.hid r1
        have R2 := Lib.hid r2
        have R3 := Lib.hid r3
        have R5 := Lib.hid r5
        have R6 := Lib.hid r6
        have R7 := Lib.hid r7
        have R8 := Lib.hid r8
        clear h1 h2 h3 hK4 hK5 a1 b1 a2 b2 a3 b3 a4 b4 a5 b5 a6 b6 a7 b7 a8 b8 r1 r2 r3 r5 r6 r7 r8
        go_enter Tryd.func3, Tryd.ntmps3
        go_wp2_with fail
        refine (A1.out _).mono ?_
        rintro e w1 ⟨rfl, hb⟩
        have HB := Lib.hid hb
        clear hb
        go_wp2_with fail
        refine (B1.out _).mono ?_
        rintro e w2 ⟨rfl, hb⟩
        replace HB := Lib.hid (below_step HB.out hb HB.out.size)
        clear hb
        go_upto_region 5 with (fail)
        go_cut [66] (fun v W => v = .bool false ∧ W = w2)
        case first =>
          try clear_value *
          as_aux_lemma =>
            obtain h | h := R1.out
            · obtain ⟨rfl, rfl, rfl, rfl⟩ := h
              have e1 : (T1.toList == T1.toList) = true := by simp
              go_wp2_with fail
              go_meet
              case rel => exact ⟨rfl, rfl⟩
            · obtain ⟨rfl, rfl⟩ := h
              go_wp2_with fail
              go_meet
              case rel => exact ⟨rfl, rfl⟩
        case rest =>
          obtain ⟨rfl, rfl⟩ := hcut
          as_aux_lemma =>
            go_wp2_with fail
            refine (A2.out _).mono ?_
            rintro e w3 ⟨rfl, hb⟩
            replace HB := Lib.hid (below_step HB.out hb HB.out.size)
            clear hb
            go_wp2_with fail
            refine (B2.out _).mono ?_
            rintro e w4 ⟨rfl, hb⟩
            replace HB := Lib.hid (below_step HB.out hb HB.out.size)
            clear hb
            go_upto_region 9 with (fail)
            go_cut [109] (fun v W => v = .bool false ∧ W = w4)
            case first =>
              try clear_value *
              as_aux_lemma =>
                obtain h | h := R2.out
                · obtain ⟨rfl, rfl, rfl, rfl, rfl, rfl⟩ := h
                  have e1 : (T2.toList == T2.toList) = true := by simp
                  go_wp2_with fail
                  go_meet
                  case rel => exact ⟨rfl, rfl⟩
                · obtain ⟨rfl, rfl⟩ := h
                  go_wp2_with fail
                  go_meet
                  case rel => exact ⟨rfl, rfl⟩
            case rest =>
              obtain ⟨rfl, rfl⟩ := hcut
              as_aux_lemma =>
                go_wp2_with fail
                refine (A3.out _).mono ?_
                rintro e w5 ⟨rfl, hb⟩
                replace HB := Lib.hid (below_step HB.out hb HB.out.size)
                clear hb
                go_wp2_with fail
                refine (B3.out _).mono ?_
                rintro e w6 ⟨rfl, hb⟩
                replace HB := Lib.hid (below_step HB.out hb HB.out.size)
                clear hb
                go_upto_region 13 with (fail)
                go_cut [138] (fun v W => v = .bool false ∧ W = w6)
                case first =>
                  try clear_value *
                  as_aux_lemma =>
                    obtain h | h := R3.out
                    · obtain ⟨rfl, rfl, rfl, rfl⟩ := h
                      have e1 : (T3.toList == T3.toList) = true := by simp
                      go_wp2_with fail
                      go_meet
                      case rel => exact ⟨rfl, rfl⟩
                    · obtain ⟨rfl, rfl⟩ := h
                      go_wp2_with fail
                      go_meet
                      case rel => exact ⟨rfl, rfl⟩
                case rest =>
                  obtain ⟨rfl, rfl⟩ := hcut
                  as_aux_lemma =>
                    go_wp2_with fail
                    refine (A4.out _).mono ?_
                    rintro e w7 ⟨rfl, hb⟩
                    replace HB := Lib.hid (below_step HB.out hb HB.out.size)
                    clear hb
                    go_wp2_with fail
                    refine (B4.out _).mono ?_
                    rintro e w8 ⟨rfl, hb⟩
                    replace HB := Lib.hid (below_step HB.out hb HB.out.size)
                    clear hb
                    go_wp2_with fail
                    refine (A5.out _).mono ?_
                    rintro e w9 ⟨rfl, hb⟩
                    replace HB := Lib.hid (below_step HB.out hb HB.out.size)
                    clear hb
                    go_upto_region 19 with (fail)
                    go_cut [163] (fun v W => v = .bool false ∧ Below w.heap.size w W)
                    case first =>
                      try clear_value *
                      as_aux_lemma =>
                        cases o5
                        · go_wp2_with fail
                          go_meet
                          case rel => exact ⟨rfl, HB.out⟩
                        · have hk := R5.out rfl
                          subst hk
                          have e1 : (K5.toList == K5.toList) = true := by simp
                          go_wp2_with fail
                          refine (B5.out _).mono ?_
                          rintro e w10 ⟨rfl, hb⟩
                          replace HB := Lib.hid (below_step HB.out hb HB.out.size)
                          clear hb
                          go_wp2_with fail
                          go_meet
                          case rel => exact ⟨rfl, HB.out⟩
                    case rest =>
                      obtain ⟨rfl, hb⟩ := hcut
                      rename World => wc5
                      replace HB := Lib.hid hb
                      clear hb
                      go_wp2_with fail
                      refine (A6.out _).mono ?_
                      rintro e w11 ⟨rfl, hb⟩
                      replace HB := Lib.hid (below_step HB.out hb HB.out.size)
                      clear hb
                      go_wp2_with fail
                      refine (B6.out _).mono ?_
                      rintro e w12 ⟨rfl, hb⟩
                      replace HB := Lib.hid (below_step HB.out hb HB.out.size)
                      clear hb
                      go_upto_region 23 with (fail)
                      go_cut [181] (fun v W => v = .bool false ∧ W = w12)
                      case first =>
                        try clear_value *
                        as_aux_lemma =>
                          cases o6
                          · go_wp2_with fail
                            go_meet
                            case rel => exact ⟨rfl, rfl⟩
                          · have hk := R6.out rfl
                            subst hk
                            have e1 : (V6.toList == V6.toList) = true := by simp
                            go_wp2_with fail
                            go_meet
                            case rel => exact ⟨rfl, rfl⟩
                      case rest =>
                        obtain ⟨rfl, rfl⟩ := hcut
                        go_wp2_with fail
                        refine (A7.out _).mono ?_
                        rintro e w13 ⟨rfl, hb⟩
                        replace HB := Lib.hid (below_step HB.out hb HB.out.size)
                        clear hb
                        go_wp2_with fail
                        refine (B7.out _).mono ?_
                        rintro e w14 ⟨rfl, hb⟩
                        replace HB := Lib.hid (below_step HB.out hb HB.out.size)
                        clear hb
                        go_upto_region 27 with (fail)
                        go_cut [203] (fun v W => v = .bool false ∧ W = w14)
                        case first =>
                          try clear_value *
                          as_aux_lemma =>
                            cases o7
                            · go_wp2_with fail
                              go_meet
                              case rel => exact ⟨rfl, rfl⟩
                            · have hk := R7.out rfl
                              subst hk
                              have e1 : (V7.toList == V7.toList) = true := by simp
                              go_wp2_with fail
                              go_meet
                              case rel => exact ⟨rfl, rfl⟩
                        case rest =>
                          obtain ⟨rfl, rfl⟩ := hcut
                          as_aux_lemma =>
                            go_wp2_with fail
                            refine (A8.out _).mono ?_
                            rintro e w15 ⟨rfl, hb⟩
                            replace HB := Lib.hid (below_step HB.out hb HB.out.size)
                            clear hb
                            go_wp2_with fail
                            refine (B8.out _).mono ?_
                            rintro e w16 ⟨rfl, hb⟩
                            replace HB := Lib.hid (below_step HB.out hb HB.out.size)
                            clear hb
                            cases o8
                            · go_wp2_with fail
                              refine (HAW.out _ (max_kept HM.out HB.out)).mono ?_
                              rintro e w99 ⟨rfl, hb⟩
                              replace HB := Lib.hid (below_step HB.out hb HB.out.size)
                              clear hb
                              go_wp2_with fail
                              go_ret
                              exact ⟨rfl, HB.out⟩
                            · have hk := R8.out rfl
                              subst hk
                              have e1 : (V8.toList == V8.toList) = true := by simp
                              go_wp2_with fail
                              refine (HAW.out _ (max_kept HM.out HB.out)).mono ?_
                              rintro e w99 ⟨rfl, hb⟩
                              replace HB := Lib.hid (below_step HB.out hb HB.out.size)
                              clear hb
                              go_wp2_with fail
                              go_ret
                              exact ⟨rfl, HB.out⟩
theorem back_law_i (who an s : ByteArray) (how a u : Int) (m : Int) (w : World) (ha : ∃ x : UInt64, a = (x.toNat : Int)) (hu : ∃ x : UInt64, u = (x.toNat : Int)) (hm : MaxAt m w) :
    Calls Tryd.prog 3 #[.string who, .string an, .string s, .int .i64 how, .int .u64 a, .int .u64 u] w fun e w' => e = .returned (.bool true) ∧ Below w.heap.size w w' := by
  obtain ⟨a, rfl⟩ := ha
  obtain ⟨u, rfl⟩ := hu
  exact back_law who an s how a u m w hm
end Go.Proofs.Tryd.Rows
