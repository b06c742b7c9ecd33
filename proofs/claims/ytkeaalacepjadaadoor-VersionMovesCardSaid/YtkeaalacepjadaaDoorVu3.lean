/- Lists of tables compared. -/
import Derived.Test.YtkeaalacepjadaaDoorVJ
import Derived.Deep.QuietTactic
import Derived.BigQuiet
set_option linter.unusedVariables false
set_option linter.unusedSimpArgs false
set_option maxRecDepth 100000
namespace Go.Proofs.Tryd.Vr
open Go.RowKit Go.Cph Go.Cph.Skip Go.Cph.So Go.Cph.Ve

theorem u64_int (a b : UInt64) : ((a.toNat : Int) == (b.toNat : Int)) = true ↔ a = b := by
  rw [beq_iff_eq]
  exact ⟨fun h => UInt64.toNat_inj.1 (by omega), fun h => by rw [h]⟩
theorem tb_iff (x y : Tb) : (((x.1.toNat : Int) == (y.1.toNat : Int)) && ((x.2.1 == y.2.1) && ((x.2.2.1 == y.2.2.1) && ((x.2.2.2.1 == y.2.2.2.1) && ((x.2.2.2.2.1.toList == y.2.2.2.2.1.toList) && ((x.2.2.2.2.2.1.toList == y.2.2.2.2.2.1.toList) && (((x.2.2.2.2.2.2.1.toNat : Int) == (y.2.2.2.2.2.2.1.toNat : Int)) && (((x.2.2.2.2.2.2.2.toNat : Int) == (y.2.2.2.2.2.2.2.toNat : Int)))))))))) = true ↔ x = y := by
  obtain ⟨a, b, c, d, e, f, g, h⟩ := x
  obtain ⟨a', b', c', d', e', f', g', h'⟩ := y
  have key : ∀ p q : UInt64, ((p.toNat : Int) = (q.toNat : Int)) ↔ p = q := fun p q => ⟨fun h => UInt64.toNat_inj.1 (by omega), fun h => by rw [h]⟩
  simp only [beq_toList, Bool.and_eq_true, decide_eq_true_eq, beq_iff_eq, Prod.mk.injEq, key]
instance tbDec : DecidableEq Tb := fun x y => decidable_of_iff _ (tb_iff x y)
theorem tb_eq (x y : Tb) : decide (x = y) = (((x.1.toNat : Int) == (y.1.toNat : Int)) && ((x.2.1 == y.2.1) && ((x.2.2.1 == y.2.2.1) && ((x.2.2.2.1 == y.2.2.2.1) && ((x.2.2.2.2.1.toList == y.2.2.2.2.1.toList) && ((x.2.2.2.2.2.1.toList == y.2.2.2.2.2.1.toList) && (((x.2.2.2.2.2.2.1.toNat : Int) == (y.2.2.2.2.2.2.1.toNat : Int)) && (((x.2.2.2.2.2.2.2.toNat : Int) == (y.2.2.2.2.2.2.2.toNat : Int)))))))))) := by
  rw [Bool.eq_iff_iff, decide_eq_true_eq, tb_iff]
theorem run_neqT (x y : Tb) (w : World) : (binOp .neq TE (encT x) (encT y)).run Tryd.prog w = .ok (.bool (!decide (x = y))) w := by
  rw [tb_eq]
  cases b0 : ((x.1.toNat : Int) == (y.1.toNat : Int))
  · go_simp
  · skip
    cases b1 : (x.2.1 == y.2.1)
    · go_simp
    · skip
      cases b2 : (x.2.2.1 == y.2.2.1)
      · go_simp
      · skip
        cases b3 : (x.2.2.2.1 == y.2.2.2.1)
        · go_simp
        · skip
          cases b4 : (x.2.2.2.2.1.toList == y.2.2.2.2.1.toList)
          · go_simp
          · skip
            cases b5 : (x.2.2.2.2.2.1.toList == y.2.2.2.2.2.1.toList)
            · go_simp
            · skip
              cases b6 : ((x.2.2.2.2.2.2.1.toNat : Int) == (y.2.2.2.2.2.2.1.toNat : Int))
              · go_simp
              · skip
                cases b7 : ((x.2.2.2.2.2.2.2.toNat : Int) == (y.2.2.2.2.2.2.2.toNat : Int))
                · go_simp
                · skip
                  go_simp

set_option maxHeartbeats 4000000 in
theorem same_any (va vb : Value) (a b : List Tb) (w : World) (ha : TbsAt w va a) (hb : TbsAt w vb b) (hna : a.length ≤ 10000000) (hnb : b.length ≤ 10000000) :
    Calls Tryd.prog 14 #[va, vb] w fun e w' => e = .returned (.bool (decide (a = b))) ∧ Below w.heap.size w w' := by
  obtain ⟨ao, ac, hv⟩ := elems_slice ha
  subst hv
  obtain ⟨bo, bc, hv⟩ := elems_slice hb
  subst hv
  have HA := Lib.hid ha
  have HB := Lib.hid hb
  clear ha hb
  by_cases hl : a.length = b.length
  · have HL := Lib.hid hl
    obtain ⟨n, hn⟩ : ∃ n, n = a.length := ⟨_, rfl⟩
    have hn2 : n = b.length := hn.trans hl
    have HNA := Lib.hid hn
    have HNB := Lib.hid hn2
    rw [← hn] at hna HA ⊢
    rw [← hn2] at HB ⊢
    clear hl hn hn2 hnb
    go_enter Tryd.func14, Tryd.ntmps14
    go_wp2_with fail
    go_loopw [5] (fun vi wr => ∃ i : Nat, i ≤ n ∧ vi = .int .i64 i ∧ a.take i = b.take i ∧ Below w.heap.size w wr) (fun vi _ => n - (intOf vi).toNat)
    case atStart => exact ⟨0, Nat.zero_le _, rfl, rfl, Below.refl _ _⟩
    case round =>
      obtain ⟨i, hi, rfl, heq, hbel⟩ := hrel
      have HE := Lib.hid heq
      have HBE := Lib.hid hbel
      by_cases hlt : i < n
      · have hia : i < a.length := by rw [← HNA.out]; exact hlt
        have hib : i < b.length := by rw [← HNB.out]; exact hlt
        have hA := HA.out
        have hB := HB.out
        rw [HNA.out] at hA
        rw [HNB.out] at hB
        obtain ⟨ab, ao', ac', hve, hcs⟩ := tbs_cells (hA.kept hbel) (by omega)
        injection hve with h1 _ h3
        subst h1
        obtain ⟨bb, bo', bc', hve, hcs2⟩ := tbs_cells (hB.kept hbel) (by omega)
        injection hve with h1 _ h4
        subst h1
        obtain ⟨x, hx⟩ : ∃ x, x = a[i] := ⟨_, rfl⟩
        obtain ⟨y, hy⟩ : ∃ x, x = b[i] := ⟨_, rfl⟩
        have HX := Lib.hid (show ∃ (h1 : i < a.length) (h2 : i < b.length), a[i] = x ∧ b[i] = y from ⟨hia, hib, hx.symm, hy.symm⟩)
        have hcx := hcs i hia
        have hcy := hcs2 i hib
        rw [← hx] at hcx
        rw [← hy] at hcy
        have d0 := hcx.c0
        have d1 := hcx.c1
        have d2 := hcx.c2
        have d3 := hcx.c3
        have d4 := hcx.c4
        have d5 := hcx.c5
        have d6 := hcx.c6
        have d7 := hcx.c7
        have f0 := hcy.c0
        have f1 := hcy.c1
        have f2 := hcy.c2
        have f3 := hcy.c3
        have f4 := hcy.c4
        have f5 := hcy.c5
        have f6 := hcy.c6
        have f7 := hcy.c7
        have k1 : (0 : Int) ≤ (i : Int) := by omega
        have k2 : (i : Int) < (n : Int) := by omega
        have hne := fun W => run_neqT x y W
        have HNE := Lib.hid hne
        clear hcs hcs2 hA hB heq hbel hx hy hia hib hne h3 h4 hcx hcy
        by_cases hxy : x = y
        · have e1 : (!decide (x = y)) = false := by simp [hxy]
          have HEQ := Lib.hid hxy
          have hne := HNE.out
          rw [e1] at hne
          clear hxy e1
          go_wp2_with fail
          go_quiet (fail)
          clear hne d0 d1 d2 d3 d4 d5 d6 d7 f0 f1 f2 f3 f4 f5 f6 f7
          have HB2 := Lib.hid (below_step HBE.out (show Below wr.heap.size wr (wr.drewN nq) from ⟨rfl, rfl, rfl, Nat.le_refl _, fun _ _ => rfl⟩) HBE.out.size)
          generalize wr.drewN nq = wq at *
          go_wp2_with fail
          go_roundw
          case rel =>
            refine ⟨i + 1, hlt, by go_num, ?_, HB2.out⟩
            obtain ⟨h1, h2, h3, h4⟩ := HX.out
            rw [List.take_succ_eq_append_getElem h1, List.take_succ_eq_append_getElem h2, HE.out, h3, h4, HEQ.out]
          case measure => simp [intOf]; omega
        · have e1 : (!decide (x = y)) = true := by simp [hxy]
          have HF := Lib.hid (show decide (a = b) = false by
            rw [decide_eq_false_iff_not]; rintro rfl
            obtain ⟨h1, h2, h3, h4⟩ := HX.out
            exact hxy (h3.symm.trans h4))
          have hne := HNE.out
          rw [e1] at hne
          clear hxy e1
          go_wp2_with fail
          go_quiet (fail)
          clear hne d0 d1 d2 d3 d4 d5 d6 d7 f0 f1 f2 f3 f4 f5 f6 f7
          have HB2 := Lib.hid (below_step HBE.out (show Below wr.heap.size wr (wr.drewN nq) from ⟨rfl, rfl, rfl, Nat.le_refl _, fun _ _ => rfl⟩) HBE.out.size)
          generalize wr.drewN nq = wq at *
          go_wp2_with fail
          go_ret
          exact ⟨ret_bool HF.out.symm, HB2.out⟩
      · have HT := Lib.hid (show decide (a = b) = true by
          rw [decide_eq_true_eq]
          have := heq
          rwa [List.take_of_length_le (by have := HNA.out; omega), List.take_of_length_le (by have := HNB.out; omega)] at this)
        clear heq hbel
        go_wp2_with fail
        go_ret
        exact ⟨ret_bool HT.out.symm, HBE.out⟩
  · have k0 : ((a.length : Int) != (b.length : Int)) = true := by simp; omega
    have HF := Lib.hid (show decide (a = b) = false by rw [decide_eq_false_iff_not]; rintro rfl; exact hl rfl)
    clear hl
    go_enter Tryd.func14, Tryd.ntmps14
    go_wp2_with fail
    go_ret
    exact ⟨ret_bool HF.out.symm, Below.refl _ _⟩

set_option maxHeartbeats 4000000 in
theorem tables14_any (va vb : Value) (a b : List Tb) (w : World) (ha : TbsAt w va a) (hb : TbsAt w vb b) (hna : a.length ≤ 10000000) (hnb : b.length ≤ 10000000) :
    Calls Tryd.prog 22 #[va, vb] w fun e w' => e = .returned (.bool (decide (a = b))) ∧ Below w.heap.size w w' := by
  obtain ⟨ao, ac, hv⟩ := elems_slice ha
  subst hv
  obtain ⟨bo, bc, hv⟩ := elems_slice hb
  subst hv
  have HA := Lib.hid ha
  have HB := Lib.hid hb
  clear ha hb
  by_cases hl : a.length = b.length
  · have HL := Lib.hid hl
    obtain ⟨n, hn⟩ : ∃ n, n = a.length := ⟨_, rfl⟩
    have hn2 : n = b.length := hn.trans hl
    have HNA := Lib.hid hn
    have HNB := Lib.hid hn2
    rw [← hn] at hna HA ⊢
    rw [← hn2] at HB ⊢
    clear hl hn hn2 hnb
    go_enter Tryd.func22, Tryd.ntmps22
    go_wp2_with fail
    go_loopw [5] (fun vi wr => ∃ i : Nat, i ≤ n ∧ vi = .int .i64 i ∧ a.take i = b.take i ∧ Below w.heap.size w wr) (fun vi _ => n - (intOf vi).toNat)
    case atStart => exact ⟨0, Nat.zero_le _, rfl, rfl, Below.refl _ _⟩
    case round =>
      obtain ⟨i, hi, rfl, heq, hbel⟩ := hrel
      have HE := Lib.hid heq
      have HBE := Lib.hid hbel
      by_cases hlt : i < n
      · have hia : i < a.length := by rw [← HNA.out]; exact hlt
        have hib : i < b.length := by rw [← HNB.out]; exact hlt
        have hA := HA.out
        have hB := HB.out
        rw [HNA.out] at hA
        rw [HNB.out] at hB
        obtain ⟨ab, ao', ac', hve, hcs⟩ := tbs_cells (hA.kept hbel) (by omega)
        injection hve with h1 _ h3
        subst h1
        obtain ⟨bb, bo', bc', hve, hcs2⟩ := tbs_cells (hB.kept hbel) (by omega)
        injection hve with h1 _ h4
        subst h1
        obtain ⟨x, hx⟩ : ∃ x, x = a[i] := ⟨_, rfl⟩
        obtain ⟨y, hy⟩ : ∃ x, x = b[i] := ⟨_, rfl⟩
        have HX := Lib.hid (show ∃ (h1 : i < a.length) (h2 : i < b.length), a[i] = x ∧ b[i] = y from ⟨hia, hib, hx.symm, hy.symm⟩)
        have hcx := hcs i hia
        have hcy := hcs2 i hib
        rw [← hx] at hcx
        rw [← hy] at hcy
        have d0 := hcx.c0
        have d1 := hcx.c1
        have d2 := hcx.c2
        have d3 := hcx.c3
        have d4 := hcx.c4
        have d5 := hcx.c5
        have d6 := hcx.c6
        have d7 := hcx.c7
        have f0 := hcy.c0
        have f1 := hcy.c1
        have f2 := hcy.c2
        have f3 := hcy.c3
        have f4 := hcy.c4
        have f5 := hcy.c5
        have f6 := hcy.c6
        have f7 := hcy.c7
        have k1 : (0 : Int) ≤ (i : Int) := by omega
        have k2 : (i : Int) < (n : Int) := by omega
        have hne := fun W => run_neqT x y W
        have HNE := Lib.hid hne
        clear hcs hcs2 hA hB heq hbel hx hy hia hib hne h3 h4 hcx hcy
        by_cases hxy : x = y
        · have e1 : (!decide (x = y)) = false := by simp [hxy]
          have HEQ := Lib.hid hxy
          have hne := HNE.out
          rw [e1] at hne
          clear hxy e1
          go_wp2_with fail
          go_quiet (fail)
          clear hne d0 d1 d2 d3 d4 d5 d6 d7 f0 f1 f2 f3 f4 f5 f6 f7
          have HB2 := Lib.hid (below_step HBE.out (show Below wr.heap.size wr (wr.drewN nq) from ⟨rfl, rfl, rfl, Nat.le_refl _, fun _ _ => rfl⟩) HBE.out.size)
          generalize wr.drewN nq = wq at *
          go_wp2_with fail
          go_roundw
          case rel =>
            refine ⟨i + 1, hlt, by go_num, ?_, HB2.out⟩
            obtain ⟨h1, h2, h3, h4⟩ := HX.out
            rw [List.take_succ_eq_append_getElem h1, List.take_succ_eq_append_getElem h2, HE.out, h3, h4, HEQ.out]
          case measure => simp [intOf]; omega
        · have e1 : (!decide (x = y)) = true := by simp [hxy]
          have HF := Lib.hid (show decide (a = b) = false by
            rw [decide_eq_false_iff_not]; rintro rfl
            obtain ⟨h1, h2, h3, h4⟩ := HX.out
            exact hxy (h3.symm.trans h4))
          have hne := HNE.out
          rw [e1] at hne
          clear hxy e1
          go_wp2_with fail
          go_quiet (fail)
          clear hne d0 d1 d2 d3 d4 d5 d6 d7 f0 f1 f2 f3 f4 f5 f6 f7
          have HB2 := Lib.hid (below_step HBE.out (show Below wr.heap.size wr (wr.drewN nq) from ⟨rfl, rfl, rfl, Nat.le_refl _, fun _ _ => rfl⟩) HBE.out.size)
          generalize wr.drewN nq = wq at *
          go_wp2_with fail
          go_ret
          exact ⟨ret_bool HF.out.symm, HB2.out⟩
      · have HT := Lib.hid (show decide (a = b) = true by
          rw [decide_eq_true_eq]
          have := heq
          rwa [List.take_of_length_le (by have := HNA.out; omega), List.take_of_length_le (by have := HNB.out; omega)] at this)
        clear heq hbel
        go_wp2_with fail
        go_ret
        exact ⟨ret_bool HT.out.symm, HBE.out⟩
  · have k0 : ((a.length : Int) != (b.length : Int)) = true := by simp; omega
    have HF := Lib.hid (show decide (a = b) = false by rw [decide_eq_false_iff_not]; rintro rfl; exact hl rfl)
    clear hl
    go_enter Tryd.func22, Tryd.ntmps22
    go_wp2_with fail
    go_ret
    exact ⟨ret_bool HF.out.symm, Below.refl _ _⟩
end Go.Proofs.Tryd.Vr
