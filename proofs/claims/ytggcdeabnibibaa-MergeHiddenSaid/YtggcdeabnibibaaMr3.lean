/- The document's lists put together. -/
import Derived.Test.YtggcdeabnibibaaMr2
set_option linter.unusedVariables false
set_option linter.unusedSimpArgs false
namespace Go.Proofs.Try.Mg
open Go.RowKit Go.Cph Go.Cph.Skip Go.Cph.So

theorem any_take_snoc (p : Ent → Bool) (l : List Ent) {j : Nat} (h : j < l.length) : (l.take (j + 1)).any p = ((l.take j).any p || p l[j]) := by
  rw [List.take_succ_eq_append_getElem h, List.any_append]; simp
theorem eqv_sides (y x : Ent) : eqv ltE x y = ((y.1.toList == x.1.toList) && ((y.2.2.1.toNat : Int) == (x.2.2.1.toNat : Int))) := by
  rw [Bool.eq_iff_iff, eqvE, beq_toList, Bool.and_eq_true, decide_eq_true_eq, beq_iff_eq, ← UInt64.toNat_inj]
  exact ⟨fun h => ⟨h.1.symm, by omega⟩, fun h => ⟨h.1.symm, by omega⟩⟩
theorem take_flat_snoc (ls : List (List Ent)) (i k : Nat) (g : List Ent) (hk : k < g.length) : firstsL ((ls.take i).flatten ++ g.take (k + 1)) = stepF (firstsL ((ls.take i).flatten ++ g.take k)) g[k] := by
  rw [List.take_succ_eq_append_getElem hk, ← List.append_assoc, firstsL_snoc]

set_option maxRecDepth 100000 in
set_option maxHeartbeats 12000000 in
theorem merge16 (v : Value) (ls : List (List Ent)) (w : World) (h : EntsOf w v ls) (hl : ls.length ≤ 1000) (hn : ls.flatten.length ≤ 100000) (hks : KeysOK ls.flatten) :
    Calls Try.prog 15 #[v] w (NewRow w (mergeL ltE ls.flatten)) := by
  obtain ⟨ao, cap, hv⟩ := h.slice
  subst hv
  have HL := Lib.hid h
  have HKS := Lib.hid hks
  have HMD := Lib.hid (mergeD ls.flatten)
  clear h hks
  go_enter Try.func15, Try.ntmps15
  go_wp2_with fail
  go_loopw [3, 4] (fun vo vi wr => ∃ i : Nat, i ≤ ls.length ∧ vi = .int .i64 i ∧ wr.ownsRow w.heap.size TE 4 vo (firstsL (ls.take i).flatten).length ((firstsL (ls.take i).flatten).flatMap encC) ∧ Below w.heap.size w wr) (fun _ vi _ => ls.length - (intOf vi).toNat)
  case atStart => exact ⟨0, Nat.zero_le _, rfl, World.ownsRow_nil _ _ _ _, Below.refl _ _⟩
  case round =>
    obtain ⟨i, hi, rfl, ho, hbel⟩ := hrel
    have HO := Lib.hid ho
    have HBE := Lib.hid hbel
    obtain ⟨oo, oc, hov⟩ := owns_slice1 ho
    subst hov
    by_cases hlt : i < ls.length
    · obtain ⟨b, off, cap', hve, hcs⟩ := HL.out.cell (by omega)
      cases hve
      obtain ⟨u, hu2, hue⟩ := hcs i hlt
      obtain ⟨g, hg⟩ : ∃ g, g = ls[i] := ⟨_, rfl⟩
      rw [← hg] at hue
      obtain ⟨uo, uc, hub⟩ := elems_slice hue
      subst hub
      have HUE := Lib.hid hue
      have HU2 := Lib.hid hu2
      have HSN := Lib.hid (show firstsL (ls.take (i + 1)).flatten = firstsL ((ls.take i).flatten ++ g.take g.length) by rw [flatten_take ls hlt, hg, List.take_length])
      have hgl : (ls.take i).flatten.length + g.length ≤ 100000 := by
        have := flatten_le ls (i + 1)
        rw [flatten_take ls hlt, List.length_append, ← hg] at this; omega
      have HKG := Lib.hid (show ∀ k, (firstsL ((ls.take i).flatten ++ g.take k)).length ≤ 100000 from fun k => Nat.le_trans (firstsL_le _) (by rw [List.length_append, List.length_take]; omega))
      have k1 : (0 : Int) ≤ (i : Int) := by omega
      have k2 : (i : Int) < (ls.length : Int) := by omega
      obtain ⟨wo, rfl⟩ : ∃ wo : World, wo = wr := ⟨_, rfl⟩
      have hgl2 : g.length ≤ 100000 := by omega
      clear ho hbel hcs hue hu2 hg hgl
      go_wp2_with fail
      go_loopw [3, 5] (fun vo vk W => ∃ k : Nat, k ≤ g.length ∧ vk = .int .i64 k ∧ W.ownsRow w.heap.size TE 4 vo (firstsL ((ls.take i).flatten ++ g.take k)).length ((firstsL ((ls.take i).flatten ++ g.take k)).flatMap encC) ∧ Below w.heap.size w W) (fun _ vk _ => g.length - (intOf vk).toNat)
      case atStart => exact ⟨0, Nat.zero_le _, rfl, by simpa using HO.out, HBE.out⟩
      case round =>
        obtain ⟨wz, rfl⟩ : ∃ wz : World, wz = wr := ⟨_, rfl⟩
        obtain ⟨k, hk, rfl, ho, hbel⟩ := hrel
        have HO2 := Lib.hid ho
        have HB2 := Lib.hid hbel
        obtain ⟨oo, oc, hov⟩ := owns_slice1 ho
        subst hov
        have hu : wz.cell? ⟨b, off + i, none⟩ = some (.slice uo g.length uc) := (hbel.cell (World.block_lt_of_cell? _ _ HU2.out)).trans HU2.out
        by_cases hkl : k < g.length
        · obtain ⟨gb, go_, gc, hub, hgc⟩ := ents_cells HUE.out (by omega)
          injection hub with hu1 _ hu3
          subst hu1
          obtain rfl : gc = uc := hu3.symm
          have hcx := (hgc k hkl).kept hbel
          obtain ⟨x, hx⟩ : ∃ x, x = g[k] := ⟨_, rfl⟩
          rw [← hx] at hcx
          obtain ⟨cur, hcur⟩ : ∃ l, l = firstsL ((ls.take i).flatten ++ g.take k) := ⟨_, rfl⟩
          have HST := Lib.hid (show firstsL ((ls.take i).flatten ++ g.take (k + 1)) = stepF cur x by rw [hcur, hx]; exact take_flat_snoc ls i k g hkl)
          have hcl : cur.length ≤ 100000 := by rw [hcur]; exact HKG.out k
          rw [← hcur] at HO2 ho ⊢
          have hbx := heap_alloc_new wz (.cells #[.string x.1, .string x.2.1, .int .u64 (x.2.2.1.toNat : Int), .bool x.2.2.2] TE)
          have HBX := Lib.hid hbx
          have HO3 := Lib.hid (ho.alloc (.cells #[.string x.1, .string x.2.1, .int .u64 (x.2.2.1.toNat : Int), .bool x.2.2.2] TE))
          have HB3 := Lib.hid (hbel.alloc hbel.size (.cells #[.string x.1, .string x.2.1, .int .u64 (x.2.2.1.toNat : Int), .bool x.2.2.2] TE))
          have HWS := Lib.hid (World.size_alloc wz (.cells #[.string x.1, .string x.2.1, .int .u64 (x.2.2.1.toNat : Int), .bool x.2.2.2] TE))
          have j1 : (0 : Int) ≤ (k : Int) := by omega
          have j2 : (k : Int) < (g.length : Int) := by omega
          have d0 := hcx.c0
          have d1 := hcx.c1
          have d2 := hcx.c2
          have d3 := hcx.c3
          clear ho hbel hgc hcx hx hcur hbx hu3
          go_wp2_with fail
          clear d0 d1 d2 d3
          generalize wz.alloc (.cells #[.string x.1, .string x.2.1, .int .u64 (x.2.2.1.toNat : Int), .bool x.2.2.2] TE) = wb at *
          obtain ⟨bx, hbx⟩ : ∃ b, b = wz.heap.size := ⟨_, rfl⟩
          have hbxb : w.heap.size ≤ bx := by rw [hbx]; exact HB2.out.size
          rw [← hbx] at HBX ⊢
          clear hbx
          go_loopw [7, 8] (fun vt vj W => ∃ j : Nat, j ≤ cur.length ∧ vj = .int .i64 j ∧ vt = .bool ((cur.take j).any (eqv ltE x)) ∧ ∃ q, W = wb.drewN q) (fun _ vj _ => cur.length - (intOf vj).toNat)
          case atStart => exact ⟨0, Nat.zero_le _, rfl, rfl, 0, rfl⟩
          case round =>
            obtain ⟨j, hj, rfl, rfl, q, hwq⟩ := hrel
            subst hwq
            obtain ⟨t, ht⟩ : ∃ t, t = (cur.take j).any (eqv ltE x) := ⟨_, rfl⟩
            by_cases hjl : j < cur.length
            · obtain ⟨y, hy⟩ : ∃ y, y = cur[j] := ⟨_, rfl⟩
              have HJS := Lib.hid (show (cur.take (j + 1)).any (eqv ltE x) = (t || ((y.1.toList == x.1.toList) && ((y.2.2.1.toNat : Int) == (x.2.2.1.toNat : Int)))) by rw [any_take_snoc _ _ hjl, ← ht, ← hy, eqv_sides])
              obtain ⟨gr, rc, hgv, -, -, -, -, -⟩ := owns_shape HO3.out (by omega)
              injection hgv with hg1' hg2' hg3'
              subst hg1'
              have hcy := own_cells HO3.out hjl (show cur[j]? = some y by rw [hy]; exact List.getElem?_eq_getElem _)
              have hcb := boxP HBX.out
              have f0 := hcy.c0
              have f2 := hcy.c2
              have d0 := hcb.c0
              have d2 := hcb.c2
              rw [← ht]
              have m1 : (0 : Int) ≤ (j : Int) := by omega
              have m2 : (j : Int) < (cur.length : Int) := by omega
              clear hcy hcb hy ht hg2' hg3'
              have hways : (t = true) ∨ (t = false ∧ (y.1.toList == x.1.toList) = false) ∨ (t = false ∧ (y.1.toList == x.1.toList) = true ∧ ((y.2.2.1.toNat : Int) == (x.2.2.1.toNat : Int)) = false) ∨ (t = false ∧ (y.1.toList == x.1.toList) = true ∧ ((y.2.2.1.toNat : Int) == (x.2.2.1.toNat : Int)) = true) := by
                cases t <;> cases (y.1.toList == x.1.toList) <;> cases ((y.2.2.1.toNat : Int) == (x.2.2.1.toNat : Int)) <;> simp
              rcases hways with rfl | ⟨rfl, e1⟩ | ⟨rfl, e1, e2⟩ | ⟨rfl, e1, e2⟩
              all_goals
                have HJ2 := HJS
                first
                  | (rw [e1, e2] at HJ2)
                  | (rw [e1] at HJ2)
                  | skip
                simp only [Bool.true_or, Bool.false_or, Bool.false_and, Bool.true_and, Bool.and_self] at HJ2
                go_wp2_with fail
                go_quiet (fail)
                go_wp2_with fail
                go_roundw
                case rel => exact ⟨j + 1, hjl, by go_num, by rw [HJ2.out], _, rfl⟩
                case measure => simp [intOf]; omega
            · rw [List.take_of_length_le (by omega)] at ht ⊢
              rw [← ht]
              have HT := Lib.hid (show stepF cur x = if t then cur else cur ++ [x] by unfold stepF; rw [ht])
              have HOQ := Lib.hid (show (wb.drewN q).ownsRow w.heap.size TE 4 (.slice oo cur.length oc) cur.length (cur.flatMap encC) from HO3.out)
              have HBQ := Lib.hid (below_step HB3.out (show Below wb.heap.size wb (wb.drewN q) from ⟨rfl, rfl, rfl, Nat.le_refl _, fun _ _ => rfl⟩) HB3.out.size)
              have HBXQ := Lib.hid (show (wb.drewN q).heap[bx]? = _ from HBX.out)
              clear ht
              generalize wb.drewN q = wq at *
              cases t
              · have hcb := boxP HBXQ.out
                have d0 := hcb.c0
                have d1 := hcb.c1
                have d2 := hcb.c2
                have d3 := hcb.c3
                have HL9 := Lib.hid (show cur.length + 1 ≤ 1099511627776 by omega)
                have hsz := HBQ.out.size
                clear hcb
                go_wp2_with (at_builtin; refine wpList_append1 rfl (.tmp 60) (.tmp 62) 25 rfl w.heap.size TE _ 4 48 Try.underlying25 infoE rfl (by decide) _ cur.length (cur.flatMap encC) (encC x) rfl HOQ.out _ 1 rfl rfl rfl (encC_one1 x) HL9.out (by decide) hsz w.heap.size w HBQ.out (Nat.le_refl _) ?_; intro v2 w2 ho hgr hb2 hsz2; have HO4 := Lib.hid ho; have HB4 := Lib.hid hb2; clear ho hgr hb2 hsz2)
                go_roundw
                case rel =>
                  refine ⟨k + 1, hkl, by go_num, ?_, HB4.out⟩
                  rw [HST.out, HT.out, if_neg (by simp), List.length_append, List.flatMap_append]
                  simpa using HO4.out
                case measure => simp [intOf]; omega
              · go_wp2_with fail
                go_roundw
                case rel =>
                  refine ⟨k + 1, hkl, by go_num, ?_, HBQ.out⟩
                  rw [HST.out, HT.out, if_pos rfl]
                  exact HOQ.out
                case measure => simp [intOf]; omega
        · obtain rfl : k = g.length := by omega
          have HF := Lib.hid (show wz.ownsRow w.heap.size TE 4 _ (firstsL (ls.take (i + 1)).flatten).length ((firstsL (ls.take (i + 1)).flatten).flatMap encC) from by rw [HSN.out]; exact HO2.out)
          clear ho hbel
          go_wp2_with fail
          go_roundw
          case rel => exact ⟨i + 1, hlt, by go_num, HF.out, HB2.out⟩
          case measure => simp [intOf]; omega
    · have e : ls.take i = ls := List.take_of_length_le (by omega)
      rw [e] at ho
      have HEE := Lib.hid e
      have hfk : KeysOK (firstsL ls.flatten) := fun y hy => HKS.out y (((firsts_is ls.flatten).2 y).1 hy).mem
      have HC := Lib.hid (sorted09 (.slice oo (firstsL ls.flatten).length oc) (firstsL ls.flatten) wr (Seg.of_owns (by rw [e] at HO; exact HO.out)) (Nat.le_trans (firstsL_le _) hn) hfk)
      rw [HMD.out] at HC
      rw [e]
      clear ho hbel e hfk
      go_wp2_with fail
      refine HC.out.mono ?_
      rintro e w2 ⟨v2, rfl, ho, hb⟩
      have HO2 := Lib.hid (owns_mono ho HBE.out.size)
      have HB2 := Lib.hid (below_step HBE.out hb HBE.out.size)
      clear ho hb
      go_wp2_with fail
      go_ret
      exact ⟨_, rfl, HO2.out, HB2.out⟩

set_option maxRecDepth 100000 in
set_option maxHeartbeats 4000000 in
theorem one16 (v : Value) (l : List Ent) (w : World) (h : EntsAt w v l) (hn : l.length ≤ 100000) (hks : KeysOK l) :
    Calls Try.prog 32 #[v] w (NewRow w (mergeL ltE l)) := by
  have hb0 : Below w.heap.size w (w.alloc (.cells #[v] TS)) := (Below.refl _ _).alloc (Nat.le_refl _) _
  have HM := Lib.hid (merge16 _ [l] _ (Lists.one (c := 1) (heap_alloc_new w (.cells #[v] TS)) (h.kept hb0)) (by simp) (by simpa using hn) (by simpa using hks))
  have HB0 := Lib.hid hb0
  simp only [List.flatten_cons, List.flatten_nil, List.append_nil] at HM
  obtain ⟨ao, cap, hv⟩ := elems_slice h
  subst hv
  clear h hb0 hks
  go_enter Try.func32, Try.ntmps32
  go_wp2_with fail
  refine HM.out.mono ?_
  rintro e w1 ⟨v1, rfl, ho, hb⟩
  have HO1 := Lib.hid (owns_mono ho HB0.out.size)
  have HB1 := Lib.hid (below_step HB0.out hb HB0.out.size)
  clear ho hb
  go_wp2_with fail
  go_ret
  exact ⟨_, rfl, HO1.out, HB1.out⟩
end Go.Proofs.Try.Mg
