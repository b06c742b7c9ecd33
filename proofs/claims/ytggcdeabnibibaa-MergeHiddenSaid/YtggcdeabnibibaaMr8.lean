/- The document's Seen. -/
import Derived.Test.YtggcdeabnibibaaMr7
set_option linter.unusedVariables false
set_option linter.unusedSimpArgs false
namespace Go.Proofs.Try.Mg
open Go.RowKit Go.Cph Go.Cph.Skip Go.Cph.So

theorem docSeen_le (s : List Ent) (at_ : UInt64) (k : Nat) : (docSeen s at_ k).length ≤ k := by
  unfold docSeen
  exact Nat.le_trans (List.length_filterMap_le _ _) (by simp)

set_option maxRecDepth 100000 in
set_option maxHeartbeats 16000000 in
theorem seen16 (v : Value) (l : List Ent) (at_ : UInt64) (w : World) (h : EntsAt w v l) (hn : l.length ≤ 100000) (hks : KeysOK l) :
    Calls Try.prog 19 #[v, .int .u64 (at_.toNat : Int)] w (OpsPost w (seenL (mergeL ltE l) at_)) := by
  have HO := Lib.hid (one16 v l w h hn hks)
  have hsl := mergeL_length (lt := ltE) weakE l
  have hst := mergeL_strict (lt := ltE) weakE l
  obtain ⟨s, hs⟩ : ∃ s, s = mergeL ltE l := ⟨_, rfl⟩
  rw [← hs] at HO hsl hst ⊢
  have HSS := Lib.hid hst
  have HDK := Lib.hid (docSeen_all hst at_)
  obtain ⟨ao, cap, hv⟩ := elems_slice h
  subst hv
  have hsn : s.length ≤ 100000 := by omega
  clear h hks hs hst hsl hn
  go_enter Try.func19, Try.ntmps19
  go_wp2_with fail
  refine HO.out.mono ?_
  rintro e w1 ⟨v1, rfl, ho, hb⟩
  obtain ⟨o1, c1, hv1⟩ := owns_slice1 ho
  subst hv1
  have HSW := Lib.hid (show EntsAt w1 (.slice o1 s.length c1) s from Seg.of_owns ho)
  have HB1 := Lib.hid hb
  clear ho hb HO
  go_wp2_with fail
  go_loopw [6, 7] (fun vo vi W => ∃ i : Nat, i ≤ s.length ∧ vi = .int .i64 i ∧ W.ownsRow w1.heap.size 45 3 vo (docSeen s at_ i).length ((docSeen s at_ i).flatMap encO) ∧ Below w1.heap.size w1 W) (fun _ vi _ => s.length - (intOf vi).toNat)
  case atStart => exact ⟨0, Nat.zero_le _, rfl, World.ownsRow_nil _ _ _ _, Below.refl _ _⟩
  case round =>
    obtain ⟨i, hi, rfl, ho, hbel⟩ := hrel
    obtain ⟨oo, oc, hov⟩ := owns_slice1 ho
    have hdl := docSeen_le s at_ i
    have HDS := Lib.hid (docSeen_snoc s at_ i)
    obtain ⟨dk, hdk⟩ : ∃ dk, dk = docSeen s at_ i := ⟨_, rfl⟩
    rw [← hdk] at ho hov hdl HDS
    have HDD := Lib.hid hdk
    subst hov
    have HOW := Lib.hid ho
    have HBE := Lib.hid hbel
    by_cases hlt : i < s.length
    · obtain ⟨x, hx⟩ : ∃ x, s[i]? = some x := ⟨_, List.getElem?_eq_getElem hlt⟩
      have HX := Lib.hid hx
      obtain ⟨b, off, cap', hve, hcs⟩ := ents_cells (HSW.out.kept hbel) (by omega)
      injection hve with hx1 hx2 hx3
      subst hx1
      clear hx2 hx3
      have HCS := Lib.hid (show ∀ j y, s[j]? = some y → CellsOf wr b (off + j * 4) y from fun j y hy => by
        have hj : j < s.length := by
          refine Nat.lt_of_not_le fun h => ?_
          rw [List.getElem?_eq_none h] at hy; cases hy
        rw [List.getElem?_eq_getElem hj] at hy; cases hy; exact hcs j hj)
      have HCX := Lib.hid (HCS.out i x hx)
      have HAT := Lib.hid (show ∀ W, Below wr.heap.size wr W → Calls Try.prog 33 #[.slice (some ⟨b, off, none⟩) s.length c1, .string x.1, .int .u64 (at_.toNat : Int)] W (AtPost s x.1 at_ W) from fun W hb => at09 _ s x.1 at_ W (HSW.out.kept (below_step HBE.out hb HBE.out.size)) HSS.out (by omega))
      have HD := Lib.hid (show ∀ nq, Below wr.heap.size wr (wr.drewN nq) from fun nq => ⟨rfl, rfl, rfl, Nat.le_refl _, fun _ _ => rfl⟩)
      have k1 : (0 : Int) ≤ (i : Int) := by omega
      have k2 : (i : Int) < (s.length : Int) := by omega
      have k4 : IntKind.i64.wrap ((i : Int) + 1) = (i : Int) + 1 := by rw [IntKind.wrap_i64]; omega
      have d0 := HCX.out.c0
      clear ho hbel hcs hdk hx
      by_cases hi0 : i = 0
      · have j1 : ¬ 0 < i := by omega
        have j2 : decide (0 < i) = false := by simp; omega
        have HH := Lib.hid (show docOp s at_ i = opE (s.find? (atP x.1 at_)) by
          unfold docOp; rw [HX.out, hi0, if_pos (show headB s 0 = true from rfl)])
        clear hi0
        go_wp2_with fail
        go_quiet (fail)
        clear d0
        have HBQ := Lib.hid (HD.out nq)
        have HB4 := Lib.hid (below_step HBE.out (HD.out nq) HBE.out.size)
        have HO4 := Lib.hid (row_kept1 HOW.out fun q hq => HBQ.out.block q (HOW.out.lt q hq).2)
        have HC4 := Lib.hid (HCX.out.kept HBQ.out)
        generalize wr.drewN nq = wq at *
        have d0 := HC4.out.c0
        have HAQ := Lib.hid (HAT.out wq HBQ.out)
        go_wp2_with fail
        refine HAQ.out.mono ?_
        rintro e w3 ⟨hor, hb⟩
        have HB5 := Lib.hid (below_step HB4.out hb HB4.out.size)
        have HO5 := Lib.hid (row_kept1 HO4.out fun q hq => hb.block q (HO4.out.lt q hq).2)
        clear d0 hb HAQ
        rcases hor with ⟨z, hz, rfl⟩ | ⟨hz, rfl⟩
        · have HB6 := Lib.hid (HB5.out.alloc HB5.out.size (.cells #[.string z.1, .string z.2.1, .int .u64 (z.2.2.1.toNat : Int), .bool z.2.2.2] TE))
          have HO6 := Lib.hid (HO5.out.alloc (.cells #[.string z.1, .string z.2.1, .int .u64 (z.2.2.1.toNat : Int), .bool z.2.2.2] TE))
          have hbz := boxP (heap_alloc_new w3 (.cells #[.string z.1, .string z.2.1, .int .u64 (z.2.2.1.toNat : Int), .bool z.2.2.2] TE))
          have z0 := hbz.c0
          have z1 := hbz.c1
          have z3 := hbz.c3
          cases hg : z.2.2.2
          · have HE := Lib.hid (HDS.out.trans (show _ = dk ++ [(z.1, z.2.1, false)] from by rw [HH.out, hz]; simp [opE, hg]))
            rw [hg] at z3 HB6 HO6 z0 z1
            clear hbz hz
            have HL9 := Lib.hid (show dk.length + 1 ≤ 1099511627776 by omega)
            have HZ6 := Lib.hid HB6.out.size
            go_wp2_with (at_builtin; refine wpList_append1 rfl (.tmp 51) (.tmp 57) 37 rfl w1.heap.size 45 _ 3 40 Try.underlying37 infoO rfl (by decide) _ dk.length _ (encO (z.1, z.2.1, false)) rfl HO6.out _ 1 (by rw [World.size_alloc]; rfl) rfl rfl (encO_one1 _) HL9.out (by decide) HZ6.out w1.heap.size w1 HB6.out (Nat.le_refl _) ?_; intro v7 w7 ho7 hgr7 hb7 hsz7; have HO7 := Lib.hid ho7; have HB7 := Lib.hid hb7; clear ho7 hgr7 hb7 hsz7 z0 z1 z3)
            go_roundw
            case rel =>
              refine ⟨i + 1, hlt, by go_num, ?_, HB7.out⟩
              rw [HE.out, List.length_append, List.flatMap_append]
              simpa using HO7.out
            case measure => simp [intOf]; omega
          · have HE := Lib.hid (HDS.out.trans (show _ = dk from by rw [HH.out, hz]; simp [opE, hg]))
            rw [hg] at z3 HB6 HO6 z0 z1
            clear hbz hz
            go_wp2_with fail
            clear z0 z1 z3
            go_roundw
            case rel => exact ⟨i + 1, hlt, by go_num, by rw [HE.out]; exact HO6.out, HB6.out⟩
            case measure => simp [intOf]; omega
        · have HE := Lib.hid (HDS.out.trans (show _ = dk from by rw [HH.out, hz]; simp [opE]))
          have HB6 := Lib.hid (HB5.out.alloc HB5.out.size (.cells ZBOX TE))
          have HO6 := Lib.hid (HO5.out.alloc (.cells ZBOX TE))
          clear hz
          go_wp2_with fail
          go_roundw
          case rel => exact ⟨i + 1, hlt, by go_num, by rw [HE.out]; exact HO6.out, HB6.out⟩
          case measure => simp [intOf]; omega
      · obtain ⟨m, hm⟩ : ∃ m, i = m + 1 := ⟨i - 1, by omega⟩
        obtain ⟨y, hy⟩ : ∃ y, s[m]? = some y := ⟨_, List.getElem?_eq_getElem (show m < s.length by omega)⟩
        have hcy := HCS.out m y hy
        have e0 := hcy.c0
        have hh : headB s i = decide (y.1 ≠ x.1) := by
          have h2 := HX.out
          rw [hm] at h2 ⊢
          unfold headB
          simp only
          rw [hy, h2]
          simp
        have j1 : 0 < i := by omega
        have j2 : decide (0 < i) = true := by simp; omega
        have j3 : IntKind.i64.wrap ((i : Int) - 1) = (i : Int) - 1 := by rw [IntKind.wrap_i64]; omega
        have j4 : (0 : Int) ≤ (i : Int) - 1 := by omega
        have j5 : (i : Int) - 1 < (s.length : Int) := by omega
        have j6 : ((i : Int) - 1).toNat = m := by omega
        by_cases hky : y.1 = x.1
        · have j7 : (y.1.toList == x.1.toList) = true := by rw [beq_toList]; simpa using hky
          have HE := Lib.hid (HDS.out.trans (show _ = dk from by unfold docOp; rw [hh]; simp [hky]))
          clear hi0 hm hcy hy hh hky
          go_wp2_with fail
          go_quiet (fail)
          clear d0 e0
          have HBQ := Lib.hid (HD.out nq)
          have HB4 := Lib.hid (below_step HBE.out (HD.out nq) HBE.out.size)
          have HO4 := Lib.hid (row_kept1 HOW.out fun q hq => HBQ.out.block q (HOW.out.lt q hq).2)
          generalize wr.drewN nq = wq at *
          go_wp2_with fail
          go_roundw
          case rel => exact ⟨i + 1, hlt, by go_num, by rw [HE.out]; exact HO4.out, HB4.out⟩
          case measure => simp [intOf]; omega
        · have j7 : (y.1.toList == x.1.toList) = false := by rw [beq_toList]; simpa using hky
          have HH := Lib.hid (show docOp s at_ i = opE (s.find? (atP x.1 at_)) by
            unfold docOp; rw [HX.out, if_pos (show headB s i = true by rw [hh]; simp [hky])])
          clear hi0 hm hcy hy hh hky
          go_wp2_with fail
          go_quiet (fail)
          clear e0
          clear d0
          have HBQ := Lib.hid (HD.out nq)
          have HB4 := Lib.hid (below_step HBE.out (HD.out nq) HBE.out.size)
          have HO4 := Lib.hid (row_kept1 HOW.out fun q hq => HBQ.out.block q (HOW.out.lt q hq).2)
          have HC4 := Lib.hid (HCX.out.kept HBQ.out)
          generalize wr.drewN nq = wq at *
          have d0 := HC4.out.c0
          have HAQ := Lib.hid (HAT.out wq HBQ.out)
          go_wp2_with fail
          refine HAQ.out.mono ?_
          rintro e w3 ⟨hor, hb⟩
          have HB5 := Lib.hid (below_step HB4.out hb HB4.out.size)
          have HO5 := Lib.hid (row_kept1 HO4.out fun q hq => hb.block q (HO4.out.lt q hq).2)
          clear d0 hb HAQ
          rcases hor with ⟨z, hz, rfl⟩ | ⟨hz, rfl⟩
          · have HB6 := Lib.hid (HB5.out.alloc HB5.out.size (.cells #[.string z.1, .string z.2.1, .int .u64 (z.2.2.1.toNat : Int), .bool z.2.2.2] TE))
            have HO6 := Lib.hid (HO5.out.alloc (.cells #[.string z.1, .string z.2.1, .int .u64 (z.2.2.1.toNat : Int), .bool z.2.2.2] TE))
            have hbz := boxP (heap_alloc_new w3 (.cells #[.string z.1, .string z.2.1, .int .u64 (z.2.2.1.toNat : Int), .bool z.2.2.2] TE))
            have z0 := hbz.c0
            have z1 := hbz.c1
            have z3 := hbz.c3
            cases hg : z.2.2.2
            · have HE := Lib.hid (HDS.out.trans (show _ = dk ++ [(z.1, z.2.1, false)] from by rw [HH.out, hz]; simp [opE, hg]))
              rw [hg] at z3 HB6 HO6 z0 z1
              clear hbz hz
              have HL9 := Lib.hid (show dk.length + 1 ≤ 1099511627776 by omega)
              have HZ6 := Lib.hid HB6.out.size
              go_wp2_with (at_builtin; refine wpList_append1 rfl (.tmp 51) (.tmp 57) 37 rfl w1.heap.size 45 _ 3 40 Try.underlying37 infoO rfl (by decide) _ dk.length _ (encO (z.1, z.2.1, false)) rfl HO6.out _ 1 (by rw [World.size_alloc]; rfl) rfl rfl (encO_one1 _) HL9.out (by decide) HZ6.out w1.heap.size w1 HB6.out (Nat.le_refl _) ?_; intro v7 w7 ho7 hgr7 hb7 hsz7; have HO7 := Lib.hid ho7; have HB7 := Lib.hid hb7; clear ho7 hgr7 hb7 hsz7 z0 z1 z3)
              go_roundw
              case rel =>
                refine ⟨i + 1, hlt, by go_num, ?_, HB7.out⟩
                rw [HE.out, List.length_append, List.flatMap_append]
                simpa using HO7.out
              case measure => simp [intOf]; omega
            · have HE := Lib.hid (HDS.out.trans (show _ = dk from by rw [HH.out, hz]; simp [opE, hg]))
              rw [hg] at z3 HB6 HO6 z0 z1
              clear hbz hz
              go_wp2_with fail
              clear z0 z1 z3
              go_roundw
              case rel => exact ⟨i + 1, hlt, by go_num, by rw [HE.out]; exact HO6.out, HB6.out⟩
              case measure => simp [intOf]; omega
          · have HE := Lib.hid (HDS.out.trans (show _ = dk from by rw [HH.out, hz]; simp [opE]))
            have HB6 := Lib.hid (HB5.out.alloc HB5.out.size (.cells ZBOX TE))
            have HO6 := Lib.hid (HO5.out.alloc (.cells ZBOX TE))
            clear hz
            go_wp2_with fail
            go_roundw
            case rel => exact ⟨i + 1, hlt, by go_num, by rw [HE.out]; exact HO6.out, HB6.out⟩
            case measure => simp [intOf]; omega
    · obtain rfl : i = s.length := by omega
      have HF := Lib.hid (show dk = seenL s at_ by rw [HDD.out, HDK.out])
      clear ho hbel hdk
      go_wp2_with fail
      go_ret
      exact ⟨_, rfl, by rw [← HF.out]; exact Seg.of_owns HOW.out, below_step HB1.out HBE.out HB1.out.size⟩
end Go.Proofs.Try.Mg
