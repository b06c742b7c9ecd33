/- Is a version right? -/
import Derived.Test.YtkeaalacepjadaaDoorVD
import Derived.Test.YtkeaalacepjadaaDoorVF
set_option linter.unusedVariables false
set_option linter.unusedSimpArgs false
set_option maxRecDepth 100000
namespace Go.Proofs.Tryd.Vr
open Go.RowKit Go.Cph Go.Cph.Skip Go.Cph.So Go.Cph.Ve
open Go.Proofs.Tryd.Sq (encU TU TUs Ro RoPost inOrder inOrder_len apart apart_iff ComPost NewU infoU sort_row compact_row cloneU_any)

def RightPost (v : Vn) (lv : Nat → List Tb) (w : World) (e : Ending) (w' : World) : Prop := ∃ b, e = .returned (.bool b) ∧ (b = true ↔ RightV lv v.log v.seq v.nxt) ∧ Below w.heap.size w w'
theorem rightV_iff {lv : Nat → List Tb} {log seq next : UInt64} : RightV lv log seq next ↔ NumsOK log next ∧ (∀ k, k < 4 → levB k next seq (lv k) = true) ∧ ((tabs lv).map tN).Nodup :=
  ⟨fun h => ⟨h.nums, fun k hk => levB_iff.2 (h.lev k hk), h.nodup⟩, fun h => ⟨h.1, fun k hk => levB_iff.1 (h.2.1 k hk), h.2.2⟩⟩

set_option maxHeartbeats 16000000 in
theorem verRight_any (v : Vn) (lv : Nat → List Tb) (w : World) (h : VerAt w v lv) (hn : (tabs lv).length ≤ 1000000) :
    Calls Tryd.prog 24 #[encV v] w (RightPost v lv w) := by
  have hbx : (w.alloc (boxV v)).heap[w.heap.size]? = some (boxV v) := heap_alloc_new _ _
  have HX := Lib.hid hbx
  have HB := Lib.hid (below_of_alloc (w := w) (boxV v))
  have HV := Lib.hid (h.kept HB.out)
  have hlen : ∀ k, k < 4 → (lv k).length ≤ 1000000 := fun k hk => by
    rw [tabs_eq] at hn
    simp only [List.length_append] at hn
    rcases (show k = 0 ∨ k = 1 ∨ k = 2 ∨ k = 3 by omega) with rfl | rfl | rfl | rfl <;> omega
  have HLEN := Lib.hid hlen
  have HN := Lib.hid hn
  have c4 : (w.alloc (boxV v)).cell? ⟨w.heap.size, 4, none⟩ = some (.int .u64 (v.log.toNat : Int)) := by rw [blk_cell hbx]; rfl
  have c6 : (w.alloc (boxV v)).cell? ⟨w.heap.size, 6, none⟩ = some (.int .u64 (v.nxt.toNat : Int)) := by rw [blk_cell hbx]; rfl
  clear h hbx hlen hn
  obtain ⟨nb, hnb⟩ : ∃ b : Bool, b = !(decide (1 ≤ v.nxt.toNat) && (decide (v.nxt.toNat ≤ 1099511627777) && decide (v.log.toNat < v.nxt.toNat))) := ⟨_, rfl⟩
  have HNB := Lib.hid hnb
  clear hnb
  go_enter Tryd.func24, Tryd.ntmps24
  go_upto_region 1 with fail
  go_cut [21] from 5 to 22 (fun v21 W => v21 = .bool nb ∧ W.heap[w.heap.size]? = some (boxV v) ∧ VerAt W v lv ∧ Below w.heap.size w W)
  case first =>
    by_cases q1 : 1 ≤ v.nxt.toNat
    · have z1 : ¬ v.nxt.toNat < 1 := by omega
      have z1b : ¬ (v.nxt.toNat : Int) < 1 := by omega
      by_cases q2 : v.nxt.toNat ≤ 1099511627777
      · have z2 : ¬ 1099511627777 < v.nxt.toNat := by omega
        have z2b : ¬ (v.nxt.toNat : Int) > 1099511627777 := by omega
        by_cases q3 : v.log.toNat < v.nxt.toNat
        · have z3 : ¬ v.nxt.toNat ≤ v.log.toNat := by omega
          have z3b : ¬ (v.log.toNat : Int) ≥ (v.nxt.toNat : Int) := by omega
          have HZ := Lib.hid (show nb = false from by rw [HNB.out]; simp [q1, q2, q3])
          clear q1 q2 q3
          go_wp2_with fail
          go_meet
          case rel => exact ⟨by rw [HZ.out], HX.out, HV.out, HB.out⟩
        · have z3 : v.nxt.toNat ≤ v.log.toNat := by omega
          have z3b : (v.log.toNat : Int) ≥ (v.nxt.toNat : Int) := by omega
          have HZ := Lib.hid (show nb = true from by rw [HNB.out]; simp [q3])
          clear q1 q2 q3
          go_wp2_with fail
          go_meet
          case rel => exact ⟨by rw [HZ.out], HX.out, HV.out, HB.out⟩
      · have z2 : 1099511627777 < v.nxt.toNat := by omega
        have z2b : (v.nxt.toNat : Int) > 1099511627777 := by omega
        have HZ := Lib.hid (show nb = true from by rw [HNB.out]; simp [q2])
        clear q1 q2
        go_wp2_with fail
        go_meet
        case rel => exact ⟨by rw [HZ.out], HX.out, HV.out, HB.out⟩
    · have z1 : v.nxt.toNat < 1 := by omega
      have z1b : (v.nxt.toNat : Int) < 1 := by omega
      have HZ := Lib.hid (show nb = true from by rw [HNB.out]; simp [q1])
      clear q1
      go_wp2_with fail
      go_meet
      case rel => exact ⟨by rw [HZ.out], HX.out, HV.out, HB.out⟩
  case rest =>
    rename World => w1
    obtain ⟨rfl, hx, hv, hb⟩ := hcut
    have HX1 := Lib.hid hx
    have HV1 := Lib.hid hv
    have HB1 := Lib.hid hb
    clear hx hv hb c4 c6
    cases nb
    · have HNU := Lib.hid (show NumsOK v.log v.nxt from by
        have := HNB.out
        simp only [Bool.false_eq, Bool.not_eq_false', Bool.and_eq_true, decide_eq_true_eq] at this
        exact ⟨this.1, this.2.1, this.2.2⟩)
      clear HNB HX HV HB
      go_wp2_with fail
      go_loopw [22] (fun vi W => ∃ i : Nat, i ≤ 4 ∧ vi = .int .i64 (i : Int) ∧ Hid (∀ k, k < i → levB k v.nxt v.seq (lv k) = true) ∧ W.heap[w.heap.size]? = some (boxV v) ∧ VerAt W v lv ∧ Below w.heap.size w W) (fun vi _ => 4 - (intOf vi).toNat)
      case atStart => exact ⟨0, by omega, rfl, Lib.hid (fun k hk => absurd hk (Nat.not_lt_zero _)), HX1.out, HV1.out, HB1.out⟩
      case round =>
        obtain ⟨i, hi, rfl, HAL, hx, hv, hb⟩ := hrel
        have HX2 := Lib.hid hx
        have HV2 := Lib.hid hv
        have HB2 := Lib.hid hb
        by_cases hlt : i < 4
        · have j1 : (i : Int) < 4 := by omega
          have j4 : IntKind.i64.wrap ((i : Int) + 1) = (i : Int) + 1 := by rw [IntKind.wrap_i64]; omega
          have d0 : wr.cell? ⟨w.heap.size, 0, none⟩ = some (v.s0) := by rw [blk_cell HX2.out]; rfl
          have d1 : wr.cell? ⟨w.heap.size, 1, none⟩ = some (v.s1) := by rw [blk_cell HX2.out]; rfl
          have d2 : wr.cell? ⟨w.heap.size, 2, none⟩ = some (v.s2) := by rw [blk_cell HX2.out]; rfl
          have d3 : wr.cell? ⟨w.heap.size, 3, none⟩ = some (v.s3) := by rw [blk_cell HX2.out]; rfl
          have d4 : wr.cell? ⟨w.heap.size, 4, none⟩ = some (.int .u64 (v.log.toNat : Int)) := by rw [blk_cell HX2.out]; rfl
          have d5 : wr.cell? ⟨w.heap.size, 5, none⟩ = some (.int .u64 (v.seq.toNat : Int)) := by rw [blk_cell HX2.out]; rfl
          have d6 : wr.cell? ⟨w.heap.size, 6, none⟩ = some (.int .u64 (v.nxt.toNat : Int)) := by rw [blk_cell HX2.out]; rfl
          obtain ⟨r, hr⟩ : ∃ r, r = levB i v.nxt v.seq (lv i) := ⟨_, rfl⟩
          have HC := Lib.hid (level_any i v lv wr hv hlt (HLEN.out i hlt))
          unfold LevPost at HC
          rw [← hr] at HC
          have HRR := Lib.hid hr
          have HI := Lib.hid hlt
          clear hx hv hb hr
          cases r
          · have HNO := Lib.hid (show ¬ RightV lv v.log v.seq v.nxt from fun h => by
              have := levB_iff.2 (h.lev i HI.out)
              rw [← HRR.out] at this; cases this)
            go_wp2_with (go_at_call 37; refine HC.out.mono ?_; rintro e w3 ⟨rfl, hb3⟩)
            go_ret
            exact ⟨false, rfl, ⟨fun h => (Bool.false_ne_true h).elim, fun h => absurd h HNO.out⟩, below_step HB2.out hb3 HB2.out.size⟩
          · go_wp2_with (go_at_call 37; refine HC.out.mono ?_; rintro e w3 ⟨rfl, hb3⟩)
            go_roundw
            case rel => exact ⟨i + 1, by omega, by first | rfl | (congr 1), Lib.hid (fun k hk => by
              rcases Nat.lt_or_eq_of_le (show k ≤ i by omega) with h | h
              · exact HAL.out k h
              · subst h; exact HRR.out.symm), blk_kept hb3 HX2.out, HV2.out.kept hb3, below_step HB2.out hb3 HB2.out.size⟩
            case measure => simp [intOf]; omega
        · have j1 : ¬ (i : Int) < 4 := by omega
          have hi4 : i = 4 := by omega
          subst hi4
          have d0 := HX2.out
          have d1 : wr.cell? ⟨w.heap.size, 1, none⟩ = some v.s1 := by rw [blk_cell d0]; rfl
          have e0 : wr.cell? ⟨w.heap.size, 0, none⟩ = some (v.s0) := by rw [blk_cell d0]; rfl
          have e1 : wr.cell? ⟨w.heap.size, 1, none⟩ = some (v.s1) := by rw [blk_cell d0]; rfl
          have e2 : wr.cell? ⟨w.heap.size, 2, none⟩ = some (v.s2) := by rw [blk_cell d0]; rfl
          have e3 : wr.cell? ⟨w.heap.size, 3, none⟩ = some (v.s3) := by rw [blk_cell d0]; rfl
          have e4 : wr.cell? ⟨w.heap.size, 4, none⟩ = some (.int .u64 (v.log.toNat : Int)) := by rw [blk_cell d0]; rfl
          have e5 : wr.cell? ⟨w.heap.size, 5, none⟩ = some (.int .u64 (v.seq.toNat : Int)) := by rw [blk_cell d0]; rfl
          have e6 : wr.cell? ⟨w.heap.size, 6, none⟩ = some (.int .u64 (v.nxt.toNat : Int)) := by rw [blk_cell d0]; rfl
          have HC := Lib.hid (tables_any v lv wr hv HN.out)
          clear hx hv hb d0 d1
          go_wp2_with (go_at_call 25; refine HC.out.mono ?_; rintro e w4 hr; obtain ⟨tv, rfl, ht4, hb4⟩ := hr; obtain ⟨ao, cap, hv⟩ := elems_slice ht4; subst hv)
          obtain ⟨L, hL⟩ : ∃ L, L = tabs lv := ⟨_, rfl⟩
          rw [← hL] at ht4 HN ⊢
          have HL := Lib.hid hL
          have HT4 := Lib.hid ht4
          have HB4 := Lib.hid (below_step HB2.out hb4 HB2.out.size)
          clear hL ht4 hb4 HC e0 e1 e2 e3 e4 e5 e6
          go_loopw [4, 33] (fun sv vi W => ∃ j : Nat, j ≤ L.length ∧ vi = .int .i64 (j : Int) ∧ W.ownsRow w4.heap.size TU 1 sv j (((L.take j).map tN).flatMap encU) ∧ Below w4.heap.size w4 W) (fun _ vi _ => L.length - (intOf vi).toNat)
          case atStart => exact ⟨0, Nat.zero_le _, rfl, World.ownsRow_nil _ _ _ _, Below.refl _ _⟩
          case round =>
            obtain ⟨j, hj, rfl, ho, hb⟩ := hrel
            have HO := Lib.hid ho
            have HB5 := Lib.hid hb
            obtain ⟨o1, c1, hv1⟩ := owns_slice1 ho
            subst hv1
            have hHN := HN.out
            by_cases hlt2 : j < L.length
            · obtain ⟨b, off, cap', hve, hcs⟩ := tbs_cells (HT4.out.kept hb) (by omega)
              injection hve with hx1 hx2 hx3
              subst hx1
              clear hx2 hx3
              have hcx := hcs j hlt2
              have HLT := Lib.hid hlt2
              obtain ⟨x, hx⟩ : ∃ x, x = L[j]'(HLT.out) := ⟨_, rfl⟩
              have HXX := Lib.hid hx
              rw [← hx] at hcx
              have d0 := hcx.c0
              have d1 := hcx.c1
              have d2 := hcx.c2
              have d3 := hcx.c3
              have d4 := hcx.c4
              have d5 := hcx.c5
              have d6 := hcx.c6
              have d7 := hcx.c7
              have j1 : (0 : Int) ≤ (j : Int) := by omega
              have j2 : (j : Int) < (L.length : Int) := by omega
              have j4 : IntKind.i64.wrap ((j : Int) + 1) = (j : Int) + 1 := by rw [IntKind.wrap_i64]; omega
              have HA := Lib.hid (show (wr.alloc (boxT x)).ownsRow w4.heap.size TU 1 (.slice o1 j c1) j (((L.take j).map tN).flatMap encU) from ho.alloc _)
              have HBA := Lib.hid (show Below w4.heap.size w4 (wr.alloc (boxT x)) from hb.alloc hb.size _)
              clear hcs hcx hx ho hb
              have HNX := Lib.hid (show (L.take (j + 1)).map tN = (L.take j).map tN ++ [x.1] from by
                rw [List.take_succ_eq_append_getElem HLT.out, List.map_append, ← HXX.out]; rfl)
              go_wp2_with (at_builtin; refine wpList_append1 rfl (.tmp 37) (.tmp 40) TUs rfl w4.heap.size TU _ 1 8 Tryd.underlying36 infoU rfl (by decide) _ j _ (encU x.1) rfl HA.out _ 1 (by rw [World.size_alloc]; rfl) rfl rfl (by intro u hu; simp only [encU, List.mem_singleton] at hu; rw [hu]; rfl) (by omega) (by decide) HBA.out.size w4.heap.size w4 HBA.out (Nat.le_refl _) ?_; intro v6 w6 ho hgr hb6 hsz6; have HO6 := Lib.hid ho; have HB6 := Lib.hid hb6; obtain ⟨o6, c6, hv6⟩ := owns_slice1 ho; subst hv6; clear ho hgr hb6 hsz6)
              go_roundw
              case rel => exact ⟨j + 1, hlt2, by first | rfl | (congr 1), by rw [HNX.out, List.flatMap_append]; exact HO6.out, HB6.out⟩
              case measure => simp [intOf]; omega
            · have j1 : ¬ (j : Int) < (L.length : Int) := by omega
              have hjl : j = L.length := by omega
              subst hjl
              obtain ⟨ns, hns⟩ : ∃ ns, ns = L.map tN := ⟨_, rfl⟩
              have HNS := Lib.hid hns
              have hnl : ns.length = L.length := by rw [hns, List.length_map]
              have HNL := Lib.hid hnl
              have ho2 : wr.ownsRow w4.heap.size TU 1 (.slice o1 L.length c1) ns.length (ns.flatMap encU) := by
                rw [hnl, hns]; rw [List.take_length] at ho; exact ho
              have hnn : ns.length ≤ 1000000 := by rw [hnl]; exact hHN
              have HOR := Lib.hid ho2
              have hbx := hb.size
              clear ho ho2 hb hns hnl HO
              obtain ⟨ms, hms⟩ : ∃ ms, ms = inOrder ns := ⟨_, rfl⟩
              have HMS := Lib.hid hms
              have hml : ms.length = ns.length := by rw [hms]; exact inOrder_len ns
              have HML := Lib.hid hml
              clear hms hml
              go_wp2_with (first | (go_at_call 38; refine (sort_row _ ns _ HOR.out hnn hbx).mono ?_; rintro e w6 ⟨rfl, ho6, hb6⟩; have HO6 := Lib.hid ho6; have HB6 := Lib.hid hb6; clear ho6 hb6) | (go_at_call 40; refine (cloneU_any _ ms _ (Seg.of_owns (by have := HO6.out; rw [← HMS.out, ← HML.out] at this; rw [← HNL.out, ← HML.out] at this ⊢; exact this)) (by rw [HML.out]; exact hnn)).mono ?_; rintro e w7 ⟨v7, rfl, ho7, hb7⟩; have HO7 := Lib.hid ho7; have HB7 := Lib.hid hb7; clear ho7 hb7) | (go_at_call 39; refine (compact_row _ ms _ HO7.out (by rw [HML.out]; exact hnn) HB7.out.size).mono ?_; rintro e w8 ⟨p8, k8, c8, rfl, hk8, hb8⟩; have HK8 := Lib.hid hk8; have HB8 := Lib.hid hb8; clear hk8 hb8))
              go_ret
              refine ⟨_, rfl, ?_, ?_⟩
              · rw [rightV_iff, ← HL.out, ← HNS.out, ← apart_iff, ← HMS.out, ← HK8.out]
                have hAL := HAL.out
                have hml := HML.out
                have hnl := HNL.out
                constructor
                · intro h
                  exact ⟨HNU.out, hAL, by simp at h; omega⟩
                · rintro ⟨-, -, h⟩
                  simp; omega
              · exact below_step HB4.out ((HB5.out.trans HB6.out).trans ((HB7.out.trans HB8.out).mono (Nat.le_trans HB5.out.size HB6.out.size))) HB4.out.size
    · have HNU := Lib.hid (show ¬ NumsOK v.log v.nxt from by
        have := HNB.out
        intro h
        rw [decide_eq_true h.1, decide_eq_true h.2.1, decide_eq_true h.2.2] at this
        cases this)
      clear HNB HX HV HB
      go_wp2_with fail
      go_ret
      exact ⟨false, rfl, ⟨fun h => (Bool.false_ne_true h).elim, fun h => absurd h.nums HNU.out⟩, HB1.out⟩
end Go.Proofs.Tryd.Vr
