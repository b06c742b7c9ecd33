/- Is a version the document's? -/
import Derived.Test.YtkeaalacepjadaaDoorVu5
import Derived.Test.YtkeaalacepjadaaDoorVD
import Derived.Deep.RegionHeld3
set_option linter.unusedVariables false
set_option linter.unusedSimpArgs false
set_option maxRecDepth 100000
namespace Go.Proofs.Tryd.Vr
open Go.RowKit Go.Cph Go.Cph.Skip Go.Cph.So Go.Cph.Ve

def Alike (v : Vn) (A : Nat → List Tb) (d : Dn) (L : List Tb) : Prop := (∀ k, k < 4 → A k = levelD L k) ∧ v.log = d.log ∧ v.seq = d.seq ∧ v.nxt = d.nxt
def AlikePost (v : Vn) (A : Nat → List Tb) (d : Dn) (L : List Tb) (w : World) (e : Ending) (w' : World) : Prop := ∃ b, e = .returned (.bool b) ∧ (b = true ↔ Alike v A d L) ∧ Below w.heap.size w w'
theorem alike_tabs {v : Vn} {A : Nat → List Tb} {d : Dn} {L : List Tb} (h : ∀ k, k < 4 → A k = levelD L k) : tabs A = tabs (levelD L) := by
  rw [tabs_eq, tabs_eq, h 0 (by omega), h 1 (by omega), h 2 (by omega), h 3 (by omega)]
theorem u64_b (x y : UInt64) : ((x.toNat : Int) == (y.toNat : Int)) = decide (x = y) := by
  rw [Bool.eq_iff_iff, beq_iff_eq, decide_eq_true_eq]
  exact ⟨fun h => UInt64.toNat_inj.1 (by omega), fun h => by rw [h]⟩

set_option maxHeartbeats 16000000 in
theorem alike_any (v : Vn) (A : Nat → List Tb) (d : Dn) (L : List Tb) (w : World) (h : VerAt w v A) (hd : TbsAt w d.l L) (hn : (tabs A).length ≤ 1000000) (hl : L.length ≤ 1000000) (hs : SmallL L) :
    Calls Tryd.prog 19 #[encV v, encD d] w (AlikePost v A d L w) := by
  have hb2 := bel2 (w := w) (boxV v) (boxD d)
  have HB0 := Lib.hid hb2
  have HX0 := Lib.hid (show ((w.alloc (boxV v)).alloc (boxD d)).heap[w.heap.size]? = some (boxV v) from blk_alloc (heap_alloc_new _ _) _)
  have HY0 := Lib.hid (alloc2_new w (boxV v) (boxD d))
  have HV := Lib.hid h
  have HD := Lib.hid hd
  have HN := Lib.hid hn
  have HL := Lib.hid hl
  have HS := Lib.hid hs
  have hlen : ∀ k, k < 4 → (A k).length ≤ 1000000 := fun k hk => by
    rw [tabs_eq] at hn
    simp only [List.length_append] at hn
    rcases (show k = 0 ∨ k = 1 ∨ k = 2 ∨ k = 3 by omega) with rfl | rfl | rfl | rfl <;> omega
  have HLEN := Lib.hid hlen
  clear h hd hn hl hs hb2 hlen
  go_enter Tryd.func19, Tryd.ntmps19
  go_wp2_with fail
  go_loopw [5] (fun vi W => ∃ i : Nat, i ≤ 4 ∧ vi = .int .i64 (i : Int) ∧ Hid (∀ k, k < i → A k = levelD L k) ∧ Hid (W.heap[w.heap.size]? = some (boxV v)) ∧ Hid (W.heap[w.heap.size + 1]? = some (boxD d)) ∧ Hid (Below w.heap.size w W)) (fun vi _ => 4 - (intOf vi).toNat)
  case atStart => exact ⟨0, by omega, rfl, Lib.hid (fun k hk => absurd hk (Nat.not_lt_zero _)), HX0, HY0, HB0⟩
  case round =>
    obtain ⟨i, hi, rfl, HA, HX, HY, HB⟩ := hrel
    clear HX0 HY0 HB0
    have d0 : wr.cell? ⟨w.heap.size + 1, 0, none⟩ = some (d.l) := (blk_cell HY.out 0).trans rfl
    have d1 : wr.cell? ⟨w.heap.size + 1, 1, none⟩ = some (.int .u64 (d.log.toNat : Int)) := (blk_cell HY.out 1).trans rfl
    have d2 : wr.cell? ⟨w.heap.size + 1, 2, none⟩ = some (.int .u64 (d.seq.toNat : Int)) := (blk_cell HY.out 2).trans rfl
    have d3 : wr.cell? ⟨w.heap.size + 1, 3, none⟩ = some (.int .u64 (d.nxt.toNat : Int)) := (blk_cell HY.out 3).trans rfl
    have HCL := Lib.hid (show ∀ W, Below wr.heap.size wr W → W.cell? ⟨w.heap.size, 0, none⟩ = some (v.s0) ∧ W.cell? ⟨w.heap.size, 1, none⟩ = some (v.s1) ∧ W.cell? ⟨w.heap.size, 2, none⟩ = some (v.s2) ∧ W.cell? ⟨w.heap.size, 3, none⟩ = some (v.s3) ∧ W.cell? ⟨w.heap.size, 4, none⟩ = some (.int .u64 (v.log.toNat : Int)) ∧ W.cell? ⟨w.heap.size, 5, none⟩ = some (.int .u64 (v.seq.toNat : Int)) ∧ W.cell? ⟨w.heap.size, 6, none⟩ = some (.int .u64 (v.nxt.toNat : Int)) ∧ W.cell? ⟨w.heap.size + 1, 0, none⟩ = some (d.l) ∧ W.cell? ⟨w.heap.size + 1, 1, none⟩ = some (.int .u64 (d.log.toNat : Int)) ∧ W.cell? ⟨w.heap.size + 1, 2, none⟩ = some (.int .u64 (d.seq.toNat : Int)) ∧ W.cell? ⟨w.heap.size + 1, 3, none⟩ = some (.int .u64 (d.nxt.toNat : Int)) from fun W hb => ⟨(blk_cell (blk_kept hb HX.out) 0).trans rfl, (blk_cell (blk_kept hb HX.out) 1).trans rfl, (blk_cell (blk_kept hb HX.out) 2).trans rfl, (blk_cell (blk_kept hb HX.out) 3).trans rfl, (blk_cell (blk_kept hb HX.out) 4).trans rfl, (blk_cell (blk_kept hb HX.out) 5).trans rfl, (blk_cell (blk_kept hb HX.out) 6).trans rfl, (blk_cell (blk_kept hb HY.out) 0).trans rfl, (blk_cell (blk_kept hb HY.out) 1).trans rfl, (blk_cell (blk_kept hb HY.out) 2).trans rfl, (blk_cell (blk_kept hb HY.out) 3).trans rfl⟩)
    by_cases hlt : i < 4
    · have j1 : (i : Int) < 4 := by omega
      have j0 : (0 : Int) ≤ (i : Int) := by omega
      have j4 : IntKind.i64.wrap ((i : Int) + 1) = (i : Int) + 1 := by rw [IntKind.wrap_i64]; omega
      have HI := Lib.hid hlt
      obtain ⟨x, hx⟩ : ∃ x, x = v.lev i := ⟨_, rfl⟩
      have hXA : TbsAt wr x (A i) := by rw [hx]; exact (HV.out.at hlt).kept HB.out
      have HXA := Lib.hid hXA
      have c1 : wr.cell? ⟨w.heap.size, i, none⟩ = some x := by rw [hx]; exact boxV_lev HX.out hlt
      have HC1 := Lib.hid (show ∀ W, Below wr.heap.size wr W → W.cell? ⟨w.heap.size, i, none⟩ = some x from fun W hb => cell_kept hb c1)
      have hlv := level14_any d L (i : Int) wr.drew ((HD.out.kept HB.out).kept (Below.refl _ _).drew) HL.out HS.out
      rw [levelZ_D] at hlv
      have HLV := Lib.hid hlv
      have hLL := levelD_le L i
      have HLL := Lib.hid (show (levelD L i).length ≤ 1000000 from by have := HL.out; omega)
      obtain ⟨c, hc⟩ : ∃ c, c = decide (A i = levelD L i) := ⟨_, rfl⟩
      have HCC := Lib.hid hc
      clear hx hXA hlv hLL hc
      go_upto_region 4 with fail
      go_cut [18] (fun v18 W => v18 = .bool (!c) ∧ Hid (Below wr.heap.size wr W))
      case first =>
        go_region_held3 (fun W => W.cell? ⟨w.heap.size, i, none⟩ = some x ∧ W.cell? ⟨w.heap.size + 1, 0, none⟩ = some (d.l) ∧ W.cell? ⟨w.heap.size + 1, 1, none⟩ = some (.int .u64 (d.log.toNat : Int)) ∧ W.cell? ⟨w.heap.size + 1, 2, none⟩ = some (.int .u64 (d.seq.toNat : Int)) ∧ W.cell? ⟨w.heap.size + 1, 3, none⟩ = some (.int .u64 (d.nxt.toNat : Int)))
          (go_keep)
          (first
            | (go_at_call 33; refine HLV.out.mono ?_; rintro e w3 ⟨x3, rfl, ho3, hb3⟩; have HT3 := Lib.hid (Seg.of_owns ho3); have HB3 := Lib.hid (below_step (Below.refl wr.heap.size wr).drew hb3 (Nat.le_refl _)); have q0 := HC1.out w3 HB3.out; obtain ⟨-, -, -, -, -, -, -, q1, q2, q3, q4⟩ := HCL.out w3 HB3.out; clear ho3 hb3)
            | (go_at_call 14; refine (same_any _ _ _ _ _ (HXA.out.kept HB3.out) HT3.out (by have := HLEN.out i HI.out; omega) (by have := HLL.out; omega)).mono ?_; rintro e w4 ⟨rfl, hb4⟩; rw [← HCC.out]; have HB4 := Lib.hid (below_step HB3.out hb4 HB3.out.size); have p0 := HC1.out w4 HB4.out; obtain ⟨-, -, -, -, -, -, -, p1, p2, p3, p4⟩ := HCL.out w4 HB4.out; clear hb4))
        all_goals go_wp2_with fail
        all_goals go_meet
        all_goals exact ⟨by first | rfl | trivial, HB4⟩
      case rest =>
        rename World => w5
        obtain ⟨rfl, HB5⟩ := hcut
        have HB6 := Lib.hid (below_step HB.out HB5.out HB.out.size)
        cases c
        · have HNO := Lib.hid (show ¬ Alike v A d L from fun h => by
            have := h.1 i HI.out
            have h2 := HCC.out
            rw [decide_eq_true this] at h2
            cases h2)
          go_wp2_with fail
          go_ret
          exact ⟨false, rfl, ⟨fun h => (Bool.false_ne_true h).elim, fun h => absurd h HNO.out⟩, HB6.out⟩
        · have HA2 := Lib.hid (show ∀ k, k < i + 1 → A k = levelD L k from fun k hk => by
            rcases Nat.lt_or_eq_of_le (show k ≤ i by omega) with h | h
            · exact HA.out k h
            · subst h
              have := HCC.out
              exact of_decide_eq_true this.symm)
          have HX2 := Lib.hid (blk_kept HB5.out HX.out)
          have HY2 := Lib.hid (blk_kept HB5.out HY.out)
          go_wp2_with fail
          go_roundw
          case rel => exact ⟨i + 1, by omega, by first | rfl | (congr 1), HA2, HX2, HY2, HB6⟩
          case measure => simp [intOf]; omega
    · have hi4 : i = 4 := by omega
      subst hi4
      have j1 : ¬ (4 : Int) < 4 := by omega
      obtain ⟨c0, c1, c2, c3, c4, c5, c6, e0, e1, e2, e3⟩ := HCL.out wr (Below.refl _ _)
      have u1 := u64_b v.log d.log
      have u2 := u64_b v.seq d.seq
      have u3 := u64_b v.nxt d.nxt
      have HLD := Lib.hid (show ∀ k, k < 4 → A k = levelD L k from HA.out)
      clear d0 d1 d2 d3
      by_cases p1 : v.log = d.log
      · rw [decide_eq_true p1] at u1
        by_cases p2 : v.seq = d.seq
        · rw [decide_eq_true p2] at u2
          by_cases p3 : v.nxt = d.nxt
          · rw [decide_eq_true p3] at u3
            have HYES := Lib.hid (show Alike v A d L from ⟨HLD.out, p1, p2, p3⟩)
            clear p1 p2 p3
            have HTV := Lib.hid (show ∀ W, Below wr.heap.size wr W → Calls Tryd.prog 25 #[encV v] W (fun e w' => ∃ v', e = .returned v' ∧ TbsAt w' v' (tabs A) ∧ Below W.heap.size W w') from fun W hb => tables_any v A W ((HV.out.kept HB.out).kept hb) HN.out)
            have HTD0 := Lib.hid (show ∀ W, Below wr.heap.size wr W → Calls Tryd.prog 36 #[encD d] W (NewRow W (tabs (levelD L))) from fun W hb => dtables_any d L W ((HD.out.kept HB.out).kept hb) HL.out HS.out)
            have HLT := Lib.hid (show (tabs (levelD L)).length ≤ 10000000 from by have := tabsTo_le L 4; rw [tabsTo_four] at this; have := HL.out; omega)
            have HEQ := Lib.hid (show decide (tabs A = tabs (levelD L)) = true from decide_eq_true (alike_tabs (v := v) (d := d) HLD.out))
            go_upto_region 6 with fail
            go_region_held3 (fun W => W.cell? ⟨w.heap.size, 0, none⟩ = some (v.s0) ∧ W.cell? ⟨w.heap.size, 1, none⟩ = some (v.s1) ∧ W.cell? ⟨w.heap.size, 2, none⟩ = some (v.s2) ∧ W.cell? ⟨w.heap.size, 3, none⟩ = some (v.s3) ∧ W.cell? ⟨w.heap.size, 4, none⟩ = some (.int .u64 (v.log.toNat : Int)) ∧ W.cell? ⟨w.heap.size, 5, none⟩ = some (.int .u64 (v.seq.toNat : Int)) ∧ W.cell? ⟨w.heap.size, 6, none⟩ = some (.int .u64 (v.nxt.toNat : Int)) ∧ W.cell? ⟨w.heap.size + 1, 0, none⟩ = some (d.l) ∧ W.cell? ⟨w.heap.size + 1, 1, none⟩ = some (.int .u64 (d.log.toNat : Int)) ∧ W.cell? ⟨w.heap.size + 1, 2, none⟩ = some (.int .u64 (d.seq.toNat : Int)) ∧ W.cell? ⟨w.heap.size + 1, 3, none⟩ = some (.int .u64 (d.nxt.toNat : Int)))
              (go_keep)
              (first
                | (go_at_call 25; refine (HTV.out _ (by first | exact (Below.refl _ _).drew | exact HBA.out | exact HBD.out)).mono ?_; rintro e wa ⟨xa, rfl, hta, hba⟩; have HTA := Lib.hid hta; have HBA := Lib.hid (below_step (show Below wr.heap.size wr _ from (by first | exact (Below.refl _ _).drew | exact HBA.out | exact HBD.out)) hba (show Below wr.heap.size wr _ from (by first | exact (Below.refl _ _).drew | exact HBA.out | exact HBD.out)).size); (try have HTDk := Lib.hid (HTD.out.kept hba)); obtain ⟨q0, q1, q2, q3, q4, q5, q6, q7, q8, q9, q10⟩ := HCL.out wa HBA.out; clear hta hba)
                | (go_at_call 36; refine (HTD0.out _ (by first | exact (Below.refl _ _).drew | exact HBA.out | exact HBD.out)).mono ?_; rintro e wd ⟨xd, rfl, htd, hbd⟩; have HTD := Lib.hid (Seg.of_owns htd); have HBD := Lib.hid (below_step (show Below wr.heap.size wr _ from (by first | exact (Below.refl _ _).drew | exact HBA.out | exact HBD.out)) hbd (show Below wr.heap.size wr _ from (by first | exact (Below.refl _ _).drew | exact HBA.out | exact HBD.out)).size); (try have HTAk := Lib.hid (HTA.out.kept hbd)); obtain ⟨p0, p1, p2, p3, p4, p5, p6, p7, p8, p9, p10⟩ := HCL.out wd HBD.out; clear htd hbd)
                | (go_at_call 14; refine (same_any _ _ (tabs A) (tabs (levelD L)) _ (by first | exact HTAk.out | exact HTA.out) (by first | exact HTDk.out | exact HTD.out) (by have := HN.out; omega) HLT.out).mono ?_; rintro e we ⟨rfl, hbe⟩; rw [HEQ.out]; have HBE := Lib.hid (below_step (show Below wr.heap.size wr _ from (by first | exact HBD.out | exact HBA.out)) hbe (show Below wr.heap.size wr _ from (by first | exact HBD.out | exact HBA.out)).size); obtain ⟨r0, r1, r2, r3, r4, r5, r6, r7, r8, r9, r10⟩ := HCL.out we HBE.out; clear hbe))
            all_goals go_wp2_with fail
            all_goals go_ret
            all_goals exact ⟨true, by first | rfl | trivial, ⟨fun _ => HYES.out, fun _ => rfl⟩, below_step HB.out HBE.out HB.out.size⟩
          · rw [decide_eq_false p3] at u3
            have HNO := Lib.hid (show ¬ Alike v A d L from fun h => p3 h.2.2.2)
            clear p1 p2 p3
            go_wp2_with fail
            go_quiet (fail)
            have HB7 := Lib.hid (below_step HB.out (show Below wr.heap.size wr (wr.drewN nq) from ⟨rfl, rfl, rfl, Nat.le_refl _, fun _ _ => rfl⟩) HB.out.size)
            generalize wr.drewN nq = w7 at *
            go_wp2_with fail
            go_ret
            exact ⟨false, rfl, ⟨fun h => (Bool.false_ne_true h).elim, fun h => absurd h HNO.out⟩, HB7.out⟩
        · rw [decide_eq_false p2] at u2
          have HNO := Lib.hid (show ¬ Alike v A d L from fun h => p2 h.2.2.1)
          clear p1 p2 u3
          go_wp2_with fail
          go_quiet (fail)
          have HB7 := Lib.hid (below_step HB.out (show Below wr.heap.size wr (wr.drewN nq) from ⟨rfl, rfl, rfl, Nat.le_refl _, fun _ _ => rfl⟩) HB.out.size)
          generalize wr.drewN nq = w7 at *
          go_wp2_with fail
          go_ret
          exact ⟨false, rfl, ⟨fun h => (Bool.false_ne_true h).elim, fun h => absurd h HNO.out⟩, HB7.out⟩
      · rw [decide_eq_false p1] at u1
        have HNO := Lib.hid (show ¬ Alike v A d L from fun h => p1 h.2.1)
        clear p1 u2 u3
        go_wp2_with fail
        go_quiet (fail)
        have HB7 := Lib.hid (below_step HB.out (show Below wr.heap.size wr (wr.drewN nq) from ⟨rfl, rfl, rfl, Nat.le_refl _, fun _ _ => rfl⟩) HB.out.size)
        generalize wr.drewN nq = w7 at *
        go_wp2_with fail
        go_ret
        exact ⟨false, rfl, ⟨fun h => (Bool.false_ne_true h).elim, fun h => absurd h HNO.out⟩, HB7.out⟩
end Go.Proofs.Tryd.Vr
