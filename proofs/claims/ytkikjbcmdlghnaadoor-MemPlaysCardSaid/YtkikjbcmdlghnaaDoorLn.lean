/- The document's memory: Put, In. -/
import Derived.Test.YtkikjbcmdlghnaaDoorLm
import Derived.Test.YtkikjbcmdlghnaaDoorLa
import Derived.Test.YtkikjbcmdlghnaaDoorCopA
import Derived.Deep.RegionHeld3
set_option linter.unusedVariables false
set_option linter.unusedSimpArgs false
set_option maxRecDepth 100000
namespace Go.Proofs.Tryd.Skm
open Go.RowKit Go.Cph Go.Cph.Skip Go.Cph.Skm Go.Cph.Ok Go.Proofs.Tryd.Ok
theorem ents_cells {w : World} {v : Value} {l : List Et} (h : EntsAt w v l) (h0 : 0 < l.length) :
    ∃ b off cap, v = .slice (some ⟨b, off, none⟩) l.length cap ∧ ∀ i (hi : i < l.length), CellsE w b (off + i * 4) l[i] := by
  obtain ⟨b, off, cap, hv, hc⟩ := elems_shape encE_len h h0
  exact ⟨b, off, cap, hv, fun i hi => ⟨hc i hi 0 (by omega), hc i hi 1 (by omega), hc i hi 2 (by omega), hc i hi 3 (by omega)⟩⟩
theorem CellsE.kept {w w' : World} {b o : Nat} {p : Et} (h : CellsE w b o p) (hb : Below w.heap.size w w') : CellsE w' b o p := ⟨Go.Cph.cell_kept hb h.c0, Go.Cph.cell_kept hb h.c1, Go.Cph.cell_kept hb h.c2, Go.Cph.cell_kept hb h.c3⟩
theorem encE_ones {l : List Et} : ∀ u ∈ l.flatMap encE, u.oneCell' = true := by
  intro u hu
  rw [List.mem_flatMap] at hu
  obtain ⟨p, _, hu⟩ := hu
  exact encE_one p u hu
theorem grown_far {W W' : World} {b c : Nat} {o1 o2 : Obj} (hg : W.grownBy W' (some b)) (hb : W.heap[b]? = some o1) (hc : W.heap[c]? = some o2) (hne : o1 ≠ o2) : W'.heap[c]? = some o2 := by
  rw [hg.block c (blk_lt hc) (fun e => ?_)]
  · exact hc
  · injection e with e
    subst e
    rw [hb] at hc
    injection hc with hc
    exact hne hc
theorem heap_new1 (w : World) (o1 o2 : Obj) : ((w.alloc o1).alloc o2).heap[w.heap.size + 1]? = some o2 := by
  have := heap_alloc_new (w.alloc o1) o2
  rwa [World.size_alloc] at this
theorem appE1 {ops : Array Oper} {o : Oper} {a : Act} {W W0 : World} {K : Act → World → Prop} {Q : Exit → Act → World → Prop} {E : Prop} {v : Value} {l : List Et}
    (hg : o.guard = none) (d x : Operand) (hop : o.op = Op.call { callee := Callee.builtin Builtin.append, args := #[d, x], argTypes := #[TSl, TSl] }) {b : Nat}
    (hd : a.eval d = .slice (some ⟨b, 0, none⟩) 0 0) (hx : a.eval x = v) (hb : W.heap[b]? = some (.cells #[] TE (0, 0))) (hge : W0.heap.size ≤ b) (HB : Below W0.heap.size W0 W) (HS : EntsAt W0 v l) (hn : l.length ≤ 1000000)
    (hK : ∀ v' W', W'.ownsRow W0.heap.size TE 4 v' l.length (l.flatMap encE) → Below W0.heap.size W0 W' → W.grownBy W' (some b) → K (a.put o.dst v') W') :
    if Region.wanted o (yielded ops a.tmps) = true then Oper.wp Tryd.prog o a W K Q else E := by
  have hown := owns_empty hb hge 4
  obtain ⟨v', W', hr, ho, hgr, -⟩ := run_append_seg (P := Tryd.prog) W TSl o.type TE _ 4 48 Tryd.underlying40 infoE rfl (by decide) hown (HS.kept HB) encE_ones (by omega) (by decide) HB.size
  refine step_append hg d x TSl TSl hop _ _ hd hx hr (hK v' W' (by simpa using ho) (below_grown HB hgr hown (Nat.le_refl _) HB.size) hgr)
theorem appE2 {ops : Array Oper} {o : Oper} {a : Act} {W W0 : World} {K : Act → World → Prop} {Q : Exit → Act → World → Prop} {E : Prop} {v : Value} {l : List Et} {e : Et}
    (hg : o.guard = none) (d x : Operand) (hop : o.op = Op.call { callee := Callee.builtin Builtin.append, args := #[d, x], argTypes := #[TSl, TSl] }) {b : Nat}
    (hd : a.eval d = v) (hx : a.eval x = .slice (some ⟨b, 0, none⟩) 1 1) (hb : W.heap[b]? = some (boxE e)) (HR : W.ownsRow W0.heap.size TE 4 v l.length (l.flatMap encE)) (HB : Below W0.heap.size W0 W) (hn : l.length ≤ 1000000)
    (hK : ∀ v' W', W'.ownsRow W0.heap.size TE 4 v' (l ++ [e]).length ((l ++ [e]).flatMap encE) → Below W0.heap.size W0 W' → K (a.put o.dst v') W') :
    if Region.wanted o (yielded ops a.tmps) = true then Oper.wp Tryd.prog o a W K Q else E := by
  have hc := boxE_cells hb
  have hs : Seg W 4 (.slice (some ⟨b, 0, none⟩) 1 1) 1 (encE e) := ⟨⟨_, _, rfl, fun _ => ⟨b, 0, rfl, fun j hj => by
    rw [Nat.zero_add]
    rcases (show j = 0 ∨ j = 1 ∨ j = 2 ∨ j = 3 by omega) with rfl | rfl | rfl | rfl
    · exact hc.c0
    · exact hc.c1
    · exact hc.c2
    · exact hc.c3⟩⟩, rfl⟩
  obtain ⟨v', W', hr, ho', hgr, -⟩ := run_append_seg (P := Tryd.prog) W TSl o.type TE _ 4 48 Tryd.underlying40 infoE rfl (by decide) HR hs (encE_one e) (by omega) (by decide) HB.size
  refine step_append hg d x TSl TSl hop _ _ hd hx hr (hK v' W' ?_ (below_grown HB hgr HR (Nat.le_refl _) HB.size))
  rw [List.length_append, List.flatMap_append]
  show W'.ownsRow _ TE 4 v' (l.length + 1) (l.flatMap encE ++ [e].flatMap encE)
  rw [List.flatMap_singleton]
  exact ho'
theorem ne_empE {e : Et} : Obj.cells #[] TE (0, 0) ≠ boxE e := fun h => by
  injection h with h _ _
  have := congrArg Array.size h
  simp at this
def RPutPost (v : Value) (l : List Et) (e : Et) (w : World) (r : Ending) (w' : World) : Prop := ∃ v', r = .returned (.tuple #[v', .int .i64 (putR l e)]) ∧ EntsAt w' v' (putE l e) ∧ (v' = v ∨ ∀ k, v'.ownBlock = some k → w.heap.size ≤ k) ∧ Below w.heap.size w w'
theorem putR_bad {l : List Et} {e : Et} (h : (e.2.2.2 && !(decide (e.2.1.size = 0))) = true) : putR l e = 1 ∧ putE l e = l := by
  have : putR l e = 1 := by unfold putR; rw [if_pos h]
  exact ⟨this, by unfold putE; rw [this]; rfl⟩
theorem putR_there {l : List Et} {e : Et} (h : (e.2.2.2 && !(decide (e.2.1.size = 0))) = false) {i : Nat} (hi : i < l.length) (hk : l[i].1 = e.1) (hs : l[i].2.2.1 = e.2.2.1) : putR l e = 5 ∧ putE l e = l := by
  have : putR l e = 5 := by
    unfold putR
    rw [if_neg (by rw [h]; simp), if_pos]
    rw [List.any_eq_true]
    exact ⟨_, List.getElem_mem hi, by simp [hk, hs]⟩
  exact ⟨this, by unfold putE; rw [this]; rfl⟩
theorem putR_new {l : List Et} {e : Et} (h : (e.2.2.2 && !(decide (e.2.1.size = 0))) = false) (hn : ∀ j (h : j < l.length), ¬ (l[j].1 = e.1 ∧ l[j].2.2.1 = e.2.2.1)) : putR l e = 0 ∧ putE l e = l ++ [e] := by
  have h1 := putE_of h (es := l) fun y hy => by obtain ⟨j, hj, rfl⟩ := List.getElem_of_mem hy; exact hn j hj
  refine ⟨?_, h1⟩
  unfold putE at h1
  by_cases h2 : putR l e = 0
  · exact h2
  · rw [if_neg h2] at h1
    have := congrArg List.length h1
    simp at this
set_option maxHeartbeats 6400000 in
theorem rPut (v : Value) (l : List Et) (e : Et) (w : World) (h : EntsAt w v l) (hn : l.length ≤ 1000000) :
    Calls Tryd.prog 14 #[v, encV e] w (RPutPost v l e w) := by
  obtain ⟨ao, cap, rfl⟩ := elems_slice h
  have HB := Lib.hid (show Below w.heap.size w (w.alloc (boxE e)) from (Below.refl _ _).alloc (Nat.le_refl _) _)
  have HG := Lib.hid (heap_alloc_new w (boxE e))
  have H := Lib.hid (h.kept HB.out)
  have HN := Lib.hid hn
  clear h hn
  by_cases hbad : (e.2.2.2 && !(decide (e.2.1.size = 0))) = true
  · have HR := Lib.hid (putR_bad (l := l) hbad)
    rw [Bool.and_eq_true, Bool.not_eq_true', decide_eq_false_iff_not] at hbad
    have hg := hbad.1
    have hs : (0 : Int) < (e.2.1.size : Int) := by omega
    have e1 := (boxE_cells HG.out).c1
    have e3 := (boxE_cells HG.out).c3
    rw [hg] at e3
    clear hbad hg
    go_enter Tryd.func14, Tryd.ntmps14
    go_wp2_with fail
    go_ret2
    rw [RPutPost, HR.out.1, HR.out.2]
    exact ⟨_, rfl, H.out, .inl rfl, HB.out⟩
  · rw [Bool.not_eq_true] at hbad
    have HNB := Lib.hid hbad
    have e1 := (boxE_cells HG.out).c1
    have e3 := (boxE_cells HG.out).c3
    have hgs : e.2.2.2 = true → ¬ (0 : Int) < (e.2.1.size : Int) := fun hg => by
      rw [hg, Bool.true_and, Bool.not_eq_false', decide_eq_true_eq] at hbad
      omega
    clear hbad
    by_cases hg : e.2.2.2 = true
    all_goals
      first
        | (have hs := hgs hg
           have hsd : decide ((0 : Int) < (e.2.1.size : Int)) = false := decide_eq_false hs
           rw [hg] at e3)
        | (rw [Bool.not_eq_true] at hg
           rw [hg] at e3)
      clear hgs hg
      go_enter Tryd.func14, Tryd.ntmps14
      go_wp2_with fail
      clear e1 e3
      go_loopw [6] (fun vi W => ∃ i : Nat, i ≤ l.length ∧ vi = .int .i64 i ∧ (∀ j (h : j < l.length), j < i → ¬ (l[j].1 = e.1 ∧ l[j].2.2.1 = e.2.2.1)) ∧ Below (w.alloc (boxE e)).heap.size (w.alloc (boxE e)) W) (fun vi _ => l.length - (intOf vi).toNat)
      case atStart => exact ⟨0, Nat.zero_le _, rfl, fun j h hj => by omega, Below.refl _ _⟩
      case round =>
        obtain ⟨i, hi, rfl, hall, hbel⟩ := hrel
        have HALL := Lib.hid hall
        have HBE := Lib.hid hbel
        have hgr := blk_kept hbel HG.out
        have f0 := (boxE_cells hgr).c0
        have f2 := (boxE_cells hgr).c2
        have HGR := Lib.hid hgr
        by_cases hlt : i < l.length
        · obtain ⟨b, off, cap', hve, hcs⟩ := ents_cells (H.out.kept hbel) (by omega)
          injection hve with hx1 hx2 hx3
          subst hx1
          obtain ⟨y, hy⟩ : ∃ y, y = l[i]'hlt := ⟨_, rfl⟩
          have hcy := hcs i hlt
          rw [← hy] at hcy
          have HY := Lib.hid hy
          have d0 := hcy.c0
          have d2 := hcy.c2
          have q1 : (0 : Int) ≤ (i : Int) := by omega
          have q2 : (i : Int) < (l.length : Int) := by omega
          have q4 : IntKind.i64.wrap ((i : Int) + 1) = (i : Int) + 1 := by rw [IntKind.wrap_i64]; have := HN.out; omega
          clear hx2 hx3 hcs hcy hy hall hbel hgr
          by_cases hkey : y.1 = e.1
          · have j1 : (y.1.toList == e.1.toList) = true := by rw [beq_toList]; simpa using hkey
            by_cases hseq : y.2.2.1 = e.2.2.1
            · have j2 : ((y.2.2.1.toNat : Int) == (e.2.2.1.toNat : Int)) = true := by rw [hseq]; simp
              have j3 : (y.2.2.1.toNat == e.2.2.1.toNat) = true := by rw [hseq]; simp
              have HR := Lib.hid (putR_there HNB.out hlt (by rw [← HY.out]; exact hkey) (by rw [← HY.out]; exact hseq))
              clear hkey hseq
              go_wp2_with fail
              go_quiet (fail)
              clear d0 d2 f0 f2
              have HB2 := Lib.hid (below_step HBE.out (show Below wr.heap.size wr (wr.drewN nq) from ⟨rfl, rfl, rfl, Nat.le_refl _, fun _ _ => rfl⟩) HBE.out.size)
              generalize wr.drewN nq = wq at *
              go_wp2_with fail
              go_ret2
              rw [RPutPost, HR.out.1, HR.out.2]
              exact ⟨_, rfl, H.out.kept HB2.out, .inl rfl, below_step HB.out HB2.out HB.out.size⟩
            · have hne : y.2.2.1.toNat ≠ e.2.2.1.toNat := fun e' => hseq (UInt64.toNat_inj.1 e')
              have j2 : ((y.2.2.1.toNat : Int) == (e.2.2.1.toNat : Int)) = false := by rw [beq_eq_false_iff_ne]; omega
              have j3 : (y.2.2.1.toNat == e.2.2.1.toNat) = false := by rw [beq_eq_false_iff_ne]; exact hne
              have HS := Lib.hid hseq
              clear hkey hseq hne
              go_wp2_with fail
              go_quiet (fail)
              clear d0 d2 f0 f2
              have HB2 := Lib.hid (below_step HBE.out (show Below wr.heap.size wr (wr.drewN nq) from ⟨rfl, rfl, rfl, Nat.le_refl _, fun _ _ => rfl⟩) HBE.out.size)
              generalize wr.drewN nq = wq at *
              go_wp2_with fail
              go_roundw
              case rel =>
                refine ⟨i + 1, hlt, by go_num, fun j h hj => ?_, HB2.out⟩
                by_cases e' : j = i
                · subst e'; rw [← HY.out]; exact fun c => HS.out c.2
                · exact HALL.out j h (by omega)
              case measure => simp [intOf]; omega
          · have j1 : (y.1.toList == e.1.toList) = false := by rw [beq_toList]; simpa using hkey
            have HS := Lib.hid hkey
            clear hkey
            go_wp2_with fail
            go_quiet (fail)
            clear d0 d2 f0 f2
            have HB2 := Lib.hid (below_step HBE.out (show Below wr.heap.size wr (wr.drewN nq) from ⟨rfl, rfl, rfl, Nat.le_refl _, fun _ _ => rfl⟩) HBE.out.size)
            generalize wr.drewN nq = wq at *
            go_wp2_with fail
            go_roundw
            case rel =>
              refine ⟨i + 1, hlt, by go_num, fun j h hj => ?_, HB2.out⟩
              by_cases e' : j = i
              · subst e'; rw [← HY.out]; exact fun c => HS.out c.1
              · exact HALL.out j h (by omega)
            case measure => simp [intOf]; omega
        · have hq : ¬ (i : Int) < (l.length : Int) := by omega
          have HR := Lib.hid (putR_new HNB.out fun j h => hall j h (by omega))
          have HSL := Lib.hid (H.out.kept hbel)
          have HD := Lib.hid (show Below wr.heap.size wr wr from Below.refl _ _)
          have HCC := Lib.hid (show ∀ W, Below wr.heap.size wr W → CellsE W w.heap.size 0 e from fun W hW => boxE_cells (blk_kept hW HGR.out))
          have f1 := (boxE_cells hgr).c1
          have f3 := (boxE_cells hgr).c3
          clear hall hbel hgr hlt
          go_wp2_with fail
          have HCS := Lib.hid (show ∀ W, Below wr.heap.size wr W → W.cell? ⟨w.heap.size, 0, none⟩ = some (.string e.1) ∧ W.cell? ⟨w.heap.size, 1, none⟩ = some (.string e.2.1) ∧ W.cell? ⟨w.heap.size, 2, none⟩ = some (.int .u64 (e.2.2.1.toNat : Int)) ∧ W.cell? ⟨w.heap.size, 3, none⟩ = some (.bool e.2.2.2) from fun W hW => ⟨(HCC.out W hW).c0, (HCC.out W hW).c1, (HCC.out W hW).c2, (HCC.out W hW).c3⟩)
          go_region_held3 (fun W => W.cell? ⟨w.heap.size, 0, none⟩ = some (.string e.1) ∧ W.cell? ⟨w.heap.size, 1, none⟩ = some (.string e.2.1) ∧ W.cell? ⟨w.heap.size, 2, none⟩ = some (.int .u64 (e.2.2.1.toNat : Int)) ∧ W.cell? ⟨w.heap.size, 3, none⟩ = some (.bool e.2.2.2))
            (((refine HCS.out _ ?_); (repeat (first | exact HB2x.out | exact HB1x.out | exact HD.out | refine bel_drew ?_ | refine bel_alloc ?_ _)); done))
            (first
              | ((refine appE1 (W0 := wr) (l := l) rfl (.tmp 41) (.tmp 42) rfl (by rfl) (by rfl) (by first | exact heap_alloc_new _ _ | exact blk_alloc (heap_alloc_new _ _) _ | exact heap_new1 _ _ _) (by first | exact Nat.le_refl _ | omega) (by ((repeat (first | exact HB2x.out | exact HB1x.out | exact HD.out | refine bel_drew ?_ | refine bel_alloc ?_ _)); done)) HSL.out HN.out ?_); intro v1 u1 ho1 hb1 hg1; have HO1 := Lib.hid ho1; have HB1x := Lib.hid hb1; (first | (have K1 : Hid (u1.heap[wr.heap.size]? = some (boxE e)) := Lib.hid (grown_far hg1 (heap_new1 _ _ _) (blk_alloc (heap_alloc_new _ _) _) ne_empE)) | (have K1 : Hid (u1.heap[wr.heap.size + 1]? = some (boxE e)) := Lib.hid (grown_far hg1 (blk_alloc (heap_alloc_new _ _) _) (heap_new1 _ _ _) ne_empE)) | skip); clear ho1 hb1 hg1)
              | ((refine appE2 (W0 := wr) (l := l) (e := e) rfl (.tmp 43) (.tmp 45) rfl (by rfl) (by rfl) (by first | exact K1.out | exact heap_alloc_new _ _) (by first | exact HO1.out | exact HO1.out.alloc _ | exact HO1.out.drew | exact (HO1.out.alloc _).drew) (by ((repeat (first | exact HB2x.out | exact HB1x.out | exact HD.out | refine bel_drew ?_ | refine bel_alloc ?_ _)); done)) HN.out ?_); intro v2 u2 ho2 hb2; have HO2 := Lib.hid ho2; have HB2x := Lib.hid hb2; clear ho2 hb2))
          all_goals
            go_wp2_with fail
            go_ret2
            rw [RPutPost, HR.out.1, HR.out.2]
            exact ⟨_, rfl, Seg.of_owns HO2.out, .inr fun k hk => Nat.le_trans (below_step HB.out HBE.out HB.out.size).size (HO2.out.lt k hk).1, below_step (below_step HB.out HBE.out HB.out.size) HB2x.out (below_step HB.out HBE.out HB.out.size).size⟩
end Go.Proofs.Tryd.Skm
