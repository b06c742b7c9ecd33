/- Spans joined: Join. -/
import Derived.Test.YtmnfddmjlkkcoaaGd1
set_option linter.unusedVariables false
set_option linter.unusedSimpArgs false
namespace Go.Proofs.Try.Gp
open Go.RowKit Go.Cph Go.Cph.Px Go.Cph.Gp Go.Cph.So

theorem owns_mono6 {w : World} {b b' : Nat} {e : TypeId} {s : Nat} {v : Value} {n : Nat} {xs : List Value} (h : w.ownsRow b e s v n xs) (hb : b' ≤ b) : w.ownsRow b' e s v n xs := owns_mono h hb
theorem stepJ_length (out : List Sp) (s : Sp) : (stepJ out s).length ≤ out.length + 1 := by
  unfold stepJ
  split
  · simp
  · split
    · split
      · rw [List.length_append, List.length_dropLast]; simp <;> omega
      · omega
    · simp
theorem joinS_take {l : List Sp} {i : Nat} (h : i < l.length) : joinS (l.take (i + 1)) = stepJ (joinS (l.take i)) l[i] := by
  rw [List.take_succ_eq_append_getElem h, joinS_snoc]
theorem joinS_length (l : List Sp) : ∀ i, i ≤ l.length → (joinS (l.take i)).length ≤ i
  | 0, _ => by simp [joinS]
  | i + 1, h => by
    rw [joinS_take (by omega)]
    exact Nat.le_trans (stepJ_length _ _) (by have := joinS_length l i (by omega); omega)
theorem own_cells {w : World} {base g n cap : Nat} {d : List Sp} (h : w.ownsRow base TE 6 (.slice (some ⟨g, 0, none⟩) n cap) n (d.flatMap encC)) (hn : d.length = n) {i : Nat} {x : Sp} (hx : d[i]? = some x) : CellsOf w g (i * 6) x :=
  (show Row w base g n cap d w from ⟨h, grown_refl _ _, hn⟩).cells (by
    rw [← hn]
    refine Nat.lt_of_not_le fun h => ?_
    rw [List.getElem?_eq_none h] at hx; cases hx) hx
/-- The end of the row's last span is put anew. -/
theorem flat_end (l : List Sp) (t : Sp) (q : Ad) : ((((l ++ [t]).flatMap encC).set (l.length * 6 + 3) (.int .u8 (q.1.toNat : Int))).set (l.length * 6 + 3 + 1) (.int .u64 (q.2.1.toNat : Int))).set (l.length * 6 + 3 + 2) (.int .u64 (q.2.2.toNat : Int)) = (l ++ [(t.1, q)]).flatMap encC := by
  induction l with
  | nil => simp [encC]
  | cons x l ih =>
    rw [show (x :: l ++ [t]).flatMap encC = encC x ++ (l ++ [t]).flatMap encC from List.flatMap_cons, show (x :: l ++ [(t.1, q)]).flatMap encC = encC x ++ (l ++ [(t.1, q)]).flatMap encC from List.flatMap_cons, ← ih]
    have e : (x :: l).length * 6 = l.length * 6 + 6 := by rw [List.length_cons]; omega
    rw [e]
    simp [encC]
abbrev putT (W : World) (g o : Nat) (q : Ad) : World := ((W.setCell ⟨g, o, none⟩ (.int .u8 (q.1.toNat : Int))).setCell ⟨g, o + 1, none⟩ (.int .u64 (q.2.1.toNat : Int))).setCell ⟨g, o + 2, none⟩ (.int .u64 (q.2.2.toNat : Int))
theorem owns_end {w : World} {base g n cap : Nat} {l : List Sp} {t : Sp} (h : w.ownsRow base TE 6 (.slice (some ⟨g, 0, none⟩) n cap) n ((l ++ [t]).flatMap encC)) (q : Ad) :
    (putT w g (l.length * 6 + 3) q).ownsRow base TE 6 (.slice (some ⟨g, 0, none⟩) n cap) n ((l ++ [(t.1, q)]).flatMap encC) := by
  rw [← flat_end l t q]
  exact (((h.stored _ _).1.stored _ _).1.stored _ _).1
theorem put_belowT {B : Nat} {w W : World} {g o : Nat} (h : Below B w W) (hg : B ≤ g) (q : Ad) : Below B w (putT W g o q) :=
  ((h.setCell (p := ⟨g, o, none⟩) hg _).setCell (p := ⟨g, o + 1, none⟩) hg _).setCell (p := ⟨g, o + 2, none⟩) hg _

set_option maxRecDepth 100000 in
set_option maxHeartbeats 8000000 in
theorem join_row (v : Value) (ls : List (List Sp)) (w : World) (h : SpsOf w v ls) (hl : ls.length ≤ 100000) (hn : ls.flatten.length ≤ 1000000) :
    Calls Try.prog 12 #[v] w (NewRow w (joinS (sortL ltS (ls.flatten.filter rightS)))) := by
  have HC := Lib.hid (concat v ls w h hl hn)
  obtain ⟨A, hA⟩ : ∃ A, A = ls.flatten := ⟨_, rfl⟩
  rw [← hA] at hn HC ⊢
  obtain ⟨B, hB⟩ : ∃ B, B = A.filter rightS := ⟨_, rfl⟩
  have hfl : B.length ≤ 1000000 := by rw [hB]; exact Nat.le_trans (List.length_filter_le _ _) hn
  obtain ⟨s, hs⟩ : ∃ s, s = sortL ltS B := ⟨_, rfl⟩
  have hsl : s.length = B.length := by rw [hs]; exact sortL_length weakS _
  have hri : ∀ x ∈ s, rightS x = true := fun x hx => by
    rw [hs, mem_sortL weakS, hB] at hx
    exact (List.mem_filter.1 hx).2
  have hpw : s.Pairwise fun s t => rank s.1 ≤ rank t.1 := by rw [hs]; exact (sortL_is weakS _).1.imp fun h => nless.1 h
  rw [← hB, ← hs]
  have HRI := Lib.hid hri
  have HJI := Lib.hid (join_is hri hpw)
  have HJL := Lib.hid (joinS_length s)
  have HFL := Lib.hid hfl
  have HFN := Lib.hid hn
  have HSS := Lib.hid hs
  have HBB := Lib.hid hB
  have HSL := Lib.hid hsl
  clear h hn hfl hri hpw hs hB hA hsl
  go_enter Try.func12, Try.ntmps12
  go_wp2_with fail
  refine HC.out.mono ?_
  rintro e w1 ⟨v1, rfl, ho, hb⟩
  have HO1 := Lib.hid ho
  have HB1 := Lib.hid hb
  have HD := Lib.hid (delete_any v1 A w1 ho HFN.out)
  rw [← HBB.out] at HD
  clear ho hb HC
  go_wp2_with fail
  refine HD.out.mono ?_
  rintro e w2 ⟨v2, rfl, ho, hg⟩
  have HO2 := Lib.hid ho
  have HB2 := Lib.hid (below_grown HB1.out hg HO1.out (Nat.le_refl _) HB1.out.size)
  have HS := Lib.hid (sort_stable v2 _ w2 ho HFL.out)
  rw [← HSS.out] at HS
  clear ho hg HD
  go_wp2_with fail
  refine HS.out.mono ?_
  rintro e w3 ⟨rfl, ho, hg⟩
  have HB3 := Lib.hid (below_grown HB2.out hg HO2.out (Nat.le_refl _) HB2.out.size)
  have hfl : s.length ≤ 1000000 := by rw [HSL.out]; exact HFL.out
  obtain ⟨o3, c3, hv3⟩ := owns_slice1 ho
  subst hv3
  have HSP := Lib.hid (show SpsAt w3 (.slice o3 s.length c3) s from Seg.of_owns ho)
  clear ho hg HS HO1 HO2 HFL HFN HSS HBB HSL
  have HFL := Lib.hid hfl
  go_wp2_with fail
  go_loopw [4, 15] (fun vo vi W => ∃ i : Nat, i ≤ s.length ∧ vi = .int .i64 i ∧ W.ownsRow w3.heap.size TE 6 vo (joinS (s.take i)).length ((joinS (s.take i)).flatMap encC) ∧ Below w3.heap.size w3 W) (fun _ vi _ => s.length - (intOf vi).toNat)
  case atStart => exact ⟨0, Nat.zero_le _, rfl, World.ownsRow_nil _ _ _ _, Below.refl _ _⟩
  case round =>
    obtain ⟨i, hi, rfl, ho, hbel⟩ := hrel
    obtain ⟨oo, oc, hov⟩ := owns_slice1 ho
    have hjl := HJL.out i hi
    have hji := (HJI.out i hi).1.right
    by_cases hlt : i < s.length
    · have HDS := Lib.hid (joinS_take hlt)
      obtain ⟨J, hJ⟩ : ∃ J, J = joinS (s.take i) := ⟨_, rfl⟩
      rw [← hJ] at ho hov hjl hji HDS
      have HJR := Lib.hid hji
      subst hov
      have HO := Lib.hid ho
      have HBE := Lib.hid hbel
      obtain ⟨b, off, cap', hve, hcs⟩ := sps_cells (HSP.out.kept hbel) (by omega)
      injection hve with hx1 hx2 hx3
      subst hx1
      clear hx2 hx3
      have hcx := hcs i hlt
      obtain ⟨x, hx⟩ : ∃ x, x = s[i] := ⟨_, rfl⟩
      rw [← hx] at hcx HDS
      have HXR := Lib.hid (show rightS x = true from by rw [hx]; exact HRI.out _ (List.getElem_mem _))
      have d0 := hcx.c0
      have d1 := hcx.c1
      have d2 := hcx.c2
      have d3 := hcx.c3
      have d4 := hcx.c4
      have d5 := hcx.c5
      have HBX := Lib.hid (show Below wr.heap.size wr (wr.alloc (boxS x)) from (Below.refl _ _).alloc (Nat.le_refl _) _)
      have HBY := Lib.hid (below_step hbel HBX.out HBE.out.size)
      have HOX := Lib.hid (row_kept1 ho fun q hq => HBX.out.block q (ho.lt q hq).2)
      have HG := Lib.hid (heap_alloc_new wr (boxS x))
      have HD := Lib.hid (show ∀ nq W, Below W.heap.size W (W.drewN nq) from fun nq W => ⟨rfl, rfl, rfl, Nat.le_refl _, fun _ _ => rfl⟩)
      have k1 : (0 : Int) ≤ (i : Int) := by omega
      have k2 : (i : Int) < (s.length : Int) := by omega
      have k4 : IntKind.i64.wrap ((i : Int) + 1) = (i : Int) + 1 := by rw [IntKind.wrap_i64]; omega
      have hjs : J.length ≤ 1000000 := by omega
      have HJS := Lib.hid hjs
      have HLT := Lib.hid hlt
      clear ho hbel hcs hcx hx hJ hji hi
      rcases List.eq_nil_or_concat J with hj0 | ⟨L, y, hly⟩
      · have k5 : IntKind.i64.wrap ((J.length : Int) - 1) = -1 := by rw [hj0]; rfl
        have HE := Lib.hid (HDS.out.trans (show stepJ J x = J ++ [x] from by rw [hj0]; rfl))
        clear hj0
        clear hjl
        go_wp2_with fail
        clear d0 d1 d2 d3 d4 d5
        go_quiet (fail)
        have HBQ := Lib.hid (below_step HBY.out (HD.out nq _) HBY.out.size)
        have HOQ := Lib.hid (row_kept1 HOX.out fun q hq => (HD.out nq _).block q (HOX.out.lt q hq).2)
        have HGQ := Lib.hid (blk_kept (HD.out nq _) HG.out)
        generalize (wr.alloc (boxS x)).drewN nq = wq at *
        have HL9 := Lib.hid (show J.length + 1 ≤ 1099511627776 by have := HJS.out; omega)
        have HZ4 := Lib.hid HBQ.out.size
        have d0 := (box_cells HGQ.out).c0
        have d1 := (box_cells HGQ.out).c1
        have d2 := (box_cells HGQ.out).c2
        have d3 := (box_cells HGQ.out).c3
        have d4 := (box_cells HGQ.out).c4
        have d5 := (box_cells HGQ.out).c5
        go_wp2_with (at_builtin; refine wpList_append1 rfl (.tmp 33) (.tmp 35) 28 rfl w3.heap.size TE _ 6 48 Try.underlying28 infoE rfl (by decide) _ J.length _ (encC x) rfl HOQ.out _ 1 rfl rfl rfl (encC_one1 x) HL9.out (by decide) HZ4.out w3.heap.size w3 HBQ.out (Nat.le_refl _) ?_; intro v5 w5 ho5 hgr5 hb5 hsz5; have HO5 := Lib.hid ho5; have HB5 := Lib.hid hb5; clear ho5 hgr5 hb5 hsz5 d0 d1 d2 d3 d4 d5)
        go_roundw
        case rel =>
          refine ⟨i + 1, HLT.out, by go_num, ?_, HB5.out⟩
          rw [HE.out, List.length_append, List.flatMap_append]
          simpa using HO5.out
        case measure => have := HLT.out; simp [intOf]; omega
      · rw [List.concat_eq_append] at hly
        have HRY := Lib.hid (HJR.out y (by rw [hly]; simp))
        obtain ⟨m, hm⟩ : ∃ m, m = L.length := ⟨_, rfl⟩
        have hml : J.length = m + 1 := by rw [hly, List.length_append, hm]; rfl
        have k5 : IntKind.i64.wrap ((J.length : Int) - 1) = (m : Int) := by rw [hml, IntKind.wrap_i64]; omega
        have k6 : (m : Int) < (J.length : Int) := by omega
        have k7 : (0 : Int) ≤ (m : Int) := by omega
        have k8 : decide ((m : Int) < 0) = false := by simp
        obtain ⟨og, oc2, hvo, hog1, hog2, -, -, -⟩ := owns_shape HOX.out (by omega)
        injection hvo with hv1 hv2 hv3
        subst hv1
        have hcy := own_cells HOX.out rfl (show J[m]? = some y by rw [hly, hm]; simp)
        have hcb := box_cells HG.out
        have HT := Lib.hid (fun W => touches_any y x W)
        have HTE := Lib.hid (touchC_eq HRY.out HXR.out)
        have HML := Lib.hid hm
        have HSJ := Lib.hid (show stepJ J x = if touchS y x then (if lessA y.2 x.2 then L ++ [(y.1, x.2)] else J) else J ++ [x] from by
          rw [hly]
          simp only [stepJ, List.getLast?_append, List.getLast?_singleton, List.dropLast_concat]; rfl)
        have HLY := Lib.hid hly
        have HOG := Lib.hid hog1
        clear hjl hv2 hv3 hm hml hly hog1 hog2
        have e0 : ∀ zz : Later (wr.alloc (boxS x)).heap.size (wr.alloc (boxS x)), zz.val.cell? ⟨og, m * 6, none⟩ = some (.int .u8 (y.1.1.toNat : Int)) := fun zz => Later.cell hcy.c0 (World.block_lt_of_cell? _ _ hcy.c0) zz
        have e1 : ∀ zz : Later (wr.alloc (boxS x)).heap.size (wr.alloc (boxS x)), zz.val.cell? ⟨og, m * 6 + 1, none⟩ = some (.int .u64 (y.1.2.1.toNat : Int)) := fun zz => Later.cell hcy.c1 (World.block_lt_of_cell? _ _ hcy.c1) zz
        have e2 : ∀ zz : Later (wr.alloc (boxS x)).heap.size (wr.alloc (boxS x)), zz.val.cell? ⟨og, m * 6 + 2, none⟩ = some (.int .u64 (y.1.2.2.toNat : Int)) := fun zz => Later.cell hcy.c2 (World.block_lt_of_cell? _ _ hcy.c2) zz
        have e3 : ∀ zz : Later (wr.alloc (boxS x)).heap.size (wr.alloc (boxS x)), zz.val.cell? ⟨og, m * 6 + 3, none⟩ = some (.int .u8 (y.2.1.toNat : Int)) := fun zz => Later.cell hcy.c3 (World.block_lt_of_cell? _ _ hcy.c3) zz
        have e4 : ∀ zz : Later (wr.alloc (boxS x)).heap.size (wr.alloc (boxS x)), zz.val.cell? ⟨og, m * 6 + 4, none⟩ = some (.int .u64 (y.2.2.1.toNat : Int)) := fun zz => Later.cell hcy.c4 (World.block_lt_of_cell? _ _ hcy.c4) zz
        have e5 : ∀ zz : Later (wr.alloc (boxS x)).heap.size (wr.alloc (boxS x)), zz.val.cell? ⟨og, m * 6 + 5, none⟩ = some (.int .u64 (y.2.2.2.toNat : Int)) := fun zz => Later.cell hcy.c5 (World.block_lt_of_cell? _ _ hcy.c5) zz
        have f0 : ∀ zz : Later (wr.alloc (boxS x)).heap.size (wr.alloc (boxS x)), zz.val.cell? ⟨wr.heap.size, 0, none⟩ = some (.int .u8 (x.1.1.toNat : Int)) := fun zz => Later.cell hcb.c0 (World.block_lt_of_cell? _ _ hcb.c0) zz
        have f1 : ∀ zz : Later (wr.alloc (boxS x)).heap.size (wr.alloc (boxS x)), zz.val.cell? ⟨wr.heap.size, 0 + 1, none⟩ = some (.int .u64 (x.1.2.1.toNat : Int)) := fun zz => Later.cell hcb.c1 (World.block_lt_of_cell? _ _ hcb.c1) zz
        have f2 : ∀ zz : Later (wr.alloc (boxS x)).heap.size (wr.alloc (boxS x)), zz.val.cell? ⟨wr.heap.size, 0 + 2, none⟩ = some (.int .u64 (x.1.2.2.toNat : Int)) := fun zz => Later.cell hcb.c2 (World.block_lt_of_cell? _ _ hcb.c2) zz
        have f3 : ∀ zz : Later (wr.alloc (boxS x)).heap.size (wr.alloc (boxS x)), zz.val.cell? ⟨wr.heap.size, 0 + 3, none⟩ = some (.int .u8 (x.2.1.toNat : Int)) := fun zz => Later.cell hcb.c3 (World.block_lt_of_cell? _ _ hcb.c3) zz
        have f4 : ∀ zz : Later (wr.alloc (boxS x)).heap.size (wr.alloc (boxS x)), zz.val.cell? ⟨wr.heap.size, 0 + 4, none⟩ = some (.int .u64 (x.2.2.1.toNat : Int)) := fun zz => Later.cell hcb.c4 (World.block_lt_of_cell? _ _ hcb.c4) zz
        have f5 : ∀ zz : Later (wr.alloc (boxS x)).heap.size (wr.alloc (boxS x)), zz.val.cell? ⟨wr.heap.size, 0 + 5, none⟩ = some (.int .u64 (x.2.2.2.toNat : Int)) := fun zz => Later.cell hcb.c5 (World.block_lt_of_cell? _ _ hcb.c5) zz
        clear hcy hcb
        go_wp2_with fail
        clear d0 d1 d2 d3 d4 d5
        refine wp_region_later (wr.alloc (boxS x)).heap.size (by kernel_rfl) (by kernel_rfl) ?_
        repeat (go_big_quiet_step ((go_at_call 37; exact Later.calls (Nat.le_refl _) (HT.out _))))
        refine wpQuiet_nil ?_
        rintro wq ⟨zz, rfl⟩
        have HZ := Lib.hid zz.prop
        clear e0 e1 e2 e3 e4 e5 f0 f1 f2 f3 f4 f5
        generalize zz.val = wq at *
        have HBQ := Lib.hid (below_step HBY.out HZ.out HBY.out.size)
        have HOQ := Lib.hid (row_kept1 HOX.out fun q hq => HZ.out.block q (HOX.out.lt q hq).2)
        have HGQ := Lib.hid (blk_kept HZ.out HG.out)
        rw [HTE.out]
        obtain ⟨tc, htc⟩ : ∃ tc, tc = touchS y x := ⟨_, rfl⟩
        rw [← htc]
        have HTC := Lib.hid htc
        clear htc HT HTE
        cases tc
        · have HE := Lib.hid (HDS.out.trans (HSJ.out.trans (show _ = J ++ [x] from by rw [← HTC.out]; rfl)))
          have HL9 := Lib.hid (show J.length + 1 ≤ 1099511627776 by have := HJS.out; omega)
          have HZ4 := Lib.hid HBQ.out.size
          have d0 := (box_cells HGQ.out).c0
          have d1 := (box_cells HGQ.out).c1
          have d2 := (box_cells HGQ.out).c2
          have d3 := (box_cells HGQ.out).c3
          have d4 := (box_cells HGQ.out).c4
          have d5 := (box_cells HGQ.out).c5
          go_wp2_with (at_builtin; refine wpList_append1 rfl (.tmp 33) (.tmp 35) 28 rfl w3.heap.size TE _ 6 48 Try.underlying28 infoE rfl (by decide) _ J.length _ (encC x) rfl HOQ.out _ 1 rfl rfl rfl (encC_one1 x) HL9.out (by decide) HZ4.out w3.heap.size w3 HBQ.out (Nat.le_refl _) ?_; intro v5 w5 ho5 hgr5 hb5 hsz5; have HO5 := Lib.hid ho5; have HB5 := Lib.hid hb5; clear ho5 hgr5 hb5 hsz5 d0 d1 d2 d3 d4 d5)
          go_roundw
          case rel =>
            refine ⟨i + 1, HLT.out, by go_num, ?_, HB5.out⟩
            rw [HE.out, List.length_append, List.flatMap_append]
            simpa using HO5.out
          case measure => have := HLT.out; simp [intOf]; omega
        · have HE := Lib.hid (HDS.out.trans (HSJ.out.trans (show _ = if lessA y.2 x.2 then L ++ [(y.1, x.2)] else J from by rw [← HTC.out]; rfl)))
          have HLS := Lib.hid (fun W => Pfx.less y.2 x.2 W)
          obtain ⟨lc, hlc⟩ : ∃ lc, lc = lessA y.2 x.2 := ⟨_, rfl⟩
          rw [← hlc] at HLS HE
          have hcy := own_cells HOQ.out rfl (show J[m]? = some y by rw [HLY.out, HML.out]; simp)
          have hcb := box_cells HGQ.out
          clear hlc HSJ HTC
          have e0 : ∀ zz : Later wq.heap.size wq, zz.val.cell? ⟨og, m * 6, none⟩ = some (.int .u8 (y.1.1.toNat : Int)) := fun zz => Later.cell hcy.c0 (World.block_lt_of_cell? _ _ hcy.c0) zz
          have e1 : ∀ zz : Later wq.heap.size wq, zz.val.cell? ⟨og, m * 6 + 1, none⟩ = some (.int .u64 (y.1.2.1.toNat : Int)) := fun zz => Later.cell hcy.c1 (World.block_lt_of_cell? _ _ hcy.c1) zz
          have e2 : ∀ zz : Later wq.heap.size wq, zz.val.cell? ⟨og, m * 6 + 2, none⟩ = some (.int .u64 (y.1.2.2.toNat : Int)) := fun zz => Later.cell hcy.c2 (World.block_lt_of_cell? _ _ hcy.c2) zz
          have e3 : ∀ zz : Later wq.heap.size wq, zz.val.cell? ⟨og, m * 6 + 3, none⟩ = some (.int .u8 (y.2.1.toNat : Int)) := fun zz => Later.cell hcy.c3 (World.block_lt_of_cell? _ _ hcy.c3) zz
          have e4 : ∀ zz : Later wq.heap.size wq, zz.val.cell? ⟨og, m * 6 + 4, none⟩ = some (.int .u64 (y.2.2.1.toNat : Int)) := fun zz => Later.cell hcy.c4 (World.block_lt_of_cell? _ _ hcy.c4) zz
          have e5 : ∀ zz : Later wq.heap.size wq, zz.val.cell? ⟨og, m * 6 + 5, none⟩ = some (.int .u64 (y.2.2.2.toNat : Int)) := fun zz => Later.cell hcy.c5 (World.block_lt_of_cell? _ _ hcy.c5) zz
          have f0 : ∀ zz : Later wq.heap.size wq, zz.val.cell? ⟨wr.heap.size, 0, none⟩ = some (.int .u8 (x.1.1.toNat : Int)) := fun zz => Later.cell hcb.c0 (World.block_lt_of_cell? _ _ hcb.c0) zz
          have f1 : ∀ zz : Later wq.heap.size wq, zz.val.cell? ⟨wr.heap.size, 0 + 1, none⟩ = some (.int .u64 (x.1.2.1.toNat : Int)) := fun zz => Later.cell hcb.c1 (World.block_lt_of_cell? _ _ hcb.c1) zz
          have f2 : ∀ zz : Later wq.heap.size wq, zz.val.cell? ⟨wr.heap.size, 0 + 2, none⟩ = some (.int .u64 (x.1.2.2.toNat : Int)) := fun zz => Later.cell hcb.c2 (World.block_lt_of_cell? _ _ hcb.c2) zz
          have f3 : ∀ zz : Later wq.heap.size wq, zz.val.cell? ⟨wr.heap.size, 0 + 3, none⟩ = some (.int .u8 (x.2.1.toNat : Int)) := fun zz => Later.cell hcb.c3 (World.block_lt_of_cell? _ _ hcb.c3) zz
          have f4 : ∀ zz : Later wq.heap.size wq, zz.val.cell? ⟨wr.heap.size, 0 + 4, none⟩ = some (.int .u64 (x.2.2.1.toNat : Int)) := fun zz => Later.cell hcb.c4 (World.block_lt_of_cell? _ _ hcb.c4) zz
          have f5 : ∀ zz : Later wq.heap.size wq, zz.val.cell? ⟨wr.heap.size, 0 + 5, none⟩ = some (.int .u64 (x.2.2.2.toNat : Int)) := fun zz => Later.cell hcb.c5 (World.block_lt_of_cell? _ _ hcb.c5) zz
          clear e0 e1 e2 f0 f1 f2
          go_wp2_with fail
          refine wp_region_later wq.heap.size (by kernel_rfl) (by kernel_rfl) ?_
          repeat (go_big_quiet_step ((go_at_call 38; exact Later.calls (Nat.le_refl _) (HLS.out _))))
          refine wpQuiet_nil ?_
          rintro wz ⟨zz, rfl⟩
          have HZ2 := Lib.hid zz.prop
          clear e3 e4 e5 f3 f4 f5 hcy hcb
          generalize zz.val = wz at *
          have HBZ := Lib.hid (below_step HBQ.out HZ2.out HBQ.out.size)
          have HOZ := Lib.hid (row_kept1 HOQ.out fun q hq => HZ2.out.block q (HOQ.out.lt q hq).2)
          have HGZ := Lib.hid (blk_kept HZ2.out HGQ.out)
          cases lc
          · go_wp2_with fail
            go_roundw
            case rel => exact ⟨i + 1, HLT.out, by go_num, by rw [HE.out]; exact HOZ.out, HBZ.out⟩
            case measure => have := HLT.out; simp [intOf]; omega
          · have hoz := HOZ.out
            have fz : ∀ o, wz.frozen? ⟨og, o, none⟩ = false := fun o => hoz.frozenAt (g := og) o
            have hcy := own_cells HOZ.out rfl (show J[m]? = some y by rw [HLY.out, HML.out]; simp)
            have hcb := box_cells HGZ.out
            have e0 := hcy.c0
            have e1 := hcy.c1
            have e2 := hcy.c2
            have e3 := hcy.c3
            have e4 := hcy.c4
            have e5 := hcy.c5
            have f0 := hcb.c0
            have f1 := hcb.c1
            have f2 := hcb.c2
            have f3 := hcb.c3
            have f4 := hcb.c4
            have f5 := hcb.c5
            rw [HLY.out] at hoz
            have HOE := Lib.hid (owns_end hoz x.2)
            have HBE2 := Lib.hid (put_belowT (o := L.length * 6 + 3) HBZ.out HOG.out x.2)
            rw [← HML.out] at HOE HBE2
            clear hoz hcy hcb
            go_wp2_with fail
            clear e0 e1 e2 e3 e4 e5 f0 f1 f2 f3 f4 f5 fz
            go_roundw
            case rel => exact ⟨i + 1, HLT.out, by go_num, by rw [HE.out, if_pos rfl, HLY.out, show (L ++ [(y.1, x.2)]).length = (L ++ [y]).length by simp]; exact HOE.out, HBE2.out⟩
            case measure => have := HLT.out; simp [intOf]; omega
    · obtain rfl : i = s.length := by omega
      rw [List.take_length] at ho hov
      have HO := Lib.hid ho
      have HBE := Lib.hid hbel
      subst hov
      have k2 : ¬ (s.length : Int) < (s.length : Int) := by omega
      clear ho hbel hjl hji hi hlt
      go_wp2_with fail
      go_ret
      exact ⟨_, rfl, owns_mono HO.out HB3.out.size, below_step HB3.out HBE.out HB3.out.size⟩
/-- What is told: a list that covers what the lists cover. -/
def SetPost (w : World) (P : Nat → Prop) (n : Nat) (e : Ending) (w' : World) : Prop := ∃ l, IsSet l P ∧ l.length ≤ n ∧ NewRow w l e w'
theorem join_any (v : Value) (ls : List (List Sp)) (w : World) (h : SpsOf w v ls) (hl : ls.length ≤ 100000) (hn : ls.flatten.length ≤ 1000000) :
    Calls Try.prog 12 #[v] w (SetPost w (covS ls.flatten) ls.flatten.length) := by
  refine (join_row v ls w h hl hn).mono fun e w' hr => ⟨_, ?_, ?_, hr⟩
  · refine (join_all (fun x hx => ?_) ((sortL_is weakS _).1.imp fun h => nless.1 h)).to fun n => ?_
    · rw [mem_sortL weakS] at hx; exact (List.mem_filter.1 hx).2
    · constructor
      · rintro ⟨s, hs, h2⟩
        rw [mem_sortL weakS] at hs
        exact ⟨s, (List.mem_filter.1 hs).1, h2⟩
      · rintro ⟨s, hs, h2⟩
        exact ⟨s, (mem_sortL weakS).2 (List.mem_filter.2 ⟨hs, h2.1⟩), h2⟩
  · have h1 := joinS_length (sortL ltS (ls.flatten.filter rightS)) _ (Nat.le_refl _)
    rw [List.take_length, sortL_length weakS] at h1
    exact Nat.le_trans h1 (List.length_filter_le _ _)
end Go.Proofs.Try.Gp
