/- The document's order: ahead, Compare. -/
import Derived.Test.YtfijbfnhjnbjeaaDoorOkE
set_option linter.unusedVariables false
set_option linter.unusedSimpArgs false
set_option maxRecDepth 100000
namespace Go.Proofs.Tryd.Ok
open Go.RowKit Go.Cph Go.Cph.Ok Go.Proofs.Tryd.Nu Go.Cph.Skip
theorem ret_b {a b : Bool} (h : a = b) : Ending.returned (.bool a) = .returned (.bool b) := by rw [h]
theorem bl_drop (x y : Bs) (i : Nat) (hx : i < x.length) (hy : i < y.length) : Op.bytesLess (x.drop i) (y.drop i) = (decide (x[i] < y[i]) || (x[i] == y[i] && Op.bytesLess (x.drop (i + 1)) (y.drop (i + 1)))) := by
  rw [List.drop_eq_getElem_cons hx, List.drop_eq_getElem_cons hy]; rfl
theorem bl_end (x y : Bs) (i : Nat) (h : i ≤ x.length ∧ i ≤ y.length ∧ (i = x.length ∨ i = y.length)) : Op.bytesLess (x.drop i) (y.drop i) = decide (x.length < y.length) := by
  obtain ⟨h1, h2, h3⟩ := h
  by_cases hy : i = y.length
  · rw [List.drop_of_length_le (l := y) (by omega)]
    have : ¬ x.length < y.length := by omega
    simp [Op.bytesLess, this]
  · have hx : i = x.length := by omega
    rw [List.drop_of_length_le (l := x) (by omega), List.drop_eq_getElem_cons (l := y) (i := i) (by omega)]
    have : x.length < y.length := by omega
    simp [Op.bytesLess, this]
set_option maxHeartbeats 3200000 in
theorem rahead_any (a b : Pt) (w : World) (hs : a.s.size ≤ 1000000) : Calls Tryd.prog 35 #[encP a, encP b] w fun e w' => e = .returned (.bool (aheadP a b)) ∧ Below w.heap.size w w' := by
  obtain ⟨t, s, n⟩ := a
  obtain ⟨u, v, m⟩ := b
  have hs : s.size ≤ 1000000 := hs
  have HS := Lib.hid hs
  have hbx : Below w.heap.size w ((w.alloc (boxR ⟨t, s, n⟩)).alloc (boxR ⟨u, v, m⟩)) := ((Below.refl _ _).alloc (Nat.le_refl _) _).alloc (by simp) _
  have HB := Lib.hid hbx
  have hg1 := heap_alloc_new (w.alloc (boxR ⟨t, s, n⟩)) (boxR ⟨u, v, m⟩)
  rw [World.size_alloc] at hg1
  have ca := box_cells (blk_alloc (heap_alloc_new w (boxR ⟨t, s, n⟩)) (boxR ⟨u, v, m⟩))
  have cb := box_cells hg1
  have CA := Lib.hid ca
  have CB := Lib.hid cb
  have d0 := ca.c0
  have d1 := ca.c1
  have d2 := ca.c2
  have e0 := cb.c0
  have e1 := cb.c1
  have e2 := cb.c2
  clear hbx hg1 ca cb hs
  cases t <;> cases u
  · have HV := Lib.hid (show aheadP ⟨false, s, n⟩ ⟨false, v, m⟩ = decide ((n.toNat : Int) < (m.toNat : Int)) from by
      unfold aheadP
      simp)
    by_cases h : (n.toNat : Int) < (m.toNat : Int)
    · have HW := Lib.hid (show aheadP ⟨false, s, n⟩ ⟨false, v, m⟩ = true from by rw [HV.out]; exact decide_eq_true h)
      go_enter Tryd.func35, Tryd.ntmps35
      go_wp2_with fail
      go_ret
      exact ⟨ret_b HW.out.symm, HB.out⟩
    · have HW := Lib.hid (show aheadP ⟨false, s, n⟩ ⟨false, v, m⟩ = false from by rw [HV.out]; exact decide_eq_false h)
      go_enter Tryd.func35, Tryd.ntmps35
      go_wp2_with fail
      go_ret
      exact ⟨ret_b HW.out.symm, HB.out⟩
  · go_enter Tryd.func35, Tryd.ntmps35
    go_wp2_with fail
    go_ret
    exact ⟨rfl, HB.out⟩
  · go_enter Tryd.func35, Tryd.ntmps35
    go_wp2_with fail
    go_ret
    exact ⟨rfl, HB.out⟩
  · have HV := Lib.hid (show aheadP ⟨true, s, n⟩ ⟨true, v, m⟩ = Op.bytesLess s.data.toList v.data.toList from rfl)
    obtain ⟨R, hR⟩ : ∃ R, R = aheadP ⟨true, s, n⟩ ⟨true, v, m⟩ := ⟨_, rfl⟩
    rw [← hR] at HV ⊢
    clear hR
    go_enter Tryd.func35, Tryd.ntmps35
    go_wp2_with fail
    clear d0 d1 d2 e0 e1 e2
    go_loopw [5] (fun vi W => ∃ i : Nat, i ≤ s.size ∧ i ≤ v.size ∧ vi = .int .i64 i ∧ R = Op.bytesLess (s.data.toList.drop i) (v.data.toList.drop i) ∧ CellsOf W w.heap.size 0 ⟨true, s, n⟩ ∧ CellsOf W (w.heap.size + 1) 0 ⟨true, v, m⟩ ∧ Below w.heap.size w W) (fun vi _ => s.size - (intOf vi).toNat)
    case atStart => exact ⟨0, Nat.zero_le _, Nat.zero_le _, rfl, HV.out, CA.out, CB.out, HB.out⟩
    case round =>
      obtain ⟨i, hi, hi2, rfl, hr, ca, cb, hb⟩ := hrel
      have HB1 := Lib.hid hb
      have CA1 := Lib.hid ca
      have CB1 := Lib.hid cb
      have d1 := ca.c1
      have e1 := cb.c1
      by_cases hlt : i < s.size
      · have HLT := Lib.hid hlt
        have q1 : (0 : Int) ≤ (i : Int) := by omega
        have q2 : (i : Int) < (s.size : Int) := by omega
        have q4 : IntKind.i64.wrap ((i : Int) + 1) = (i : Int) + 1 := by rw [IntKind.wrap_i64]; have := HS.out; omega
        by_cases hlv : i < v.size
        · have HLV := Lib.hid hlv
          have q3 : (i : Int) < (v.size : Int) := by omega
          have hbl := bl_drop s.data.toList v.data.toList i hlt hlv
          obtain ⟨c, hc⟩ : ∃ c, c = s[i]'hlt := ⟨_, rfl⟩
          obtain ⟨d, hd⟩ : ∃ d, d = v[i]'hlv := ⟨_, rfl⟩
          have hcn : (s[i]'hlt).toNat = c.toNat := by rw [hc]
          have hdn : (v[i]'hlv).toNat = d.toNat := by rw [hd]
          rw [show s.data.toList[i]'hlt = c from hc.symm, show v.data.toList[i]'hlv = d from hd.symm] at hbl
          have HBL := Lib.hid (hr.trans hbl)
          clear hbl hc hd d1 e1
          have d1 : ∀ zz : Later wr.heap.size wr, zz.val.cell? ⟨w.heap.size, 0 + 1, none⟩ = some (.string s) := fun zz => Later.cell ca.c1 (World.block_lt_of_cell? _ _ ca.c1) zz
          have e1 : ∀ zz : Later wr.heap.size wr, zz.val.cell? ⟨w.heap.size + 1, 0 + 1, none⟩ = some (.string v) := fun zz => Later.cell cb.c1 (World.block_lt_of_cell? _ _ cb.c1) zz
          have f1 := ca.c1
          have g1 := cb.c1
          clear hr hb ca cb hi hi2
          by_cases hcd : c = d
          · subst hcd
            have HR2 := Lib.hid (show R = Op.bytesLess (s.data.toList.drop (i + 1)) (v.data.toList.drop (i + 1)) from by rw [HBL.out]; simp)
            go_wp2_with fail
            clear f1 g1
            refine wp_region_later wr.heap.size (by kernel_rfl) (by kernel_rfl) ?_
            repeat (go_big_quiet_step (fail))
            refine wpQuiet_nil ?_
            rintro wq ⟨zz, rfl⟩
            have HB3 := Lib.hid (below_step HB1.out zz.prop HB1.out.size)
            have CA3 := Lib.hid (CA1.out.kept zz.prop)
            have CB3 := Lib.hid (CB1.out.kept zz.prop)
            clear d1 e1 hcn hdn
            generalize zz.val = wq at *
            go_wp2_with fail
            go_roundw
            case rel => exact ⟨i + 1, HLT.out, HLV.out, by go_num, HR2.out, CA3.out, CB3.out, HB3.out⟩
            case measure => have := HLT.out; simp [intOf]; omega
          · have hcd2 : ¬ (c.toNat : Int) = (d.toNat : Int) := by
              intro e; apply hcd; rw [← UInt8.toNat_inj]; omega
            obtain ⟨r, hr⟩ : ∃ r, r = decide ((c.toNat : Int) < (d.toNat : Int)) := ⟨_, rfl⟩
            have HR2 := Lib.hid (show R = r from by
              rw [HBL.out, hr, show (c == d) = false from beq_eq_false_iff_ne.2 hcd, Bool.false_and, Bool.or_false]
              exact decide_eq_decide.2 (by rw [UInt8.lt_iff_toNat_lt]; omega))
            clear hcd
            go_wp2_with fail
            clear f1 g1
            refine wp_region_later wr.heap.size (by kernel_rfl) (by kernel_rfl) ?_
            repeat (go_big_quiet_step (fail))
            refine wpQuiet_nil ?_
            rintro wq ⟨zz, rfl⟩
            have HB3 := Lib.hid (below_step HB1.out zz.prop HB1.out.size)
            have CA3 := Lib.hid (CA1.out.kept zz.prop)
            have CB3 := Lib.hid (CB1.out.kept zz.prop)
            clear d1 e1
            generalize zz.val = wq at *
            have d1 : ∀ zz : Later wq.heap.size wq, zz.val.cell? ⟨w.heap.size, 0 + 1, none⟩ = some (.string s) := fun zz => Later.cell CA3.out.c1 (World.block_lt_of_cell? _ _ CA3.out.c1) zz
            have e1 : ∀ zz : Later wq.heap.size wq, zz.val.cell? ⟨w.heap.size + 1, 0 + 1, none⟩ = some (.string v) := fun zz => Later.cell CB3.out.c1 (World.block_lt_of_cell? _ _ CB3.out.c1) zz
            go_wp2_with fail
            refine wp_region_later wq.heap.size (by kernel_rfl) (by kernel_rfl) ?_
            repeat (go_big_quiet_step (fail))
            refine wpQuiet_nil ?_
            rintro wp ⟨zz, rfl⟩
            have HB4 := Lib.hid (below_step HB3.out zz.prop HB3.out.size)
            clear d1 e1 hcn hdn
            generalize zz.val = wp at *
            go_wp2_with fail
            go_ret
            exact ⟨ret_b (by rw [HR2.out, hr]; first | rfl | exact decide_eq_decide.2 (by omega)), HB4.out⟩
        · have HR2 := Lib.hid (show R = decide ((s.size : Int) < (v.size : Int)) from by rw [hr, bl_end _ _ i ⟨hi, hi2, Or.inr (show i = v.size by omega)⟩]; exact decide_eq_decide.2 (by rw [ba_size s, ba_size v]; omega))
          have q3 : ¬ (i : Int) < (v.size : Int) := by omega
          have q5 : ¬ (s.size : Int) < (v.size : Int) := by omega
          clear hr hb ca cb hi hi2 hlv hlt
          go_wp2_with fail
          go_ret
          exact ⟨ret_b (by rw [HR2.out]; first | exact (decide_eq_true (by omega)).symm | exact (decide_eq_false (by omega)).symm | exact decide_eq_decide.2 (by omega) | (simp; omega)), HB1.out⟩
      · have HR2 := Lib.hid (show R = decide ((s.size : Int) < (v.size : Int)) from by rw [hr, bl_end _ _ i ⟨hi, hi2, Or.inl (show i = s.size by omega)⟩]; exact decide_eq_decide.2 (by rw [ba_size s, ba_size v]; omega))
        have q2 : ¬ (i : Int) < (s.size : Int) := by omega
        clear hr hb ca cb hi hi2 hlt
        by_cases q5 : (s.size : Int) < (v.size : Int)
        · go_wp2_with fail
          go_ret
          exact ⟨ret_b (by rw [HR2.out]; first | exact (decide_eq_true (by omega)).symm | exact (decide_eq_false (by omega)).symm | exact decide_eq_decide.2 (by omega) | (simp; omega)), HB1.out⟩
        · go_wp2_with fail
          go_ret
          exact ⟨ret_b (by rw [HR2.out]; first | exact (decide_eq_true (by omega)).symm | exact (decide_eq_false (by omega)).symm | exact decide_eq_decide.2 (by omega) | (simp; omega)), HB1.out⟩
theorem Small.each {l : List Pt} (h : Small l) {i : Nat} (hi : i < l.length) : l[i].s.size ≤ 5000 := by
  have h1 := h.all
  have h2 : ∀ l : List Pt, ∀ p ∈ l, p.s.size ≤ tot l := by
    intro l
    induction l with
    | nil => intro p hp; cases hp
    | cons q l ih =>
      intro p hp
      have e : tot (q :: l) = q.s.size + tot l := by unfold tot; simp
      rw [e]
      rcases List.mem_cons.1 hp with rfl | hp
      · omega
      · have := ih p hp; omega
  exact Nat.le_trans (h2 l _ (List.getElem_mem hi)) h1
theorem cmp_end (x y : List Pt) (i : Nat) (h : i ≤ x.length ∧ i ≤ y.length ∧ (i = x.length ∨ i = y.length)) : cmpL (x.drop i) (y.drop i) = if x.length < y.length then -1 else if y.length < x.length then 1 else 0 := by
  obtain ⟨h1, h2, h3⟩ := h
  by_cases hx : i = x.length
  · rw [List.drop_of_length_le (l := x) (by omega)]
    by_cases hy : i = y.length
    · rw [List.drop_of_length_le (l := y) (by omega), if_neg (by omega), if_neg (by omega)]; rfl
    · rw [List.drop_eq_getElem_cons (l := y) (i := i) (by omega), if_pos (by omega)]; rfl
  · have hy : i = y.length := by omega
    rw [List.drop_of_length_le (l := y) (by omega), List.drop_eq_getElem_cons (l := x) (i := i) (by omega), if_neg (by omega), if_pos (by omega)]; rfl
set_option maxHeartbeats 6400000 in
theorem rcompare_any (v u : Value) (x y : List Pt) (w : World) (h : PtsAt w v x) (k : PtsAt w u y) (hx : Small x) (hy : Small y) :
    Calls Tryd.prog 23 #[v, u] w fun e w' => e = .returned (.int .i64 (cmpL x y)) ∧ Below w.heap.size w w' := by
  obtain ⟨ao, cap, rfl⟩ := elems_slice h
  obtain ⟨bo, cap2, rfl⟩ := elems_slice k
  have H := Lib.hid h
  have K := Lib.hid k
  have HX := Lib.hid hx
  have HY := Lib.hid hy
  obtain ⟨R, hR⟩ : ∃ R, R = cmpL x y := ⟨_, rfl⟩
  have HR := Lib.hid hR
  rw [← hR]
  clear h k hx hy hR
  go_enter Tryd.func23, Tryd.ntmps23
  go_wp2_with fail
  go_loopw [5] (fun vi W => ∃ i : Nat, i ≤ x.length ∧ i ≤ y.length ∧ vi = .int .i64 i ∧ R = cmpL (x.drop i) (y.drop i) ∧ Below w.heap.size w W) (fun vi _ => x.length - (intOf vi).toNat)
  case atStart => exact ⟨0, Nat.zero_le _, Nat.zero_le _, rfl, HR.out, Below.refl _ _⟩
  case round =>
    obtain ⟨i, hi, hi2, rfl, hc, hb⟩ := hrel
    have HB := Lib.hid hb
    by_cases hin : i < x.length ∧ i < y.length
    · obtain ⟨hlt, hly⟩ := hin
      have HI := Lib.hid (show i + 1 ≤ x.length ∧ i + 1 ≤ y.length from ⟨hlt, hly⟩)
      obtain ⟨b, off, cap', hve, hcs⟩ := pts_cells (H.out.kept hb) (by omega)
      injection hve with hx1 hx2 hx3
      subst hx1
      clear hx2 hx3
      obtain ⟨b2, off2, cap2', hve, hcs2⟩ := pts_cells (K.out.kept hb) (by omega)
      injection hve with hx1 hx2 hx3
      subst hx1
      clear hx2 hx3
      have hcx := hcs i hlt
      have hcy := hcs2 i hly
      have hcd := cmp_drop x y i hlt hly
      have hpz := HX.out.each hlt
      have hqz := HY.out.each hly
      obtain ⟨p, hp⟩ : ∃ p, p = x[i]'hlt := ⟨_, rfl⟩
      obtain ⟨q, hq⟩ : ∃ q, q = y[i]'hly := ⟨_, rfl⟩
      rw [← hp] at hcx hcd hpz
      rw [← hq] at hcy hcd hqz
      have HCX := Lib.hid hcx
      have HCY := Lib.hid hcy
      obtain ⟨r, hr⟩ : ∃ r, r = aheadP p q := ⟨_, rfl⟩
      obtain ⟨t, ht⟩ : ∃ t, t = aheadP q p := ⟨_, rfl⟩
      have HA := Lib.hid (fun W => (show Calls Tryd.prog 35 #[encP p, encP q] W fun e w' => e = .returned (.bool r) ∧ Below W.heap.size W w' from by rw [hr]; exact rahead_any p q W (by omega)))
      have HQ := Lib.hid (fun W => (show Calls Tryd.prog 35 #[encP q, encP p] W fun e w' => e = .returned (.bool t) ∧ Below W.heap.size W w' from by rw [ht]; exact rahead_any q p W (by omega)))
      rw [← hr, ← ht] at hcd
      have HCD := Lib.hid (hc.trans hcd)
      have d0 : ∀ zz : Later wr.heap.size wr, zz.val.cell? ⟨b, off + i * 3, none⟩ = some (.bool p.text) := fun zz => Later.cell hcx.c0 (World.block_lt_of_cell? _ _ hcx.c0) zz
      have d1 : ∀ zz : Later wr.heap.size wr, zz.val.cell? ⟨b, off + i * 3 + 1, none⟩ = some (.string p.s) := fun zz => Later.cell hcx.c1 (World.block_lt_of_cell? _ _ hcx.c1) zz
      have d2 : ∀ zz : Later wr.heap.size wr, zz.val.cell? ⟨b, off + i * 3 + 2, none⟩ = some (.int .u64 (p.n.toNat : Int)) := fun zz => Later.cell hcx.c2 (World.block_lt_of_cell? _ _ hcx.c2) zz
      have e0 : ∀ zz : Later wr.heap.size wr, zz.val.cell? ⟨b2, off2 + i * 3, none⟩ = some (.bool q.text) := fun zz => Later.cell hcy.c0 (World.block_lt_of_cell? _ _ hcy.c0) zz
      have e1 : ∀ zz : Later wr.heap.size wr, zz.val.cell? ⟨b2, off2 + i * 3 + 1, none⟩ = some (.string q.s) := fun zz => Later.cell hcy.c1 (World.block_lt_of_cell? _ _ hcy.c1) zz
      have e2 : ∀ zz : Later wr.heap.size wr, zz.val.cell? ⟨b2, off2 + i * 3 + 2, none⟩ = some (.int .u64 (q.n.toNat : Int)) := fun zz => Later.cell hcy.c2 (World.block_lt_of_cell? _ _ hcy.c2) zz
      have q1 : (0 : Int) ≤ (i : Int) := by omega
      have q2 : (i : Int) < (x.length : Int) := by omega
      have q3 : (i : Int) < (y.length : Int) := by omega
      have q4 : IntKind.i64.wrap ((i : Int) + 1) = (i : Int) + 1 := by rw [IntKind.wrap_i64]; have := HX.out.num; omega
      clear hb hc hcd hcs hcs2 hcx hcy hp hq hlt hly hi hi2 hr ht hpz hqz
      go_wp2_with fail
      refine wp_region_later wr.heap.size (by kernel_rfl) (by kernel_rfl) ?_
      repeat (go_big_quiet_step ((go_at_call 35; exact Later.calls (Nat.le_refl _) (HA.out _))))
      refine wpQuiet_nil ?_
      rintro wq ⟨zz, rfl⟩
      have HB3 := Lib.hid (below_step HB.out zz.prop HB.out.size)
      have HCX3 := Lib.hid (HCX.out.kept zz.prop)
      have HCY3 := Lib.hid (HCY.out.kept zz.prop)
      clear d0 d1 d2 e0 e1 e2
      generalize zz.val = wq at *
      cases r
      · have d0 : ∀ zz : Later wq.heap.size wq, zz.val.cell? ⟨b, off + i * 3, none⟩ = some (.bool p.text) := fun zz => Later.cell HCX3.out.c0 (World.block_lt_of_cell? _ _ HCX3.out.c0) zz
        have d1 : ∀ zz : Later wq.heap.size wq, zz.val.cell? ⟨b, off + i * 3 + 1, none⟩ = some (.string p.s) := fun zz => Later.cell HCX3.out.c1 (World.block_lt_of_cell? _ _ HCX3.out.c1) zz
        have d2 : ∀ zz : Later wq.heap.size wq, zz.val.cell? ⟨b, off + i * 3 + 2, none⟩ = some (.int .u64 (p.n.toNat : Int)) := fun zz => Later.cell HCX3.out.c2 (World.block_lt_of_cell? _ _ HCX3.out.c2) zz
        have e0 : ∀ zz : Later wq.heap.size wq, zz.val.cell? ⟨b2, off2 + i * 3, none⟩ = some (.bool q.text) := fun zz => Later.cell HCY3.out.c0 (World.block_lt_of_cell? _ _ HCY3.out.c0) zz
        have e1 : ∀ zz : Later wq.heap.size wq, zz.val.cell? ⟨b2, off2 + i * 3 + 1, none⟩ = some (.string q.s) := fun zz => Later.cell HCY3.out.c1 (World.block_lt_of_cell? _ _ HCY3.out.c1) zz
        have e2 : ∀ zz : Later wq.heap.size wq, zz.val.cell? ⟨b2, off2 + i * 3 + 2, none⟩ = some (.int .u64 (q.n.toNat : Int)) := fun zz => Later.cell HCY3.out.c2 (World.block_lt_of_cell? _ _ HCY3.out.c2) zz
        go_wp2_with fail
        refine wp_region_later wq.heap.size (by kernel_rfl) (by kernel_rfl) ?_
        repeat (go_big_quiet_step ((go_at_call 35; exact Later.calls (Nat.le_refl _) (HQ.out _))))
        refine wpQuiet_nil ?_
        rintro wp ⟨zz, rfl⟩
        have HB4 := Lib.hid (below_step HB3.out zz.prop HB3.out.size)
        clear d0 d1 d2 e0 e1 e2
        generalize zz.val = wp at *
        cases t
        · go_wp2_with fail
          go_roundw
          case rel => exact ⟨i + 1, HI.out.1, HI.out.2, by go_num, by rw [HCD.out]; rfl, HB4.out⟩
          case measure => have := HI.out.1; simp [intOf]; omega
        · go_wp2_with fail
          go_ret
          exact ⟨ret_int (by rw [HCD.out]; rfl), HB4.out⟩
      · go_wp2_with fail
        go_ret
        exact ⟨ret_int (by rw [HCD.out]; rfl), HB3.out⟩
    · have hce := cmp_end x y i ⟨hi, hi2, by omega⟩
      have HCE := Lib.hid (hc.trans hce)
      by_cases hlt : i < x.length
      · have q1 : (i : Int) < (x.length : Int) := by omega
        have q2 : ¬ (i : Int) < (y.length : Int) := by omega
        have q3 : ¬ (x.length : Int) < (y.length : Int) := by omega
        have q4 : (y.length : Int) < (x.length : Int) := by omega
        have HE := Lib.hid (show R = 1 from by rw [HCE.out, if_neg (by omega), if_pos (by omega)])
        clear hb hc hlt hi hi2 hce hin
        go_wp2_with fail
        go_ret
        exact ⟨ret_int HE.out.symm, HB.out⟩
      · have q1 : ¬ (i : Int) < (x.length : Int) := by omega
        by_cases hly : x.length < y.length
        · have q3 : (x.length : Int) < (y.length : Int) := by omega
          have HE := Lib.hid (show R = -1 from by rw [HCE.out, if_pos (by omega)])
          clear hb hc hlt hi hi2 hce hin hly
          go_wp2_with fail
          go_ret
          exact ⟨ret_int HE.out.symm, HB.out⟩
        · have q3 : ¬ (x.length : Int) < (y.length : Int) := by omega
          have q4 : ¬ (y.length : Int) < (x.length : Int) := by omega
          have HE := Lib.hid (show R = 0 from by rw [HCE.out, if_neg (by omega), if_neg (by omega)])
          clear hb hc hlt hi hi2 hce hin hly
          go_wp2_with fail
          go_ret
          exact ⟨ret_int HE.out.symm, HB.out⟩
end Go.Proofs.Tryd.Ok
