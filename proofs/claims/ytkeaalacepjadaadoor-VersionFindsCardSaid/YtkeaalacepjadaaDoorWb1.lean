/- The document's Overlap, Find, ends. -/
import Derived.Test.YtkeaalacepjadaaDoorWa2
import Derived.Test.YtkeaalacepjadaaDoorVu5
import Derived.Test.YtkeaalacepjadaaDoorVL
set_option linter.unusedVariables false
set_option linter.unusedSimpArgs false
set_option maxRecDepth 100000
namespace Go.Proofs.Tryd.Vr
open Go.RowKit Go.Cph Go.Cph.Skip Go.Cph.So Go.Cph.Ve
open Go.Proofs.Tryd.Sq (row_kept1 grown_below grown_set)

def SmallO (f g : ByteArray) : Prop := TextOK f ∧ TextOK g

set_option maxHeartbeats 8000000 in
theorem dover_any (d : Dn) (L : List Tb) (z : Int) (f g : ByteArray) (w : World) (h : TbsAt w d.l L) (hn : L.length ≤ 1000000) (hs : SmallL L) (hf : TextOK f) (hg : TextOK g) :
    Calls Tryd.prog 16 #[encD d, .int .i64 z, .string f, .string g] w (NewRow w (overL (levelZ L z) f g)) := by
  have HB0 := Lib.hid (below_of_alloc (w := w) (boxD d))
  have hbd := heap_alloc_new w (boxD d)
  have d0 : (w.alloc (boxD d)).cell? ⟨w.heap.size, 0, none⟩ = some (d.l) := (blk_cell hbd 0).trans rfl
  have d1 : (w.alloc (boxD d)).cell? ⟨w.heap.size, 1, none⟩ = some (.int .u64 (d.log.toNat : Int)) := (blk_cell hbd 1).trans rfl
  have d2 : (w.alloc (boxD d)).cell? ⟨w.heap.size, 2, none⟩ = some (.int .u64 (d.seq.toNat : Int)) := (blk_cell hbd 2).trans rfl
  have d3 : (w.alloc (boxD d)).cell? ⟨w.heap.size, 3, none⟩ = some (.int .u64 (d.nxt.toNat : Int)) := (blk_cell hbd 3).trans rfl
  have HC := Lib.hid (level14_any d L z (w.alloc (boxD d)) (h.kept HB0.out) hn hs)
  have HS := Lib.hid hs
  have HF := Lib.hid hf
  have HG := Lib.hid hg
  obtain ⟨l, hl⟩ : ∃ l, l = levelZ L z := ⟨_, rfl⟩
  have HSL := Lib.hid (show SmallL l from fun t ht => hs t (levelZ_mem (by rw [← hl]; exact ht)).1)
  have HLN := Lib.hid (show l.length ≤ 1000000 from by rw [hl]; exact Nat.le_trans (levelZ_le L z) hn)
  rw [← hl] at HC ⊢
  clear h hn hs hf hg hl hbd
  go_enter Tryd.func16, Tryd.ntmps16
  go_wp2_with fail
  refine HC.out.mono ?_
  rintro e w1 ⟨v1, rfl, ho1, hb1⟩
  obtain ⟨lo, lc, hv1⟩ := owns_slice1 ho1
  subst hv1
  have HT := Lib.hid (Seg.of_owns ho1)
  have HB1 := Lib.hid (below_step HB0.out hb1 HB0.out.size)
  clear HC ho1 hb1 d0 d1 d2 d3
  go_wp2_with fail
  go_loopw [10, 11] (fun vo vi W => ∃ (i m : Nat) (oo : Option Addr) (oc : Nat), i ≤ l.length ∧ vi = .int .i64 (i : Int) ∧ vo = .slice oo m oc ∧ Hid (m = (overL (l.take i) f g).length) ∧ Hid (W.ownsRow w1.heap.size TE 8 (.slice oo m oc) m ((overL (l.take i) f g).flatMap encC)) ∧ Hid (Below w1.heap.size w1 W)) (fun _ vi _ => l.length - (intOf vi).toNat)
  case atStart => exact ⟨0, 0, none, 0, Nat.zero_le _, rfl, rfl, Lib.hid rfl, Lib.hid (World.ownsRow_nil _ _ _ _), Lib.hid (Below.refl _ _)⟩
  case round =>
    obtain ⟨i, m, oo, oc, hi, rfl, rfl, HM, HO, HB⟩ := hrel
    by_cases hlt : i < l.length
    · have hT : TbsAt w1 (.slice lo l.length lc) l := HT.out
      obtain ⟨b, off, cap', hve, hcs⟩ := tbs_cells (hT.kept HB.out) (by omega)
      injection hve with hx1 hx2 hx3
      subst hx1
      have HLT := Lib.hid hlt
      obtain ⟨x, hx⟩ : ∃ x, x = l[i]'(HLT.out) := ⟨_, rfl⟩
      have HX := Lib.hid hx
      have HCX := Lib.hid (show CellsOf wr b (off + i * 8) x from by rw [hx]; exact hcs i hlt)
      have HSX := Lib.hid (show SmallT x from by rw [hx]; exact HSL.out _ (List.getElem_mem _))
      have hcx := HCX.out
      have d0 := hcx.c0
      have d1 := hcx.c1
      have d2 := hcx.c2
      have d3 := hcx.c3
      have d4 := hcx.c4
      have d5 := hcx.c5
      have d6 := hcx.c6
      have d7 := hcx.c7
      have j1 : (0 : Int) ≤ (i : Int) := by omega
      have j2 : (i : Int) < (l.length : Int) := by omega
      have j4 : IntKind.i64.wrap ((i : Int) + 1) = (i : Int) + 1 := by have := HLN.out; rw [IntKind.wrap_i64]; omega
      obtain ⟨q, hq⟩ : ∃ q, q = meetsT x f g := ⟨_, rfl⟩
      have HQ := Lib.hid hq
      have HC := Lib.hid (meets_any x f g wr HSX.out HF.out HG.out)
      rw [← hq] at HC
      have HNX := Lib.hid (over_snoc (f := f) (g := g) HLT.out)
      have hml : m ≤ 1000000 := by
        have h1 := over_le (l.take i) f g
        have h2 : (l.take i).length ≤ l.length := by rw [List.length_take]; omega
        have := HLN.out
        have := HM.out
        omega
      have HML := Lib.hid hml
      clear hT hcs hx2 hx3 hx hcx hq hlt hml
      go_wp2_with fail
      refine HC.out.mono ?_
      rintro e w2 ⟨rfl, hb2⟩
      have HB2 := Lib.hid (below_step HB.out hb2 HB.out.size)
      have HO2 := Lib.hid (row_kept1 HO.out fun p hp => hb2.block p (HO.out.lt p hp).2)
      have hcy := HCX.out.kept hb2
      clear HC hb2 d0 d1 d2 d3 d4 d5 d6 d7
      have d0 := hcy.c0
      have d1 := hcy.c1
      have d2 := hcy.c2
      have d3 := hcy.c3
      have d4 := hcy.c4
      have d5 := hcy.c5
      have d6 := hcy.c6
      have d7 := hcy.c7
      cases q
      · have HE := Lib.hid (show overL (l.take (i + 1)) f g = overL (l.take i) f g from by rw [HNX.out, ← HX.out, ← HQ.out]; simp)
        clear hcy
        go_wp2_with fail
        go_roundw
        case rel => exact ⟨i + 1, m, oo, oc, HLT.out, by first | rfl | (congr 1), rfl, Lib.hid (by rw [HE.out]; exact HM.out), Lib.hid (by rw [HE.out]; exact HO2.out), HB2⟩
        case measure => simp [intOf]; have := HLT.out; omega
      · have HE := Lib.hid (show overL (l.take (i + 1)) f g = overL (l.take i) f g ++ [x] from by rw [HNX.out, ← HX.out, ← HQ.out]; simp)
        have HO3 := Lib.hid (HO2.out.alloc (boxT x))
        have HB3 := Lib.hid (HB2.out.alloc HB2.out.size (boxT x))
        clear hcy
        go_wp2_with (at_builtin; refine wpList_append_seg rfl (.tmp 28) (.tmp 33) TS rfl w1.heap.size TE _ 8 80 Tryd.underlying25 infoE rfl (by decide) _ m _ rfl HO3.out _ 1 _ rfl (seg_tb (heap_alloc_new w2 (boxT x))) encC_one (by have := HML.out; omega) (by decide) HB3.out.size ?_; intro v6 w6 ho6 hg6 _; obtain ⟨o6, c6, hv6⟩ := owns_slice1 ho6; subst hv6; have HO6 := Lib.hid ho6; have HB6 := Lib.hid (HB3.out.grown hg6 HB3.out.size (fun k hk => (HO3.out.lt k hk).1)); clear ho6 hg6)
        go_roundw
        case rel => exact ⟨i + 1, m + 1, o6, c6, HLT.out, by first | rfl | (congr 1), rfl, Lib.hid (by rw [HE.out, List.length_append, ← HM.out]; rfl), Lib.hid (by rw [HE.out, List.flatMap_append]; exact HO6.out), HB6⟩
        case measure => simp [intOf]; have := HLT.out; omega
    · have hil : i = l.length := by omega
      subst hil
      have i1 : ¬ (l.length : Int) < (l.length : Int) := by omega
      have HFIN := Lib.hid (below_step HB1.out HB.out HB1.out.size)
      go_wp2_with fail
      go_ret
      have e : l.take l.length = l := List.take_length
      have hm := HM.out
      have ho := HO.out
      rw [e] at hm ho
      rw [hm] at ho
      exact ⟨_, rfl, by rw [hm]; exact owns_mono ho HB1.out.size, HFIN.out⟩

set_option maxHeartbeats 8000000 in
theorem dfind_any (d : Dn) (L : List Tb) (s : ByteArray) (w : World) (h : TbsAt w d.l L) (hn : L.length ≤ 1000000) (hs : SmallL L) (hf : TextOK s) :
    Calls Tryd.prog 18 #[encD d, .string s] w (NewRow w (findL (levelD L) s)) := by
  have HH := Lib.hid h
  have HN := Lib.hid hn
  have HS := Lib.hid hs
  have HF := Lib.hid hf
  have HX0 := Lib.hid (heap_alloc_new w (boxD d))
  have HB0 := Lib.hid (below_of_alloc (w := w) (boxD d))
  clear h hn hs hf
  go_enter Tryd.func18, Tryd.ntmps18
  go_wp2_with fail
  go_loopw [5, 6] (fun vo vi W => ∃ (i m : Nat) (oo : Option Addr) (oc : Nat), i ≤ 4 ∧ vi = .int .i64 (i : Int) ∧ vo = .slice oo m oc ∧ Hid (m = (findTo (levelD L) s i).length) ∧ Hid (W.ownsRow (w.alloc (boxD d)).heap.size TE 8 (.slice oo m oc) m ((findTo (levelD L) s i).flatMap encC)) ∧ Hid (Below (w.alloc (boxD d)).heap.size (w.alloc (boxD d)) W)) (fun _ vi _ => 4 - (intOf vi).toNat)
  case atStart => exact ⟨0, 0, none, 0, by omega, rfl, rfl, Lib.hid rfl, Lib.hid (World.ownsRow_nil _ _ _ _), Lib.hid (Below.refl _ _)⟩
  case round =>
    obtain ⟨i, m, oo, oc, hi, rfl, rfl, HM, HO, HB⟩ := hrel
    by_cases hlt : i < 4
    · have HLT := Lib.hid hlt
      have hbd := blk_kept HB.out HX0.out
      have d0 : wr.cell? ⟨w.heap.size, 0, none⟩ = some (d.l) := (blk_cell hbd 0).trans rfl
      have d1 : wr.cell? ⟨w.heap.size, 1, none⟩ = some (.int .u64 (d.log.toNat : Int)) := (blk_cell hbd 1).trans rfl
      have d2 : wr.cell? ⟨w.heap.size, 2, none⟩ = some (.int .u64 (d.seq.toNat : Int)) := (blk_cell hbd 2).trans rfl
      have d3 : wr.cell? ⟨w.heap.size, 3, none⟩ = some (.int .u64 (d.nxt.toNat : Int)) := (blk_cell hbd 3).trans rfl
      have j1 : (i : Int) < 4 := by omega
      have j4 : IntKind.i64.wrap ((i : Int) + 1) = (i : Int) + 1 := by rw [IntKind.wrap_i64]; omega
      have HBW := Lib.hid (below_step HB0.out HB.out HB0.out.size)
      have HC := Lib.hid (dover_any d L (i : Int) s s wr (HH.out.kept HBW.out) HN.out HS.out HF.out HF.out)
      rw [levelZ_D] at HC
      have hml : m ≤ i * 1000000 := by rw [HM.out]; exact findTo_le _ s (fun k hk => Nat.le_trans (levelD_le L k) HN.out) i hi
      have hol : (overL (levelD L i) s s).length ≤ 1000000 := Nat.le_trans (over_le _ _ _) (Nat.le_trans (levelD_le L i) HN.out)
      obtain ⟨m2, hm2⟩ : ∃ m, m = (overL (levelD L i) s s).length := ⟨_, rfl⟩
      have HM2 := Lib.hid hm2
      have HLE := Lib.hid (show m + m2 ≤ 1099511627776 from by omega)
      clear hbd hml hol hm2 hlt
      go_wp2_with (first | (go_at_call 16; refine HC.out.mono ?_; rintro e w2 ⟨x2, rfl, ho2, hb2⟩; obtain ⟨o2, q2, hv2⟩ := owns_slice1 ho2; subst hv2; rw [← HM2.out] at ho2 ⊢; have HO2 := Lib.hid ho2; have HB2 := Lib.hid (below_step HB.out hb2 HB.out.size); have HOK := Lib.hid (row_kept1 HO.out (fun p hp => hb2.block p (HO.out.lt p hp).2)); clear ho2 hb2) | (at_builtin; refine wpList_append_seg rfl (.tmp 11) (.tmp 16) TS rfl (w.alloc (boxD d)).heap.size TE _ 8 80 Tryd.underlying25 infoE rfl (by decide) _ m _ rfl HOK.out _ m2 _ rfl (Seg.of_owns HO2.out) encC_one HLE.out (by decide) HB2.out.size ?_; intro v6 w6 ho6 hg6 _; obtain ⟨o6, q6, hv6⟩ := owns_slice1 ho6; subst hv6; have HO6 := Lib.hid ho6; have HB6 := Lib.hid (HB2.out.grown hg6 HB2.out.size (fun k hk => (HOK.out.lt k hk).1)); clear ho6 hg6))
      go_roundw
      case rel => exact ⟨i + 1, m + m2, o6, q6, HLT.out, by first | rfl | (congr 1), rfl, Lib.hid (by rw [findTo_next, List.length_append, ← HM.out, ← HM2.out]), Lib.hid (by rw [findTo_next, List.flatMap_append]; exact HO6.out), HB6⟩
      case measure => simp [intOf]; have := HLT.out; omega
    · have hi4 : i = 4 := by omega
      subst hi4
      have j1 : ¬ (4 : Int) < 4 := by omega
      have HFIN := Lib.hid (below_step HB0.out HB.out HB0.out.size)
      go_wp2_with fail
      go_ret
      have hm := HM.out
      have ho := HO.out
      rw [findTo_four] at hm ho
      rw [hm] at ho
      exact ⟨_, rfl, by rw [hm]; exact owns_mono ho HB0.out.size, HFIN.out⟩

set_option maxHeartbeats 8000000 in
theorem ends_any (v : Value) (l : List Tb) (w : World) (h : TbsAt w v l) (h0 : 0 < l.length) (hn : l.length ≤ 1000000) (hs : SmallL l) : Calls Tryd.prog 34 #[v] w (SpanPost l w) := by
  obtain ⟨b, off, cap, hv, hcs⟩ := tbs_cells h h0
  subst hv
  have HN := Lib.hid hn
  have H0 := Lib.hid h0
  have HS := Lib.hid hs
  have HCS := Lib.hid hcs
  obtain ⟨x0, hx0⟩ : ∃ x, x = l[0]'(H0.out) := ⟨_, rfl⟩
  have HX0 := Lib.hid hx0
  have hc0 := hcs 0 h0
  rw [← hx0] at hc0
  simp only [Nat.zero_mul, Nat.add_zero] at hc0
  obtain ⟨n, hnn⟩ : ∃ n, n = l.length := ⟨_, rfl⟩
  have HNN := Lib.hid hnn
  have d4 := hc0.c4
  have d5 := hc0.c5
  have k0 : (0 : Int) < (n : Int) := by omega
  have k1 : 0 < n := by omega
  have HF0 := Lib.hid (show tF x0 = lowF (l.take 1) (tF x0) ∧ tL x0 = topL (l.take 1) (tL x0) from by
    rw [lowF_next (i := 0) h0, topL_next (i := 0) h0, ← hx0]
    simp [lowF, topL, klt_irrefl])
  rw [← hnn]
  clear h h0 hn hs hcs hx0 hc0 hnn
  go_enter Tryd.func34, Tryd.ntmps34
  go_wp2_with fail
  go_loopw [4, 5, 6] (fun v2 v3 vi W => ∃ (i : Nat) (f g : ByteArray), 1 ≤ i ∧ i ≤ n ∧ vi = .int .i64 (i : Int) ∧ v2 = .string f ∧ v3 = .string g ∧ Hid (f = lowF (l.take i) (tF x0) ∧ g = topL (l.take i) (tL x0)) ∧ Hid (TextOK f ∧ TextOK g) ∧ Hid (Below w.heap.size w W)) (fun _ _ vi _ => n - (intOf vi).toNat)
  case atStart => exact ⟨1, _, _, Nat.le_refl _, k1, rfl, rfl, rfl, HF0, Lib.hid (by have := HS.out x0 (by rw [HX0.out]; exact List.getElem_mem _); exact this), Lib.hid (Below.refl _ _)⟩
  case round =>
    obtain ⟨i, f, g, hi1, hi, rfl, rfl, rfl, HFG, HOK, HB⟩ := hrel
    clear d4 d5 k0 k1
    by_cases hlt : i < n
    · have HLT := Lib.hid (show i < l.length from by have := HNN.out; omega)
      have HLN := Lib.hid hlt
      obtain ⟨x, hx⟩ : ∃ x, x = l[i]'(HLT.out) := ⟨_, rfl⟩
      have HX := Lib.hid hx
      have HSX := Lib.hid (show SmallT x from by rw [hx]; exact HS.out _ (List.getElem_mem _))
      have HCX := Lib.hid (show CellsOf wr b (off + i * 8) x from by rw [hx]; exact (HCS.out i HLT.out).kept HB.out)
      have hcx := HCX.out
      have d4 := hcx.c4
      have d5 := hcx.c5
      have j1 : (0 : Int) ≤ (i : Int) := by omega
      have j2 : (i : Int) < (n : Int) := by omega
      have j4 : IntKind.i64.wrap ((i : Int) + 1) = (i : Int) + 1 := by have := HN.out; have := HNN.out; rw [IntKind.wrap_i64]; omega
      obtain ⟨q1, hq1⟩ : ∃ q, q = klt (tF x) f := ⟨_, rfl⟩
      obtain ⟨q2, hq2⟩ : ∃ q, q = klt g (tL x) := ⟨_, rfl⟩
      have HC1 := Lib.hid (above_any f (tF x) wr HOK.out.1 HSX.out.1)
      rw [← hq1] at HC1
      have HC2 := Lib.hid (fun W => above_any (tL x) g W HSX.out.2 HOK.out.2)
      rw [← hq2] at HC2
      have HNF := Lib.hid (show lowF (l.take (i + 1)) (tF x0) = (if q1 = true then tF x else f) from by rw [lowF_next HLT.out, ← HFG.out.1, ← HX.out, hq1])
      have HNG := Lib.hid (show topL (l.take (i + 1)) (tL x0) = (if q2 = true then tL x else g) from by rw [topL_next HLT.out, ← HFG.out.2, ← HX.out, hq2])
      clear hx hcx hq1 hq2 hlt
      go_wp2_with fail
      refine HC1.out.mono ?_
      rintro e w2 ⟨rfl, hb2⟩
      have HB2 := Lib.hid (below_step HB.out hb2 HB.out.size)
      have HCY := Lib.hid (HCX.out.kept hb2)
      clear HC1 hb2 d4 d5
      have d4 := HCY.out.c4
      have d5 := HCY.out.c5
      cases q1
      · skip
        go_wp2_with fail
        refine (HC2.out _).mono ?_
        rintro e w3 ⟨rfl, hb3⟩
        have HB3 := Lib.hid (below_step HB2.out hb3 HB2.out.size)
        have hcz := HCY.out.kept hb3
        clear d4 d5 hb3
        have d4 := hcz.c4
        have d5 := hcz.c5
        clear hcz
        cases q2
        · go_wp2_with fail
          go_roundw
          case rel => exact ⟨i + 1, f, g, Nat.le_add_left 1 i, HLN.out, by first | rfl | (congr 1), rfl, rfl, Lib.hid ⟨by rw [HNF.out]; rfl, by rw [HNG.out]; rfl⟩, Lib.hid ⟨HOK.out.1, HOK.out.2⟩, HB3⟩
          case measure => simp [intOf]; have := HLN.out; omega
        · go_wp2_with fail
          go_roundw
          case rel => exact ⟨i + 1, f, tL x, Nat.le_add_left 1 i, HLN.out, by first | rfl | (congr 1), rfl, rfl, Lib.hid ⟨by rw [HNF.out]; rfl, by rw [HNG.out]; rfl⟩, Lib.hid ⟨HOK.out.1, HSX.out.2⟩, HB3⟩
          case measure => simp [intOf]; have := HLN.out; omega
      · skip
        go_wp2_with fail
        refine (HC2.out _).mono ?_
        rintro e w3 ⟨rfl, hb3⟩
        have HB3 := Lib.hid (below_step HB2.out hb3 HB2.out.size)
        have hcz := HCY.out.kept hb3
        clear d4 d5 hb3
        have d4 := hcz.c4
        have d5 := hcz.c5
        clear hcz
        cases q2
        · go_wp2_with fail
          go_roundw
          case rel => exact ⟨i + 1, tF x, g, Nat.le_add_left 1 i, HLN.out, by first | rfl | (congr 1), rfl, rfl, Lib.hid ⟨by rw [HNF.out]; rfl, by rw [HNG.out]; rfl⟩, Lib.hid ⟨HSX.out.1, HOK.out.2⟩, HB3⟩
          case measure => simp [intOf]; have := HLN.out; omega
        · go_wp2_with fail
          go_roundw
          case rel => exact ⟨i + 1, tF x, tL x, Nat.le_add_left 1 i, HLN.out, by first | rfl | (congr 1), rfl, rfl, Lib.hid ⟨by rw [HNF.out]; rfl, by rw [HNG.out]; rfl⟩, Lib.hid ⟨HSX.out.1, HSX.out.2⟩, HB3⟩
          case measure => simp [intOf]; have := HLN.out; omega
    · have hil : n = i := by omega
      subst hil
      have i1 : ¬ (n : Int) < (n : Int) := by omega
      have HF := Lib.hid (show f = fstF l ∧ g = lstL l from by
        obtain ⟨h1, h2⟩ := HFG.out
        rw [List.take_of_length_le (by have := HNN.out; omega)] at h1 h2
        rw [h1, h2, HX0.out]
        exact ⟨fst_all H0.out, lst_all H0.out⟩)
      clear hlt
      go_wp2_with fail
      go_ret2
      exact ⟨show Ending.returned (.tuple #[.string f, .string g]) = .returned (.tuple #[.string (fstF l), .string (lstL l)]) from by rw [← HF.out.1, ← HF.out.2], HB.out⟩
end Go.Proofs.Tryd.Vr
