/- The document's Pick. -/
import Derived.Test.YtkeaalacepjadaaDoorWb1
import Derived.Test.YtkeaalacepjadaaDoorWa3
import Derived.Test.YtkeaalacepjadaaDoorVu6
import Derived.Deep.RegionHeld3
set_option linter.unusedVariables false
set_option linter.unusedSimpArgs false
set_option maxRecDepth 100000
namespace Go.Proofs.Tryd.Vr
open Go.RowKit Go.Cph Go.Cph.Skip Go.Cph.So Go.Cph.Ve
open Go.Proofs.Tryd.Sq (row_kept1 grown_below grown_set)

abbrev TQn : TypeId := 47
abbrev boxQn (p : Pn) : Obj := .cells #[.int .i64 (p.lev : Int), p.inn, p.bel, .bool p.bot] TQn (0, 0)
abbrev boxQZ : Obj := .cells #[.int .i64 0, .slice none 0 0, .slice none 0 0, .bool false] TQn (0, 0)
structure PdSt (w : World) (d : Dn) (pb : Nat) (p : Pn) (W : World) : Prop where
  bv : W.heap[w.heap.size]? = some (boxD d)
  br : W.heap[w.heap.size + 1]? = some boxQZ
  bp : W.heap[pb]? = some (boxQn p)
  lt : w.heap.size + 2 ≤ pb
  bel : Below w.heap.size w W
theorem PdSt.kept {w W W' : World} {d : Dn} {pb : Nat} {p : Pn} (h : PdSt w d pb p W) (hb : Below W.heap.size W W') : PdSt w d pb p W' :=
  ⟨blk_kept hb h.bv, blk_kept hb h.br, blk_kept hb h.bp, h.lt, below_step h.bel hb h.bel.size⟩
theorem PdSt.set {w W : World} {d : Dn} {pb : Nat} {p p' : Pn} (h : PdSt w d pb p W) {j : Nat} {x : Value} (e : (boxQn p') = .cells (#[.int .i64 (p.lev : Int), p.inn, p.bel, .bool p.bot].setIfInBounds j x) TQn (0, 0)) : PdSt w d pb p' (W.setCell ⟨pb, j, none⟩ x) := by
  have gs := grown_set W pb j x
  have hl := h.lt
  refine ⟨by rw [gs.block _ (blk_lt h.bv) (by intro e; injection e with e; omega)]; exact h.bv, by rw [gs.block _ (blk_lt h.br) (by intro e; injection e with e; omega)]; exact h.br, by rw [blk_set h.bp, e], hl, h.bel.setCell (p := ⟨pb, j, none⟩) (show _ ≤ pb by omega) _⟩
theorem box_putQ {w : World} {b : Nat} {cs : Array Value} (h : w.heap[b]? = some (.cells cs TQn (0, 0))) (hs : cs.size = 4) (p : Pn) : (put4 w b p).heap[b]? = some (boxQn p) := by
  rw [blk_set (blk_set (blk_set (blk_set h 0 _) 1 _) 2 _) 3 _]
  have : cs.toList.length = 4 := by simpa using hs
  obtain ⟨l⟩ := cs
  match l, this with
  | [a, b, c, d], _ => rfl
def PickDPost (A : Nat → List Tb) (w : World) (e : Ending) (w' : World) : Prop := ∃ (p : Pn) (ok : Bool), e = .returned (.tuple #[encPn p, .bool ok]) ∧ Below w.heap.size w w' ∧
  (∀ k, levK A = some k → ok = true ∧ p.lev = k ∧ p.bot = botK A k ∧ Rw w' w.heap.size w'.heap.size p.inn (inK A k) ∧ Rw w' w.heap.size w'.heap.size p.bel (belowK A k)) ∧ (levK A = none → ok = false ∧ p = zPn)

set_option maxHeartbeats 16000000 in
theorem dpick_any (d : Dn) (L : List Tb) (w : World) (h : TbsAt w d.l L) (hn : L.length ≤ 100000) (hs : SmallL L) : Calls Tryd.prog 13 #[encD d] w (PickDPost (levelD L) w) := by
  have HD := Lib.hid h
  have HN := Lib.hid hn
  have HS := Lib.hid hs
  obtain ⟨A, hA⟩ : ∃ A, A = levelD L := ⟨_, rfl⟩
  have HA := Lib.hid hA
  have HAL := Lib.hid (show ∀ k, (A k).length ≤ 100000 from fun k => by rw [hA]; exact Nat.le_trans (levelD_le L k) hn)
  have HAS := Lib.hid (show ∀ k, SmallL (A k) from fun k t ht => hs t (by rw [hA, ← levelZ_D] at ht; exact (levelZ_mem ht).1))
  have HLC := Lib.hid (show ∀ (W : World) (j : Nat), Below w.heap.size w W → Calls Tryd.prog 33 #[encD d, .int .i64 (j : Int)] W (NewRow W (A j)) from fun W j hb => by
    rw [hA, ← levelZ_D]
    exact level14_any d L (j : Int) W (h.kept hb) (by omega) hs)
  have HOC := Lib.hid (show ∀ (W : World) (j : Nat) (f g : ByteArray), Below w.heap.size w W → TextOK f → TextOK g → Calls Tryd.prog 16 #[encD d, .int .i64 (j : Int), .string f, .string g] W (NewRow W (overL (A j) f g)) from fun W j f g hb hf hg => by
    rw [hA, ← levelZ_D]
    exact dover_any d L (j : Int) f g W (h.kept hb) (by omega) hs hf hg)
  have hb2 := bel2 (w := w) (boxD d) boxQZ
  have HB2 := Lib.hid hb2
  have HBV := Lib.hid (show ((w.alloc (boxD d)).alloc boxQZ).heap[w.heap.size]? = some (boxD d) from blk_alloc (heap_alloc_new _ _) _)
  have HBR := Lib.hid (alloc2_new w (boxD d) boxQZ)
  have hbv := HBV.out
  have d0 : ((w.alloc (boxD d)).alloc boxQZ).cell? ⟨w.heap.size, 0, none⟩ = some (d.l) := (blk_cell hbv 0).trans rfl
  have d1 : ((w.alloc (boxD d)).alloc boxQZ).cell? ⟨w.heap.size, 1, none⟩ = some (.int .u64 (d.log.toNat : Int)) := (blk_cell hbv 1).trans rfl
  have d2 : ((w.alloc (boxD d)).alloc boxQZ).cell? ⟨w.heap.size, 2, none⟩ = some (.int .u64 (d.seq.toNat : Int)) := (blk_cell hbv 2).trans rfl
  have d3 : ((w.alloc (boxD d)).alloc boxQZ).cell? ⟨w.heap.size, 3, none⟩ = some (.int .u64 (d.nxt.toNat : Int)) := (blk_cell hbv 3).trans rfl
  have HC0 := Lib.hid (show Calls Tryd.prog 33 #[encD d, .int .i64 0] ((w.alloc (boxD d)).alloc boxQZ) (NewRow ((w.alloc (boxD d)).alloc boxQZ) (A 0)) from HLC.out _ 0 HB2.out)
  rw [← hA]
  clear h hn hs hA hb2 hbv
  go_enter Tryd.func13, Tryd.ntmps13
  go_wp2_with fail
  refine HC0.out.mono ?_
  rintro e w3 ⟨v0, rfl, ho0, hb3⟩
  obtain ⟨o0, c0, hv0⟩ := owns_slice1 ho0
  subst hv0
  have HB3 := Lib.hid (below_step HB2.out hb3 HB2.out.size)
  have HBV3 := Lib.hid (blk_kept hb3 HBV.out)
  have HBR3 := Lib.hid (blk_kept hb3 HBR.out)
  have HO0 := Lib.hid (owns_mono ho0 (show w.heap.size + 2 ≤ _ by rw [World.size_alloc, World.size_alloc]; omega))
  have HS3 := Lib.hid (show w.heap.size + 2 ≤ w3.heap.size from by have := hb3.size; rw [World.size_alloc, World.size_alloc] at this; omega)
  have hbv := HBV3.out
  clear d0 d1 d2 d3 ho0 hb3 HC0 HBV HBR
  have d0 : w3.cell? ⟨w.heap.size, 0, none⟩ = some (d.l) := (blk_cell hbv 0).trans rfl
  have d1 : w3.cell? ⟨w.heap.size, 1, none⟩ = some (.int .u64 (d.log.toNat : Int)) := (blk_cell hbv 1).trans rfl
  have d2 : w3.cell? ⟨w.heap.size, 2, none⟩ = some (.int .u64 (d.seq.toNat : Int)) := (blk_cell hbv 2).trans rfl
  have d3 : w3.cell? ⟨w.heap.size, 3, none⟩ = some (.int .u64 (d.nxt.toNat : Int)) := (blk_cell hbv 3).trans rfl
  have HC0 := Lib.hid (show Calls Tryd.prog 33 #[encD d, .int .i64 1] w3 (NewRow w3 (A 1)) from HLC.out w3 1 HB3.out)
  clear hbv
  go_wp2_with fail
  refine HC0.out.mono ?_
  rintro e w4 ⟨v1, rfl, ho1, hb4⟩
  obtain ⟨o1, c1, hv1⟩ := owns_slice1 ho1
  subst hv1
  have HB4 := Lib.hid (below_step HB3.out hb4 HB3.out.size)
  have HBV4 := Lib.hid (blk_kept hb4 HBV3.out)
  have HBR4 := Lib.hid (blk_kept hb4 HBR3.out)
  have HO04 := Lib.hid (row_kept1 HO0.out fun p hp => hb4.block p (HO0.out.lt p hp).2)
  have HO1 := Lib.hid (owns_mono ho1 HS3.out)
  have HS4 := Lib.hid (Nat.le_trans HS3.out hb4.size)
  have hbv := HBV4.out
  clear d0 d1 d2 d3 ho1 hb4 HC0 HBV3 HBR3 HO0
  have d0 : w4.cell? ⟨w.heap.size, 0, none⟩ = some (d.l) := (blk_cell hbv 0).trans rfl
  have d1 : w4.cell? ⟨w.heap.size, 1, none⟩ = some (.int .u64 (d.log.toNat : Int)) := (blk_cell hbv 1).trans rfl
  have d2 : w4.cell? ⟨w.heap.size, 2, none⟩ = some (.int .u64 (d.seq.toNat : Int)) := (blk_cell hbv 2).trans rfl
  have d3 : w4.cell? ⟨w.heap.size, 3, none⟩ = some (.int .u64 (d.nxt.toNat : Int)) := (blk_cell hbv 3).trans rfl
  have HC0 := Lib.hid (show Calls Tryd.prog 33 #[encD d, .int .i64 2] w4 (NewRow w4 (A 2)) from HLC.out w4 2 HB4.out)
  clear hbv
  go_wp2_with fail
  refine HC0.out.mono ?_
  rintro e w5 ⟨v2, rfl, ho2, hb5⟩
  obtain ⟨o2, c2, hv2⟩ := owns_slice1 ho2
  subst hv2
  have HB5 := Lib.hid (below_step HB4.out hb5 HB4.out.size)
  have HBV5 := Lib.hid (blk_kept hb5 HBV4.out)
  have HBR5 := Lib.hid (blk_kept hb5 HBR4.out)
  have HO05 := Lib.hid (row_kept1 HO04.out fun p hp => hb5.block p (HO04.out.lt p hp).2)
  have HO15 := Lib.hid (row_kept1 HO1.out fun p hp => hb5.block p (HO1.out.lt p hp).2)
  have HO2 := Lib.hid (owns_mono ho2 HS4.out)
  have HS5 := Lib.hid (Nat.le_trans HS4.out hb5.size)
  clear d0 d1 d2 d3 ho2 hb5 HC0 HBV4 HBR4 HO04 HO1
  have HST := Lib.hid (show ∀ (k : Nat) (vi : Value), PdSt w d w5.heap.size ⟨k, vi, .slice none 0 0, false⟩ (w5.alloc (boxQn ⟨k, vi, .slice none 0 0, false⟩)) from fun k vi =>
    ⟨blk_alloc HBV5.out _, blk_alloc HBR5.out _, heap_alloc_new _ _, HS5.out, HB5.out.alloc HB5.out.size _⟩)
  have HR0 := Lib.hid (show ∀ o : Obj, Rw (w5.alloc o) (w.heap.size + 2) w5.heap.size (.slice o0 (A 0).length c0) (A 0) from fun o => (Rw.own HO05.out (.inr (Nat.le_refl _))).kept (below_of_alloc _))
  have HR1 := Lib.hid (show ∀ o : Obj, Rw (w5.alloc o) (w.heap.size + 2) w5.heap.size (.slice o1 (A 1).length c1) (A 1) from fun o => (Rw.own HO15.out (.inr (Nat.le_refl _))).kept (below_of_alloc _))
  have HR2 := Lib.hid (show ∀ o : Obj, Rw (w5.alloc o) (w.heap.size + 2) w5.heap.size (.slice o2 (A 2).length c2) (A 2) from fun o => (Rw.own HO2.out (.inr (Nat.le_refl _))).kept (below_of_alloc _))
  have HCA1 := Lib.hid (owns_cap1 HO15.out)
  have HCA2 := Lib.hid (owns_cap1 HO2.out)
  obtain ⟨l0, hl0⟩ : ∃ n, n = (A 0).length := ⟨_, rfl⟩
  obtain ⟨l1, hl1⟩ : ∃ n, n = (A 1).length := ⟨_, rfl⟩
  obtain ⟨l2, hl2⟩ : ∃ n, n = (A 2).length := ⟨_, rfl⟩
  have HL0 := Lib.hid hl0
  have HL1 := Lib.hid hl1
  have HL2 := Lib.hid hl2
  rw [← hl0] at HR0 ⊢
  rw [← hl1] at HR1 HCA1 ⊢
  rw [← hl2] at HR2 HCA2 ⊢
  obtain ⟨q, hq⟩ : ∃ q, q = decide (4 ≤ l0) := ⟨_, rfl⟩
  have HQ := Lib.hid hq
  have kq1 : decide ((4 : Int) ≤ (l0 : Int)) = q := by rw [hq, decide_eq_decide]; omega
  have kq2 : decide (4 ≤ l0) = q := hq.symm
  clear hl0 hl1 hl2 hq HO05 HO15 HO2
  go_upto_if 20 with fail
  go_cut [] (fun W => ∃ (k : Nat) (vi : Value), Hid (levK A = some k) ∧ Hid (PdSt w d w5.heap.size ⟨k, vi, .slice none 0 0, false⟩ W) ∧ Hid (Rw W (w.heap.size + 2) w5.heap.size vi (inK A k)))
  case first =>
    cases q
    · have h0 : l0 < 4 := by have := HQ.out; simp at this; omega
      have H0 := Lib.hid h0
      clear h0 kq1 kq2
      by_cases h1 : 4 < l1
      · have HK := Lib.hid (show levK A = some 1 from levK_some (by omega) (show 4 < (A 1).length by rw [← HL1.out]; exact h1) fun j hj => by
          have : j = 0 := by omega
          subst this
          show _ ≤ 3
          rw [← HL0.out]; have := H0.out; omega)
        have k1 : (4 : Int) < (l1 : Int) := by omega
        have HPL := Lib.hid (show 0 < (A 1).length from by rw [← HL1.out]; omega)
        obtain ⟨cb, cof, cc', hve, -⟩ := tbs_cells (HR1.out boxQZ).at' HPL.out
        injection hve with e1 e2 e3
        subst e1
        clear e2 e3
        have k2 : (1 : Int) ≤ (c1 : Int) := by have := HCA1.out; omega
        have k3 : (1 : Int) ≤ (l1 : Int) := by omega
        have HX := Lib.hid (fun o => (show Rw (w5.alloc o) (w.heap.size + 2) w5.heap.size (.slice (some ⟨cb, cof, none⟩) (A 1).length c1) (A 1) from by rw [← HL1.out]; exact HR1.out o).one HPL.out c1)
        clear h1
        go_wp2_with fail
        go_meet
        exact ⟨1, _, HK, Lib.hid (HST.out 1 _), Lib.hid (HX.out _)⟩
      · have H1 := Lib.hid h1
        have k1 : ¬ (4 : Int) < (l1 : Int) := by omega
        clear h1
        by_cases h2 : 16 < l2
        · have HK := Lib.hid (show levK A = some 2 from levK_some (by omega) (show 16 < (A 2).length by rw [← HL2.out]; exact h2) fun j hj => by
            rcases (show j = 0 ∨ j = 1 by omega) with rfl | rfl
            · show _ ≤ 3
              rw [← HL0.out]; have := H0.out; omega
            · show _ ≤ 4
              rw [← HL1.out]; have := H1.out; omega)
          have k2 : (16 : Int) < (l2 : Int) := by omega
          have HPL := Lib.hid (show 0 < (A 2).length from by rw [← HL2.out]; omega)
          obtain ⟨cb, cof, cc', hve, -⟩ := tbs_cells (HR2.out boxQZ).at' HPL.out
          injection hve with e1 e2 e3
          subst e1
          clear e2 e3
          have k3 : (1 : Int) ≤ (c2 : Int) := by have := HCA2.out; omega
          have k4 : (1 : Int) ≤ (l2 : Int) := by omega
          have HX := Lib.hid (fun o => (show Rw (w5.alloc o) (w.heap.size + 2) w5.heap.size (.slice (some ⟨cb, cof, none⟩) (A 2).length c2) (A 2) from by rw [← HL2.out]; exact HR2.out o).one HPL.out c2)
          clear h2
          go_wp2_with fail
          go_meet
          exact ⟨2, _, HK, Lib.hid (HST.out 2 _), Lib.hid (HX.out _)⟩
        · have HNO := Lib.hid (show levK A = none from levK_none.2 fun j hj => by
            rcases (show j = 0 ∨ j = 1 ∨ j = 2 by omega) with rfl | rfl | rfl
            · show _ ≤ 3
              rw [← HL0.out]; have := H0.out; omega
            · show _ ≤ 4
              rw [← HL1.out]; have := H1.out; omega
            · show _ ≤ 16
              rw [← HL2.out]; omega)
          have k2 : ¬ (16 : Int) < (l2 : Int) := by omega
          have hsz : w.heap.size + 1 < w5.heap.size := by have := HS5.out; omega
          have hbr : (w5.alloc boxQZ).heap[w.heap.size + 1]? = some boxQZ := blk_alloc HBR5.out _
          have r0 : (w5.alloc boxQZ).cell? ⟨w.heap.size + 1, 0, none⟩ = some (.int .i64 0) := (blk_cell hbr 0).trans rfl
          have r1 : (w5.alloc boxQZ).cell? ⟨w.heap.size + 1, 1, none⟩ = some (.slice none 0 0) := (blk_cell hbr 1).trans rfl
          have r2 : (w5.alloc boxQZ).cell? ⟨w.heap.size + 1, 2, none⟩ = some (.slice none 0 0) := (blk_cell hbr 2).trans rfl
          have r3 : (w5.alloc boxQZ).cell? ⟨w.heap.size + 1, 3, none⟩ = some (.bool false) := (blk_cell hbr 3).trans rfl
          have rf : ∀ j, (w5.alloc boxQZ).frozen? ⟨w.heap.size + 1, j, none⟩ = false := fun j => by rw [blk_frozen hbr]; simp
          have HP := Lib.hid (box_putQ hbr rfl zPn)
          have HBP := Lib.hid (below_put4 (HB5.out.alloc HB5.out.size boxQZ) (b := w.heap.size + 1) (Nat.le_succ _) zPn)
          clear h2 hbr hsz
          go_wp2_with fail
          exact bodyPost_ret (v := .tuple #[encPn zPn, .bool false]) (results_row_tmp Tryd.results13 _ _ (w.heap.size + 1) TQn _ (0, 0) _ _ rfl rfl HP.out Tryd.underlying47 rfl (by kernel_rfl)) rfl ⟨zPn, false, rfl, HBP.out, fun k hk => (by rw [HNO.out] at hk; cases hk), fun _ => ⟨rfl, rfl⟩⟩
    · have h0 : 4 ≤ l0 := by have := HQ.out; simp at this; omega
      have HK := Lib.hid (show levK A = some 0 from levK_some (by omega) (show 3 < (A 0).length by rw [← HL0.out]; omega) fun j hj => absurd hj (Nat.not_lt_zero _))
      have HX := Lib.hid (fun o => (show Rw (w5.alloc o) (w.heap.size + 2) w5.heap.size (.slice o0 l0 c0) (inK A 0) from by exact HR0.out o))
      clear h0
      go_wp2_with fail
      go_meet
      exact ⟨0, _, HK, Lib.hid (HST.out 0 _), Lib.hid (HX.out _)⟩
  case rest =>
    rename World => w6
    obtain ⟨k, vi, HK, HT6, HI6⟩ := hcut
    obtain ⟨pb, hpb⟩ : ∃ b, b = w5.heap.size := ⟨_, rfl⟩
    rw [← hpb] at HT6 HI6 ⊢
    clear kq1 kq2 HST HR0 HR1 HR2 hpb
    obtain ⟨hk3, hkl, -⟩ := levK_lt HK.out
    have HK3 := Lib.hid hk3
    have HPA := Lib.hid (show 0 < (A k).length from by omega)
    have hip : 0 < (inK A k).length := inK_pos HPA.out
    have HSI := Lib.hid (show SmallL (inK A k) from fun t ht => HAS.out k t (inK_sub ht))
    have HSB := Lib.hid (show SmallL (belowK A k) from fun t ht => HAS.out (k + 1) t (List.mem_filter.1 ht).1)
    have HSBH := Lib.hid (show SmallL (bothK A k) from fun t ht => by
      rcases List.mem_append.1 ht with h | h
      · exact HSI.out t h
      · exact HSB.out t h)
    have HIL := Lib.hid (show (inK A k).length ≤ 100000 from by
      unfold inK
      split
      · exact HAL.out 0
      · rw [List.length_take]; have := HAL.out k; omega)
    have HBLB := Lib.hid (show (belowK A k).length ≤ 100000 from Nat.le_trans (over_le _ _ _) (HAL.out (k + 1)))
    obtain ⟨f, hf⟩ : ∃ f, f = fstF (inK A k) := ⟨_, rfl⟩
    obtain ⟨g, hg⟩ : ∃ g, g = lstL (inK A k) := ⟨_, rfl⟩
    have HF := Lib.hid hf
    have HG := Lib.hid hg
    have HFG := Lib.hid (show TextOK f ∧ TextOK g from by
      obtain ⟨t, ht, e⟩ := fst_mem hip
      obtain ⟨u, hu, e2⟩ := lst_mem hip
      exact ⟨by rw [hf, e]; exact (HSI.out t ht).1, by rw [hg, e2]; exact (HSI.out u hu).2⟩)
    obtain ⟨il, hil⟩ : ∃ n, n = (inK A k).length := ⟨_, rfl⟩
    have HILN := Lib.hid hil
    obtain ⟨io, ic, hvi⟩ := elems_slice HI6.out.at'
    rw [← hil] at hvi
    subst hvi
    have HC := Lib.hid (ends_any (.slice io il ic) (inK A k) w6 HI6.out.at' hip (by have := HIL.out; omega) HSI.out)
    unfold SpanPost at HC
    rw [← hf, ← hg] at HC
    have p1 : w6.cell? ⟨pb, 1, none⟩ = some (.slice io il ic) := (blk_cell HT6.out.bp 1).trans rfl
    clear hip hf hg hil hk3 hkl
    go_wp2_with fail
    refine HC.out.mono ?_
    rintro e w7 ⟨rfl, hb7⟩
    have HT7 := Lib.hid (HT6.out.kept hb7)
    have HI7 := Lib.hid (HI6.out.kept hb7)
    have hbv := HT7.out.bv
    clear p1 HC hb7 HT6 HI6
    have d0 : w7.cell? ⟨w.heap.size, 0, none⟩ = some (d.l) := (blk_cell hbv 0).trans rfl
    have d1 : w7.cell? ⟨w.heap.size, 1, none⟩ = some (.int .u64 (d.log.toNat : Int)) := (blk_cell hbv 1).trans rfl
    have d2 : w7.cell? ⟨w.heap.size, 2, none⟩ = some (.int .u64 (d.seq.toNat : Int)) := (blk_cell hbv 2).trans rfl
    have d3 : w7.cell? ⟨w.heap.size, 3, none⟩ = some (.int .u64 (d.nxt.toNat : Int)) := (blk_cell hbv 3).trans rfl
    have p0 : w7.cell? ⟨pb, 0, none⟩ = some (.int .i64 (k : Int)) := (blk_cell HT7.out.bp 0).trans rfl
    have k4 : IntKind.i64.wrap ((k : Int) + 1) = ((k + 1 : Nat) : Int) := by have := HK3.out; rw [IntKind.wrap_i64]; omega
    have HC := Lib.hid (HOC.out w7 (k + 1) f g HT7.out.bel HFG.out.1 HFG.out.2)
    rw [HF.out, HG.out, show overL (A (k + 1)) (fstF (inK A k)) (lstL (inK A k)) = belowK A k from rfl, ← HF.out, ← HG.out] at HC
    clear hbv
    go_wp2_with fail
    refine HC.out.mono ?_
    rintro e w8 ⟨vb, rfl, hob, hb8⟩
    obtain ⟨bo, bc, hvb⟩ := owns_slice1 hob
    subst hvb
    obtain ⟨bl, hbl⟩ : ∃ n, n = (belowK A k).length := ⟨_, rfl⟩
    have HBLN := Lib.hid hbl
    rw [← hbl] at hob ⊢
    have HT8 := Lib.hid (HT7.out.kept hb8)
    have p2 : w8.cell? ⟨pb, 2, none⟩ = some (.slice none 0 0) := (blk_cell HT8.out.bp 2).trans rfl
    have pf : ∀ j, w8.frozen? ⟨pb, j, none⟩ = false := fun j => by rw [blk_frozen HT8.out.bp]; simp
    have HT9 := Lib.hid (HT8.out.set (j := 2) (x := .slice bo bl bc) (p' := ⟨k, .slice io il ic, .slice bo bl bc, false⟩) rfl)
    have HI9 := Lib.hid ((HI7.out.kept hb8).set 2 (.slice bo bl bc))
    have HE9 := Lib.hid (show Rw (w8.setCell ⟨pb, 2, none⟩ (.slice bo bl bc)) (w.heap.size + 2) pb (.slice bo bl bc) (belowK A k) from
      (((Rw.own (hi := pb) (l := belowK A k) (by rw [← HBLN.out]; exact hob) (.inl (blk_lt HT7.out.bp))).mono (by have := HT7.out.lt; have := blk_lt HT7.out.bp; omega)).set 2 (.slice bo bl bc)))
    clear HC hob hb8 hbl HT7 HI7 d0 d1 d2 d3 p0 k4
    go_upto_region 16 with fail
    refine (show ∀ W, W = w8.setCell ⟨pb, 2, none⟩ (.slice bo bl bc) → Code.wp _ _ _ _ W from ?_) _ rfl
    intro w9 hw9
    rw [← hw9] at HT9 HI9 HE9
    have p1 : w9.cell? ⟨pb, 1, none⟩ = some (.slice io il ic) := (blk_cell HT9.out.bp 1).trans rfl
    have p3 : w9.cell? ⟨pb, 2, none⟩ = some (.slice bo bl bc) := (blk_cell HT9.out.bp 2).trans rfl
    obtain ⟨f2, hf2⟩ : ∃ f, f = fstF (bothK A k) := ⟨_, rfl⟩
    obtain ⟨g2, hg2⟩ : ∃ g, g = lstL (bothK A k) := ⟨_, rfl⟩
    have HF2 := Lib.hid hf2
    have HG2 := Lib.hid hg2
    have HBP := Lib.hid (bothK_pos HPA.out)
    have HFG2 := Lib.hid (show TextOK f2 ∧ TextOK g2 from by
      obtain ⟨t, ht, e⟩ := fst_mem HBP.out
      obtain ⟨u, hu, e2⟩ := lst_mem HBP.out
      exact ⟨by rw [hf2, e]; exact (HSBH.out t ht).1, by rw [hg2, e2]; exact (HSBH.out u hu).2⟩)
    obtain ⟨ql, hql⟩ : ∃ n, n = il + bl := ⟨_, rfl⟩
    have HQL := Lib.hid hql
    have HQB := Lib.hid (show (bothK A k).length = ql ∧ ql ≤ 200000 from by
      have := HIL.out
      have := HBLB.out
      have := HILN.out
      have := HBLN.out
      unfold bothK
      rw [List.length_append]
      omega)
    have HEC := Lib.hid (show ∀ (W : World) (oa : Option Addr) (oc : Nat), W.ownsRow w9.heap.size TE 8 (.slice oa ql oc) ql ((inK A k).flatMap encC ++ (belowK A k).flatMap encC) → Calls Tryd.prog 34 #[.slice oa ql oc] W (fun e w' => e = .returned (.tuple #[.string f2, .string g2]) ∧ Below W.heap.size W w') from fun W oa oc ho => by
      have h1 := ends_any (.slice oa ql oc) (bothK A k) W (by
        have h2 := Seg.of_owns ho
        rw [← List.flatMap_append] at h2
        show Seg W 8 _ (bothK A k).length _
        rw [HQB.out.1]
        exact h2) HBP.out (by have := HQB.out; omega) HSBH.out
      unfold SpanPost at h1
      rw [← HF2.out, ← HG2.out] at h1
      exact h1)
    have HOE := Lib.hid (show (w9.alloc (.cells #[] TE)).ownsRow w9.heap.size TE 8 (.slice (some ⟨w9.heap.size, 0, none⟩) 0 0) 0 [] from owns_empty (heap_alloc_new w9 (.cells #[] TE)) (Nat.le_refl _) 8)
    have HBE := Lib.hid (below_of_alloc (w := w9) (.cells #[] TE))
    have HSI9 := Lib.hid (show ∀ W, Below w9.heap.size w9 W → Seg W 8 (.slice io il ic) il ((inK A k).flatMap encC) from fun W hb => by
      have := HI9.out.at'.kept hb
      rw [HILN.out] at this ⊢
      exact this)
    have HSE9 := Lib.hid (show ∀ W, Below w9.heap.size w9 W → Seg W 8 (.slice bo bl bc) bl ((belowK A k).flatMap encC) from fun W hb => by
      have := HE9.out.at'.kept hb
      rw [HBLN.out] at this ⊢
      exact this)
    have HCP := Lib.hid (show ∀ W, Below w9.heap.size w9 W → W.cell? ⟨pb, 1, none⟩ = some (.slice io il ic) ∧ W.cell? ⟨pb, 2, none⟩ = some (.slice bo bl bc) from fun W hb => ⟨cell_kept hb p1, cell_kept hb p3⟩)
    clear p2 pf hw9 hf2 hg2 HT8 hql
    go_cut [8, 9] (fun v8 v9 W => v8 = .string f2 ∧ v9 = .string g2 ∧ Hid (Below w9.heap.size w9 W))
    case first =>
      go_region_held3 (fun W => W.cell? ⟨pb, 1, none⟩ = some (.slice io il ic) ∧ W.cell? ⟨pb, 2, none⟩ = some (.slice bo bl bc))
        (go_keep)
        (first
          | (refine step_own rfl (.tmp 53) (.tmp 55) rfl (base := w9.heap.size) (v := .slice (some ⟨w9.heap.size, 0, none⟩) 0 0) (src := .slice io il ic) (n := 0) (m := il) (xs := []) (us := (inK A k).flatMap encC) (by rfl) (by rfl) HOE.out (HSI9.out _ (by first | exact HBE.out | exact HBE.out.drew)) encC_one (by have := HIL.out; have := HILN.out; omega) (by first | exact HBE.out.size | exact HBE.out.drew.size) ?_; intro v7 W7 ho7 hg7; obtain ⟨o7, c7, hv7⟩ := owns_slice1 ho7; subst hv7; rw [Nat.zero_add] at ho7 ⊢; rw [List.nil_append] at ho7; have HO7 := Lib.hid ho7; have HB7 := Lib.hid (show Below w9.heap.size w9 W7 from (by first | exact HBE.out.grown hg7 HBE.out.size (fun p hp => (HOE.out.lt p hp).1) | exact HBE.out.drew.grown hg7 HBE.out.drew.size (fun p hp => (HOE.out.lt p hp).1))); obtain ⟨p1, p3⟩ := HCP.out W7 HB7.out; clear ho7 hg7)
          | (refine step_own rfl (.tmp 56) (.tmp 58) rfl (base := w9.heap.size) (v := .slice o7 il c7) (src := .slice bo bl bc) (n := il) (m := bl) (xs := (inK A k).flatMap encC) (us := (belowK A k).flatMap encC) (by rfl) (by rfl) HO7.out (HSE9.out _ HB7.out) encC_one (by have := HIL.out; have := HILN.out; have := HBLB.out; have := HBLN.out; omega) HB7.out.size ?_; intro v8 W8 ho8 hg8; obtain ⟨o8, c8, hv8⟩ := owns_slice1 ho8; subst hv8; rw [← HQL.out] at ho8 ⊢; have HO8 := Lib.hid ho8; have HB8 := Lib.hid (show Below w9.heap.size w9 W8 from HB7.out.grown hg8 HB7.out.size (fun p hp => (HO7.out.lt p hp).1)); obtain ⟨p1, p3⟩ := HCP.out W8 HB8.out; clear ho8 hg8)
          | (go_at_call 34; refine (HEC.out W8 o8 c8 HO8.out).mono ?_; rintro eZ wZ ⟨rfl, hbZ⟩; have HBZ := Lib.hid (below_step HB8.out hbZ HB8.out.size); obtain ⟨p1, p3⟩ := HCP.out wZ HBZ.out; clear hbZ)
          )
      all_goals (go_wp2_with fail; go_meet; exact ⟨rfl, rfl, HBZ⟩)
    case rest =>
      rename World => w10
      obtain ⟨rfl, rfl, HB10⟩ := hcut
      have HT10 := Lib.hid (HT9.out.kept HB10.out)
      have p0 : w10.cell? ⟨pb, 0, none⟩ = some (.int .i64 (k : Int)) := (blk_cell HT10.out.bp 0).trans rfl
      have p4 : w10.cell? ⟨pb, 3, none⟩ = some (.bool false) := (blk_cell HT10.out.bp 3).trans rfl
      have pf : ∀ j, w10.frozen? ⟨pb, j, none⟩ = false := fun j => by rw [blk_frozen HT10.out.bp]; simp
      have HT11 := Lib.hid (HT10.out.set (j := 3) (x := .bool true) (p' := ⟨k, .slice io il ic, .slice bo bl bc, true⟩) rfl)
      have HI11 := Lib.hid ((HI9.out.kept HB10.out).set 3 (.bool true))
      have HE11 := Lib.hid ((HE9.out.kept HB10.out).set 3 (.bool true))
      have k5 : IntKind.i64.wrap ((k : Int) + 2) = ((k + 2 : Nat) : Int) := by have := HK3.out; rw [IntKind.wrap_i64]; omega
      clear p1 p3 HEC HOE HBE HSI9 HSE9 HCP
      go_wp2_with fail
      go_loopw [10] (fun vd W => ∃ (j : Nat) (bt : Bool), k + 2 ≤ j ∧ j ≤ 4 ∧ vd = .int .i64 (j : Int) ∧ Hid (bt = botTo A k f2 g2 j) ∧ Hid (PdSt w d pb ⟨k, .slice io il ic, .slice bo bl bc, bt⟩ W) ∧ Hid (Rw W (w.heap.size + 2) pb (.slice io il ic) (inK A k)) ∧ Hid (Rw W (w.heap.size + 2) pb (.slice bo bl bc) (belowK A k))) (fun vd _ => 4 - (intOf vd).toNat)
      case atStart => exact ⟨k + 2, true, Nat.le_refl _, by have := HK3.out; omega, by first | rfl | trivial, Lib.hid (botTo_start _ _ _ _).symm, HT11, HI11, HE11⟩
      case round =>
        obtain ⟨j, bt, hj1, hj, rfl, HBT, HT12, HI12, HE12⟩ := hrel
        clear p0 p4 pf
        have hbv := HT12.out.bv
        have d0 : wr.cell? ⟨w.heap.size, 0, none⟩ = some (d.l) := (blk_cell hbv 0).trans rfl
        have d1 : wr.cell? ⟨w.heap.size, 1, none⟩ = some (.int .u64 (d.log.toNat : Int)) := (blk_cell hbv 1).trans rfl
        have d2 : wr.cell? ⟨w.heap.size, 2, none⟩ = some (.int .u64 (d.seq.toNat : Int)) := (blk_cell hbv 2).trans rfl
        have d3 : wr.cell? ⟨w.heap.size, 3, none⟩ = some (.int .u64 (d.nxt.toNat : Int)) := (blk_cell hbv 3).trans rfl
        by_cases hj4 : j < 4
        · have HJ4 := Lib.hid hj4
          have HJ1 := Lib.hid hj1
          have k6 : (j : Int) < 4 := by omega
          have k7 : IntKind.i64.wrap ((j : Int) + 1) = (j : Int) + 1 := by rw [IntKind.wrap_i64]; omega
          have HC := Lib.hid (HOC.out wr j f2 g2 HT12.out.bel HFG2.out.1 HFG2.out.2)
          clear hbv hj4 hj1 hj
          go_wp2_with fail
          refine HC.out.mono ?_
          rintro e w13 ⟨vx, rfl, hox, hb13⟩
          obtain ⟨xo, xc, hvx⟩ := owns_slice1 hox
          subst hvx
          obtain ⟨xl, hxl⟩ : ∃ n, n = (overL (A j) f2 g2).length := ⟨_, rfl⟩
          have HXL := Lib.hid hxl
          rw [← hxl]
          have HT13 := Lib.hid (HT12.out.kept hb13)
          have HI13 := Lib.hid (HI12.out.kept hb13)
          have HE13 := Lib.hid (HE12.out.kept hb13)
          have HNB := Lib.hid (botTo_next A k f2 g2 HJ1.out)
          clear hox hb13 hxl d0 d1 d2 d3 HC
          by_cases hx0 : 0 < xl
          · have HBF := Lib.hid (show false = botTo A k f2 g2 (j + 1) from by rw [HNB.out, ← HXL.out, show decide (xl = 0) = false from by rw [decide_eq_false_iff_not]; omega, Bool.and_false])
            have r1 : (0 : Int) < (xl : Int) := by omega
            have p4 : w13.cell? ⟨pb, 3, none⟩ = some (.bool bt) := (blk_cell HT13.out.bp 3).trans rfl
            have pf : ∀ j, w13.frozen? ⟨pb, j, none⟩ = false := fun j => by rw [blk_frozen HT13.out.bp]; simp
            have HT14 := Lib.hid (HT13.out.set (j := 3) (x := .bool false) (p' := ⟨k, .slice io il ic, .slice bo bl bc, false⟩) rfl)
            clear hx0
            go_wp2_with fail
            go_roundw
            case rel => exact ⟨j + 1, false, by have := HJ1.out; omega, HJ4.out, by first | rfl | (congr 1), HBF, HT14, Lib.hid (HI13.out.set 3 _), Lib.hid (HE13.out.set 3 _)⟩
            case measure => simp [intOf]; have := HJ4.out; omega
          · have HBF := Lib.hid (show bt = botTo A k f2 g2 (j + 1) from by rw [HNB.out, ← HXL.out, show decide (xl = 0) = true from by rw [decide_eq_true_eq]; omega, Bool.and_true]; exact HBT.out)
            have r1 : ¬ (0 : Int) < (xl : Int) := by omega
            clear hx0
            go_wp2_with fail
            go_roundw
            case rel => exact ⟨j + 1, bt, by have := HJ1.out; omega, HJ4.out, by first | rfl | (congr 1), HBF, HT13, HI13, HE13⟩
            case measure => simp [intOf]; have := HJ4.out; omega
        · have hj4' : j = 4 := by omega
          subst hj4'
          have k6 : ¬ (4 : Int) < 4 := by omega
          have p0 : wr.cell? ⟨pb, 0, none⟩ = some (.int .i64 (k : Int)) := (blk_cell HT12.out.bp 0).trans rfl
          have p1 : wr.cell? ⟨pb, 1, none⟩ = some (.slice io il ic) := (blk_cell HT12.out.bp 1).trans rfl
          have p2 : wr.cell? ⟨pb, 2, none⟩ = some (.slice bo bl bc) := (blk_cell HT12.out.bp 2).trans rfl
          have p3 : wr.cell? ⟨pb, 3, none⟩ = some (.bool bt) := (blk_cell HT12.out.bp 3).trans rfl
          have hbr := HT12.out.br
          have r0 : wr.cell? ⟨w.heap.size + 1, 0, none⟩ = some (.int .i64 0) := (blk_cell hbr 0).trans rfl
          have r1 : wr.cell? ⟨w.heap.size + 1, 1, none⟩ = some (.slice none 0 0) := (blk_cell hbr 1).trans rfl
          have r2 : wr.cell? ⟨w.heap.size + 1, 2, none⟩ = some (.slice none 0 0) := (blk_cell hbr 2).trans rfl
          have r3 : wr.cell? ⟨w.heap.size + 1, 3, none⟩ = some (.bool false) := (blk_cell hbr 3).trans rfl
          have rf : ∀ j, wr.frozen? ⟨w.heap.size + 1, j, none⟩ = false := fun j => by rw [blk_frozen hbr]; simp
          have HP := Lib.hid (box_putQ hbr rfl ⟨k, .slice io il ic, .slice bo bl bc, bt⟩)
          have HBF := Lib.hid (below_put4 HT12.out.bel (b := w.heap.size + 1) (Nat.le_succ _) ⟨k, .slice io il ic, .slice bo bl bc, bt⟩)
          have HI13 := Lib.hid ((HI12.out.put4 (b0 := w.heap.size + 1) (by omega) ⟨k, .slice io il ic, .slice bo bl bc, bt⟩).hi.mono (Nat.le_add_right _ 2))
          have HE13 := Lib.hid ((HE12.out.put4 (b0 := w.heap.size + 1) (by omega) ⟨k, .slice io il ic, .slice bo bl bc, bt⟩).hi.mono (Nat.le_add_right _ 2))
          have HBO := Lib.hid (show bt = botK A k from by rw [HBT.out, HF2.out, HG2.out]; rfl)
          clear hbv hbr hj4 hj1 hj d0 d1 d2 d3
          go_wp2_with fail
          exact bodyPost_ret (v := .tuple #[encPn ⟨k, .slice io il ic, .slice bo bl bc, bt⟩, .bool true]) (results_row_tmp Tryd.results13 _ _ (w.heap.size + 1) TQn _ (0, 0) _ _ rfl rfl HP.out Tryd.underlying47 rfl (by kernel_rfl)) rfl ⟨⟨k, .slice io il ic, .slice bo bl bc, bt⟩, true, rfl, HBF.out, fun k' hk => (by
            rw [HK.out] at hk
            injection hk with hk
            subst hk
            exact ⟨rfl, rfl, HBO.out, HI13.out, HE13.out⟩), fun h => (by rw [HK.out] at h; cases h)⟩
end Go.Proofs.Tryd.Vr
