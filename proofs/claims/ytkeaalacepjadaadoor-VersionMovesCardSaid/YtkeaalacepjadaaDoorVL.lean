/- VL: texts put together: Vp4 Vy2 Vy3. -/
import Derived.Test.YtkeaalacepjadaaDoorVH
import Derived.Test.YtkeaalacepjadaaDoorVp2
import Derived.Test.YtkeaalacepjadaaDoorVJ
import Derived.Test.YtkeaalacepjadaaDoorVI
import Derived.Test.YtkeaalacepjadaaDoorVv3
/- Edits done: Apply. -/
set_option linter.unusedVariables false
set_option linter.unusedSimpArgs false
set_option maxRecDepth 100000
namespace Go.Proofs.Tryd.Vr
open Go.RowKit Go.Cph Go.Cph.Skip Go.Cph.So Go.Cph.Ve
open Go.Proofs.Tryd.Sq (row_kept1 grown_below grown_set encU encU_len TU TUs infoU)

abbrev putZ (w : World) (b : Nat) : World := ((((((w.setCell ⟨b, 0, none⟩ (.slice none 0 0)).setCell ⟨b, 1, none⟩ (.slice none 0 0)).setCell ⟨b, 2, none⟩ (.slice none 0 0)).setCell ⟨b, 3, none⟩ (.slice none 0 0)).setCell ⟨b, 4, none⟩ (.int .u64 0)).setCell ⟨b, 5, none⟩ (.int .u64 0)).setCell ⟨b, 6, none⟩ (.int .u64 0)
theorem box_putZ {w : World} {b : Nat} (h : w.heap[b]? = some boxZ) : (putZ w b).heap[b]? = some boxZ := by
  rw [blk_set (blk_set (blk_set (blk_set (blk_set (blk_set (blk_set h 0 _) 1 _) 2 _) 3 _) 4 _) 5 _) 6 _]
  rfl
theorem below_putZ {B : Nat} {a w : World} (h : Below B a w) {b : Nat} (hb : B ≤ b) : Below B a (putZ w b) :=
  ((((((h.setCell (p := ⟨b, 0, none⟩) hb _).setCell (p := ⟨b, 1, none⟩) hb _).setCell (p := ⟨b, 2, none⟩) hb _).setCell (p := ⟨b, 3, none⟩) hb _).setCell (p := ⟨b, 4, none⟩) hb _).setCell (p := ⟨b, 5, none⟩) hb _).setCell (p := ⟨b, 6, none⟩) hb _
theorem encV_zero : encV zVn = zeroV := rfl

set_option maxHeartbeats 16000000 in
theorem apply_any (v : Vn) (lv : Nat → List Tb) (L : List Tb) (av : Value) (es : List Es) (ds : List Ed) (r : Int × List Tb × Nm) (w : World) (h : VerAt w v lv) (hn : (tabs lv).length ≤ 1000000) (hE : EdsAt w av es ds)
    (hR : RightV lv v.log v.seq v.nxt → Rel lv L (v.log, v.seq, v.nxt) ∧ r = editsD L (v.log, v.seq, v.nxt) ds) (hW : ¬ RightV lv v.log v.seq v.nxt → r = (1, [], 0, 0, 0))
    (hs : L.length + sumA ds ≤ 100000) (hd : ∀ d ∈ ds, d.2.1.length ≤ 100000) (hdn : ds.length ≤ 100000) :
    Calls Tryd.prog 9 #[encV v, av] w (ApplyPost r w) := by
  obtain ⟨ao, cap, hav⟩ := elems_slice hE.row
  rw [hE.len] at hav
  have HE := Lib.hid hE
  have hb2 := bel2 (w := w) (boxV v) boxZ
  have HB2 := Lib.hid hb2
  have hx2 : ((w.alloc (boxV v)).alloc boxZ).heap[w.heap.size]? = some (boxV v) := blk_alloc (heap_alloc_new _ _) _
  have hz2 : ((w.alloc (boxV v)).alloc boxZ).heap[w.heap.size + 1]? = some boxZ := alloc2_new w (boxV v) boxZ
  have HX2 := Lib.hid hx2
  have HZ2 := Lib.hid hz2
  have HV := Lib.hid h
  have HR := Lib.hid hR
  have HWR := Lib.hid hW
  have HS := Lib.hid hs
  have HD := Lib.hid hd
  have HDN := Lib.hid hdn
  have HAV := Lib.hid hav
  have hlen : ∀ k, k < 4 → (lv k).length ≤ 1000000 := fun k hk => by
    rw [tabs_eq] at hn
    simp only [List.length_append] at hn
    rcases (show k = 0 ∨ k = 1 ∨ k = 2 ∨ k = 3 by omega) with rfl | rfl | rfl | rfl <;> omega
  have HLEN := Lib.hid hlen
  have HC := Lib.hid (verRight_any v lv ((w.alloc (boxV v)).alloc boxZ) (h.kept hb2) hn)
  have d0 : ((w.alloc (boxV v)).alloc boxZ).cell? ⟨w.heap.size, 0, none⟩ = some (v.s0) := by rw [blk_cell hx2]; rfl
  have d1 : ((w.alloc (boxV v)).alloc boxZ).cell? ⟨w.heap.size, 1, none⟩ = some (v.s1) := by rw [blk_cell hx2]; rfl
  have d2 : ((w.alloc (boxV v)).alloc boxZ).cell? ⟨w.heap.size, 2, none⟩ = some (v.s2) := by rw [blk_cell hx2]; rfl
  have d3 : ((w.alloc (boxV v)).alloc boxZ).cell? ⟨w.heap.size, 3, none⟩ = some (v.s3) := by rw [blk_cell hx2]; rfl
  have d4 : ((w.alloc (boxV v)).alloc boxZ).cell? ⟨w.heap.size, 4, none⟩ = some (.int .u64 (v.log.toNat : Int)) := by rw [blk_cell hx2]; rfl
  have d5 : ((w.alloc (boxV v)).alloc boxZ).cell? ⟨w.heap.size, 5, none⟩ = some (.int .u64 (v.seq.toNat : Int)) := by rw [blk_cell hx2]; rfl
  have d6 : ((w.alloc (boxV v)).alloc boxZ).cell? ⟨w.heap.size, 6, none⟩ = some (.int .u64 (v.nxt.toNat : Int)) := by rw [blk_cell hx2]; rfl
  rw [hav]
  clear h hn hE hR hW hs hd hdn hav hlen hb2 hx2 hz2
  go_enter Tryd.func9, Tryd.ntmps9
  go_wp2_with fail
  refine HC.out.mono ?_
  rintro e w3 ⟨rb, rfl, hrb, hb3⟩
  have HRB := Lib.hid hrb
  have HB3 := Lib.hid (below_step HB2.out hb3 HB2.out.size)
  have hx3 := blk_kept hb3 HX2.out
  have hz3 := blk_kept hb3 HZ2.out
  have HX3 := Lib.hid hx3
  have HZ3 := Lib.hid hz3
  clear HC hrb hb3 d0 d1 d2 d3 d4 d5 d6
  cases rb
  · have hrr := HWR.out fun g => (by have := HRB.out.2 g; cases this)
    subst hrr
    have z0 : w3.cell? ⟨w.heap.size + 1, 0, none⟩ = some (.slice none 0 0) := by rw [blk_cell hz3]; rfl
    have z1 : w3.cell? ⟨w.heap.size + 1, 1, none⟩ = some (.slice none 0 0) := by rw [blk_cell hz3]; rfl
    have z2 : w3.cell? ⟨w.heap.size + 1, 2, none⟩ = some (.slice none 0 0) := by rw [blk_cell hz3]; rfl
    have z3 : w3.cell? ⟨w.heap.size + 1, 3, none⟩ = some (.slice none 0 0) := by rw [blk_cell hz3]; rfl
    have z4 : w3.cell? ⟨w.heap.size + 1, 4, none⟩ = some (.int .u64 0) := by rw [blk_cell hz3]; rfl
    have z5 : w3.cell? ⟨w.heap.size + 1, 5, none⟩ = some (.int .u64 0) := by rw [blk_cell hz3]; rfl
    have z6 : w3.cell? ⟨w.heap.size + 1, 6, none⟩ = some (.int .u64 0) := by rw [blk_cell hz3]; rfl
    have fz : ∀ j, w3.frozen? ⟨w.heap.size + 1, j, none⟩ = false := fun j => by rw [blk_frozen hz3]; simp
    have HP := Lib.hid (box_putZ hz3)
    have HBP := Lib.hid (below_putZ HB3.out (Nat.le_succ w.heap.size))
    clear hx3 hz3
    go_wp2_with fail
    exact bodyPost_ret (v := .tuple #[zeroV, .int .i64 1]) (results_row_tmp Tryd.results9 _ _ (w.heap.size + 1) TVn _ (0, 0) _ _ rfl rfl HP.out Tryd.underlying29 rfl (by kernel_rfl)) rfl ⟨zVn, fun _ => [], rfl, own_zero _ _, rfl, HBP.out, fun h => absurd h (by decide), fun _ => ⟨rfl, rfl⟩⟩
  · obtain ⟨hrel, hrr⟩ := HR.out (HRB.out.1 (by first | rfl | trivial))
    subst hrr
    have HREL := Lib.hid hrel
    have HC := Lib.hid (own_any v lv w3 (HV.out.kept HB3.out) HLEN.out)
    have d0 : w3.cell? ⟨w.heap.size, 0, none⟩ = some (v.s0) := by rw [blk_cell hx3]; rfl
    have d1 : w3.cell? ⟨w.heap.size, 1, none⟩ = some (v.s1) := by rw [blk_cell hx3]; rfl
    have d2 : w3.cell? ⟨w.heap.size, 2, none⟩ = some (v.s2) := by rw [blk_cell hx3]; rfl
    have d3 : w3.cell? ⟨w.heap.size, 3, none⟩ = some (v.s3) := by rw [blk_cell hx3]; rfl
    have d4 : w3.cell? ⟨w.heap.size, 4, none⟩ = some (.int .u64 (v.log.toNat : Int)) := by rw [blk_cell hx3]; rfl
    have d5 : w3.cell? ⟨w.heap.size, 5, none⟩ = some (.int .u64 (v.seq.toNat : Int)) := by rw [blk_cell hx3]; rfl
    have d6 : w3.cell? ⟨w.heap.size, 6, none⟩ = some (.int .u64 (v.nxt.toNat : Int)) := by rw [blk_cell hx3]; rfl
    have HN3 := Lib.hid (show w.heap.size + 1 < w3.heap.size from blk_lt hz3)
    clear hrel hx3 hz3
    go_wp2_with fail
    refine HC.out.mono ?_
    rintro e w4 ⟨v1, rfl, ho4, hg1, hg2, hg3, hb4⟩
    obtain ⟨x0, x1, x2, x3, lg, sq, nx⟩ := v1
    obtain ⟨a0, c0, e0⟩ := owns_slice1 (ho4.own 0 (by omega))
    obtain ⟨a1, c1, e1⟩ := owns_slice1 (ho4.own 1 (by omega))
    obtain ⟨a2, c2, e2⟩ := owns_slice1 (ho4.own 2 (by omega))
    obtain ⟨a3, c3, e3⟩ := owns_slice1 (ho4.own 3 (by omega))
    dsimp only [Vn.lev] at e0 e1 e2 e3
    subst e0 e1 e2 e3
    dsimp only at hg1 hg2 hg3
    subst hg1 hg2 hg3
    have hst : ApSt w w3 w4.heap.size (w.heap.size + 1) ⟨.slice a0 (lv 0).length c0, .slice a1 (lv 1).length c1, .slice a2 (lv 2).length c2, .slice a3 (lv 3).length c3, v.log, v.seq, v.nxt⟩ lv (w4.alloc (boxV ⟨.slice a0 (lv 0).length c0, .slice a1 (lv 1).length c1, .slice a2 (lv 2).length c2, .slice a3 (lv 3).length c3, v.log, v.seq, v.nxt⟩)) :=
      ⟨heap_alloc_new _ _, ho4.kept (below_of_alloc _), fun k hk e => by have := ((ho4.own k hk).lt _ e).2; omega, blk_alloc (blk_kept hb4 HZ3.out) _, HN3.out, hb4.alloc hb4.size _⟩
    have HST := Lib.hid hst
    have hin : ApInv L (v.log, v.seq, v.nxt) ds 0 L ⟨.slice a0 (lv 0).length c0, .slice a1 (lv 1).length c1, .slice a2 (lv 2).length c2, .slice a3 (lv 3).length c3, v.log, v.seq, v.nxt⟩ lv := ⟨rfl, HREL.out, HS.out⟩
    have HIN := Lib.hid hin
    have HB4 := Lib.hid hb4.size
    clear ho4 hb4 hst hin HC d0 d1 d2 d3 d4 d5 d6
    go_wp2_with fail
    go_loopw [18] (fun vi W => ∃ (i : Nat) (M : List Tb) (u : Vn) (A : Nat → List Tb), i ≤ ds.length ∧ vi = .int .i64 (i : Int) ∧ Hid (ApInv L (v.log, v.seq, v.nxt) ds i M u A) ∧ Hid (ApSt w w3 w4.heap.size (w.heap.size + 1) u A W)) (fun vi _ => ds.length - (intOf vi).toNat)
    case atStart => exact ⟨0, L, _, lv, Nat.zero_le _, rfl, HIN, HST⟩
    case round =>
      obtain ⟨i, M, u, A, hi, rfl, HI, HT⟩ := hrel
      clear HIN HST
      have HE4 := Lib.hid (HE.out.kept (below_step HB3.out (HT.out.bel) HB3.out.size))
      by_cases hlt : i < ds.length
      · have hrow := HE4.out.row
        rw [HAV.out] at hrow
        obtain ⟨eb, eoff, ecap, hve, hcs⟩ := elems_shape encEc_len hrow (by rw [HE.out.len]; omega)
        injection hve with hx1 hx2 hx3
        subst hx1
        have hle : i < es.length := by rw [HE.out.len]; omega
        have hcx := hcs i hle
        obtain ⟨x, hx⟩ : ∃ x, x = es[i] := ⟨_, rfl⟩
        have hat := HE.out.at' i hle hlt
        rw [← hx] at hcx hat
        obtain ⟨ea, edr, el, eq, en⟩ := x
        obtain ⟨tao, tc, hta⟩ := elems_slice hat.add
        obtain ⟨dao, dc, hda⟩ := elems_slice hat.drop
        dsimp only at hta hda
        subst hta hda
        obtain ⟨d, hd⟩ : ∃ d, d = ds[i] := ⟨_, rfl⟩
        have HDE := Lib.hid hd
        rw [← hd] at hat hcx
        have HAT := Lib.hid hat
        have b0 : wr.cell? ⟨eb, eoff + i * 5, none⟩ = some (.slice tao d.1.length tc) := hcx 0 (by omega)
        have b1 : wr.cell? ⟨eb, eoff + i * 5 + 1, none⟩ = some (.slice dao d.2.1.length dc) := hcx 1 (by omega)
        have b2 : wr.cell? ⟨eb, eoff + i * 5 + 2, none⟩ = some (.int .u64 (el.toNat : Int)) := hcx 2 (by omega)
        have b3 : wr.cell? ⟨eb, eoff + i * 5 + 3, none⟩ = some (.int .u64 (eq.toNat : Int)) := hcx 3 (by omega)
        have b4 : wr.cell? ⟨eb, eoff + i * 5 + 4, none⟩ = some (.int .u64 (en.toNat : Int)) := hcx 4 (by omega)
        have j1 : (0 : Int) ≤ (i : Int) := by omega
        have j2 : (i : Int) < (ds.length : Int) := by omega
        have j4 : IntKind.i64.wrap ((i : Int) + 1) = (i : Int) + 1 := by have := HDN.out; rw [IntKind.wrap_i64]; omega
        have HSM := Lib.hid (sum_drop hlt)
        have hT2 := HT.out.kept (below_of_alloc (boxE ⟨.slice tao d.1.length tc, .slice dao d.2.1.length dc, el, eq, en⟩))
        have HT2 := Lib.hid hT2
        have HC := Lib.hid (do_any (w0 := w3) (base := w3.heap.size) (b := w4.heap.size) ⟨.slice tao d.1.length tc, .slice dao d.2.1.length dc, el, eq, en⟩ d u A M _ hT2.box hT2.own hT2.far (hat.kept HB3.out) (Nat.le_refl _) hT2.bel HB4.out HI.out.2.1 (by have := HI.out.2.2; have := HSM.out; rw [← hd] at this; omega) (HD.out d (by rw [hd]; exact List.getElem_mem _)))
        have HLT := Lib.hid hlt
        clear hrow hx2 hx3 hcs hcx hx hat hd hT2
        go_wp2_with fail
        clear b0 b1 b2 b3 b4
        refine HC.out.mono ?_
        rintro e w6 ⟨rfl, hb6, hok⟩
        have HB6 := Lib.hid hb6
        have HOK := Lib.hid hok
        have hz6 : w6.heap[w.heap.size + 1]? = some boxZ := blk_below hb6 HT2.out.hc HN3.out
        have HZ6 := Lib.hid hz6
        obtain ⟨z, hz⟩ : ∃ z, z = (doD M (u.log, u.seq, u.nxt) d).1 := ⟨_, rfl⟩
        rw [← hz]
        have HZ := Lib.hid hz
        clear HC hb6 hok hz
        by_cases hz0 : z = 0
        · obtain ⟨u', A', g1, g2, g3, g4, g5⟩ := HOK.out (by rw [← HZ.out]; exact hz0)
          subst hz0
          have HS2 := Lib.hid (show ApSt w w3 w4.heap.size (w.heap.size + 1) u' A' w6 from ⟨g1, g2, g3, HZ6.out, HN3.out, HT2.out.bel.trans HB6.out⟩)
          have HI2 := Lib.hid (show ApInv L (v.log, v.seq, v.nxt) ds (i + 1) (doD M (u.log, u.seq, u.nxt) d).2.1 u' A' from by
            refine ⟨?_, by rw [g4]; exact g5, ?_⟩
            · rw [edits_next HLT.out HI.out.1, ← HDE.out, g4]
              exact Prod.ext HZ.out.symm rfl
            · have h1 := doD_len M (u.log, u.seq, u.nxt) d
              have h2 := HSM.out
              rw [← HDE.out] at h2
              have h3 := HI.out.2.2
              omega)
          clear g1 g2 g3 g4 g5 hz6
          go_wp2_with fail
          go_roundw
          case rel => exact ⟨i + 1, _, u', A', hlt, by first | rfl | (congr 1), HI2, HS2⟩
          case measure => simp [intOf]; omega
        · have hzb : (z != 0) = true := by simpa using hz0
          have HR6 := Lib.hid (show editsD L (v.log, v.seq, v.nxt) ds = (z, [], 0, 0, 0) from by
            rw [edits_stop HLT.out HI.out.1 (by rw [← HDE.out, ← HZ.out]; exact hz0), ← HDE.out]
            exact Prod.ext HZ.out.symm (doD_bad (by rw [← HZ.out]; exact hz0)))
          have HNZ := Lib.hid hz0
          have z0 : w6.cell? ⟨w.heap.size + 1, 0, none⟩ = some (.slice none 0 0) := by rw [blk_cell hz6]; rfl
          have z1 : w6.cell? ⟨w.heap.size + 1, 1, none⟩ = some (.slice none 0 0) := by rw [blk_cell hz6]; rfl
          have z2 : w6.cell? ⟨w.heap.size + 1, 2, none⟩ = some (.slice none 0 0) := by rw [blk_cell hz6]; rfl
          have z3 : w6.cell? ⟨w.heap.size + 1, 3, none⟩ = some (.slice none 0 0) := by rw [blk_cell hz6]; rfl
          have z4 : w6.cell? ⟨w.heap.size + 1, 4, none⟩ = some (.int .u64 0) := by rw [blk_cell hz6]; rfl
          have z5 : w6.cell? ⟨w.heap.size + 1, 5, none⟩ = some (.int .u64 0) := by rw [blk_cell hz6]; rfl
          have z6 : w6.cell? ⟨w.heap.size + 1, 6, none⟩ = some (.int .u64 0) := by rw [blk_cell hz6]; rfl
          have fz : ∀ j, w6.frozen? ⟨w.heap.size + 1, j, none⟩ = false := fun j => by rw [blk_frozen hz6]; simp
          have HP := Lib.hid (box_putZ hz6)
          have HBP := Lib.hid (below_putZ (below_step HB3.out (HT2.out.bel.trans HB6.out) HB3.out.size) (Nat.le_succ w.heap.size))
          clear hz6 hz0
          go_wp2_with fail
          exact bodyPost_ret (v := .tuple #[zeroV, .int .i64 z]) (results_row_tmp Tryd.results9 _ _ (w.heap.size + 1) TVn _ (0, 0) _ _ rfl rfl HP.out Tryd.underlying29 rfl (by kernel_rfl)) rfl ⟨zVn, fun _ => [], by rw [HR6.out]; rfl, own_zero _ _, by rw [HR6.out]; rfl, HBP.out, fun h => by rw [HR6.out] at h; exact absurd h HNZ.out, fun _ => ⟨rfl, rfl⟩⟩
      · have hil : i = ds.length := by omega
        subst hil
        have i1 : ¬ (ds.length : Int) < (ds.length : Int) := by omega
        have hq := HT.out
        obtain ⟨x0, x1, x2, x3, lg, sq, nx⟩ := u
        obtain ⟨a0, c0, e0⟩ := owns_slice1 (hq.own.own 0 (by omega))
        obtain ⟨a1, c1, e1⟩ := owns_slice1 (hq.own.own 1 (by omega))
        obtain ⟨a2, c2, e2⟩ := owns_slice1 (hq.own.own 2 (by omega))
        obtain ⟨a3, c3, e3⟩ := owns_slice1 (hq.own.own 3 (by omega))
        dsimp only [Vn.lev] at e0 e1 e2 e3
        subst e0 e1 e2 e3
        have hx := hq.box
        have hz := hq.hc
        have d0 : wr.cell? ⟨w4.heap.size, 0, none⟩ = some (.slice a0 (A 0).length c0) := by rw [blk_cell hx]; rfl
        have d1 : wr.cell? ⟨w4.heap.size, 1, none⟩ = some (.slice a1 (A 1).length c1) := by rw [blk_cell hx]; rfl
        have d2 : wr.cell? ⟨w4.heap.size, 2, none⟩ = some (.slice a2 (A 2).length c2) := by rw [blk_cell hx]; rfl
        have d3 : wr.cell? ⟨w4.heap.size, 3, none⟩ = some (.slice a3 (A 3).length c3) := by rw [blk_cell hx]; rfl
        have d4 : wr.cell? ⟨w4.heap.size, 4, none⟩ = some (.int .u64 (lg.toNat : Int)) := by rw [blk_cell hx]; rfl
        have d5 : wr.cell? ⟨w4.heap.size, 5, none⟩ = some (.int .u64 (sq.toNat : Int)) := by rw [blk_cell hx]; rfl
        have d6 : wr.cell? ⟨w4.heap.size, 6, none⟩ = some (.int .u64 (nx.toNat : Int)) := by rw [blk_cell hx]; rfl
        have z0 : wr.cell? ⟨w.heap.size + 1, 0, none⟩ = some (.slice none 0 0) := by rw [blk_cell hz]; rfl
        have z1 : wr.cell? ⟨w.heap.size + 1, 1, none⟩ = some (.slice none 0 0) := by rw [blk_cell hz]; rfl
        have z2 : wr.cell? ⟨w.heap.size + 1, 2, none⟩ = some (.slice none 0 0) := by rw [blk_cell hz]; rfl
        have z3 : wr.cell? ⟨w.heap.size + 1, 3, none⟩ = some (.slice none 0 0) := by rw [blk_cell hz]; rfl
        have z4 : wr.cell? ⟨w.heap.size + 1, 4, none⟩ = some (.int .u64 0) := by rw [blk_cell hz]; rfl
        have z5 : wr.cell? ⟨w.heap.size + 1, 5, none⟩ = some (.int .u64 0) := by rw [blk_cell hz]; rfl
        have z6 : wr.cell? ⟨w.heap.size + 1, 6, none⟩ = some (.int .u64 0) := by rw [blk_cell hz]; rfl
        have fz : ∀ j, wr.frozen? ⟨w.heap.size + 1, j, none⟩ = false := fun j => by rw [blk_frozen hz]; simp
        have HP := Lib.hid (box_put7 hz (by rfl) (⟨.slice a0 (A 0).length c0, .slice a1 (A 1).length c1, .slice a2 (A 2).length c2, .slice a3 (A 3).length c3, lg, sq, nx⟩ : Vn))
        have HQ := Lib.hid (hq.own.keep (w' := put7 wr (w.heap.size + 1) (⟨.slice a0 (A 0).length c0, .slice a1 (A 1).length c1, .slice a2 (A 2).length c2, .slice a3 (A 3).length c3, lg, sq, nx⟩ : Vn)) (some (w.heap.size + 1)) (grown_put7 _ _ _) fun k hk p hp e => by
          have := (hq.own.own k hk).lt p hp
          have e2 : w.heap.size + 1 = p := by injection e
          have := HN3.out
          omega)
        have HBP := Lib.hid (below_put7 (below_step HB3.out hq.bel HB3.out.size) (Nat.le_succ w.heap.size) (⟨.slice a0 (A 0).length c0, .slice a1 (A 1).length c1, .slice a2 (A 2).length c2, .slice a3 (A 3).length c3, lg, sq, nx⟩ : Vn))
        have HEQ := Lib.hid (show editsD L (v.log, v.seq, v.nxt) ds = (0, M, lg, sq, nx) from by have := HI.out.1; rwa [List.take_length] at this)
        have HNN := Lib.hid (show w.heap.size ≤ w3.heap.size from by have := HN3.out; omega)
        clear hq hx hz
        go_wp2_with fail
        exact bodyPost_ret (v := .tuple #[encV (⟨.slice a0 (A 0).length c0, .slice a1 (A 1).length c1, .slice a2 (A 2).length c2, .slice a3 (A 3).length c3, lg, sq, nx⟩ : Vn), .int .i64 0]) (results_row_tmp Tryd.results9 _ _ (w.heap.size + 1) TVn _ (0, 0) _ _ rfl rfl HP.out Tryd.underlying29 rfl (by kernel_rfl)) rfl ⟨(⟨.slice a0 (A 0).length c0, .slice a1 (A 1).length c1, .slice a2 (A 2).length c2, .slice a3 (A 3).length c3, lg, sq, nx⟩ : Vn), A, by rw [HEQ.out], ⟨fun k hk => owns_mono (HQ.out.own k hk) HNN.out, HQ.out.dif⟩, by rw [HEQ.out], HBP.out, fun _ => by rw [HEQ.out]; exact HI.out.2.1, fun h => absurd (by rw [HEQ.out]) h⟩
end Go.Proofs.Tryd.Vr

/- The laws' awake. -/
set_option linter.unusedVariables false
set_option linter.unusedSimpArgs false
set_option maxRecDepth 100000
namespace Go.Proofs.Tryd.Vr
open Go.RowKit Go.Cph Go.Cph.Skip Go.Cph.So Go.Cph.Ve
open Go.Proofs.Tryd.Sq (row_kept1 grown_below grown_set encU encU_len TU TUs infoU)


set_option maxHeartbeats 4000000 in
theorem tableZ_any (n : Int) (l : Int) (f g : ByteArray) (w : World) : Calls Tryd.prog 20 #[.int .u64 n, .int .i64 l, .string f, .string g] w fun e w' => e = .returned (.agg #[.int .u64 n, .int .i64 l, .int .i64 2, .int .i64 100, .string f, .string g, .int .u64 1, .int .u64 9]) ∧ Below w.heap.size w w' := by
  have HB := Lib.hid (below_of_alloc (w := w) (.cells #[.int .u64 n, .int .i64 l, .int .i64 2, .int .i64 100, .string f, .string g, .int .u64 1, .int .u64 9] TE (0, 0)))
  have HP := Lib.hid (heap_alloc_new w (.cells #[.int .u64 n, .int .i64 l, .int .i64 2, .int .i64 100, .string f, .string g, .int .u64 1, .int .u64 9] TE (0, 0)))
  go_enter Tryd.func20, Tryd.ntmps20
  go_wp2_with fail
  exact bodyPost_ret (v := .agg #[.int .u64 n, .int .i64 l, .int .i64 2, .int .i64 100, .string f, .string g, .int .u64 1, .int .u64 9]) (results_cell_row Tryd.results20 _ _ w.heap.size TE _ (0, 0) _ rfl HP.out Tryd.underlying56 rfl (by kernel_rfl)) rfl ⟨rfl, HB.out⟩
def tb1 : Tb := (1, 0, 2, 100, ⟨#[97]⟩, ⟨#[99]⟩, 1, 9)
def tb2 : Tb := (2, 0, 2, 100, ⟨#[98]⟩, ⟨#[100]⟩, 1, 9)
def ed1 : Ed := ([tb1], [], 0, 9, 2)
def ed2 : Ed := ([tb2], [], 0, 0, 3)
theorem awake_edits : editsD [] (0, 0, 1) [ed1, ed2] = (0, [tb1, tb2], 0, 9, 3) := by decide +kernel
theorem awake_tabs : tabs (levelD [tb1, tb2]) = [tb2, tb1] := by decide +kernel
theorem awake_find {A : Nat → List Tb} {m : Nm} (h : Rel A [tb1, tb2] m) : findL A ⟨#[99]⟩ = [tb2, tb1] := by
  have e : tabs A = tabs (levelD [tb1, tb2]) := by
    rw [tabs_eq, tabs_eq, h.level 0 (by omega), h.level 1 (by omega), h.level 2 (by omega), h.level 3 (by omega)]
  unfold findL
  rw [e, awake_tabs]
  decide +kernel
theorem seg_tb {W : World} {g : Nat} {t : Tb} (hh : W.heap[g]? = some (boxT t)) : TbsAt W (.slice (some ⟨g, 0, none⟩) 1 1) [t] := by
  refine ⟨⟨_, _, rfl, fun _ => ⟨g, 0, rfl, fun j hj => ?_⟩⟩, by simp [encC]⟩
  rw [Nat.zero_add, blk_cell hh]
  simp [encC]
theorem seg_rowG {W : World} {g size n : Nat} {us : List Value} {e : TypeId} (hh : W.heap[g]? = some (.cells us.toArray e (0, 0))) (hl : us.length = n * size) : Seg W size (.slice (some ⟨g, 0, none⟩) n n) n us := by
  refine ⟨⟨_, _, rfl, fun _ => ⟨g, 0, rfl, fun j hj => ?_⟩⟩, hl⟩
  rw [Nat.zero_add, blk_cell hh]
  simp
theorem new_at (w : World) : VerAt w nVn (fun _ => []) := ⟨Seg.nil w 8, Seg.nil w 8, Seg.nil w 8, Seg.nil w 8⟩

set_option maxHeartbeats 16000000 in
theorem awake_any (w : World) : Calls Tryd.prog 7 #[] w fun e w' => e = .returned (.bool true) ∧ Below w.heap.size w w' := by
  go_enter Tryd.func7, Tryd.ntmps7
  go_wp2_with fail
  refine (new_any _).mono ?_
  rintro e w1 ⟨rfl, hb1⟩
  have HB1 := Lib.hid hb1
  clear hb1
  go_wp2_with fail
  refine (tableZ_any _ _ _ _ _).mono ?_
  rintro e w2 ⟨rfl, hb2⟩
  have HB2 := Lib.hid (below_step HB1.out hb2 HB1.out.size)
  clear hb2
  go_wp2_with fail
  refine (tableZ_any _ _ _ _ _).mono ?_
  rintro e w3 ⟨rfl, hb3⟩
  have HG3 := Lib.hid (show w3.heap[w2.heap.size]? = some (boxT tb1) from blk_kept hb3 (heap_alloc_new w2 _))
  have HB3 := Lib.hid (below_step (HB2.out.alloc HB2.out.size _) hb3 (HB2.out.alloc HB2.out.size _).size)
  clear hb3
  have hx1 := HG3.out
  obtain ⟨W, hW⟩ : ∃ W, W = (w3.alloc (boxT tb2)).alloc (.cells #[.slice (some ⟨w2.heap.size, 0, none⟩) 1 1, .slice none 0 0, .int .u64 0, .int .u64 9, .int .u64 2, .slice (some ⟨w3.heap.size, 0, none⟩) 1 1, .slice none 0 0, .int .u64 0, .int .u64 0, .int .u64 3] TEd (0, 0)) := ⟨_, rfl⟩
  have g1 : W.heap[w2.heap.size]? = some (boxT tb1) := by rw [hW]; exact blk_alloc (blk_alloc HG3.out _) _
  have g2 : W.heap[w3.heap.size]? = some (boxT tb2) := by rw [hW]; exact blk_alloc (heap_alloc_new _ _) _
  have g3 : W.heap[w3.heap.size + 1]? = some (.cells ([(⟨.slice (some ⟨w2.heap.size, 0, none⟩) 1 1, .slice none 0 0, 0, 9, 2⟩ : Es), ⟨.slice (some ⟨w3.heap.size, 0, none⟩) 1 1, .slice none 0 0, 0, 0, 3⟩].flatMap encEc).toArray TEd (0, 0)) := by rw [hW]; exact alloc2_new _ _ _
  have hE : EdsAt W (.slice (some ⟨w3.heap.size + 1, 0, none⟩) 2 2) [⟨.slice (some ⟨w2.heap.size, 0, none⟩) 1 1, .slice none 0 0, 0, 9, 2⟩, ⟨.slice (some ⟨w3.heap.size, 0, none⟩) 1 1, .slice none 0 0, 0, 0, 3⟩] [ed1, ed2] := by
    refine ⟨rfl, seg_rowG g3 rfl, fun i h k => ?_⟩
    rcases (show i = 0 ∨ i = 1 by simp at h; omega) with rfl | rfl
    · exact ⟨seg_tb g1, Seg.nil _ _, rfl, fun a n c e => by cases e; omega⟩
    · exact ⟨seg_tb g2, Seg.nil _ _, rfl, fun a n c e => by cases e; omega⟩
  have hBW : Below w.heap.size w W := by rw [hW]; exact (HB3.out.alloc HB3.out.size _).alloc (HB3.out.alloc HB3.out.size _).size _
  have HBW := Lib.hid hBW
  have hdr : ∀ d ∈ [ed1, ed2], d.2.1.length ≤ 100000 := by
    intro d hd
    rcases List.mem_cons.1 hd with rfl | hd
    · decide
    · rw [List.mem_singleton] at hd; subst hd; decide
  have HC := Lib.hid (apply_any nVn (fun _ => []) [] _ _ [ed1, ed2] (0, [tb1, tb2], 0, 9, 3) W (new_at W) (by decide) hE (fun _ => ⟨rel_new, awake_edits.symm⟩) (fun h => absurd rel_new.rv h) (by decide) hdr (by decide))
  rw [hW] at HC
  have HW := Lib.hid hW
  clear hx1 g1 g2 g3 hE hBW hW hdr
  go_wp2_with fail
  refine HC.out.mono ?_
  rintro e w4 ⟨v, A, rfl, ho, hnm, hb4, hok, -⟩
  have HR := Lib.hid (hok rfl)
  have HN := Lib.hid (show RightV A v.log v.seq v.nxt from by
    have h := HR.out.rv
    injection hnm with h1 h2
    injection h2 with h2 h3
    rw [h1, h2, h3]
    exact h)
  have HB4 := Lib.hid (below_step HBW.out (show Below W.heap.size W w4 from by rw [HW.out]; exact hb4) HBW.out.size)
  have HO := Lib.hid ho
  clear HC HG3 HB1 HB2 HB3 hnm hb4 hok ho
  obtain ⟨x0, x1, x2, x3, lg, sq, nx⟩ := v
  obtain ⟨a0, c0, e0⟩ := owns_slice1 (HO.out.own 0 (by omega))
  obtain ⟨a1, c1, e1⟩ := owns_slice1 (HO.out.own 1 (by omega))
  obtain ⟨a2, c2, e2⟩ := owns_slice1 (HO.out.own 2 (by omega))
  obtain ⟨a3, c3, e3⟩ := owns_slice1 (HO.out.own 3 (by omega))
  dsimp only [Vn.lev] at e0 e1 e2 e3
  subst e0 e1 e2 e3
  have hvx := heap_alloc_new w4 (boxV ⟨.slice a0 (A 0).length c0, .slice a1 (A 1).length c1, .slice a2 (A 2).length c2, .slice a3 (A 3).length c3, lg, sq, nx⟩)
  have hAt := HO.out.at'.kept (below_of_alloc (w := w4) (boxV ⟨.slice a0 (A 0).length c0, .slice a1 (A 1).length c1, .slice a2 (A 2).length c2, .slice a3 (A 3).length c3, lg, sq, nx⟩))
  have HAT := Lib.hid hAt
  have hl : ∀ k, k < 4 → (A k).length ≤ 1000000 := fun k hk => by
    have := lvs_lens HR.out.lvs (N := 2) (by decide) k hk
    omega
  have hlt : (tabs A).length ≤ 1000000 := by
    have := lvs_tabs HR.out.lvs (N := 2) (by decide)
    omega
  have HC := Lib.hid (find_any _ A ⟨#[99]⟩ _ hAt hl)
  have HLT := Lib.hid hlt
  have HVX := Lib.hid hvx
  have d0 : (w4.alloc (boxV ⟨.slice a0 (A 0).length c0, .slice a1 (A 1).length c1, .slice a2 (A 2).length c2, .slice a3 (A 3).length c3, lg, sq, nx⟩)).cell? ⟨w4.heap.size, 0, none⟩ = some (.slice a0 (A 0).length c0) := by rw [blk_cell hvx]; rfl
  have d1 : (w4.alloc (boxV ⟨.slice a0 (A 0).length c0, .slice a1 (A 1).length c1, .slice a2 (A 2).length c2, .slice a3 (A 3).length c3, lg, sq, nx⟩)).cell? ⟨w4.heap.size, 1, none⟩ = some (.slice a1 (A 1).length c1) := by rw [blk_cell hvx]; rfl
  have d2 : (w4.alloc (boxV ⟨.slice a0 (A 0).length c0, .slice a1 (A 1).length c1, .slice a2 (A 2).length c2, .slice a3 (A 3).length c3, lg, sq, nx⟩)).cell? ⟨w4.heap.size, 2, none⟩ = some (.slice a2 (A 2).length c2) := by rw [blk_cell hvx]; rfl
  have d3 : (w4.alloc (boxV ⟨.slice a0 (A 0).length c0, .slice a1 (A 1).length c1, .slice a2 (A 2).length c2, .slice a3 (A 3).length c3, lg, sq, nx⟩)).cell? ⟨w4.heap.size, 3, none⟩ = some (.slice a3 (A 3).length c3) := by rw [blk_cell hvx]; rfl
  have d4 : (w4.alloc (boxV ⟨.slice a0 (A 0).length c0, .slice a1 (A 1).length c1, .slice a2 (A 2).length c2, .slice a3 (A 3).length c3, lg, sq, nx⟩)).cell? ⟨w4.heap.size, 4, none⟩ = some (.int .u64 (lg.toNat : Int)) := by rw [blk_cell hvx]; rfl
  have d5 : (w4.alloc (boxV ⟨.slice a0 (A 0).length c0, .slice a1 (A 1).length c1, .slice a2 (A 2).length c2, .slice a3 (A 3).length c3, lg, sq, nx⟩)).cell? ⟨w4.heap.size, 5, none⟩ = some (.int .u64 (sq.toNat : Int)) := by rw [blk_cell hvx]; rfl
  have d6 : (w4.alloc (boxV ⟨.slice a0 (A 0).length c0, .slice a1 (A 1).length c1, .slice a2 (A 2).length c2, .slice a3 (A 3).length c3, lg, sq, nx⟩)).cell? ⟨w4.heap.size, 6, none⟩ = some (.int .u64 (nx.toNat : Int)) := by rw [blk_cell hvx]; rfl
  clear hAt hl hlt hvx
  go_wp2_with fail
  refine HC.out.mono ?_
  rintro e w5 ⟨rv, rfl, hro, hb5⟩
  rw [awake_find HR.out] at hro
  obtain ⟨ro, rc, hrv⟩ := owns_slice1 hro
  subst hrv
  have hrt : TbsAt w5 (.slice ro [tb2, tb1].length rc) [tb2, tb1] := Seg.of_owns hro
  obtain ⟨rb, roff, rcap, hve, hcs⟩ := tbs_cells hrt (by decide)
  cases hve
  have r0 : w5.cell? ⟨rb, roff, none⟩ = some (.int .u64 2) := (hcs 0 (by decide)).1
  have r1 : w5.cell? ⟨rb, roff + 8, none⟩ = some (.int .u64 1) := (hcs 1 (by decide)).1
  have HB5 := Lib.hid (below_step (HB4.out.alloc HB4.out.size _) hb5 (HB4.out.alloc HB4.out.size _).size)
  have hvx := blk_kept hb5 HVX.out
  have HC2 := Lib.hid (verRight_any _ A w5 (HAT.out.kept hb5) HLT.out)
  have f0 : w5.cell? ⟨w4.heap.size, 0, none⟩ = some (.slice a0 (A 0).length c0) := by rw [blk_cell hvx]; rfl
  have f1 : w5.cell? ⟨w4.heap.size, 1, none⟩ = some (.slice a1 (A 1).length c1) := by rw [blk_cell hvx]; rfl
  have f2 : w5.cell? ⟨w4.heap.size, 2, none⟩ = some (.slice a2 (A 2).length c2) := by rw [blk_cell hvx]; rfl
  have f3 : w5.cell? ⟨w4.heap.size, 3, none⟩ = some (.slice a3 (A 3).length c3) := by rw [blk_cell hvx]; rfl
  have f4 : w5.cell? ⟨w4.heap.size, 4, none⟩ = some (.int .u64 (lg.toNat : Int)) := by rw [blk_cell hvx]; rfl
  have f5 : w5.cell? ⟨w4.heap.size, 5, none⟩ = some (.int .u64 (sq.toNat : Int)) := by rw [blk_cell hvx]; rfl
  have f6 : w5.cell? ⟨w4.heap.size, 6, none⟩ = some (.int .u64 (nx.toNat : Int)) := by rw [blk_cell hvx]; rfl
  clear hro hrt hcs hb5 hvx HC d0 d1 d2 d3 d4 d5 d6
  go_wp2_with fail
  refine HC2.out.mono ?_
  rintro e w6 ⟨rb, rfl, hrb, hb6⟩
  have HB6 := Lib.hid (below_step HB5.out hb6 HB5.out.size)
  have hrt : rb = true := hrb.2 HN.out
  subst hrt
  clear HC2 hrb hb6 f0 f1 f2 f3 f4 f5 f6
  go_wp2_with fail
  go_ret
  exact ⟨rfl, HB6.out⟩
end Go.Proofs.Tryd.Vr

/- What edits make, those that can be done. -/
set_option linter.unusedVariables false
set_option linter.unusedSimpArgs false
set_option maxRecDepth 100000
namespace Go.Proofs.Tryd.Vr
open Go.RowKit Go.Cph Go.Cph.Skip Go.Cph.So Go.Cph.Ve
open Go.Proofs.Tryd.Sq (row_kept1 grown_below grown_set encU encU_len TU TUs infoU)

structure MdSt (w : World) (bt : Nat) (v : Vn) (A : Nat → List Tb) (W : World) : Prop where
  box : W.heap[bt]? = some (boxV v)
  res : W.heap[w.heap.size]? = some boxZ
  own : VerOwn W (bt + 1) v A
  bel : Below w.heap.size w W
  lt : w.heap.size < bt
theorem MdSt.kept {w W W' : World} {bt : Nat} {v : Vn} {A : Nat → List Tb} (h : MdSt w bt v A W) (hb : Below W.heap.size W W') : MdSt w bt v A W' :=
  ⟨blk_kept hb h.box, blk_kept hb h.res, h.own.kept hb, below_step h.bel hb h.bel.size, h.lt⟩
theorem encV_new : encV nVn = .agg #[.slice none 0 0, .slice none 0 0, .slice none 0 0, .slice none 0 0, .int .u64 0, .int .u64 0, .int .u64 1] := rfl
theorem own_newV (w : World) (base : Nat) : VerOwn w base nVn (fun _ => []) := by
  have e : ∀ k, nVn.lev k = .slice none 0 0 := fun k => by unfold Vn.lev; split <;> rfl
  refine ⟨fun k hk => ?_, fun j k hj hk hne p hp => ?_⟩
  · rw [e]; exact World.ownsRow_nil _ _ _ _
  · rw [e] at hp; simp [Value.ownBlock] at hp
def MdInv (ds : List Ed) (i : Nat) (M : List Tb) (v : Vn) (A : Nat → List Tb) : Prop :=
  madeD ([], 0, 0, 1) (ds.take i) = (M, v.log, v.seq, v.nxt) ∧ Rel A M (v.log, v.seq, v.nxt) ∧ M.length + sumA (ds.drop i) ≤ 100000
theorem MdInv.next_in {ds : List Ed} {i : Nat} {M : List Tb} {u v' : Vn} {A A' : Nat → List Tb} {r : Int × List Tb × Nm} (h : MdInv ds i M u A) (hi : i < ds.length) (hr : r = doD M (u.log, u.seq, u.nxt) ds[i]) (hz : r.1 = 0) (hn : (v'.log, v'.seq, v'.nxt) = r.2.2) (hR : Rel A' r.2.1 r.2.2) :
    MdInv ds (i + 1) r.2.1 v' A' := by
  refine ⟨?_, by rw [hn]; exact hR, ?_⟩
  · rw [made_next hi, h.1, hn]
    unfold madeStep
    dsimp only
    rw [← hr, if_pos hz]
  · have h1 := doD_len M (u.log, u.seq, u.nxt) ds[i]
    rw [← hr] at h1
    have h2 := sum_drop hi
    have h3 := h.2.2
    omega
theorem MdInv.next_out {ds : List Ed} {i : Nat} {M : List Tb} {u : Vn} {A : Nat → List Tb} (h : MdInv ds i M u A) (hi : i < ds.length) (hz : (doD M (u.log, u.seq, u.nxt) ds[i]).1 ≠ 0) :
    MdInv ds (i + 1) M u A := by
  refine ⟨?_, h.2.1, ?_⟩
  · rw [made_next hi, h.1]
    unfold madeStep
    dsimp only
    rw [if_neg hz]
  · have h2 := sum_drop hi
    have h3 := h.2.2
    omega
theorem MdSt.turn {w W : World} {bt : Nat} {v v' : Vn} {A A' : Nat → List Tb} (h : MdSt w bt v A W) (ho : VerOwn W (bt + 1) v' A') : MdSt w bt v' A' (put7 W bt v') := by
  have hlt := h.lt
  refine ⟨box_put7 h.box rfl v', ?_, ho.keep (w' := put7 W bt v') (some bt) (grown_put7 _ _ _) fun k hk p hp e => ?_, below_put7 h.bel (by omega) v', h.lt⟩
  · rw [(grown_put7 W bt v').block _ (blk_lt h.res) (by intro e; injection e with e; omega)]
    exact h.res
  · have := ((ho.own k hk).lt p hp).1
    have e2 : bt = p := by injection e
    omega
def MadePost (ds : List Ed) (w : World) (e : Ending) (w' : World) : Prop :=
  ∃ v' A', e = .returned (encV v') ∧ VerOwn w' w.heap.size v' A' ∧ Rel A' (madeD ([], 0, 0, 1) ds).1 (madeD ([], 0, 0, 1) ds).2 ∧ (v'.log, v'.seq, v'.nxt) = (madeD ([], 0, 0, 1) ds).2 ∧ Below w.heap.size w w'
theorem eds_one {W : World} {g : Nat} {x : Es} {d : Ed} (hg : W.heap[g]? = some (boxE x)) (h : EdAt W x d) : EdsAt W (.slice (some ⟨g, 0, none⟩) 1 1) [x] [d] := by
  refine ⟨rfl, ?_, fun i hi hk => ?_⟩
  · have := seg_oneG (us := encEc x) (size := 5) hg rfl
    simpa [Elems] using this
  · have : i = 0 := by simpa using hi
    subst this
    exact h

set_option maxHeartbeats 16000000 in
theorem made_any (av : Value) (es : List Es) (ds : List Ed) (w : World) (hE : EdsAt w av es ds) (hn : ds.length ≤ 1000) (hd : ∀ d ∈ ds, d.1.length ≤ 30 ∧ d.2.1.length ≤ 1000) (hs : sumA ds ≤ 100000) :
    Calls Tryd.prog 21 #[av] w (MadePost ds w) := by
  obtain ⟨ao, cap, hav⟩ := elems_slice hE.row
  rw [hE.len] at hav
  have HE := Lib.hid hE
  have HAV := Lib.hid hav
  have HN := Lib.hid hn
  have HD := Lib.hid hd
  have HS := Lib.hid hs
  rw [hav]
  clear hE hav hn hd hs
  go_enter Tryd.func21, Tryd.ntmps21
  go_wp2_with fail
  refine (new_any _).mono ?_
  rintro e w1 ⟨rfl, hb1⟩
  have HB1 := Lib.hid (below_step (below_of_alloc (w := w) boxZ) hb1 (below_of_alloc (w := w) boxZ).size)
  have HZ1 := Lib.hid (blk_kept hb1 (heap_alloc_new w boxZ))
  have HST := Lib.hid (show MdSt w w1.heap.size nVn (fun _ => []) (w1.alloc (boxV nVn)) from ⟨heap_alloc_new _ _, blk_alloc HZ1.out _, own_newV _ _, HB1.out.alloc HB1.out.size _, blk_lt HZ1.out⟩)
  have HIN := Lib.hid (show MdInv ds 0 [] nVn (fun _ => []) from ⟨rfl, rel_new, by simpa [List.drop] using HS.out⟩)
  clear hb1
  rw [encV_new]
  go_wp2_with fail
  go_loopw [4] (fun vi W => ∃ (i : Nat) (M : List Tb) (u : Vn) (A : Nat → List Tb), i ≤ ds.length ∧ vi = .int .i64 (i : Int) ∧ Hid (MdInv ds i M u A) ∧ Hid (MdSt w w1.heap.size u A W)) (fun vi _ => ds.length - (intOf vi).toNat)
  case atStart => exact ⟨0, [], nVn, fun _ => [], Nat.zero_le _, rfl, HIN, HST⟩
  case round =>
    obtain ⟨i, M, u, A, hi, rfl, HI, HT⟩ := hrel
    clear HIN HST
    obtain ⟨x0, x1, x2, x3, ul, us, un⟩ := u
    have hq := HT.out
    obtain ⟨ua0, uc0, e0⟩ := owns_slice1 (hq.own.own 0 (by omega))
    obtain ⟨ua1, uc1, e1⟩ := owns_slice1 (hq.own.own 1 (by omega))
    obtain ⟨ua2, uc2, e2⟩ := owns_slice1 (hq.own.own 2 (by omega))
    obtain ⟨ua3, uc3, e3⟩ := owns_slice1 (hq.own.own 3 (by omega))
    dsimp only [Vn.lev] at e0 e1 e2 e3
    subst e0 e1 e2 e3
    have hbx := hq.box
    have c0 : wr.cell? ⟨w1.heap.size, 0, none⟩ = some (.slice ua0 (A 0).length uc0) := (blk_cell hbx 0).trans rfl
    have c1 : wr.cell? ⟨w1.heap.size, 1, none⟩ = some (.slice ua1 (A 1).length uc1) := (blk_cell hbx 1).trans rfl
    have c2 : wr.cell? ⟨w1.heap.size, 2, none⟩ = some (.slice ua2 (A 2).length uc2) := (blk_cell hbx 2).trans rfl
    have c3 : wr.cell? ⟨w1.heap.size, 3, none⟩ = some (.slice ua3 (A 3).length uc3) := (blk_cell hbx 3).trans rfl
    have c4 : wr.cell? ⟨w1.heap.size, 4, none⟩ = some (.int .u64 (ul.toNat : Int)) := (blk_cell hbx 4).trans rfl
    have c5 : wr.cell? ⟨w1.heap.size, 5, none⟩ = some (.int .u64 (us.toNat : Int)) := (blk_cell hbx 5).trans rfl
    have c6 : wr.cell? ⟨w1.heap.size, 6, none⟩ = some (.int .u64 (un.toNat : Int)) := (blk_cell hbx 6).trans rfl
    by_cases hlt : i < ds.length
    · have HE4 := Lib.hid (HE.out.kept HT.out.bel)
      have hrow := HE4.out.row
      rw [HAV.out] at hrow
      obtain ⟨eb, eoff, ecap, hve, hcs⟩ := elems_shape encEc_len hrow (by rw [HE.out.len]; omega)
      injection hve with hx1 hx2 hx3
      subst hx1
      have hle : i < es.length := by rw [HE.out.len]; omega
      have hcx := hcs i hle
      obtain ⟨x, hx⟩ : ∃ x, x = es[i] := ⟨_, rfl⟩
      have hat := HE4.out.at' i hle hlt
      rw [← hx] at hcx hat
      obtain ⟨ea, edr, el, eq, en⟩ := x
      obtain ⟨tao, tc, hta⟩ := elems_slice hat.add
      obtain ⟨dao, dc, hda⟩ := elems_slice hat.drop
      dsimp only at hta hda
      subst hta hda
      obtain ⟨e, he⟩ : ∃ d, d = ds[i] := ⟨_, rfl⟩
      have HDE := Lib.hid he
      rw [← he] at hat hcx
      have b0 : wr.cell? ⟨eb, eoff + i * 5, none⟩ = some (.slice tao e.1.length tc) := hcx 0 (by omega)
      have b1 : wr.cell? ⟨eb, eoff + i * 5 + 1, none⟩ = some (.slice dao e.2.1.length dc) := hcx 1 (by omega)
      have b2 : wr.cell? ⟨eb, eoff + i * 5 + 2, none⟩ = some (.int .u64 (el.toNat : Int)) := hcx 2 (by omega)
      have b3 : wr.cell? ⟨eb, eoff + i * 5 + 3, none⟩ = some (.int .u64 (eq.toNat : Int)) := hcx 3 (by omega)
      have b4 : wr.cell? ⟨eb, eoff + i * 5 + 4, none⟩ = some (.int .u64 (en.toNat : Int)) := hcx 4 (by omega)
      have HAT := Lib.hid (show ∀ W, Below wr.heap.size wr W → EdAt W ⟨.slice tao e.1.length tc, .slice dao e.2.1.length dc, el, eq, en⟩ e from fun W hb => hat.kept hb)
      have j1 : (0 : Int) ≤ (i : Int) := by omega
      have j2 : (i : Int) < (ds.length : Int) := by omega
      have j4 : IntKind.i64.wrap ((i : Int) + 1) = (i : Int) + 1 := by have := HN.out; rw [IntKind.wrap_i64]; omega
      have HSM := Lib.hid (sum_drop hlt)
      obtain ⟨r, hr⟩ : ∃ r, r = doD M (ul, us, un) e := ⟨_, rfl⟩
      have HR := Lib.hid hr
      have HAP := Lib.hid (show ∀ (W : World) (g : Nat), Below wr.heap.size wr W → W.heap[g]? = some (boxE ⟨.slice tao e.1.length tc, .slice dao e.2.1.length dc, el, eq, en⟩) → Calls Tryd.prog 9 #[encV (⟨.slice ua0 (A 0).length uc0, .slice ua1 (A 1).length uc1, .slice ua2 (A 2).length uc2, .slice ua3 (A 3).length uc3, ul, us, un⟩ : Vn), .slice (some ⟨g, 0, none⟩) 1 1] W (ApplyPost r W) from fun W g hb hg =>
        apply_any _ A M _ [⟨.slice tao e.1.length tc, .slice dao e.2.1.length dc, el, eq, en⟩] [e] r W (VerOwn.at' (hq.own.kept hb)) (by
          have := lvs_tabs HI.out.2.1.lvs (N := 100000) (by have := HI.out.2.2; omega)
          omega) (eds_one hg (hat.kept hb)) (fun _ => ⟨HI.out.2.1, hr⟩) (fun h => absurd HI.out.2.1.rv h) (by
          have h1 := HI.out.2.2
          have h2 := HSM.out
          rw [← he] at h2
          have h3 : sumA [e] = e.1.length := by simp [sumA]
          omega) (fun d hd => by
          rw [List.mem_singleton] at hd
          have := (HD.out e (by rw [he]; exact List.getElem_mem _)).2
          rw [hd]; omega) (by simp))
      have HLT := Lib.hid hlt
      have q1 : eb < wr.heap.size := World.block_lt_of_cell? _ _ b0
      have q2 : w1.heap.size < wr.heap.size := World.block_lt_of_cell? _ _ c0
      obtain ⟨z, hz⟩ : ∃ z, z = r.1 := ⟨_, rfl⟩
      unfold ApplyPost at HAP
      rw [← hz] at HAP
      have HZ := Lib.hid hz
      have HQ2 := Lib.hid q2
      have HCL := Lib.hid (show ∀ W, Below wr.heap.size wr W → W.cell? ⟨w1.heap.size, 0, none⟩ = some (.slice ua0 (A 0).length uc0) ∧ W.cell? ⟨w1.heap.size, 1, none⟩ = some (.slice ua1 (A 1).length uc1) ∧ W.cell? ⟨w1.heap.size, 2, none⟩ = some (.slice ua2 (A 2).length uc2) ∧ W.cell? ⟨w1.heap.size, 3, none⟩ = some (.slice ua3 (A 3).length uc3) ∧ W.cell? ⟨w1.heap.size, 4, none⟩ = some (.int .u64 (ul.toNat : Int)) ∧ W.cell? ⟨w1.heap.size, 5, none⟩ = some (.int .u64 (us.toNat : Int)) ∧ W.cell? ⟨w1.heap.size, 6, none⟩ = some (.int .u64 (un.toNat : Int)) ∧ W.cell? ⟨eb, eoff + i * 5, none⟩ = some (.slice tao e.1.length tc) ∧ W.cell? ⟨eb, eoff + i * 5 + 1, none⟩ = some (.slice dao e.2.1.length dc) ∧ W.cell? ⟨eb, eoff + i * 5 + 2, none⟩ = some (.int .u64 (el.toNat : Int)) ∧ W.cell? ⟨eb, eoff + i * 5 + 3, none⟩ = some (.int .u64 (eq.toNat : Int)) ∧ W.cell? ⟨eb, eoff + i * 5 + 4, none⟩ = some (.int .u64 (en.toNat : Int)) from fun W hb => ⟨cell_kept hb c0, cell_kept hb c1, cell_kept hb c2, cell_kept hb c3, cell_kept hb c4, cell_kept hb c5, cell_kept hb c6, cell_kept hb b0, cell_kept hb b1, cell_kept hb b2, cell_kept hb b3, cell_kept hb b4⟩)
      clear hrow hx2 hx3 hcs hcx hx hat he hr hz hq hbx
      go_upto_region 5 with fail
      refine wp_then_intro ?_
      intro KK HKK
      go_cut [5, 6] (fun vb vz W => ∃ (bx : Nat) (v' : Vn) (A' : Nat → List Tb), vb = .pointer (some ⟨bx, 0, none⟩) ∧ vz = .int .i64 z ∧ Hid (W.heap[bx]? = some (boxV v')) ∧ Hid (VerOwn W (w1.heap.size + 1) v' A') ∧ Hid ((v'.log, v'.seq, v'.nxt) = r.2.2 ∧ (z = 0 → Rel A' r.2.1 r.2.2)) ∧ Hid (MdSt w w1.heap.size (⟨.slice ua0 (A 0).length uc0, .slice ua1 (A 1).length uc1, .slice ua2 (A 2).length uc2, .slice ua3 (A 3).length uc3, ul, us, un⟩ : Vn) A W))
      case first =>
        clear HKK
        go_region_held3 (fun W => W.cell? ⟨w1.heap.size, 0, none⟩ = some (.slice ua0 (A 0).length uc0) ∧ W.cell? ⟨w1.heap.size, 1, none⟩ = some (.slice ua1 (A 1).length uc1) ∧ W.cell? ⟨w1.heap.size, 2, none⟩ = some (.slice ua2 (A 2).length uc2) ∧ W.cell? ⟨w1.heap.size, 3, none⟩ = some (.slice ua3 (A 3).length uc3) ∧ W.cell? ⟨w1.heap.size, 4, none⟩ = some (.int .u64 (ul.toNat : Int)) ∧ W.cell? ⟨w1.heap.size, 5, none⟩ = some (.int .u64 (us.toNat : Int)) ∧ W.cell? ⟨w1.heap.size, 6, none⟩ = some (.int .u64 (un.toNat : Int)) ∧ W.cell? ⟨eb, eoff + i * 5, none⟩ = some (.slice tao e.1.length tc) ∧ W.cell? ⟨eb, eoff + i * 5 + 1, none⟩ = some (.slice dao e.2.1.length dc) ∧ W.cell? ⟨eb, eoff + i * 5 + 2, none⟩ = some (.int .u64 (el.toNat : Int)) ∧ W.cell? ⟨eb, eoff + i * 5 + 3, none⟩ = some (.int .u64 (eq.toNat : Int)) ∧ W.cell? ⟨eb, eoff + i * 5 + 4, none⟩ = some (.int .u64 (en.toNat : Int)))
          (go_keep)
          (first
            | (go_at_call 9; ((with_reducible show Calls _ _ _ ((World.alloc wr (.cells _ TEd _)).drew) _); refine (HAP.out (wr.alloc (boxE ⟨.slice tao e.1.length tc, .slice dao e.2.1.length dc, el, eq, en⟩)).drew _ (below_of_alloc (w := wr) (boxE ⟨.slice tao e.1.length tc, .slice dao e.2.1.length dc, el, eq, en⟩)).drew (heap_alloc_new wr (boxE ⟨.slice tao e.1.length tc, .slice dao e.2.1.length dc, el, eq, en⟩))).mono ?_; rintro e6 w6 ⟨v6, A2, rfl, ho6, hn6, hb6, hok6, -⟩; obtain ⟨x0, x1, x2, x3, pl, ps, pn⟩ := v6; obtain ⟨pa0, pc0, e0⟩ := owns_slice1 (ho6.own 0 (by omega)); obtain ⟨pa1, pc1, e1⟩ := owns_slice1 (ho6.own 1 (by omega)); obtain ⟨pa2, pc2, e2⟩ := owns_slice1 (ho6.own 2 (by omega)); obtain ⟨pa3, pc3, e3⟩ := owns_slice1 (ho6.own 3 (by omega)); dsimp only [Vn.lev] at e0 e1 e2 e3; subst e0 e1 e2 e3; have hw0 : Below wr.heap.size wr (wr.alloc (boxE ⟨.slice tao e.1.length tc, .slice dao e.2.1.length dc, el, eq, en⟩)).drew := (below_of_alloc (w := wr) (boxE ⟨.slice tao e.1.length tc, .slice dao e.2.1.length dc, el, eq, en⟩)).drew; have HB6 := Lib.hid (below_step hw0 hb6 hw0.size); obtain ⟨s0, s1, s2, s3, s4, s5, s6, s7, s8, s9, s10, s11⟩ := HCL.out w6 HB6.out; have HF6 := Lib.hid (And.intro hn6 hok6); have hsz : w1.heap.size + 1 ≤ ((wr.alloc (boxE ⟨.slice tao e.1.length tc, .slice dao e.2.1.length dc, el, eq, en⟩)).drew).heap.size := (by have := HQ2.out; have := hw0.size; omega); have hvo : VerOwn w6 (w1.heap.size + 1) (⟨.slice pa0 (A2 0).length pc0, .slice pa1 (A2 1).length pc1, .slice pa2 (A2 2).length pc2, .slice pa3 (A2 3).length pc3, pl, ps, pn⟩ : Vn) A2 := ⟨fun k hk => owns_mono (ho6.own k hk) hsz, ho6.dif⟩; have HP := Lib.hid (heap_alloc_new w6 (boxV (⟨.slice pa0 (A2 0).length pc0, .slice pa1 (A2 1).length pc1, .slice pa2 (A2 2).length pc2, .slice pa3 (A2 3).length pc3, pl, ps, pn⟩ : Vn))); have HQ := Lib.hid (hvo.kept (below_of_alloc (boxV (⟨.slice pa0 (A2 0).length pc0, .slice pa1 (A2 1).length pc1, .slice pa2 (A2 2).length pc2, .slice pa3 (A2 3).length pc3, pl, ps, pn⟩ : Vn)))); have HM := Lib.hid (HT.out.kept (HB6.out.alloc HB6.out.size (boxV (⟨.slice pa0 (A2 0).length pc0, .slice pa1 (A2 1).length pc1, .slice pa2 (A2 2).length pc2, .slice pa3 (A2 3).length pc3, pl, ps, pn⟩ : Vn)))); clear ho6 hn6 hb6 hok6 hw0 hsz hvo))
            | (go_at_call 9; ((with_reducible show Calls _ _ _ ((World.alloc (World.alloc wr (.cells _ TVn _)) (.cells _ TEd _)).drew) _); refine (HAP.out ((wr.alloc boxZ).alloc (boxE ⟨.slice tao e.1.length tc, .slice dao e.2.1.length dc, el, eq, en⟩)).drew _ (((below_of_alloc (w := wr) boxZ)).alloc (below_of_alloc (w := wr) boxZ).size _).drew (alloc2_new wr boxZ (boxE ⟨.slice tao e.1.length tc, .slice dao e.2.1.length dc, el, eq, en⟩))).mono ?_; rintro e6 w6 ⟨v6, A2, rfl, ho6, hn6, hb6, hok6, -⟩; obtain ⟨x0, x1, x2, x3, pl, ps, pn⟩ := v6; obtain ⟨pa0, pc0, e0⟩ := owns_slice1 (ho6.own 0 (by omega)); obtain ⟨pa1, pc1, e1⟩ := owns_slice1 (ho6.own 1 (by omega)); obtain ⟨pa2, pc2, e2⟩ := owns_slice1 (ho6.own 2 (by omega)); obtain ⟨pa3, pc3, e3⟩ := owns_slice1 (ho6.own 3 (by omega)); dsimp only [Vn.lev] at e0 e1 e2 e3; subst e0 e1 e2 e3; have hw0 : Below wr.heap.size wr ((wr.alloc boxZ).alloc (boxE ⟨.slice tao e.1.length tc, .slice dao e.2.1.length dc, el, eq, en⟩)).drew := (((below_of_alloc (w := wr) boxZ)).alloc (below_of_alloc (w := wr) boxZ).size _).drew; have HB6 := Lib.hid (below_step hw0 hb6 hw0.size); obtain ⟨s0, s1, s2, s3, s4, s5, s6, s7, s8, s9, s10, s11⟩ := HCL.out w6 HB6.out; have HF6 := Lib.hid (And.intro hn6 hok6); have hsz : w1.heap.size + 1 ≤ (((wr.alloc boxZ).alloc (boxE ⟨.slice tao e.1.length tc, .slice dao e.2.1.length dc, el, eq, en⟩)).drew).heap.size := (by have := HQ2.out; have := hw0.size; omega); have hvo : VerOwn w6 (w1.heap.size + 1) (⟨.slice pa0 (A2 0).length pc0, .slice pa1 (A2 1).length pc1, .slice pa2 (A2 2).length pc2, .slice pa3 (A2 3).length pc3, pl, ps, pn⟩ : Vn) A2 := ⟨fun k hk => owns_mono (ho6.own k hk) hsz, ho6.dif⟩; have n1 : ¬ wr.heap.size = eb := (by omega); have n2 : ¬ eb = wr.heap.size := (by omega); have n3 : ¬ wr.heap.size = w1.heap.size := (by omega); have n4 : ¬ w1.heap.size = wr.heap.size := (by omega); have hx6 : w6.heap[wr.heap.size]? = some boxZ := blk_kept hb6 (blk_alloc (heap_alloc_new wr boxZ) _); have z0 : w6.cell? ⟨wr.heap.size, 0, none⟩ = some (.slice none 0 0) := (blk_cell hx6 0).trans rfl; have z1 : w6.cell? ⟨wr.heap.size, 1, none⟩ = some (.slice none 0 0) := (blk_cell hx6 1).trans rfl; have z2 : w6.cell? ⟨wr.heap.size, 2, none⟩ = some (.slice none 0 0) := (blk_cell hx6 2).trans rfl; have z3 : w6.cell? ⟨wr.heap.size, 3, none⟩ = some (.slice none 0 0) := (blk_cell hx6 3).trans rfl; have z4 : w6.cell? ⟨wr.heap.size, 4, none⟩ = some (.int .u64 0) := (blk_cell hx6 4).trans rfl; have z5 : w6.cell? ⟨wr.heap.size, 5, none⟩ = some (.int .u64 0) := (blk_cell hx6 5).trans rfl; have z6 : w6.cell? ⟨wr.heap.size, 6, none⟩ = some (.int .u64 0) := (blk_cell hx6 6).trans rfl; have fz : ∀ j, w6.frozen? ⟨wr.heap.size, j, none⟩ = false := (fun j => by rw [blk_frozen hx6]; simp); have HP := Lib.hid (box_put7 hx6 rfl (⟨.slice pa0 (A2 0).length pc0, .slice pa1 (A2 1).length pc1, .slice pa2 (A2 2).length pc2, .slice pa3 (A2 3).length pc3, pl, ps, pn⟩ : Vn)); have HQ := Lib.hid (hvo.keep (w' := put7 w6 (wr.heap.size) (⟨.slice pa0 (A2 0).length pc0, .slice pa1 (A2 1).length pc1, .slice pa2 (A2 2).length pc2, .slice pa3 (A2 3).length pc3, pl, ps, pn⟩ : Vn)) (some (wr.heap.size)) (grown_put7 _ _ _) fun k hk p hp ee => (by have := ((ho6.own k hk).lt p hp).1; have e2 : wr.heap.size = p := (by injection ee); have hxl : wr.heap.size < (((wr.alloc boxZ).alloc (boxE ⟨.slice tao e.1.length tc, .slice dao e.2.1.length dc, el, eq, en⟩)).drew).heap.size := blk_lt ((blk_alloc (heap_alloc_new wr boxZ) _)); omega)); have HM := Lib.hid (HT.out.kept (below_put7 HB6.out (b := wr.heap.size) (by omega) (⟨.slice pa0 (A2 0).length pc0, .slice pa1 (A2 1).length pc1, .slice pa2 (A2 2).length pc2, .slice pa3 (A2 3).length pc3, pl, ps, pn⟩ : Vn))); clear ho6 hn6 hb6 hok6 hw0 hsz hvo hx6))
            | (go_at_call 9; ((with_reducible show Calls _ _ _ ((World.alloc (World.alloc wr (.cells _ TEd _)) (.cells _ TVn _)).drew) _); refine (HAP.out ((wr.alloc (boxE ⟨.slice tao e.1.length tc, .slice dao e.2.1.length dc, el, eq, en⟩)).alloc boxZ).drew _ (((below_of_alloc (w := wr) (boxE ⟨.slice tao e.1.length tc, .slice dao e.2.1.length dc, el, eq, en⟩))).alloc (below_of_alloc (w := wr) (boxE ⟨.slice tao e.1.length tc, .slice dao e.2.1.length dc, el, eq, en⟩)).size _).drew (blk_alloc (heap_alloc_new wr (boxE ⟨.slice tao e.1.length tc, .slice dao e.2.1.length dc, el, eq, en⟩)) _)).mono ?_; rintro e6 w6 ⟨v6, A2, rfl, ho6, hn6, hb6, hok6, -⟩; obtain ⟨x0, x1, x2, x3, pl, ps, pn⟩ := v6; obtain ⟨pa0, pc0, e0⟩ := owns_slice1 (ho6.own 0 (by omega)); obtain ⟨pa1, pc1, e1⟩ := owns_slice1 (ho6.own 1 (by omega)); obtain ⟨pa2, pc2, e2⟩ := owns_slice1 (ho6.own 2 (by omega)); obtain ⟨pa3, pc3, e3⟩ := owns_slice1 (ho6.own 3 (by omega)); dsimp only [Vn.lev] at e0 e1 e2 e3; subst e0 e1 e2 e3; have hw0 : Below wr.heap.size wr ((wr.alloc (boxE ⟨.slice tao e.1.length tc, .slice dao e.2.1.length dc, el, eq, en⟩)).alloc boxZ).drew := (((below_of_alloc (w := wr) (boxE ⟨.slice tao e.1.length tc, .slice dao e.2.1.length dc, el, eq, en⟩))).alloc (below_of_alloc (w := wr) (boxE ⟨.slice tao e.1.length tc, .slice dao e.2.1.length dc, el, eq, en⟩)).size _).drew; have HB6 := Lib.hid (below_step hw0 hb6 hw0.size); obtain ⟨s0, s1, s2, s3, s4, s5, s6, s7, s8, s9, s10, s11⟩ := HCL.out w6 HB6.out; have HF6 := Lib.hid (And.intro hn6 hok6); have hsz : w1.heap.size + 1 ≤ (((wr.alloc (boxE ⟨.slice tao e.1.length tc, .slice dao e.2.1.length dc, el, eq, en⟩)).alloc boxZ).drew).heap.size := (by have := HQ2.out; have := hw0.size; omega); have hvo : VerOwn w6 (w1.heap.size + 1) (⟨.slice pa0 (A2 0).length pc0, .slice pa1 (A2 1).length pc1, .slice pa2 (A2 2).length pc2, .slice pa3 (A2 3).length pc3, pl, ps, pn⟩ : Vn) A2 := ⟨fun k hk => owns_mono (ho6.own k hk) hsz, ho6.dif⟩; have n1 : ¬ wr.heap.size + 1 = eb := (by omega); have n2 : ¬ eb = wr.heap.size + 1 := (by omega); have n3 : ¬ wr.heap.size + 1 = w1.heap.size := (by omega); have n4 : ¬ w1.heap.size = wr.heap.size + 1 := (by omega); have hx6 : w6.heap[wr.heap.size + 1]? = some boxZ := blk_kept hb6 (alloc2_new wr (boxE ⟨.slice tao e.1.length tc, .slice dao e.2.1.length dc, el, eq, en⟩) boxZ); have z0 : w6.cell? ⟨wr.heap.size + 1, 0, none⟩ = some (.slice none 0 0) := (blk_cell hx6 0).trans rfl; have z1 : w6.cell? ⟨wr.heap.size + 1, 1, none⟩ = some (.slice none 0 0) := (blk_cell hx6 1).trans rfl; have z2 : w6.cell? ⟨wr.heap.size + 1, 2, none⟩ = some (.slice none 0 0) := (blk_cell hx6 2).trans rfl; have z3 : w6.cell? ⟨wr.heap.size + 1, 3, none⟩ = some (.slice none 0 0) := (blk_cell hx6 3).trans rfl; have z4 : w6.cell? ⟨wr.heap.size + 1, 4, none⟩ = some (.int .u64 0) := (blk_cell hx6 4).trans rfl; have z5 : w6.cell? ⟨wr.heap.size + 1, 5, none⟩ = some (.int .u64 0) := (blk_cell hx6 5).trans rfl; have z6 : w6.cell? ⟨wr.heap.size + 1, 6, none⟩ = some (.int .u64 0) := (blk_cell hx6 6).trans rfl; have fz : ∀ j, w6.frozen? ⟨wr.heap.size + 1, j, none⟩ = false := (fun j => by rw [blk_frozen hx6]; simp); have HP := Lib.hid (box_put7 hx6 rfl (⟨.slice pa0 (A2 0).length pc0, .slice pa1 (A2 1).length pc1, .slice pa2 (A2 2).length pc2, .slice pa3 (A2 3).length pc3, pl, ps, pn⟩ : Vn)); have HQ := Lib.hid (hvo.keep (w' := put7 w6 (wr.heap.size + 1) (⟨.slice pa0 (A2 0).length pc0, .slice pa1 (A2 1).length pc1, .slice pa2 (A2 2).length pc2, .slice pa3 (A2 3).length pc3, pl, ps, pn⟩ : Vn)) (some (wr.heap.size + 1)) (grown_put7 _ _ _) fun k hk p hp ee => (by have := ((ho6.own k hk).lt p hp).1; have e2 : wr.heap.size + 1 = p := (by injection ee); have hxl : wr.heap.size + 1 < (((wr.alloc (boxE ⟨.slice tao e.1.length tc, .slice dao e.2.1.length dc, el, eq, en⟩)).alloc boxZ).drew).heap.size := blk_lt ((alloc2_new wr (boxE ⟨.slice tao e.1.length tc, .slice dao e.2.1.length dc, el, eq, en⟩) boxZ)); omega)); have HM := Lib.hid (HT.out.kept (below_put7 HB6.out (b := wr.heap.size + 1) (by omega) (⟨.slice pa0 (A2 0).length pc0, .slice pa1 (A2 1).length pc1, .slice pa2 (A2 2).length pc2, .slice pa3 (A2 3).length pc3, pl, ps, pn⟩ : Vn))); clear ho6 hn6 hb6 hok6 hw0 hsz hvo hx6)))
        all_goals (go_wp2_with fail; go_meet; exact ⟨_, (⟨.slice pa0 (A2 0).length pc0, .slice pa1 (A2 1).length pc1, .slice pa2 (A2 2).length pc2, .slice pa3 (A2 3).length pc3, pl, ps, pn⟩ : Vn), A2, rfl, rfl, HP, HQ, HF6, HM⟩)
      case rest =>
        rename World => w7
        obtain ⟨bx, v5, A2, rfl, rfl, HX7, HO7, HF7, HM7⟩ := hcut
        refine HKK _ _ ?_
        clear HKK HAP c0 c1 c2 c3 c4 c5 c6 b0 b1 b2 b3 b4
        by_cases hz0 : z = 0
        · subst hz0
          obtain ⟨x0, x1, x2, x3, pl, ps, pn⟩ := v5
          have hq := HO7.out
          obtain ⟨pa0, pc0, e0⟩ := owns_slice1 (hq.own 0 (by omega))
          obtain ⟨pa1, pc1, e1⟩ := owns_slice1 (hq.own 1 (by omega))
          obtain ⟨pa2, pc2, e2⟩ := owns_slice1 (hq.own 2 (by omega))
          obtain ⟨pa3, pc3, e3⟩ := owns_slice1 (hq.own 3 (by omega))
          dsimp only [Vn.lev] at e0 e1 e2 e3
          subst e0 e1 e2 e3
          have hx7 := HX7.out
          have hm7 := HM7.out.box
          have d0 : w7.cell? ⟨bx, 0, none⟩ = some (.slice pa0 (A2 0).length pc0) := (blk_cell hx7 0).trans rfl
          have d1 : w7.cell? ⟨bx, 1, none⟩ = some (.slice pa1 (A2 1).length pc1) := (blk_cell hx7 1).trans rfl
          have d2 : w7.cell? ⟨bx, 2, none⟩ = some (.slice pa2 (A2 2).length pc2) := (blk_cell hx7 2).trans rfl
          have d3 : w7.cell? ⟨bx, 3, none⟩ = some (.slice pa3 (A2 3).length pc3) := (blk_cell hx7 3).trans rfl
          have d4 : w7.cell? ⟨bx, 4, none⟩ = some (.int .u64 (pl.toNat : Int)) := (blk_cell hx7 4).trans rfl
          have d5 : w7.cell? ⟨bx, 5, none⟩ = some (.int .u64 (ps.toNat : Int)) := (blk_cell hx7 5).trans rfl
          have d6 : w7.cell? ⟨bx, 6, none⟩ = some (.int .u64 (pn.toNat : Int)) := (blk_cell hx7 6).trans rfl
          have c0 : w7.cell? ⟨w1.heap.size, 0, none⟩ = some (.slice ua0 (A 0).length uc0) := (blk_cell hm7 0).trans rfl
          have c1 : w7.cell? ⟨w1.heap.size, 1, none⟩ = some (.slice ua1 (A 1).length uc1) := (blk_cell hm7 1).trans rfl
          have c2 : w7.cell? ⟨w1.heap.size, 2, none⟩ = some (.slice ua2 (A 2).length uc2) := (blk_cell hm7 2).trans rfl
          have c3 : w7.cell? ⟨w1.heap.size, 3, none⟩ = some (.slice ua3 (A 3).length uc3) := (blk_cell hm7 3).trans rfl
          have c4 : w7.cell? ⟨w1.heap.size, 4, none⟩ = some (.int .u64 (ul.toNat : Int)) := (blk_cell hm7 4).trans rfl
          have c5 : w7.cell? ⟨w1.heap.size, 5, none⟩ = some (.int .u64 (us.toNat : Int)) := (blk_cell hm7 5).trans rfl
          have c6 : w7.cell? ⟨w1.heap.size, 6, none⟩ = some (.int .u64 (un.toNat : Int)) := (blk_cell hm7 6).trans rfl
          have fz : ∀ j, w7.frozen? ⟨w1.heap.size, j, none⟩ = false := fun j => by rw [blk_frozen hm7]; simp
          clear hq hx7 hm7
          go_wp2_with fail
          go_roundw
          case rel => exact ⟨i + 1, r.2.1, (⟨.slice pa0 (A2 0).length pc0, .slice pa1 (A2 1).length pc1, .slice pa2 (A2 2).length pc2, .slice pa3 (A2 3).length pc3, pl, ps, pn⟩ : Vn), A2, hlt, by first | rfl | (congr 1), Lib.hid (HI.out.next_in HLT.out (by rw [← HDE.out]; exact HR.out) HZ.out.symm HF7.out.1 (HF7.out.2 rfl)), Lib.hid (HM7.out.turn HO7.out)⟩
          case measure => simp [intOf]; omega
        · have hzb : (z == 0) = false := by simpa using hz0
          go_wp2_with fail
          go_roundw
          case rel => exact ⟨i + 1, M, (⟨.slice ua0 (A 0).length uc0, .slice ua1 (A 1).length uc1, .slice ua2 (A 2).length uc2, .slice ua3 (A 3).length uc3, ul, us, un⟩ : Vn), A, hlt, by first | rfl | (congr 1), Lib.hid (HI.out.next_out HLT.out (by rw [← HDE.out, ← HR.out, ← HZ.out]; exact hz0)), HM7⟩
          case measure => simp [intOf]; omega
    · have hil : i = ds.length := by omega
      subst hil
      have i1 : ¬ (ds.length : Int) < (ds.length : Int) := by omega
      have hz := HT.out.res
      have z0 : wr.cell? ⟨w.heap.size, 0, none⟩ = some (.slice none 0 0) := (blk_cell hz 0).trans rfl
      have z1 : wr.cell? ⟨w.heap.size, 1, none⟩ = some (.slice none 0 0) := (blk_cell hz 1).trans rfl
      have z2 : wr.cell? ⟨w.heap.size, 2, none⟩ = some (.slice none 0 0) := (blk_cell hz 2).trans rfl
      have z3 : wr.cell? ⟨w.heap.size, 3, none⟩ = some (.slice none 0 0) := (blk_cell hz 3).trans rfl
      have z4 : wr.cell? ⟨w.heap.size, 4, none⟩ = some (.int .u64 0) := (blk_cell hz 4).trans rfl
      have z5 : wr.cell? ⟨w.heap.size, 5, none⟩ = some (.int .u64 0) := (blk_cell hz 5).trans rfl
      have z6 : wr.cell? ⟨w.heap.size, 6, none⟩ = some (.int .u64 0) := (blk_cell hz 6).trans rfl
      have fz : ∀ j, wr.frozen? ⟨w.heap.size, j, none⟩ = false := fun j => by rw [blk_frozen hz]; simp
      have HP := Lib.hid (box_put7 hz (by rfl) (⟨.slice ua0 (A 0).length uc0, .slice ua1 (A 1).length uc1, .slice ua2 (A 2).length uc2, .slice ua3 (A 3).length uc3, ul, us, un⟩ : Vn))
      have HMD := Lib.hid (show madeD ([], 0, 0, 1) ds = (M, ul, us, un) from by have := HI.out.1; rwa [List.take_length] at this)
      have hvo : VerOwn wr w.heap.size (⟨.slice ua0 (A 0).length uc0, .slice ua1 (A 1).length uc1, .slice ua2 (A 2).length uc2, .slice ua3 (A 3).length uc3, ul, us, un⟩ : Vn) A := ⟨fun k hk => owns_mono (hq.own.own k hk) (by have := hq.lt; omega), hq.own.dif⟩
      have HQ := Lib.hid (hvo.keep (w' := put7 wr w.heap.size (⟨.slice ua0 (A 0).length uc0, .slice ua1 (A 1).length uc1, .slice ua2 (A 2).length uc2, .slice ua3 (A 3).length uc3, ul, us, un⟩ : Vn)) (some w.heap.size) (grown_put7 _ _ _) fun k hk p hp ee => by
        have := ((hq.own.own k hk).lt p hp).1
        have e2 : w.heap.size = p := by injection ee
        have := hq.lt
        omega)
      have HBP := Lib.hid (below_put7 hq.bel (Nat.le_refl w.heap.size) (⟨.slice ua0 (A 0).length uc0, .slice ua1 (A 1).length uc1, .slice ua2 (A 2).length uc2, .slice ua3 (A 3).length uc3, ul, us, un⟩ : Vn))
      have HRL := Lib.hid HI.out.2.1
      clear hq hbx hz hvo
      go_wp2_with fail
      exact bodyPost_ret (v := encV (⟨.slice ua0 (A 0).length uc0, .slice ua1 (A 1).length uc1, .slice ua2 (A 2).length uc2, .slice ua3 (A 3).length uc3, ul, us, un⟩ : Vn)) (results_cell_row Tryd.results21 _ _ w.heap.size TVn _ (0, 0) _ rfl HP.out Tryd.underlying29 rfl (by kernel_rfl)) rfl ⟨(⟨.slice ua0 (A 0).length uc0, .slice ua1 (A 1).length uc1, .slice ua2 (A 2).length uc2, .slice ua3 (A 3).length uc3, ul, us, un⟩ : Vn), A, rfl, HQ.out, by rw [HMD.out]; exact HRL.out, by rw [HMD.out], HBP.out⟩
end Go.Proofs.Tryd.Vr
