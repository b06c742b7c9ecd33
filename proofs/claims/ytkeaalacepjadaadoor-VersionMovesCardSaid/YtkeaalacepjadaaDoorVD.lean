/- VD: texts put together: Vl1 Vl2 Vl3. -/
import Derived.Test.YtkeaalacepjadaaDoorVi1
import Derived.Test.YtkeaalacepjadaaDoorVk1
import Derived.Test.YtkeaalacepjadaaDoorVd1
import Derived.RegionTactic
import Derived.ChangeAlike
import Derived.BigQuiet
import Derived.Deep.DeepCutAuto
/- A version as it lies in memory; is a level right? -/
set_option linter.unusedVariables false
set_option linter.unusedSimpArgs false
set_option maxRecDepth 100000
namespace Go.Proofs.Tryd.Vr
open Go.RowKit Go.Cph Go.Cph.Skip Go.Cph.So Go.Cph.Ve

abbrev TVn : TypeId := 29
structure Vn where
  s0 : Value
  s1 : Value
  s2 : Value
  s3 : Value
  log : UInt64
  seq : UInt64
  nxt : UInt64
abbrev encV (v : Vn) : Value := .agg #[v.s0, v.s1, v.s2, v.s3, .int .u64 (v.log.toNat : Int), .int .u64 (v.seq.toNat : Int), .int .u64 (v.nxt.toNat : Int)]
abbrev boxV (v : Vn) : Obj := .cells #[v.s0, v.s1, v.s2, v.s3, .int .u64 (v.log.toNat : Int), .int .u64 (v.seq.toNat : Int), .int .u64 (v.nxt.toNat : Int)] TVn (0, 0)
def Vn.lev (v : Vn) (k : Nat) : Value := match k with
  | 0 => v.s0
  | 1 => v.s1
  | 2 => v.s2
  | _ => v.s3
/-- The version's tables, level by level. -/
structure VerAt (w : World) (v : Vn) (lv : Nat → List Tb) : Prop where
  l0 : TbsAt w v.s0 (lv 0)
  l1 : TbsAt w v.s1 (lv 1)
  l2 : TbsAt w v.s2 (lv 2)
  l3 : TbsAt w v.s3 (lv 3)
theorem VerAt.at {w : World} {v : Vn} {lv : Nat → List Tb} (h : VerAt w v lv) {k : Nat} (hk : k < 4) : TbsAt w (v.lev k) (lv k) := by
  rcases (show k = 0 ∨ k = 1 ∨ k = 2 ∨ k = 3 by omega) with rfl | rfl | rfl | rfl
  · exact h.l0
  · exact h.l1
  · exact h.l2
  · exact h.l3
theorem VerAt.kept {w w' : World} {v : Vn} {lv : Nat → List Tb} (h : VerAt w v lv) (hb : Below w.heap.size w w') : VerAt w' v lv := ⟨h.l0.kept hb, h.l1.kept hb, h.l2.kept hb, h.l3.kept hb⟩
theorem boxV_lev {w : World} {b : Nat} {v : Vn} (h : w.heap[b]? = some (boxV v)) {k : Nat} (hk : k < 4) : w.cell? ⟨b, k, none⟩ = some (v.lev k) := by
  rw [blk_cell h]
  rcases (show k = 0 ∨ k = 1 ∨ k = 2 ∨ k = 3 by omega) with rfl | rfl | rfl | rfl <;> rfl
theorem boxV_free {w : World} {b : Nat} {v : Vn} (h : w.heap[b]? = some (boxV v)) (j : Nat) : w.frozen? ⟨b, j, none⟩ = false := by
  rw [blk_frozen h]; simp
/-- One table of a level, beside the one ahead of it. -/
def okAt (k : Nat) (next seq : UInt64) (l : List Tb) (i : Nat) (h : i < l.length) : Bool :=
  rightT l[i] && (decide (tV l[i] = (k : Int)) && (decide ((tN l[i]).toNat < next.toNat) && (decide ((tM l[i]).toNat ≤ seq.toNat) && (if h0 : 0 < i then fitT k (l[i - 1]'(by omega)) l[i] else true))))
theorem lev_ok {k : Nat} {next seq : UInt64} {l : List Tb} : LevOK k next seq l ↔ ∀ i (h : i < l.length), okAt k next seq l i h = true := by
  constructor
  · intro h i hi
    obtain ⟨h1, h2, h3, h4⟩ := h.all l[i] (List.getElem_mem hi)
    unfold okAt
    simp only [h1, h2, h3, h4, decide_true, Bool.true_and]
    split
    · have := h.fit (i - 1) (by omega)
      have e : i - 1 + 1 = i := by omega
      simp only [e] at this
      exact this
    · rfl
  · intro h
    refine ⟨fun t ht => ?_, fun i hi => ?_⟩
    · obtain ⟨i, hi, rfl⟩ := List.getElem_of_mem ht
      have := h i hi
      unfold okAt at this
      simp only [Bool.and_eq_true, decide_eq_true_eq] at this
      exact ⟨this.1, this.2.1, this.2.2.1, this.2.2.2.1⟩
    · have := h (i + 1) hi
      unfold okAt at this
      simp only [Bool.and_eq_true] at this
      have := this.2.2.2.2
      rw [dif_pos (by omega)] at this
      simpa using this
def levB (k : Nat) (next seq : UInt64) (l : List Tb) : Bool := (List.range l.length).all fun i => if h : i < l.length then okAt k next seq l i h else true
theorem levB_iff {k : Nat} {next seq : UInt64} {l : List Tb} : levB k next seq l = true ↔ LevOK k next seq l := by
  rw [lev_ok]
  unfold levB
  rw [List.all_eq_true]
  constructor
  · intro h i hi
    have := h i (List.mem_range.2 hi)
    rwa [dif_pos hi] at this
  · intro h i hi
    split
    · exact h i _
    · rfl
end Go.Proofs.Tryd.Vr

/- Is a level right? -/
set_option linter.unusedVariables false
set_option linter.unusedSimpArgs false
set_option maxRecDepth 100000
namespace Go.Proofs.Tryd.Vr
open Go.RowKit Go.Cph Go.Cph.Skip Go.Cph.So Go.Cph.Ve

def LevPost (k : Nat) (v : Vn) (l : List Tb) (w : World) (e : Ending) (w' : World) : Prop := e = .returned (.bool (levB k v.nxt v.seq l)) ∧ Below w.heap.size w w'
theorem levB_no {k : Nat} {next seq : UInt64} {l : List Tb} {i : Nat} (h : i < l.length) (hf : okAt k next seq l i h = false) : levB k next seq l = false := by
  cases hb : levB k next seq l with
  | false => rfl
  | true =>
    have := lev_ok.1 (levB_iff.1 hb) i h
    rw [hf] at this; cases this

set_option maxHeartbeats 16000000 in
theorem level_any (k : Nat) (v : Vn) (lv : Nat → List Tb) (w : World) (h : VerAt w v lv) (hk : k < 4) (hn : (lv k).length ≤ 1000000) :
    Calls Tryd.prog 37 #[encV v, .int .i64 (k : Int)] w (LevPost k v (lv k) w) := by
  obtain ⟨l, hl⟩ : ∃ l, l = lv k := ⟨_, rfl⟩
  have hT := h.at hk
  rw [← hl] at hT hn ⊢
  obtain ⟨ao, cap, hv⟩ := elems_slice hT
  have hbx : (w.alloc (boxV v)).heap[w.heap.size]? = some (boxV v) := heap_alloc_new _ _
  have HX := Lib.hid hbx
  have c1 : (w.alloc (boxV v)).cell? ⟨w.heap.size, k, none⟩ = some (.slice ao l.length cap) := by rw [← hv]; exact boxV_lev hbx hk
  have HT := Lib.hid (show TbsAt (w.alloc (boxV v)) (.slice ao l.length cap) l from by rw [← hv]; exact hT.kept (below_of_alloc _))
  have HLV := Lib.hid hv
  have k1 : (k : Int) < 4 := by omega
  have k0 : (0 : Int) ≤ (k : Int) := by omega
  have HBW := Lib.hid (below_of_alloc (w := w) (boxV v))
  clear h hT hl hbx hv
  go_enter Tryd.func37, Tryd.ntmps37
  go_wp2_with fail
  go_loopw [12] (fun vi W => ∃ i : Nat, i ≤ l.length ∧ vi = .int .i64 (i : Int) ∧ Hid (∀ j (hj : j < l.length), j < i → okAt k v.nxt v.seq l j hj = true) ∧ Below w.heap.size w W ∧ W.heap[w.heap.size]? = some (boxV v) ∧ TbsAt W (.slice ao l.length cap) l) (fun vi _ => l.length - (intOf vi).toNat)
  case atStart => exact ⟨0, Nat.zero_le _, rfl, Lib.hid (fun j _ hj => absurd hj (Nat.not_lt_zero _)), HBW.out, HX.out, HT.out⟩
  case round =>
    obtain ⟨i, hi, rfl, HAL, hbel, hbx, ht⟩ := hrel
    have HBE := Lib.hid hbel
    have HX1 := Lib.hid hbx
    have HT1 := Lib.hid ht
    clear hbel hbx c1
    by_cases hlt : i < l.length
    · obtain ⟨b, off, cap', hve, hcs⟩ := tbs_cells ht (by omega)
      injection hve with hx1 hx2 hx3
      subst hx1
      clear hx2 hx3
      have hcx := hcs i hlt
      have HLT := Lib.hid hlt
      obtain ⟨x, hx⟩ : ∃ x, x = l[i]'(HLT.out) := ⟨_, rfl⟩
      have HXX := Lib.hid hx
      rw [← hx] at hcx
      have HCS := Lib.hid hcs
      have d0 := hcx.c0
      have d1 := hcx.c1
      have d2 := hcx.c2
      have d3 := hcx.c3
      have d4 := hcx.c4
      have d5 := hcx.c5
      have d6 := hcx.c6
      have d7 := hcx.c7
      have j1 : (0 : Int) ≤ (i : Int) := by omega
      have j2 : (i : Int) < (l.length : Int) := by omega
      have j4 : IntKind.i64.wrap ((i : Int) + 1) = (i : Int) + 1 := by rw [IntKind.wrap_i64]; omega
      clear hcs hcx hx ht
      go_upto_region 4 with fail
      have ctx : CellsOf (wr.alloc (boxT x)) wr.heap.size 0 x := box_cells (heap_alloc_new _ _)
      have CTX := Lib.hid ctx
      have CV := Lib.hid (show (wr.alloc (boxT x)).heap[w.heap.size]? = some (boxV v) from blk_alloc HX1.out _)
      have CL := Lib.hid (show ∀ i (hi : i < l.length), CellsOf (wr.alloc (boxT x)) b (off + i * 8) l[i] from fun i hi => (HCS.out i hi).kept (below_of_alloc _))
      have HRW := Lib.hid (fun W => right_any x W)
      have HA2 := Lib.hid (below_of_alloc (w := wr) (boxT x))
      clear ctx d0 d1 d2 d3 d4 d5 d6 d7
      generalize hw2 : wr.alloc (boxT x) = w2 at CTX CV CL HA2 ⊢
      clear hw2
      have cz0 : ∀ zz : Later w2.heap.size w2, zz.val.cell? ⟨wr.heap.size, 0, none⟩ = some (.int .u64 (x.1.toNat : Int)) := fun zz => cell_kept zz.prop CTX.out.c0
      have cz1 : ∀ zz : Later w2.heap.size w2, zz.val.cell? ⟨wr.heap.size, 1, none⟩ = some (.int .i64 x.2.1) := fun zz => cell_kept zz.prop CTX.out.c1
      have cz2 : ∀ zz : Later w2.heap.size w2, zz.val.cell? ⟨wr.heap.size, 2, none⟩ = some (.int .i64 x.2.2.1) := fun zz => cell_kept zz.prop CTX.out.c2
      have cz3 : ∀ zz : Later w2.heap.size w2, zz.val.cell? ⟨wr.heap.size, 3, none⟩ = some (.int .i64 x.2.2.2.1) := fun zz => cell_kept zz.prop CTX.out.c3
      have cz4 : ∀ zz : Later w2.heap.size w2, zz.val.cell? ⟨wr.heap.size, 4, none⟩ = some (.string x.2.2.2.2.1) := fun zz => cell_kept zz.prop CTX.out.c4
      have cz5 : ∀ zz : Later w2.heap.size w2, zz.val.cell? ⟨wr.heap.size, 5, none⟩ = some (.string x.2.2.2.2.2.1) := fun zz => cell_kept zz.prop CTX.out.c5
      have cz6 : ∀ zz : Later w2.heap.size w2, zz.val.cell? ⟨wr.heap.size, 6, none⟩ = some (.int .u64 (x.2.2.2.2.2.2.1.toNat : Int)) := fun zz => cell_kept zz.prop CTX.out.c6
      have cz7 : ∀ zz : Later w2.heap.size w2, zz.val.cell? ⟨wr.heap.size, 7, none⟩ = some (.int .u64 (x.2.2.2.2.2.2.2.toNat : Int)) := fun zz => cell_kept zz.prop CTX.out.c7
      have cv5 : ∀ zz : Later w2.heap.size w2, zz.val.cell? ⟨w.heap.size, 5, none⟩ = some (.int .u64 (v.seq.toNat : Int)) := fun zz => cell_kept zz.prop (by rw [blk_cell CV.out]; rfl)
      have cv6 : ∀ zz : Later w2.heap.size w2, zz.val.cell? ⟨w.heap.size, 6, none⟩ = some (.int .u64 (v.nxt.toNat : Int)) := fun zz => cell_kept zz.prop (by rw [blk_cell CV.out]; rfl)
      have cvk : ∀ zz : Later w2.heap.size w2, zz.val.cell? ⟨w.heap.size, k, none⟩ = some (.slice (some ⟨b, off, none⟩) l.length cap) := fun zz => cell_kept zz.prop (by rw [← HLV.out]; exact boxV_lev CV.out hk)
      go_cut [57] from 17 to 58 (fun v57 W => v57 = .bool (!okAt k v.nxt v.seq l i HLT.out) ∧ Below w2.heap.size w2 W)
      case first =>
        obtain ⟨r, hr⟩ : ∃ r, r = rightT x := ⟨_, rfl⟩
        rw [← hr] at HRW
        have HRR := Lib.hid hr
        clear hr
        cases r
        · skip
          have HO := Lib.hid (show okAt k v.nxt v.seq l i HLT.out = false from by
            unfold okAt
            rw [← HXX.out]
            rw [← HRR.out]; rfl)
          go_wp2_with fail
          refine wp_region_later w2.heap.size (by kernel_rfl) (by kernel_rfl) ?_
          repeat (go_big_quiet_step (first | (go_at_call 54; exact Later.calls (Nat.le_refl _) (HRW.out _))))
          refine wpQuiet_nil ?_
          rintro w3 ⟨zz, rfl⟩
          have HZ := Lib.hid zz.prop
          generalize zz.val = w3 at *
          go_wp2_with fail
          go_meet
          case rel => exact ⟨by rw [HO.out]; rfl, HZ.out⟩
        · skip
          by_cases q1 : x.2.1 = (k : Int)
          · have z1 : (x.2.1 == (k : Int)) = true := by simpa using q1
            have z1b : (x.2.1 != (k : Int)) = false := by simpa using q1
            have Q1 := Lib.hid q1
            clear q1
            by_cases q2 : x.1.toNat < v.nxt.toNat
            · have z2c : ¬ v.nxt.toNat ≤ x.1.toNat := (by omega); have z2 : ¬ ((x.1.toNat : Int) ≥ (v.nxt.toNat : Int)) := by omega
              have z2b : decide ((x.1.toNat : Int) ≥ (v.nxt.toNat : Int)) = false := by simpa using q2
              have Q2 := Lib.hid q2
              clear q2
              by_cases q3 : x.2.2.2.2.2.2.2.toNat ≤ v.seq.toNat
              · have z3c : ¬ v.seq.toNat < x.2.2.2.2.2.2.2.toNat := (by omega); have z3 : ¬ ((x.2.2.2.2.2.2.2.toNat : Int) > (v.seq.toNat : Int)) := by omega
                have z3b : decide ((x.2.2.2.2.2.2.2.toNat : Int) > (v.seq.toNat : Int)) = false := by simpa using q3
                have Q3 := Lib.hid q3
                clear q3
                by_cases q4 : 0 < i
                · have z4c : 0 < i := q4; have z4 : (i : Int) > 0 := by omega
                  have z4b : decide ((i : Int) > 0) = true := by simpa using q4
                  obtain ⟨m, hm⟩ : ∃ m, m = i - 1 := ⟨_, rfl⟩
                  have m1 : IntKind.i64.wrap ((i : Int) - 1) = (m : Int) := by rw [IntKind.wrap_i64]; omega
                  have m2 : (i : Int) - 1 = (m : Int) := by omega
                  have m3 : (0 : Int) ≤ (m : Int) := by omega
                  have m4 : (m : Int) < (l.length : Int) := by omega
                  have hml : m < l.length := by omega
                  obtain ⟨y, hy⟩ : ∃ y, y = l[m]'hml := ⟨_, rfl⟩
                  have CM := Lib.hid (show CellsOf w2 b (off + m * 8) y from by rw [hy]; exact CL.out m hml)
                  have cy0 : ∀ zz : Later w2.heap.size w2, zz.val.cell? ⟨b, off + m * 8, none⟩ = some (.int .u64 (y.1.toNat : Int)) := fun zz => cell_kept zz.prop CM.out.c0
                  have cy1 : ∀ zz : Later w2.heap.size w2, zz.val.cell? ⟨b, off + m * 8 + 1, none⟩ = some (.int .i64 y.2.1) := fun zz => cell_kept zz.prop CM.out.c1
                  have cy2 : ∀ zz : Later w2.heap.size w2, zz.val.cell? ⟨b, off + m * 8 + 2, none⟩ = some (.int .i64 y.2.2.1) := fun zz => cell_kept zz.prop CM.out.c2
                  have cy3 : ∀ zz : Later w2.heap.size w2, zz.val.cell? ⟨b, off + m * 8 + 3, none⟩ = some (.int .i64 y.2.2.2.1) := fun zz => cell_kept zz.prop CM.out.c3
                  have cy4 : ∀ zz : Later w2.heap.size w2, zz.val.cell? ⟨b, off + m * 8 + 4, none⟩ = some (.string y.2.2.2.2.1) := fun zz => cell_kept zz.prop CM.out.c4
                  have cy5 : ∀ zz : Later w2.heap.size w2, zz.val.cell? ⟨b, off + m * 8 + 5, none⟩ = some (.string y.2.2.2.2.2.1) := fun zz => cell_kept zz.prop CM.out.c5
                  have cy6 : ∀ zz : Later w2.heap.size w2, zz.val.cell? ⟨b, off + m * 8 + 6, none⟩ = some (.int .u64 (y.2.2.2.2.2.2.1.toNat : Int)) := fun zz => cell_kept zz.prop CM.out.c6
                  have cy7 : ∀ zz : Later w2.heap.size w2, zz.val.cell? ⟨b, off + m * 8 + 7, none⟩ = some (.int .u64 (y.2.2.2.2.2.2.2.toNat : Int)) := fun zz => cell_kept zz.prop CM.out.c7
                  have HFT := Lib.hid (fun W => fits_any k y x W)
                  obtain ⟨f, hf⟩ : ∃ f, f = fitT k y x := ⟨_, rfl⟩
                  rw [← hf] at HFT
                  have HOO := Lib.hid (show okAt k v.nxt v.seq l i HLT.out = f from by
                    unfold okAt
                    rw [← HXX.out, ← HRR.out, dif_pos q4]
                    simp only [tV, tN, tM, Q1.out, Q2.out, Q3.out, decide_true, Bool.true_and]
                    subst hm
                    rw [hf, hy])
                  clear hf hy hm q4
                  cases f
                  · have HO := HOO
                    go_wp2_with fail
                    refine wp_region_later w2.heap.size (by kernel_rfl) (by kernel_rfl) ?_
                    repeat (go_big_quiet_step (first | (go_at_call 54; exact Later.calls (Nat.le_refl _) (HRW.out _)) | (go_at_call 55; exact Later.calls (Nat.le_refl _) (HFT.out _))))
                    refine wpQuiet_nil ?_
                    rintro w3 ⟨zz, rfl⟩
                    have HZ := Lib.hid zz.prop
                    generalize zz.val = w3 at *
                    go_wp2_with fail
                    go_meet
                    case rel => exact ⟨by rw [HO.out]; rfl, HZ.out⟩
                  · have HO := HOO
                    go_wp2_with fail
                    refine wp_region_later w2.heap.size (by kernel_rfl) (by kernel_rfl) ?_
                    repeat (go_big_quiet_step (first | (go_at_call 54; exact Later.calls (Nat.le_refl _) (HRW.out _)) | (go_at_call 55; exact Later.calls (Nat.le_refl _) (HFT.out _))))
                    refine wpQuiet_nil ?_
                    rintro w3 ⟨zz, rfl⟩
                    have HZ := Lib.hid zz.prop
                    generalize zz.val = w3 at *
                    go_wp2_with fail
                    go_meet
                    case rel => exact ⟨by rw [HO.out]; rfl, HZ.out⟩
                · have z4c : ¬ 0 < i := q4; have z4 : ¬ ((i : Int) > 0) := by omega
                  have z4b : decide ((i : Int) > 0) = false := by simpa using q4
                  have HO := Lib.hid (show okAt k v.nxt v.seq l i HLT.out = true from by
                    unfold okAt
                    rw [← HXX.out, ← HRR.out, dif_neg q4]
                    simp only [tV, tN, tM, Q1.out, Q2.out, Q3.out, decide_true, Bool.true_and])
                  clear q4
                  go_wp2_with fail
                  refine wp_region_later w2.heap.size (by kernel_rfl) (by kernel_rfl) ?_
                  repeat (go_big_quiet_step (first | (go_at_call 54; exact Later.calls (Nat.le_refl _) (HRW.out _))))
                  refine wpQuiet_nil ?_
                  rintro w3 ⟨zz, rfl⟩
                  have HZ := Lib.hid zz.prop
                  generalize zz.val = w3 at *
                  go_wp2_with fail
                  go_meet
                  case rel => exact ⟨by rw [HO.out]; rfl, HZ.out⟩
              · have z3c : v.seq.toNat < x.2.2.2.2.2.2.2.toNat := (by omega); have z3 : (x.2.2.2.2.2.2.2.toNat : Int) > (v.seq.toNat : Int) := by omega
                have z3b : decide ((x.2.2.2.2.2.2.2.toNat : Int) > (v.seq.toNat : Int)) = true := by simpa using q3
                have HO := Lib.hid (show okAt k v.nxt v.seq l i HLT.out = false from by
                  unfold okAt
                  rw [← HXX.out]
                  simp only [tV, tN, tM, q3, decide_false, Bool.false_and, Bool.and_false])
                clear q3
                go_wp2_with fail
                refine wp_region_later w2.heap.size (by kernel_rfl) (by kernel_rfl) ?_
                repeat (go_big_quiet_step (first | (go_at_call 54; exact Later.calls (Nat.le_refl _) (HRW.out _))))
                refine wpQuiet_nil ?_
                rintro w3 ⟨zz, rfl⟩
                have HZ := Lib.hid zz.prop
                generalize zz.val = w3 at *
                go_wp2_with fail
                go_meet
                case rel => exact ⟨by rw [HO.out]; rfl, HZ.out⟩
            · have z2c : v.nxt.toNat ≤ x.1.toNat := (by omega); have z2 : (x.1.toNat : Int) ≥ (v.nxt.toNat : Int) := by omega
              have z2b : decide ((x.1.toNat : Int) ≥ (v.nxt.toNat : Int)) = true := by simpa using q2
              have HO := Lib.hid (show okAt k v.nxt v.seq l i HLT.out = false from by
                unfold okAt
                rw [← HXX.out]
                simp only [tV, tN, tM, q2, decide_false, Bool.false_and, Bool.and_false])
              clear q2
              go_wp2_with fail
              refine wp_region_later w2.heap.size (by kernel_rfl) (by kernel_rfl) ?_
              repeat (go_big_quiet_step (first | (go_at_call 54; exact Later.calls (Nat.le_refl _) (HRW.out _))))
              refine wpQuiet_nil ?_
              rintro w3 ⟨zz, rfl⟩
              have HZ := Lib.hid zz.prop
              generalize zz.val = w3 at *
              go_wp2_with fail
              go_meet
              case rel => exact ⟨by rw [HO.out]; rfl, HZ.out⟩
          · have z1 : (x.2.1 == (k : Int)) = false := by simpa using q1
            have z1b : (x.2.1 != (k : Int)) = true := by simpa using q1
            have HO := Lib.hid (show okAt k v.nxt v.seq l i HLT.out = false from by
              unfold okAt
              rw [← HXX.out]
              simp only [tV, tN, tM, q1, decide_false, Bool.false_and, Bool.and_false])
            clear q1
            go_wp2_with fail
            refine wp_region_later w2.heap.size (by kernel_rfl) (by kernel_rfl) ?_
            repeat (go_big_quiet_step (first | (go_at_call 54; exact Later.calls (Nat.le_refl _) (HRW.out _))))
            refine wpQuiet_nil ?_
            rintro w3 ⟨zz, rfl⟩
            have HZ := Lib.hid zz.prop
            generalize zz.val = w3 at *
            go_wp2_with fail
            go_meet
            case rel => exact ⟨by rw [HO.out]; rfl, HZ.out⟩
      case rest =>
        rename World => w3
        obtain ⟨rfl, hb⟩ := hcut
        have HB3 := Lib.hid (below_step HBE.out (below_step HA2.out hb HA2.out.size) HBE.out.size)
        obtain ⟨o, ho⟩ : ∃ o, o = okAt k v.nxt v.seq l i HLT.out := ⟨_, rfl⟩
        have HO := Lib.hid ho
        rw [← ho]
        clear ho
        have HX3 := Lib.hid (show w3.heap[w.heap.size]? = some (boxV v) from blk_kept hb CV.out)
        have HT3 := Lib.hid (show TbsAt w3 (.slice (some ⟨b, off, none⟩) l.length cap) l from HT1.out.kept (below_step HA2.out hb HA2.out.size))
        cases o
        · go_wp2_with fail
          go_ret
          exact ⟨ret_bool (levB_no HLT.out HO.out.symm).symm, HB3.out⟩
        · go_wp2_with fail
          go_roundw
          case rel => exact ⟨i + 1, hlt, by first | rfl | (congr 1), Lib.hid (fun j hj hji => by
            rcases Nat.lt_or_eq_of_le (show j ≤ i by omega) with h | h
            · exact HAL.out j hj h
            · subst h; exact HO.out.symm), HB3.out, HX3.out, HT3.out⟩
          case measure => simp [intOf]; omega
    · have HV := Lib.hid (show levB k v.nxt v.seq l = true from by
        rw [levB_iff, lev_ok]
        exact fun j hj => HAL.out j hj (by omega))
      have j2 : ¬ (i : Int) < (l.length : Int) := by omega
      clear ht
      go_wp2_with fail
      go_ret
      exact ⟨ret_bool HV.out.symm, HBE.out⟩
end Go.Proofs.Tryd.Vr

/- All the tables of a version. -/
set_option linter.unusedVariables false
set_option linter.unusedSimpArgs false
set_option maxRecDepth 100000
namespace Go.Proofs.Tryd.Vr
open Go.RowKit Go.Cph Go.Cph.Skip Go.Cph.So Go.Cph.Ve

theorem four_lists {w : World} {b : Nat} {v : Vn} {lv : Nat → List Tb} (hb : w.heap[b]? = some (boxV v)) (h : VerAt w v lv) : TbsOf w (.slice (some ⟨b, 0, none⟩) 4 4) [lv 0, lv 1, lv 2, lv 3] := by
  refine ⟨[v.s0, v.s1, v.s2, v.s3], rfl, ⟨⟨some ⟨b, 0, none⟩, 4, rfl, fun _ => ⟨b, 0, rfl, fun j hj => ?_⟩⟩, rfl⟩, fun j hj hk => ?_⟩
  · have hj4 : j < 4 := hj
    rw [Nat.zero_add, boxV_lev hb hj4]
    rcases (show j = 0 ∨ j = 1 ∨ j = 2 ∨ j = 3 by omega) with rfl | rfl | rfl | rfl <;> rfl
  · have hj4 : j < 4 := hj
    rcases (show j = 0 ∨ j = 1 ∨ j = 2 ∨ j = 3 by omega) with rfl | rfl | rfl | rfl
    · exact h.l0
    · exact h.l1
    · exact h.l2
    · exact h.l3
theorem tabs_flat (lv : Nat → List Tb) : [lv 0, lv 1, lv 2, lv 3].flatten = tabs lv := by rw [tabs_eq]; simp

set_option maxHeartbeats 4000000 in
theorem tables_any (v : Vn) (lv : Nat → List Tb) (w : World) (h : VerAt w v lv) (hn : (tabs lv).length ≤ 1000000) :
    Calls Tryd.prog 25 #[encV v] w (fun e w' => ∃ v', e = .returned v' ∧ TbsAt w' v' (tabs lv) ∧ Below w.heap.size w w') := by
  have HB := Lib.hid (below_of_alloc (w := w) (boxV v))
  have HC := Lib.hid (concat _ _ _ (four_lists (heap_alloc_new w (boxV v)) (h.kept HB.out)) (by simp) (by rw [tabs_flat]; exact hn))
  rw [tabs_flat] at HC
  clear h
  go_enter Tryd.func25, Tryd.ntmps25
  go_wp2_with (go_at_call 32; refine HC.out.mono ?_; rintro e w2 hr; obtain ⟨v', rfl, ho, hb⟩ := hr)
  go_ret
  exact ⟨_, rfl, Seg.of_owns ho, below_step HB.out hb HB.out.size⟩
end Go.Proofs.Tryd.Vr
