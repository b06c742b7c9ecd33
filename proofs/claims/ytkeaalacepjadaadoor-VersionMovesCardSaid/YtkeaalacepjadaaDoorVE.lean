/- VE: texts put together: Vo1 Vo2 Vo3. -/
import Derived.Test.YtkeaalacepjadaaDoorVD
import Derived.Test.YtkeaalacepjadaaDoorSq1
/- A version in memory of its own: its levels' rows lie apart. -/
set_option linter.unusedVariables false
set_option linter.unusedSimpArgs false
set_option maxRecDepth 100000
namespace Go.Proofs.Tryd.Vr
open Go.RowKit Go.Cph Go.Cph.Skip Go.Cph.So Go.Cph.Ve
open Go.Proofs.Tryd.Sq (row_kept1 grown_below grown_set)

def Vn.set (v : Vn) (k : Nat) (x : Value) : Vn := match k with
  | 0 => { v with s0 := x }
  | 1 => { v with s1 := x }
  | 2 => { v with s2 := x }
  | _ => { v with s3 := x }
theorem set_nums (v : Vn) (k : Nat) (x : Value) : (v.set k x).log = v.log ∧ (v.set k x).seq = v.seq ∧ (v.set k x).nxt = v.nxt := by
  unfold Vn.set
  split <;> exact ⟨rfl, rfl, rfl⟩
theorem lev_set (v : Vn) {j k : Nat} (hj : j < 4) (hk : k < 4) (x : Value) : (v.set k x).lev j = if j = k then x else v.lev j := by
  rcases (show k = 0 ∨ k = 1 ∨ k = 2 ∨ k = 3 by omega) with rfl | rfl | rfl | rfl <;>
    rcases (show j = 0 ∨ j = 1 ∨ j = 2 ∨ j = 3 by omega) with rfl | rfl | rfl | rfl <;> rfl
theorem box_set {w : World} {b : Nat} {v : Vn} (h : w.heap[b]? = some (boxV v)) {k : Nat} (hk : k < 4) (x : Value) : (w.setCell ⟨b, k, none⟩ x).heap[b]? = some (boxV (v.set k x)) := by
  rw [blk_set h]
  rcases (show k = 0 ∨ k = 1 ∨ k = 2 ∨ k = 3 by omega) with rfl | rfl | rfl | rfl <;> rfl
/-- The first n levels' rows are our own, each apart from the others. -/
structure OwnUpto (w : World) (base : Nat) (v : Vn) (A : Nat → List Tb) (n : Nat) : Prop where
  own : ∀ k, k < n → w.ownsRow base TE 8 (v.lev k) (A k).length ((A k).flatMap encC)
  dif : ∀ j k, j < n → k < n → j ≠ k → ∀ p, (v.lev j).ownBlock = some p → (v.lev k).ownBlock ≠ some p
abbrev VerOwn (w : World) (base : Nat) (v : Vn) (A : Nat → List Tb) : Prop := OwnUpto w base v A 4
theorem OwnUpto.keep {w w' : World} {base : Nat} {v : Vn} {A : Nat → List Tb} {n : Nat} (h : OwnUpto w base v A n) (row : Option Nat) (hg : w.grownBy w' row) (hr : ∀ k, k < n → ∀ p, (v.lev k).ownBlock = some p → row ≠ some p) : OwnUpto w' base v A n :=
  ⟨fun k hk => row_kept1 (h.own k hk) fun p hp => hg.block p ((h.own k hk).lt p hp).2 (fun e => hr k hk p hp e.symm), h.dif⟩
theorem OwnUpto.kept {w w' : World} {base : Nat} {v : Vn} {A : Nat → List Tb} {n : Nat} (h : OwnUpto w base v A n) (hb : Below w.heap.size w w') : OwnUpto w' base v A n :=
  h.keep none (grown_below hb none) fun k hk p hp => by simp
theorem VerOwn.at' {w : World} {base : Nat} {v : Vn} {A : Nat → List Tb} (h : VerOwn w base v A) : VerAt w v A := ⟨Seg.of_owns (h.own 0 (by omega)), Seg.of_owns (h.own 1 (by omega)), Seg.of_owns (h.own 2 (by omega)), Seg.of_owns (h.own 3 (by omega))⟩
/-- One more level's row. -/
theorem OwnUpto.more {w w' : World} {base : Nat} {v : Vn} {A : Nat → List Tb} {n : Nat} (h : OwnUpto w base v A n) (hn : n < 4) {x : Value} (hb : Below w.heap.size w w') (hx : w'.ownsRow w.heap.size TE 8 x (A n).length ((A n).flatMap encC)) (hbase : base ≤ w.heap.size) :
    OwnUpto w' base (v.set n x) A (n + 1) := by
  have hk := h.kept hb
  have old : ∀ k, k < n → (v.set n x).lev k = v.lev k := fun k hk => by rw [lev_set v (by omega) hn, if_neg (by omega)]
  have new : (v.set n x).lev n = x := by rw [lev_set v hn hn, if_pos rfl]
  refine ⟨fun k hk2 => ?_, fun j k hj hk2 hne p hp hq => ?_⟩
  · rcases Nat.lt_or_eq_of_le (Nat.le_of_lt_succ hk2) with h1 | rfl
    · rw [old k h1]; exact hk.own k h1
    · rw [new]; exact owns_mono hx hbase
  · rcases Nat.lt_or_eq_of_le (Nat.le_of_lt_succ hj) with h1 | rfl
    · rw [old j h1] at hp
      have lt := ((h.own j h1).lt p hp).2
      rcases Nat.lt_or_eq_of_le (Nat.le_of_lt_succ hk2) with h2 | rfl
      · rw [old k h2] at hq
        exact h.dif j k h1 h2 hne p hp hq
      · rw [new] at hq
        have := (hx.lt p hq).1
        omega
    · rw [new] at hp
      have ge := (hx.lt p hp).1
      rcases Nat.lt_or_eq_of_le (Nat.le_of_lt_succ hk2) with h2 | rfl
      · rw [old k h2] at hq
        have := ((h.own k h2).lt p hq).2
        omega
      · exact hne rfl
/-- A level's row changed. -/
theorem VerOwn.put {w w' : World} {base : Nat} {v : Vn} {A : Nat → List Tb} (h : VerOwn w base v A) {k : Nat} (hk : k < 4) {x : Value} {l : List Tb} (hg : w.grownBy w' (v.lev k).ownBlock) (hx : w'.ownsRow base TE 8 x l.length (l.flatMap encC))
    (hw : x.ownBlock = (v.lev k).ownBlock ∨ ∀ p, x.ownBlock = some p → w.heap.size ≤ p) : VerOwn w' base (v.set k x) (upd A k l) := by
  have old : ∀ j, j < 4 → j ≠ k → (v.set k x).lev j = v.lev j := fun j hj hne => by rw [lev_set v hj hk, if_neg hne]
  have new : (v.set k x).lev k = x := by rw [lev_set v hk hk, if_pos rfl]
  have aold : ∀ j, j ≠ k → upd A k l j = A j := fun j hne => by unfold upd; rw [if_neg hne]
  have anew : upd A k l k = l := by unfold upd; rw [if_pos rfl]
  have far : ∀ j, j < 4 → j ≠ k → ∀ p, (v.lev j).ownBlock = some p → x.ownBlock ≠ some p := fun j hj hne p hp hq => by
    rcases hw with e | e
    · rw [e] at hq
      exact h.dif j k hj hk hne p hp hq
    · have := e p hq
      have := ((h.own j hj).lt p hp).2
      omega
  refine ⟨fun j hj => ?_, fun i j hi hj hne p hp hq => ?_⟩
  · by_cases e : j = k
    · subst e
      rw [new, anew]; exact hx
    · rw [old j hj e, aold j e]
      refine row_kept1 (h.own j hj) fun p hp => hg.block p ((h.own j hj).lt p hp).2 ?_
      intro e2
      exact h.dif j k hj hk e p hp e2.symm
  · by_cases e1 : i = k
    · subst e1
      rw [new] at hp
      rw [old j hj (Ne.symm hne)] at hq
      exact far j hj (Ne.symm hne) p hq hp
    · rw [old i hi e1] at hp
      by_cases e2 : j = k
      · subst e2
        rw [new] at hq
        exact far i hi e1 p hp hq
      · rw [old j hj e2] at hq
        exact h.dif i j hi hj hne p hp hq
/-- .. what is stored in a box apart from the rows stays out of them. -/
theorem VerOwn.box {w : World} {base b : Nat} {v : Vn} {A : Nat → List Tb} (h : VerOwn w base v A) (hb : ∀ k, k < 4 → (v.lev k).ownBlock ≠ some b) (j : Nat) (x : Value) : VerOwn (w.setCell ⟨b, j, none⟩ x) base v A :=
  h.keep (some b) (grown_set w b j x) fun k hk p hp e => hb k hk (by rw [hp, ← e])
end Go.Proofs.Tryd.Vr

/- A version copied into memory of its own. -/
set_option linter.unusedVariables false
set_option linter.unusedSimpArgs false
set_option maxRecDepth 100000
namespace Go.Proofs.Tryd.Vr
open Go.RowKit Go.Cph Go.Cph.Skip Go.Cph.So Go.Cph.Ve
open Go.Proofs.Tryd.Sq (row_kept1 grown_below grown_set)

theorem vn_eta (v : Vn) : v = ⟨v.s0, v.s1, v.s2, v.s3, v.log, v.seq, v.nxt⟩ := rfl
abbrev put7 (w : World) (b : Nat) (u : Vn) : World := ((((((w.setCell ⟨b, 0, none⟩ u.s0).setCell ⟨b, 1, none⟩ u.s1).setCell ⟨b, 2, none⟩ u.s2).setCell ⟨b, 3, none⟩ u.s3).setCell ⟨b, 4, none⟩ (.int .u64 (u.log.toNat : Int))).setCell ⟨b, 5, none⟩ (.int .u64 (u.seq.toNat : Int))).setCell ⟨b, 6, none⟩ (.int .u64 (u.nxt.toNat : Int))
theorem box_put7 {w : World} {b : Nat} {cs : Array Value} (h : w.heap[b]? = some (.cells cs TVn (0, 0))) (hs : cs.size = 7) (u : Vn) : (put7 w b u).heap[b]? = some (boxV u) := by
  rw [blk_set (blk_set (blk_set (blk_set (blk_set (blk_set (blk_set h 0 _) 1 _) 2 _) 3 _) 4 _) 5 _) 6 _]
  obtain ⟨l⟩ := cs
  match l, hs with
  | [a0, a1, a2, a3, a4, a5, a6], _ => rfl
theorem grown_put7 (w : World) (b : Nat) (u : Vn) : w.grownBy (put7 w b u) (some b) :=
  ((((((grown_set w b 0 _).trans (grown_set _ b 1 _)).trans (grown_set _ b 2 _)).trans (grown_set _ b 3 _)).trans (grown_set _ b 4 _)).trans (grown_set _ b 5 _)).trans (grown_set _ b 6 _)
theorem below_put7 {B : Nat} {a w : World} (h : Below B a w) {b : Nat} (hb : B ≤ b) (u : Vn) : Below B a (put7 w b u) :=
  ((((((h.setCell (p := ⟨b, 0, none⟩) hb _).setCell (p := ⟨b, 1, none⟩) hb _).setCell (p := ⟨b, 2, none⟩) hb _).setCell (p := ⟨b, 3, none⟩) hb _).setCell (p := ⟨b, 4, none⟩) hb _).setCell (p := ⟨b, 5, none⟩) hb _).setCell (p := ⟨b, 6, none⟩) hb _
def OwnPost (v : Vn) (lv : Nat → List Tb) (w : World) (e : Ending) (w' : World) : Prop :=
  ∃ v', e = .returned (encV v') ∧ VerOwn w' w.heap.size v' lv ∧ v'.log = v.log ∧ v'.seq = v.seq ∧ v'.nxt = v.nxt ∧ Below w.heap.size w w'
abbrev zeroV : Value := .agg #[.slice none 0 0, .slice none 0 0, .slice none 0 0, .slice none 0 0, .int .u64 0, .int .u64 0, .int .u64 0]
abbrev boxZ : Obj := .cells #[.slice none 0 0, .slice none 0 0, .slice none 0 0, .slice none 0 0, .int .u64 0, .int .u64 0, .int .u64 0] TVn (0, 0)

set_option maxHeartbeats 8000000 in
theorem own_any (v : Vn) (lv : Nat → List Tb) (w : World) (h : VerAt w v lv) (hn : ∀ k, k < 4 → (lv k).length ≤ 1000000) :
    Calls Tryd.prog 26 #[encV v] w (OwnPost v lv w) := by
  have HN := Lib.hid hn
  have HB0 := Lib.hid (bel2 (w := w) (boxV v) boxZ)
  have HX0 := Lib.hid (show ((w.alloc (boxV v)).alloc boxZ).heap[w.heap.size]? = some (boxV v) from blk_alloc (heap_alloc_new _ _) _)
  have HZ0 := Lib.hid (alloc2_new w (boxV v) boxZ)
  have HV := Lib.hid h
  clear h hn
  go_enter Tryd.func26, Tryd.ntmps26
  go_wp2_with fail
  go_loopw [4] (fun vi W => ∃ i : Nat, i ≤ 4 ∧ vi = .int .i64 (i : Int) ∧ ∃ u : Vn, W.heap[w.heap.size]? = some (boxV u) ∧ W.heap[w.heap.size + 1]? = some boxZ ∧ Hid (OwnUpto W (w.heap.size + 2) u lv i ∧ (∀ k, i ≤ k → k < 4 → u.lev k = v.lev k) ∧ u.log = v.log ∧ u.seq = v.seq ∧ u.nxt = v.nxt) ∧ Below w.heap.size w W) (fun vi _ => 4 - (intOf vi).toNat)
  case atStart => exact ⟨0, by omega, rfl, v, HX0.out, HZ0.out, Lib.hid ⟨⟨fun k hk => absurd hk (Nat.not_lt_zero _), fun j k hj => absurd hj (Nat.not_lt_zero _)⟩, fun k _ _ => rfl, rfl, rfl, rfl⟩, HB0.out⟩
  case round =>
    obtain ⟨i, hi, rfl, u, hx, hz, HO, hb⟩ := hrel
    have HX := Lib.hid hx
    have HZ := Lib.hid hz
    have HB := Lib.hid hb
    have hlt0 : w.heap.size + 2 ≤ wr.heap.size := blk_lt hz
    have HL0 := Lib.hid hlt0
    by_cases hlt : i < 4
    · have j1 : (i : Int) < 4 := by omega
      have j0 : (0 : Int) ≤ (i : Int) := by omega
      have j4 : IntKind.i64.wrap ((i : Int) + 1) = (i : Int) + 1 := by rw [IntKind.wrap_i64]; omega
      obtain ⟨x, hx2⟩ : ∃ x, x = u.lev i := ⟨_, rfl⟩
      have c1 : wr.cell? ⟨w.heap.size, i, none⟩ = some x := by rw [hx2]; exact boxV_lev hx hlt
      have HC := Lib.hid (clone_any x (lv i) wr (by rw [hx2, HO.out.2.1 i (Nat.le_refl _) hlt]; exact (HV.out.at hlt).kept hb) (HN.out i hlt))
      have HI := Lib.hid hlt
      have HXX := Lib.hid hx2
      clear hx hz hb hlt0 hx2
      go_wp2_with (go_at_call 30; refine HC.out.mono ?_; rintro e w2 ⟨x2, rfl, ho2, hb2⟩; obtain ⟨ao2, cp2, hx2⟩ := owns_slice1 ho2; subst hx2; have HO2 := Lib.hid ho2; have HB2 := Lib.hid hb2; have HX2 := Lib.hid (blk_kept hb2 HX.out); have fz := boxV_free HX2.out i; have fc : w2.cell? ⟨w.heap.size, i, none⟩ = some x := (by rw [HXX.out]; exact boxV_lev HX2.out HI.out); clear ho2 hb2)
      go_roundw
      case rel =>
        have hne : ∀ k, k < 4 → k < i + 1 → ((u.set i (.slice ao2 (lv i).length cp2)).lev k).ownBlock ≠ some w.heap.size := fun k hk hk2 e => by
          have := (((HO.out.1.more HI.out HB2.out HO2.out HL0.out).own k hk2).lt _ e).1
          omega
        refine ⟨i + 1, by omega, by first | rfl | (congr 1), u.set i (.slice ao2 (lv i).length cp2), box_set HX2.out HI.out _, ?_, Lib.hid ⟨?_, fun k h1 h2 => ?_, (set_nums u i (.slice ao2 (lv i).length cp2)).1.trans HO.out.2.2.1, (set_nums u i (.slice ao2 (lv i).length cp2)).2.1.trans HO.out.2.2.2.1, (set_nums u i (.slice ao2 (lv i).length cp2)).2.2.trans HO.out.2.2.2.2⟩, ?_⟩
        · rw [blk_set_other (by show w.heap.size + 1 ≠ w.heap.size; omega)]; exact blk_kept HB2.out HZ.out
        · exact (HO.out.1.more HI.out HB2.out HO2.out HL0.out).keep (some w.heap.size) (grown_set _ _ _ _) fun k hk p hp e => hne k (by have := HI.out; omega) hk (by rw [hp, ← e])
        · rw [lev_set u h2 HI.out, if_neg (by omega)]; exact HO.out.2.1 k (by omega) h2
        · exact (below_step HB.out HB2.out HB.out.size).setCell (Nat.le_refl _) _
      case measure => simp [intOf]; omega
    · have j1 : ¬ (i : Int) < 4 := by omega
      have hi4 : i = 4 := by omega
      subst hi4
      have hv0 := HO.out.1
      obtain ⟨x0, x1, x2, x3, lg, sq, nx⟩ := u
      obtain ⟨a0, c0, e0⟩ := owns_slice1 (hv0.own 0 (by omega))
      obtain ⟨a1, c1, e1⟩ := owns_slice1 (hv0.own 1 (by omega))
      obtain ⟨a2, c2, e2⟩ := owns_slice1 (hv0.own 2 (by omega))
      obtain ⟨a3, c3, e3⟩ := owns_slice1 (hv0.own 3 (by omega))
      dsimp only [Vn.lev] at e0 e1 e2 e3
      subst e0 e1 e2 e3
      have d0 : wr.cell? ⟨w.heap.size, 0, none⟩ = some (.slice a0 (lv 0).length c0) := by rw [blk_cell hx]; rfl
      have d1 : wr.cell? ⟨w.heap.size, 1, none⟩ = some (.slice a1 (lv 1).length c1) := by rw [blk_cell hx]; rfl
      have d2 : wr.cell? ⟨w.heap.size, 2, none⟩ = some (.slice a2 (lv 2).length c2) := by rw [blk_cell hx]; rfl
      have d3 : wr.cell? ⟨w.heap.size, 3, none⟩ = some (.slice a3 (lv 3).length c3) := by rw [blk_cell hx]; rfl
      have d4 : wr.cell? ⟨w.heap.size, 4, none⟩ = some (.int .u64 (lg.toNat : Int)) := by rw [blk_cell hx]; rfl
      have d5 : wr.cell? ⟨w.heap.size, 5, none⟩ = some (.int .u64 (sq.toNat : Int)) := by rw [blk_cell hx]; rfl
      have d6 : wr.cell? ⟨w.heap.size, 6, none⟩ = some (.int .u64 (nx.toNat : Int)) := by rw [blk_cell hx]; rfl
      have fz : ∀ j, wr.frozen? ⟨w.heap.size + 1, j, none⟩ = false := fun j => by rw [blk_frozen hz]; simp
      have z0 : wr.cell? ⟨w.heap.size + 1, 0, none⟩ = some (.slice none 0 0) := by rw [blk_cell hz]; rfl
      have z1 : wr.cell? ⟨w.heap.size + 1, 1, none⟩ = some (.slice none 0 0) := by rw [blk_cell hz]; rfl
      have z2 : wr.cell? ⟨w.heap.size + 1, 2, none⟩ = some (.slice none 0 0) := by rw [blk_cell hz]; rfl
      have z3 : wr.cell? ⟨w.heap.size + 1, 3, none⟩ = some (.slice none 0 0) := by rw [blk_cell hz]; rfl
      have z4 : wr.cell? ⟨w.heap.size + 1, 4, none⟩ = some (.int .u64 0) := by rw [blk_cell hz]; rfl
      have z5 : wr.cell? ⟨w.heap.size + 1, 5, none⟩ = some (.int .u64 0) := by rw [blk_cell hz]; rfl
      have z6 : wr.cell? ⟨w.heap.size + 1, 6, none⟩ = some (.int .u64 0) := by rw [blk_cell hz]; rfl
      have HP := Lib.hid (box_put7 hz (by rfl) ⟨.slice a0 (lv 0).length c0, .slice a1 (lv 1).length c1, .slice a2 (lv 2).length c2, .slice a3 (lv 3).length c3, lg, sq, nx⟩)
      have HQ := Lib.hid (hv0.keep (w' := put7 wr (w.heap.size + 1) ⟨.slice a0 (lv 0).length c0, .slice a1 (lv 1).length c1, .slice a2 (lv 2).length c2, .slice a3 (lv 3).length c3, lg, sq, nx⟩) (some (w.heap.size + 1)) (grown_put7 _ _ _) fun k hk p hp e => by
        have := (hv0.own k hk).lt p hp
        have e2 : w.heap.size + 1 = p := by injection e
        omega)
      have HBP := Lib.hid (below_put7 hb (Nat.le_succ w.heap.size) ⟨.slice a0 (lv 0).length c0, .slice a1 (lv 1).length c1, .slice a2 (lv 2).length c2, .slice a3 (lv 3).length c3, lg, sq, nx⟩)
      clear hv0 hx hz hb
      go_wp2_with fail
      exact bodyPost_ret (v := encV ⟨.slice a0 (lv 0).length c0, .slice a1 (lv 1).length c1, .slice a2 (lv 2).length c2, .slice a3 (lv 3).length c3, lg, sq, nx⟩) (results_cell_row Tryd.results26 _ _ (w.heap.size + 1) TVn _ (0, 0) _ rfl HP.out Tryd.underlying29 rfl (by kernel_rfl)) rfl ⟨_, rfl, ⟨fun k hk => owns_mono (HQ.out.own k hk) (by omega), HQ.out.dif⟩, HO.out.2.2.1, HO.out.2.2.2.1, HO.out.2.2.2.2, HBP.out⟩
end Go.Proofs.Tryd.Vr

/- Where a number stands in a version. -/
set_option linter.unusedVariables false
set_option linter.unusedSimpArgs false
set_option maxRecDepth 100000
namespace Go.Proofs.Tryd.Vr
open Go.RowKit Go.Cph Go.Cph.Skip Go.Cph.So Go.Cph.Ve
open Go.Proofs.Tryd.Sq (row_kept1 grown_below grown_set)

def placeV (o : Option (Nat × Nat)) : Value := match o with
  | some (k, i) => .tuple #[.int .i64 (k : Int), .int .i64 (i : Int), .bool true]
  | none => .tuple #[.int .i64 0, .int .i64 0, .bool false]
def PlaceIs (A : Nat → List Tb) (n : UInt64) (o : Option (Nat × Nat)) : Prop := match o with
  | some (k, i) => k < 4 ∧ ∃ h : i < (A k).length, tN (A k)[i] = n
  | none => ∀ k, k < 4 → ∀ t ∈ A k, tN t ≠ n
def PlacePost (A : Nat → List Tb) (n : UInt64) (w : World) (e : Ending) (w' : World) : Prop := ∃ o, e = .returned (placeV o) ∧ PlaceIs A n o ∧ Below w.heap.size w w'

set_option maxHeartbeats 8000000 in
theorem place_any (b : Nat) (v : Vn) (A : Nat → List Tb) (n : UInt64) (w : World) (hx : w.heap[b]? = some (boxV v)) (h : VerAt w v A) (hn : ∀ k, k < 4 → (A k).length ≤ 1000000) :
    Calls Tryd.prog 41 #[.pointer (some ⟨b, 0, none⟩), .int .u64 (n.toNat : Int)] w (PlacePost A n w) := by
  have HN := Lib.hid hn
  have HX := Lib.hid hx
  have HV := Lib.hid h
  have HB0 := Lib.hid (below_of_alloc (w := w) (boxU n))
  have HU0 := Lib.hid (heap_alloc_new w (boxU n))
  clear hn hx h
  go_enter Tryd.func41, Tryd.ntmps41
  go_wp2_with fail
  go_loopw [9] (fun vi W => ∃ i : Nat, i ≤ 4 ∧ vi = .int .i64 (i : Int) ∧ Hid (∀ k, k < i → ∀ t ∈ A k, tN t ≠ n) ∧ W.heap[w.heap.size]? = some (boxU n) ∧ Below w.heap.size w W) (fun vi _ => 4 - (intOf vi).toNat)
  case atStart => exact ⟨0, by omega, rfl, Lib.hid (fun k hk => absurd hk (Nat.not_lt_zero _)), HU0.out, HB0.out⟩
  case round =>
    obtain ⟨i, hi, rfl, HA, hu, hb⟩ := hrel
    have HU := Lib.hid hu
    have HB := Lib.hid hb
    by_cases hlt : i < 4
    · have j1 : (i : Int) < 4 := by omega
      have j0 : (0 : Int) ≤ (i : Int) := by omega
      have j4 : IntKind.i64.wrap ((i : Int) + 1) = (i : Int) + 1 := by rw [IntKind.wrap_i64]; omega
      obtain ⟨x, hx2⟩ : ∃ x, x = v.lev i := ⟨_, rfl⟩
      have c1 : wr.cell? ⟨b, i, none⟩ = some x := by rw [hx2]; exact boxV_lev (blk_kept hb HX.out) hlt
      have HC := Lib.hid (index_place x (A i) n w.heap.size wr (by rw [hx2]; exact (HV.out.at hlt).kept hb) (HN.out i hlt) hu)
      have HI := Lib.hid hlt
      clear hu hb hx2
      go_wp2_with (go_at_call 58; refine HC.out.mono ?_; rintro e w2 ⟨o, rfl, ho, hb2⟩; have HO := Lib.hid ho; have HB2 := Lib.hid hb2; clear ho hb2)
      · rename_i h0
        cases o with
        | none => exact absurd h0 (by decide)
        | some j =>
          obtain ⟨hj, h1, -⟩ := HO.out
          exact bodyPost_ret (v := placeV (some (i, j))) (by simp [results, Tryd.results41, go_sem, placeV, idxV]) rfl ⟨some (i, j), rfl, ⟨HI.out, hj, by simpa using h1⟩, below_step HB.out HB2.out HB.out.size⟩
      · rename_i h0
        cases o with
        | some j => exact absurd h0 (by simp [idxV])
        | none =>
          refine ⟨⟨i + 1, by omega, by first | rfl | (congr 1), Lib.hid (fun k hk t ht => ?_), blk_kept HB2.out HU.out, below_step HB.out HB2.out HB.out.size⟩, by simp [intOf]; omega⟩
          rcases Nat.lt_or_eq_of_le (show k ≤ i by omega) with h | h
          · exact HA.out k h t ht
          · subst h
            have := HO.out t ht
            simpa using this
    · have j1 : ¬ (i : Int) < 4 := by omega
      have hi4 : i = 4 := by omega
      subst hi4
      clear hu hb
      go_wp2_with fail
      exact bodyPost_ret (v := placeV none) (by simp [results, Tryd.results41, go_sem, placeV]) rfl ⟨none, rfl, HA.out, HB.out⟩
end Go.Proofs.Tryd.Vr
