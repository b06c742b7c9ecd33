/- The document's edit done. -/
import Derived.Test.YtkeaalacepjadaaDoorVu5
import Derived.Test.YtkeaalacepjadaaDoorVH
import Derived.Laws.ResultCell
import Derived.Deep.RegionHeld3
import Derived.Deep.RegionHeldLaw
import Derived.Deep.RegionLaw
set_option linter.unusedVariables false
set_option linter.unusedSimpArgs false
set_option maxRecDepth 100000
namespace Go.Proofs.Tryd.Vr
open Go.RowKit Go.Cph Go.Cph.Skip Go.Cph.So Go.Cph.Ve
open Go.Proofs.Tryd.Sq (row_kept1 grown_below grown_set encU encU_len TU TUs infoU)

abbrev TEr : TypeId := 68
abbrev boxEr (e : Es) : Obj := .cells #[e.add, e.drop, .int .u64 (e.log.toNat : Int), .int .u64 (e.seq.toNat : Int), .int .u64 (e.nxt.toNat : Int)] TEr (0, 0)
abbrev boxDZ : Obj := .cells #[.slice none 0 0, .int .u64 0, .int .u64 0, .int .u64 0] TDn (0, 0)
def zDn : Dn := ⟨.slice none 0 0, 0, 0, 0⟩
def DDoPost (P : Value → List Tb → Prop) (r : Int × List Tb × Nm) (w : World) (e : Ending) (w' : World) : Prop :=
  ∃ u : Dn, e = .returned (.tuple #[encD u, .int .i64 r.1]) ∧ TbsAt w' u.l r.2.1 ∧ P u.l r.2.1 ∧ (u.log, u.seq, u.nxt) = r.2.2 ∧ Below w.heap.size w w'
/-- A row apart from the blocks from lo on, below hi. -/
def FarT (W : World) (v : Value) (L : List Tb) (lo hi : Nat) : Prop := TbsAt W v L ∧ (0 < L.length → ∀ a n c, v = .slice (some a) n c → a.block < lo ∨ hi ≤ a.block)
theorem FarT.move {W W' : World} {v : Value} {L : List Tb} {lo hi : Nat} (h : FarT W v L lo hi) (hk : ∀ k, k < W.heap.size → k < lo ∨ hi ≤ k → W'.heap[k]? = W.heap[k]?) : FarT W' v L lo hi := by
  obtain ⟨⟨⟨ao, cap, hv, hc⟩, hl⟩, hf⟩ := h
  refine ⟨⟨⟨ao, cap, hv, fun h0 => ?_⟩, hl⟩, hf⟩
  obtain ⟨b, off, rfl, hcc⟩ := hc h0
  refine ⟨b, off, rfl, fun j hj => ?_⟩
  have hx := hcc j hj
  have hp := hf (by omega) _ _ _ hv
  rw [← hx]
  refine World.cell?_of_block (hk b ?_ hp)
  obtain ⟨u, hu⟩ : ∃ u, (L.flatMap encC)[j]? = some u := ⟨_, List.getElem?_eq_getElem (by rw [hl]; exact hj)⟩
  rw [hu] at hx
  exact World.block_lt_of_cell? _ _ hx
theorem FarT.kept {W W' : World} {v : Value} {L : List Tb} {lo hi : Nat} (h : FarT W v L lo hi) (hb : Below W.heap.size W W') : FarT W' v L lo hi := h.move fun k hk _ => hb.block k hk
theorem FarT.set {W : World} {v : Value} {L : List Tb} {lo hi b : Nat} (h : FarT W v L lo hi) (h1 : lo ≤ b) (h2 : b < hi) (j : Nat) (x : Value) : FarT (W.setCell ⟨b, j, none⟩ x) v L lo hi :=
  h.move fun k hk hp => blk_set_other (by show k ≠ b; omega)
theorem FarT.old {W : World} {v : Value} {L : List Tb} (h : TbsAt W v L) (hi : Nat) : FarT W v L W.heap.size hi := by
  refine ⟨h, fun h0 a n c hv => .inl ?_⟩
  obtain ⟨b, off, cap, hv2, hc⟩ := tbs_cells h h0
  rw [hv2] at hv
  injection hv with hv
  injection hv with hv
  subst hv
  exact World.block_lt_of_cell? _ _ (hc 0 h0).c0
theorem FarT.new {W : World} {v : Value} {L : List Tb} {base lo hi : Nat} (h : W.ownsRow base TE 8 v L.length (L.flatMap encC)) (hb : hi ≤ base) : FarT W v L lo hi :=
  ⟨Seg.of_owns h, fun _ a n c hv => .inr (by subst hv; have := (h.lt a.block rfl).1; omega)⟩
theorem results_row_tmpD {P : Program} {fn : Func} {p u : Tmp} {ty : TypeId} (h : fn.results = #[.cell p ty, .tmp u]) (tmps : Array Value) (w : World) (g : Nat) (t : TypeId) (cs : Array Value) (fr : Nat × Nat) (d : TypeDesc) (x : Value)
    (hp : tmps.getD p undef = .pointer (some ⟨g, 0, none⟩)) (hx : tmps.getD u undef = x) (hg : w.heap[g]? = some (.cells cs t fr))
    (hu : P.underlying ty = some d) (hd : (match d with | .struct _ | .array _ _ => true | _ => false) = true) (hi : (P.info? ty).map (·.size) = some cs.size) :
    (results fn tmps).run P w = .ok (.tuple #[.agg cs, x]) w := by
  rw [results_cell_tmp h, hp, hx]
  simp [asAddr, Result.andThen, run_loadVar_row w g t ty cs fr d hg hu hd hi]
abbrev putDZ (w : World) (b : Nat) : World := (((w.setCell ⟨b, 0, none⟩ (.slice none 0 0)).setCell ⟨b, 1, none⟩ (.int .u64 0)).setCell ⟨b, 2, none⟩ (.int .u64 0)).setCell ⟨b, 3, none⟩ (.int .u64 0)
theorem box_putDZ {w : World} {b : Nat} (h : w.heap[b]? = some boxDZ) : (putDZ w b).heap[b]? = some boxDZ := by
  rw [blk_set (blk_set (blk_set (blk_set h 0 _) 1 _) 2 _) 3 _]
  rfl
theorem below_putDZ {B : Nat} {a w : World} (h : Below B a w) {b : Nat} (hb : B ≤ b) : Below B a (putDZ w b) :=
  (((h.setCell (p := ⟨b, 0, none⟩) hb _).setCell (p := ⟨b, 1, none⟩) hb _).setCell (p := ⟨b, 2, none⟩) hb _).setCell (p := ⟨b, 3, none⟩) hb _
abbrev putD (w : World) (b : Nat) (u : Dn) : World := (((w.setCell ⟨b, 0, none⟩ u.l).setCell ⟨b, 1, none⟩ (.int .u64 (u.log.toNat : Int))).setCell ⟨b, 2, none⟩ (.int .u64 (u.seq.toNat : Int))).setCell ⟨b, 3, none⟩ (.int .u64 (u.nxt.toNat : Int))
theorem box_putD {w : World} {b : Nat} {cs : Array Value} (h : w.heap[b]? = some (.cells cs TDn (0, 0))) (hs : cs.size = 4) (u : Dn) : (putD w b u).heap[b]? = some (boxD u) := by
  rw [blk_set (blk_set (blk_set (blk_set h 0 _) 1 _) 2 _) 3 _]
  obtain ⟨l⟩ := cs
  match l, hs with
  | [a0, a1, a2, a3], _ => rfl
theorem below_putD {B : Nat} {a w : World} (h : Below B a w) {b : Nat} (hb : B ≤ b) (u : Dn) : Below B a (putD w b u) :=
  (((h.setCell (p := ⟨b, 0, none⟩) hb _).setCell (p := ⟨b, 1, none⟩) hb _).setCell (p := ⟨b, 2, none⟩) hb _).setCell (p := ⟨b, 3, none⟩) hb _
theorem far_putD {w : World} {b : Nat} {v : Value} {L : List Tb} {lo hi : Nat} (h : FarT w v L lo hi) (h1 : lo ≤ b) (h2 : b < hi) (u : Dn) : FarT (putD w b u) v L lo hi :=
  (((h.set h1 h2 0 _).set h1 h2 1 _).set h1 h2 2 _).set h1 h2 3 _
/-- The world in the middle of the document's edit. -/
structure DSt (w : World) (P : Value → List Tb → Prop) (es : Es) (v : Value) (m : Nm) (M : List Tb) (W : World) : Prop where
  box : W.heap[w.heap.size]? = some (boxD ⟨v, m.1, m.2.1, m.2.2⟩)
  edt : W.heap[w.heap.size + 1]? = some (boxEr es)
  res : W.heap[w.heap.size + 2]? = some boxDZ
  row : FarT W v M w.heap.size (w.heap.size + 3)
  bel : Below w.heap.size w W
  sep : P v M
theorem DSt.kept {w W W' : World} {P : Value → List Tb → Prop} {es : Es} {v : Value} {m : Nm} {M : List Tb} (h : DSt w P es v m M W) (hb : Below W.heap.size W W') : DSt w P es v m M W' :=
  ⟨blk_kept hb h.box, blk_kept hb h.edt, blk_kept hb h.res, h.row.kept hb, below_step h.bel hb h.bel.size, h.sep⟩
theorem DSt.put {w W : World} {P : Value → List Tb → Prop} {es : Es} {v v' : Value} {m : Nm} {M M' : List Tb} (h : DSt w P es v m M W) (hr : FarT W v' M' w.heap.size (w.heap.size + 3)) (hp : P v' M') : DSt w P es v' m M' (W.setCell ⟨w.heap.size, 0, none⟩ v') := by
  refine ⟨?_, ?_, ?_, hr.set (Nat.le_refl _) (by omega) _ _, h.bel.setCell (p := ⟨w.heap.size, 0, none⟩) (Nat.le_refl _) _, hp⟩
  · rw [blk_set h.box]; rfl
  · rw [blk_set_other (by show w.heap.size + 1 ≠ w.heap.size; omega)]; exact h.edt
  · rw [blk_set_other (by show w.heap.size + 2 ≠ w.heap.size; omega)]; exact h.res
theorem step_own {ops : Array Oper} {o : Oper} {a : Act} {W : World} {K : Act → World → Prop} {Q : Exit → Act → World → Prop} {E : Prop}
    (hg : o.guard = none) (d x : Operand) (hop : o.op = Op.call { callee := Callee.builtin Builtin.append, args := #[d, x], argTypes := #[TS, TS] })
    {base : Nat} {v src : Value} {n m : Nat} {xs us : List Value} (hd : a.eval d = v) (hx : a.eval x = src) (hown : W.ownsRow base TE 8 v n xs) (hsrc : Seg W 8 src m us) (h1 : ∀ u ∈ us, u.oneCell' = true) (hn : n + m ≤ 1099511627776) (hbase : base ≤ W.heap.size)
    (hK : ∀ v' W', W'.ownsRow base TE 8 v' (n + m) (xs ++ us) → W.grownBy W' v.ownBlock → K (a.put o.dst v') W') :
    if Region.wanted o (yielded ops a.tmps) = true then Oper.wp Tryd.prog o a W K Q else E := by
  obtain ⟨v', W', hr, ho, hgr, hwho⟩ := run_append_seg (P := Tryd.prog) W TS o.type TE _ 8 80 Tryd.underlying25 infoE rfl (by decide) hown hsrc h1 hn (by decide) hbase
  exact step_append hg d x TS TS hop _ _ hd hx hr (hK v' W' ho hgr)
theorem seg_one {W : World} {g : Nat} {t : Tb} (hh : W.heap[g]? = some (boxT t)) : Seg W 8 (.slice (some ⟨g, 0, none⟩) 1 1) 1 (encC t) := by
  refine ⟨⟨_, _, rfl, fun _ => ⟨g, 0, rfl, fun j hj => ?_⟩⟩, rfl⟩
  rw [Nat.zero_add, blk_cell hh]
  simp [encC]
theorem wp_then_intro14 {P : Program} {c : Code} {Q : Exit → Act → World → Prop} {a : Act} {w : World} (h : ∀ K : Act → World → Prop, (∀ a w, Q .normal a w → K a w) → c.wp P (Exit.then K Q) a w) : c.wp P Q a w := by
  refine wp_mono (h (fun a w => Q .normal a w) fun _ _ h => h) ?_
  intro e a' w' hq
  cases e <;> exact hq
theorem bel_alloc {B : Nat} {a w : World} (h : Below B a w) (o : Obj) (hB : B ≤ a.heap.size) : Below B a (w.alloc o) := h.alloc (Nat.le_trans hB h.size) o
theorem grown_b {B : Nat} {a w w' : World} {row : Option Nat} (h : Below B a w) (hg : w.grownBy w' row) (hB : B ≤ a.heap.size) (hr : ∀ k, row = some k → B ≤ k) : Below B a w' := h.grown hg (Nat.le_trans hB h.size) hr
theorem mxd_int (a b : UInt64) : max (a.toNat : Int) (b.toNat : Int) = ((mx a b).toNat : Int) := by
  unfold mx
  split <;> omega
theorem doD_four {L : List Tb} {m : Nm} {ed : Ed} (h : dropL L ed.2.1 = none) : doD L m ed = (4, [], 0, 0, 0) := by unfold doD; rw [h]
theorem doD_five {L M : List Tb} {m : Nm} {ed : Ed} (h : dropL L ed.2.1 = some M) (g : addL M ed.1 = none) : doD L m ed = (5, [], 0, 0, 0) := by unfold doD; rw [h]; dsimp only; rw [g]
theorem doD_last {L M N : List Tb} {m : Nm} {ed : Ed} (h : dropL L ed.2.1 = some M) (g : addL M ed.1 = some N) : doD L m ed = if rightDB N (mxN m ed.2.2) then (0, N, mxN m ed.2.2) else (1, [], 0, 0, 0) := by unfold doD; rw [h]; dsimp only; rw [g]
theorem zpost {P : Value → List Tb → Prop} {r : Int × List Tb × Nm} {c : Int} (h : r = (c, [], 0, 0, 0)) {w W : World} (hp : P (.slice none 0 0) []) (hb : Below w.heap.size w W) : DDoPost P r w (.returned (.tuple #[encD zDn, .int .i64 c])) W := by
  subst h
  exact ⟨zDn, rfl, elems_none W none 0, hp, rfl, hb⟩
theorem small_less {M : List Tb} (h : SmallL M) (n : UInt64) : SmallL (lessN M n) := fun t ht => h t (List.mem_filter.1 ht).1

set_option maxHeartbeats 16000000 in
theorem ddo_any (P : Value → List Tb → Prop) (d : Dn) (es : Es) (L : List Tb) (ed : Ed) (w : World) (h : TbsAt w d.l L) (hE : EdAt w es ed) (hn : L.length + ed.1.length ≤ 100000) (hn2 : ed.2.1.length ≤ 100000) (hs : SmallL L) (hs2 : SmallL ed.1) (hpd : P d.l L) (hp0 : P (.slice none 0 0) []) (hpn : ∀ (v : Value) (M : List Tb) (W : World), W.ownsRow w.heap.size TE 8 v M.length (M.flatMap encC) → P v M) :
    Calls Tryd.prog 29 #[encD d, encE es] w (DDoPost P (doD L (d.log, d.seq, d.nxt) ed) w) := by
  obtain ⟨lao, lcap, hv⟩ := elems_slice h
  obtain ⟨ts, ds, nm⟩ := ed
  obtain ⟨ea, edr, el, eq, en⟩ := es
  obtain ⟨dl, log, seq, nxt⟩ := d
  dsimp only at hv h
  subst hv
  obtain ⟨dao, dc, hdv⟩ := elems_slice hE.drop
  obtain ⟨tao, tc, htv⟩ := elems_slice hE.add
  dsimp only at hdv htv hn hn2 hs2
  subst hdv htv
  have hb3 : Below w.heap.size w (((w.alloc (boxD ⟨.slice lao L.length lcap, log, seq, nxt⟩)).alloc (boxEr ⟨.slice tao ts.length tc, .slice dao ds.length dc, el, eq, en⟩)).alloc boxDZ) := (bel2 _ _).alloc (by rw [World.size_alloc, World.size_alloc]; omega) _
  have hst : DSt w P ⟨.slice tao ts.length tc, .slice dao ds.length dc, el, eq, en⟩ (.slice lao L.length lcap) (log, seq, nxt) L (((w.alloc (boxD ⟨.slice lao L.length lcap, log, seq, nxt⟩)).alloc (boxEr ⟨.slice tao ts.length tc, .slice dao ds.length dc, el, eq, en⟩)).alloc boxDZ) :=
    ⟨blk_alloc (blk_alloc (heap_alloc_new _ _) _) _, blk_alloc (alloc2_new w _ _) _, by
      have := heap_alloc_new ((w.alloc (boxD ⟨.slice lao L.length lcap, log, seq, nxt⟩)).alloc (boxEr ⟨.slice tao ts.length tc, .slice dao ds.length dc, el, eq, en⟩)) boxDZ
      rwa [World.size_alloc, World.size_alloc] at this, (FarT.old h _).kept hb3, hb3, hpd⟩
  have HST := Lib.hid hst
  have HP0 := Lib.hid hp0
  have HPN := Lib.hid hpn
  have HED := Lib.hid (show ∀ W, Below w.heap.size w W → EdAt W ⟨.slice tao ts.length tc, .slice dao ds.length dc, el, eq, en⟩ (ts, ds, nm) from fun W hb => hE.kept hb)
  have HN := Lib.hid hn
  have HN2 := Lib.hid hn2
  have HSL := Lib.hid hs
  have HS2 := Lib.hid hs2
  clear h hE hn hn2 hs hs2 hb3 hst hpd hp0 hpn
  go_enter Tryd.func29, Tryd.ntmps29
  go_wp2_with fail
  go_loopw [6] (fun vi W => ∃ (i : Nat) (M : List Tb) (mo : Option Addr) (mc : Nat), i ≤ ds.length ∧ vi = .int .i64 (i : Int) ∧ Hid (dropL L (ds.take i) = some M ∧ M.length ≤ L.length ∧ SmallL M) ∧ Hid (DSt w P ⟨.slice tao ts.length tc, .slice dao ds.length dc, el, eq, en⟩ (.slice mo M.length mc) (log, seq, nxt) M W)) (fun vi _ => ds.length - (intOf vi).toNat)
  case atStart => exact ⟨0, L, lao, lcap, Nat.zero_le _, rfl, Lib.hid ⟨rfl, Nat.le_refl _, HSL.out⟩, HST⟩
  case round =>
    obtain ⟨i, M, mo, mc, hi, rfl, HI, HT⟩ := hrel
    clear HST
    have e1 : wr.cell? ⟨w.heap.size + 1, 1, none⟩ = some (.slice dao ds.length dc) := by rw [blk_cell HT.out.edt]; rfl
    by_cases hlt : i < ds.length
    · have hds := (HED.out wr HT.out.bel).drop
      dsimp only at hds
      obtain ⟨db, doff, dcap, hve, hcs⟩ := elems_shape encU_len hds (by omega)
      injection hve with hx1 hx2 hx3
      subst hx1
      have dcell : wr.cell? ⟨db, doff + i, none⟩ = some (.int .u64 (ds[i].toNat : Int)) := by
        have := hcs i hlt 0 (by omega)
        simpa using this
      obtain ⟨n, hnn⟩ : ∃ n, n = ds[i] := ⟨_, rfl⟩
      have HNN := Lib.hid hnn
      rw [← hnn] at dcell
      have HLT2 := Lib.hid hlt
      have j1 : (0 : Int) ≤ (i : Int) := by omega
      have j2 : (i : Int) < (ds.length : Int) := by omega
      have j4 : IntKind.i64.wrap ((i : Int) + 1) = (i : Int) + 1 := by have := HN2.out; rw [IntKind.wrap_i64]; omega
      have c0 : wr.cell? ⟨w.heap.size, 0, none⟩ = some (.slice mo M.length mc) := by rw [blk_cell HT.out.box]; rfl
      have HTD := Lib.hid (HT.out.kept (show Below wr.heap.size wr wr.drew from (Below.refl _ _).drew))
      have HC := Lib.hid (drop14_any (.slice mo M.length mc) M n wr.drew HTD.out.row.1 (by have := HI.out.2.1; have := HN.out; omega))
      obtain ⟨r, hr⟩ : ∃ r, r = hasN M n := ⟨_, rfl⟩
      unfold DropPost at HC
      rw [← hr] at HC
      have HR := Lib.hid hr
      clear hx2 hx3 hcs hnn hds hr
      go_upto_region 4 with fail
      go_cut [7, 8] (fun v7 v8 W => v8 = .bool r ∧ ∃ (o7 : Option Addr) (c7 : Nat), v7 = .slice o7 (lessN M n).length c7 ∧ Hid (Below wr.heap.size wr W) ∧ Hid (W.ownsRow wr.heap.size TE 8 (.slice o7 (lessN M n).length c7) (lessN M n).length ((lessN M n).flatMap encC)))
      case first =>
        go_region_held3 (fun W => W.cell? ⟨w.heap.size, 0, none⟩ = some (.slice mo M.length mc) ∧ W.cell? ⟨w.heap.size + 1, 1, none⟩ = some (.slice (some ⟨db, doff, none⟩) ds.length dc) ∧ W.cell? ⟨db, doff + i, none⟩ = some (.int .u64 (n.toNat : Int)))
          (go_keep)
          ((go_at_call 50; refine HC.out.mono ?_; rintro e w3 ⟨v7, rfl, ho, hb⟩; obtain ⟨o7, c7, hv7⟩ := owns_slice1 ho; subst hv7; have HO := Lib.hid ho; have HB := Lib.hid hb; have q1 := cell_kept hb c0; have q2 := cell_kept hb e1; have q3 := cell_kept hb dcell; clear ho hb))
        go_wp2_with fail
        go_meet
        case rel => exact ⟨rfl, o7, c7, rfl, Lib.hid (below_step (Below.refl _ _).drew HB.out (Nat.le_refl _)), HO⟩
      case rest =>
        rename World => w5
        obtain ⟨rfl, o7, c7, rfl, HB5, HO5⟩ := hcut
        have HT5 := Lib.hid (HT.out.kept HB5.out)
        clear c0 e1 dcell
        cases r
        · have HV := Lib.hid (doD_four (L := L) (m := (log, seq, nxt)) (ed := (ts, ds, nm)) (dropL_stop HLT2.out HI.out.1 (by rw [← HNN.out, ← HR.out])))
          have hz5 := HT5.out.res
          have z0 : w5.cell? ⟨w.heap.size + 1 + 1, 0, none⟩ = some (.slice none 0 0) := (blk_cell hz5 0).trans rfl
          have z1 : w5.cell? ⟨w.heap.size + 1 + 1, 1, none⟩ = some (.int .u64 0) := (blk_cell hz5 1).trans rfl
          have z2 : w5.cell? ⟨w.heap.size + 1 + 1, 2, none⟩ = some (.int .u64 0) := (blk_cell hz5 2).trans rfl
          have z3 : w5.cell? ⟨w.heap.size + 1 + 1, 3, none⟩ = some (.int .u64 0) := (blk_cell hz5 3).trans rfl
          have fz : ∀ q, w5.frozen? ⟨w.heap.size + 1 + 1, q, none⟩ = false := fun q => (blk_frozen hz5 q).trans (by simp)
          have HP := Lib.hid (box_putDZ (b := w.heap.size + 1 + 1) hz5)
          have HBP := Lib.hid (below_putDZ HT5.out.bel (b := w.heap.size + 1 + 1) (by omega))
          clear hz5
          go_wp2_with fail
          exact bodyPost_ret (v := .tuple #[encD zDn, .int .i64 4]) (results_row_tmpD Tryd.results29 _ _ (w.heap.size + 1 + 1) TDn _ (0, 0) _ _ rfl rfl HP.out Tryd.underlying32 rfl (by kernel_rfl)) rfl (zpost HV.out HP0.out HBP.out)
        · have hz5 := HT5.out.box
          have c0 : w5.cell? ⟨w.heap.size, 0, none⟩ = some (.slice mo M.length mc) := by rw [blk_cell hz5]; rfl
          have f0 : w5.frozen? ⟨w.heap.size, 0, none⟩ = false := by rw [blk_frozen hz5]; simp
          have HI2 := Lib.hid (show dropL L (ds.take (i + 1)) = some (lessN M n) ∧ (lessN M n).length ≤ L.length ∧ SmallL (lessN M n) from ⟨by rw [HNN.out]; exact dropL_next HLT2.out HI.out.1 (by rw [← HNN.out, ← HR.out]), by
            have h1 : (lessN M n).length ≤ M.length := List.length_filter_le _ _
            have h2 := HI.out.2.1
            omega, small_less HI.out.2.2 n⟩)
          have HP := Lib.hid (HT5.out.put (FarT.new HO5.out (by have := blk_lt HT.out.res; omega)) (HPN.out _ _ _ (owns_mono HO5.out (by have := blk_lt HT.out.res; omega))))
          clear hz5
          go_wp2_with fail
          go_roundw
          case rel => exact ⟨i + 1, lessN M n, o7, c7, hlt, by first | rfl | (congr 1), HI2, HP⟩
          case measure => simp [intOf]; omega
    · have hil : i = ds.length := by omega
      subst hil
      have HM := Lib.hid (show dropL L ds = some M from by have := HI.out.1; rwa [List.take_length] at this)
      have HML := Lib.hid HI.out.2.1
      have HMS := Lib.hid HI.out.2.2
      have HT0 := HT
      have i1 : ¬ (ds.length : Int) < (ds.length : Int) := by omega
      have HI0 := Lib.hid (show addL M (ts.take 0) = some M ∧ M = M ++ ts.take 0 from ⟨rfl, by rw [List.take_zero, List.append_nil]⟩)
      clear HI
      go_wp2_with fail
      clear e1
      go_loopw [9] (fun vi W => ∃ (j : Nat) (N : List Tb) (no : Option Addr) (nc : Nat), j ≤ ts.length ∧ vi = .int .i64 (j : Int) ∧ Hid (addL M (ts.take j) = some N ∧ N = M ++ ts.take j) ∧ Hid (DSt w P ⟨.slice tao ts.length tc, .slice dao ds.length dc, el, eq, en⟩ (.slice no N.length nc) (log, seq, nxt) N W)) (fun vi _ => ts.length - (intOf vi).toNat)
      case atStart => exact ⟨0, M, mo, mc, Nat.zero_le _, rfl, HI0, HT0⟩
      case round =>
        clear HT HT0 HI0
        obtain ⟨j, N, no, nc, hj, rfl, HJ, HT⟩ := hrel
        have e0 : wr.cell? ⟨w.heap.size + 1, 0, none⟩ = some (.slice tao ts.length tc) := by rw [blk_cell HT.out.edt]; rfl
        have HNL := Lib.hid (show N.length ≤ 100000 from by rw [HJ.out.2, List.length_append, List.length_take]; have := HML.out; have := HN.out; omega)
        have HNS := Lib.hid (show SmallL N from by
          rw [HJ.out.2]
          intro t ht
          rcases List.mem_append.1 ht with h | h
          · exact HMS.out t h
          · exact HS2.out t (List.mem_of_mem_take h))
        by_cases hjl : j < ts.length
        · have hts := (HED.out wr HT.out.bel).add
          dsimp only at hts
          obtain ⟨tb, toff, tcap, hve, hcs⟩ := tbs_cells hts (by omega)
          injection hve with hx1 hx2 hx3
          subst hx1
          clear hx2 hx3
          have hcx := hcs j hjl
          have HTB := Lib.hid (show tb < w.heap.size from by
            obtain ⟨b2, off2, cap2, hve2, hcs2⟩ := tbs_cells (HED.out w (Below.refl _ _)).add (by show 0 < ts.length; omega)
            injection hve2 with h1
            injection h1 with h1
            injection h1 with h1
            rw [h1]
            exact World.block_lt_of_cell? _ _ (hcs2 0 (by show 0 < ts.length; omega)).c0)
          obtain ⟨x, hx⟩ : ∃ x, x = ts[j] := ⟨_, rfl⟩
          have HX := Lib.hid hx
          rw [← hx] at hcx
          have HCX := Lib.hid hcx
          have HJL := Lib.hid hjl
          have j1 : (0 : Int) ≤ (j : Int) := by omega
          have j2 : (j : Int) < (ts.length : Int) := by omega
          have j4 : IntKind.i64.wrap ((j : Int) + 1) = (j : Int) + 1 := by have := HN.out; rw [IntKind.wrap_i64]; omega
          clear hcs hcx hx hts
          go_wp2_with fail
          clear e0
          go_loopw [10] (fun vk W => ∃ k : Nat, k ≤ N.length ∧ vk = .int .i64 (k : Int) ∧ Hid (∀ q (hq : q < N.length), q < k → tN N[q] ≠ tN x) ∧ Hid (Below wr.heap.size wr W)) (fun vk _ => N.length - (intOf vk).toNat)
          case atStart => exact ⟨0, Nat.zero_le _, rfl, Lib.hid (fun q hq h0 => absurd h0 (Nat.not_lt_zero _)), Lib.hid (Below.refl _ _)⟩
          case round =>
            obtain ⟨k, hk, rfl, HK, HBK⟩ := hrel
            have HT2 := Lib.hid (HT.out.kept HBK.out)
            have HCX2 := Lib.hid (HCX.out.kept HBK.out)
            have c0 : wr.cell? ⟨w.heap.size, 0, none⟩ = some (.slice no N.length nc) := by rw [blk_cell HT2.out.box]; rfl
            have e0 : wr.cell? ⟨w.heap.size + 1, 0, none⟩ = some (.slice (some ⟨tb, toff, none⟩) ts.length tc) := by rw [blk_cell HT2.out.edt]; rfl
            by_cases hkn : k < N.length
            · obtain ⟨nb, noff, ncap, hve, hcs⟩ := tbs_cells HT2.out.row.1 (by omega)
              injection hve with hx1 hx2 hx3
              subst hx1
              have hcy := hcs k hkn
              obtain ⟨y, hy⟩ : ∃ y, y = N[k] := ⟨_, rfl⟩
              have HY := Lib.hid hy
              rw [← hy] at hcy
              have y0 := hcy.c0
              have x0 := HCX2.out.c0
              have HKN := Lib.hid hkn
              have k1 : (0 : Int) ≤ (k : Int) := by omega
              have k2 : (k : Int) < (N.length : Int) := by omega
              have k4 : IntKind.i64.wrap ((k : Int) + 1) = (k : Int) + 1 := by have := HNL.out; rw [IntKind.wrap_i64]; omega
              clear hx2 hx3 hcs hcy hy
              by_cases p1 : y.1 = x.1
              · have z1 : ((y.1.toNat : Int) == (x.1.toNat : Int)) = true := by rw [p1]; simp
                have HV := Lib.hid (doD_five (L := L) (m := (log, seq, nxt)) (ed := (ts, ds, nm)) HM.out (addL_stop HJL.out HJ.out.1 (hasN_iff.2 ⟨N[k]'HKN.out, List.getElem_mem _, by rw [← HY.out, ← HX.out]; exact p1⟩)))
                clear p1
                go_wp2_with fail
                go_quiet (fail)
                clear y0 x0 c0 e0
                have HT5 := Lib.hid (HT2.out.kept (show Below wr.heap.size wr (wr.drewN nq) from ⟨rfl, rfl, rfl, Nat.le_refl _, fun _ _ => rfl⟩))
                generalize wr.drewN nq = w5 at *
                have hz5 := HT5.out.res
                have z0 : w5.cell? ⟨w.heap.size + 1 + 1, 0, none⟩ = some (.slice none 0 0) := (blk_cell hz5 0).trans rfl
                have zz1 : w5.cell? ⟨w.heap.size + 1 + 1, 1, none⟩ = some (.int .u64 0) := (blk_cell hz5 1).trans rfl
                have z2 : w5.cell? ⟨w.heap.size + 1 + 1, 2, none⟩ = some (.int .u64 0) := (blk_cell hz5 2).trans rfl
                have z3 : w5.cell? ⟨w.heap.size + 1 + 1, 3, none⟩ = some (.int .u64 0) := (blk_cell hz5 3).trans rfl
                have fz : ∀ q, w5.frozen? ⟨w.heap.size + 1 + 1, q, none⟩ = false := fun q => (blk_frozen hz5 q).trans (by simp)
                have HP := Lib.hid (box_putDZ (b := w.heap.size + 1 + 1) hz5)
                have HBP := Lib.hid (below_putDZ HT5.out.bel (b := w.heap.size + 1 + 1) (by omega))
                clear hz5
                go_wp2_with fail
                exact bodyPost_ret (v := .tuple #[encD zDn, .int .i64 5]) (results_row_tmpD Tryd.results29 _ _ (w.heap.size + 1 + 1) TDn _ (0, 0) _ _ rfl rfl HP.out Tryd.underlying32 rfl (by kernel_rfl)) rfl (zpost HV.out HP0.out HBP.out)
              · have z1 : ((y.1.toNat : Int) == (x.1.toNat : Int)) = false := by simpa using fun h => p1 (UInt64.toNat_inj.1 (by omega))
                have HK2 := Lib.hid (show ∀ q (hq : q < N.length), q < k + 1 → tN N[q] ≠ tN x from fun q hq hqk => by
                  rcases Nat.lt_or_eq_of_le (show q ≤ k by omega) with h | h
                  · exact HK.out q hq h
                  · subst h; rw [← HY.out]; exact p1)
                clear p1
                go_wp2_with fail
                go_quiet (fail)
                clear y0 x0 c0 e0
                have HB5 := Lib.hid (below_step HBK.out (show Below wr.heap.size wr (wr.drewN nq) from ⟨rfl, rfl, rfl, Nat.le_refl _, fun _ _ => rfl⟩) HBK.out.size)
                generalize wr.drewN nq = w5 at *
                go_wp2_with fail
                go_roundw
                case rel => exact ⟨k + 1, hkn, by first | rfl | (congr 1), HK2, HB5⟩
                case measure => simp [intOf]; omega
            · have hkl : k = N.length := by omega
              subst hkl
              have k1 : ¬ (N.length : Int) < (N.length : Int) := by omega
              have HNO := Lib.hid (show hasN N (tN (ts[j]'HJL.out)) = false from hasN_no.2 fun t ht => by
                obtain ⟨q, hq, rfl⟩ := List.getElem_of_mem ht
                rw [← HX.out]
                exact HK.out q hq hq)
              have HJ2 := Lib.hid (show addL M (ts.take (j + 1)) = some (N ++ [x]) ∧ N ++ [x] = M ++ ts.take (j + 1) from ⟨by rw [addL_next HJL.out HJ.out.1 HNO.out, ← HX.out], by
                conv => lhs; rw [HJ.out.2]
                rw [List.take_succ_eq_append_getElem HJL.out, ← HX.out, List.append_assoc]⟩)
              have HRW := Lib.hid (show ∀ W, Below wr.heap.size wr W → Seg W 8 (.slice no N.length nc) N.length (N.flatMap encC) from fun W hb => HT2.out.row.1.kept hb)
              have HCL := Lib.hid (show ∀ W, Below wr.heap.size wr W → W.cell? ⟨w.heap.size, 0, none⟩ = some (.slice no N.length nc) ∧ W.cell? ⟨w.heap.size + 1, 0, none⟩ = some (.slice (some ⟨tb, toff, none⟩) ts.length tc) ∧ W.cell? ⟨tb, toff + j * 8, none⟩ = some (.int .u64 (x.1.toNat : Int)) ∧ W.cell? ⟨tb, toff + j * 8 + 1, none⟩ = some (.int .i64 x.2.1) ∧ W.cell? ⟨tb, toff + j * 8 + 2, none⟩ = some (.int .i64 x.2.2.1) ∧ W.cell? ⟨tb, toff + j * 8 + 3, none⟩ = some (.int .i64 x.2.2.2.1) ∧ W.cell? ⟨tb, toff + j * 8 + 4, none⟩ = some (.string x.2.2.2.2.1) ∧ W.cell? ⟨tb, toff + j * 8 + 5, none⟩ = some (.string x.2.2.2.2.2.1) ∧ W.cell? ⟨tb, toff + j * 8 + 6, none⟩ = some (.int .u64 (x.2.2.2.2.2.2.1.toNat : Int)) ∧ W.cell? ⟨tb, toff + j * 8 + 7, none⟩ = some (.int .u64 (x.2.2.2.2.2.2.2.toNat : Int)) from fun W hb => ⟨cell_kept hb c0, cell_kept hb e0, (HCX2.out.kept hb).c0, (HCX2.out.kept hb).c1, (HCX2.out.kept hb).c2, (HCX2.out.kept hb).c3, (HCX2.out.kept hb).c4, (HCX2.out.kept hb).c5, (HCX2.out.kept hb).c6, (HCX2.out.kept hb).c7⟩)
              have HFZ := Lib.hid (show ∀ W, Below wr.heap.size wr W → W.frozen? ⟨w.heap.size, 0, none⟩ = false from fun W hb => by rw [blk_frozen (blk_kept hb HT2.out.box)]; simp)
              have hcl0 := HCL.out wr (Below.refl _ _)
              obtain ⟨-, -, x0, x1, x2, x3, x4, x5, x6, x7⟩ := hcl0
              go_upto_region 16 with fail
              refine wp_then_intro14 ?_
              intro KK HKK
              go_cut [] (fun W => ∃ (o7 : Option Addr) (c7 : Nat), Hid (DSt w P ⟨.slice (some ⟨tb, toff, none⟩) ts.length tc, .slice dao ds.length dc, el, eq, en⟩ (.slice o7 (N.length + 1) c7) (log, seq, nxt) (N ++ [x]) W))
              case first =>
                clear HKK
                have htb : tb < w.heap.size := HTB.out
                have hne1 : ¬ tb = w.heap.size := by omega
                have hne2 : ¬ w.heap.size = tb := by omega
                have ca1 : (wr.alloc (boxT x)).cell? ⟨w.heap.size, 0, none⟩ = some (.slice no N.length nc) := (blk_cell (blk_alloc HT2.out.box _) 0).trans rfl
                have ca2 : (wr.alloc (.cells #[] TE)).cell? ⟨w.heap.size, 0, none⟩ = some (.slice no N.length nc) := (blk_cell (blk_alloc HT2.out.box _) 0).trans rfl
                have ca3 : ((wr.alloc (.cells #[] TE)).alloc (boxT x)).cell? ⟨w.heap.size, 0, none⟩ = some (.slice no N.length nc) := (blk_cell (blk_alloc (blk_alloc HT2.out.box _) _) 0).trans rfl
                have ca4 : ((wr.alloc (boxT x)).alloc (.cells #[] TE)).cell? ⟨w.heap.size, 0, none⟩ = some (.slice no N.length nc) := (blk_cell (blk_alloc (blk_alloc HT2.out.box _) _) 0).trans rfl
                have hxa := HCX2.out.kept (below_of_alloc (w := wr) (.cells #[] TE))
                obtain ⟨xa0, xa1, xa2, xa3, xa4, xa5, xa6, xa7⟩ := hxa
                have ea2 : (wr.alloc (.cells #[] TE)).cell? ⟨w.heap.size + 1, 0, none⟩ = some (.slice (some ⟨tb, toff, none⟩) ts.length tc) := (blk_cell (blk_alloc HT2.out.edt _) 0).trans rfl
                go_region_law (first | (refine step_own rfl (.tmp 62) (.tmp 64) rfl (v := .slice (some ⟨_, 0, none⟩) 0 0) (base := wr.heap.size) (n := 0) (m := N.length) (xs := []) (us := N.flatMap encC) (by rfl) (by rfl) (by first | exact owns_empty (heap_alloc_new _ _) (Nat.le_refl _) 8 | exact owns_empty (blk_alloc (heap_alloc_new _ _) _) (Nat.le_refl _) 8 | exact owns_empty (alloc2_new _ _ _) (Nat.le_succ _) 8) (HRW.out _ (by (repeat (first | exact Below.refl _ _ | exact HB6.out | refine Below.drew ?_ | refine bel_alloc ?_ _ (Nat.le_refl _))); done)) encC_one (by have := HNL.out; omega) (by first | omega | (simp only [World.size_alloc]; omega) | (simp; omega) | (simp; done)) ?_; intro v6 W6 ho6 hg6; obtain ⟨o6, c6, hv6⟩ := owns_slice1 ho6; subst hv6; rw [Nat.zero_add] at ho6 ⊢; have HO6 := Lib.hid ho6; have HB6 := Lib.hid (show Below wr.heap.size wr W6 from grown_b (by (repeat (first | exact Below.refl _ _ | refine Below.drew ?_ | refine bel_alloc ?_ _ (Nat.le_refl _))); done) hg6 (Nat.le_refl _) (fun p hp => by first | (simp only [Value.ownBlock, Option.some.injEq] at hp; omega) | (simp [Value.ownBlock] at hp; omega))); have hcl := HCL.out W6 HB6.out; (try have hq1 : W6.heap[wr.heap.size + 1]? = some (boxT x) := (hg6.block _ (by show wr.heap.size + 1 < (World.heap _).size; first | (simp; done) | (simp; omega)) (by simp [Value.ownBlock])).trans (by first | exact heap_alloc_new _ _ | exact alloc2_new _ _ _)); (try have hq0 : W6.heap[wr.heap.size]? = some (boxT x) := (hg6.block _ (by show wr.heap.size < (World.heap _).size; first | (simp; done) | (simp; omega)) (by simp [Value.ownBlock])).trans (by first | exact blk_alloc (heap_alloc_new _ _) _)); obtain ⟨w0, w1, w2, w3, w4, w5, w6, w7, w8, w9⟩ := hcl; clear ho6 hg6) | (refine step_own rfl (.tmp 65) (.tmp 71) rfl (v := .slice o6 N.length c6) (base := wr.heap.size) (n := N.length) (m := 1) (xs := [] ++ N.flatMap encC) (us := encC x) (by rfl) (by rfl) (by first | exact HO6.out | exact HO6.out.alloc _) (by first | exact seg_one (heap_alloc_new _ _) | exact seg_one hq1 | exact seg_one hq0) (encC_one1 x) (by have := HNL.out; omega) (by first | exact HB6.out.size | exact (bel_alloc HB6.out _ (Nat.le_refl _)).size) ?_; intro v7 W7 ho7 hg7; obtain ⟨o7, c7, hv7⟩ := owns_slice1 ho7; subst hv7; have HO7 := Lib.hid ho7; have HB7 := Lib.hid (show Below wr.heap.size wr W7 from grown_b (by (repeat (first | exact Below.refl _ _ | exact HB6.out | refine Below.drew ?_ | refine bel_alloc ?_ _ (Nat.le_refl _))); done) hg7 (Nat.le_refl _) (fun p hp => (HO6.out.lt p hp).1)); have hcl7 := HCL.out W7 HB7.out; have hfz7 := HFZ.out W7 HB7.out; obtain ⟨y0, y1, y2, y3, y4, y5, y6, y7, y8, y9⟩ := hcl7; clear ho7 hg7))
                all_goals (go_wp2_with fail; go_meet; exact ⟨o7, c7, Lib.hid (by
                  have hw : W7.ownsRow wr.heap.size TE 8 (.slice o7 (N.length + 1) c7) (N ++ [x]).length ((N ++ [x]).flatMap encC) := by rw [List.length_append, List.flatMap_append]; have h := HO7.out; simpa using h
                  have hp := (HT2.out.kept HB7.out).put (FarT.new (L := N ++ [x]) (v := .slice o7 (N.length + 1) c7) hw (by have := blk_lt HT.out.res; have := HBK.out.size; omega)) (HPN.out _ _ _ (owns_mono hw (by have := blk_lt HT.out.res; have := HBK.out.size; omega)))
                  first | exact hp | exact hp.kept ((Below.refl _ _).drew))⟩)
              case rest =>
                rename World => w7
                obtain ⟨o7, c7, HT7⟩ := hcut
                refine HKK _ _ ?_
                go_wp2_with fail
                go_roundw
                case rel => exact ⟨j + 1, N ++ [x], o7, c7, hjl, by first | rfl | (congr 1), HJ2, by rw [List.length_append]; exact HT7⟩
                case measure => simp [intOf]; omega
        · skip
          have hjt : j = ts.length := by omega
          subst hjt
          have i2 : ¬ (ts.length : Int) < (ts.length : Int) := by omega
          have HADD := Lib.hid (show addL M ts = some N from by have := HJ.out.1; rwa [List.take_length] at this)
          have hbx := HT.out.box
          have b1 : wr.cell? ⟨w.heap.size, 1, none⟩ = some (.int .u64 (log.toNat : Int)) := by rw [blk_cell hbx]; rfl
          have b2 : wr.cell? ⟨w.heap.size, 2, none⟩ = some (.int .u64 (seq.toNat : Int)) := by rw [blk_cell hbx]; rfl
          have b3 : wr.cell? ⟨w.heap.size, 3, none⟩ = some (.int .u64 (nxt.toNat : Int)) := by rw [blk_cell hbx]; rfl
          have hed := HT.out.edt
          have e2 : wr.cell? ⟨w.heap.size + 1, 2, none⟩ = some (.int .u64 (el.toNat : Int)) := by rw [blk_cell hed]; rfl
          have e3 : wr.cell? ⟨w.heap.size + 1, 3, none⟩ = some (.int .u64 (eq.toNat : Int)) := by rw [blk_cell hed]; rfl
          have e4 : wr.cell? ⟨w.heap.size + 1, 4, none⟩ = some (.int .u64 (en.toNat : Int)) := by rw [blk_cell hed]; rfl
          have fz : ∀ q, wr.frozen? ⟨w.heap.size, q, none⟩ = false := fun q => by rw [blk_frozen hbx]; simp
          have m1 := mxd_int log el
          have m2 := mxd_int seq eq
          have m3 := mxd_int nxt en
          have HNM := Lib.hid (show nm = (el, eq, en) from (HED.out wr HT.out.bel).nums)
          have HS9 := Lib.hid (show DSt w P ⟨.slice tao ts.length tc, .slice dao ds.length dc, el, eq, en⟩ (.slice no N.length nc) (mx log el, mx seq eq, mx nxt en) N (((wr.setCell ⟨w.heap.size, 1, none⟩ (.int .u64 ((mx log el).toNat : Int))).setCell ⟨w.heap.size, 2, none⟩ (.int .u64 ((mx seq eq).toNat : Int))).setCell ⟨w.heap.size, 3, none⟩ (.int .u64 ((mx nxt en).toNat : Int))) from by
            refine ⟨?_, ?_, ?_, ((HT.out.row.set (Nat.le_refl _) (by omega) 1 _).set (Nat.le_refl _) (by omega) 2 _).set (Nat.le_refl _) (by omega) 3 _, ((HT.out.bel.setCell (p := ⟨w.heap.size, 1, none⟩) (Nat.le_refl _) _).setCell (p := ⟨w.heap.size, 2, none⟩) (Nat.le_refl _) _).setCell (p := ⟨w.heap.size, 3, none⟩) (Nat.le_refl _) _, HT.out.sep⟩
            · rw [blk_set (blk_set (blk_set HT.out.box 1 _) 2 _) 3 _]; rfl
            · rw [blk_set_other (by show w.heap.size + 1 ≠ w.heap.size; omega), blk_set_other (by show w.heap.size + 1 ≠ w.heap.size; omega), blk_set_other (by show w.heap.size + 1 ≠ w.heap.size; omega)]; exact HT.out.edt
            · rw [blk_set_other (by show w.heap.size + 2 ≠ w.heap.size; omega), blk_set_other (by show w.heap.size + 2 ≠ w.heap.size; omega), blk_set_other (by show w.heap.size + 2 ≠ w.heap.size; omega)]; exact HT.out.res)
          clear hbx hed
          go_upto_region 20 with fail
          clear b1 b2 b3 e2 e3 e4 fz m1 m2 m3 e0
          generalize (((wr.setCell ⟨w.heap.size, 1, none⟩ (.int .u64 ((mx log el).toNat : Int))).setCell ⟨w.heap.size, 2, none⟩ (.int .u64 ((mx seq eq).toNat : Int))).setCell ⟨w.heap.size, 3, none⟩ (.int .u64 ((mx nxt en).toNat : Int))) = w9 at HS9 ⊢
          have hb9 := HS9.out.box
          have d0 : w9.cell? ⟨w.heap.size, 0, none⟩ = some (.slice no N.length nc) := by rw [blk_cell hb9]; rfl
          have d1 : w9.cell? ⟨w.heap.size, 1, none⟩ = some (.int .u64 ((mx log el).toNat : Int)) := by rw [blk_cell hb9]; rfl
          have d2 : w9.cell? ⟨w.heap.size, 2, none⟩ = some (.int .u64 ((mx seq eq).toNat : Int)) := by rw [blk_cell hb9]; rfl
          have d3 : w9.cell? ⟨w.heap.size, 3, none⟩ = some (.int .u64 ((mx nxt en).toNat : Int)) := by rw [blk_cell hb9]; rfl
          have HC := Lib.hid (dright_any ⟨.slice no N.length nc, mx log el, mx seq eq, mx nxt en⟩ N w9 HS9.out.row.1 (by have := HNL.out; omega) HNS.out)
          have HMN := Lib.hid (show mxN (log, seq, nxt) nm = (mx log el, mx seq eq, mx nxt en) from by rw [HNM.out]; rfl)
          have HDL := Lib.hid (doD_last (m := (log, seq, nxt)) (ed := (ts, ds, nm)) HM.out HADD.out)
          clear hb9
          go_wp2_with fail
          refine HC.out.mono ?_
          rintro e w5 ⟨rb, rfl, hrb, hb5⟩
          have HRB := Lib.hid hrb
          have HT5 := Lib.hid (HS9.out.kept hb5)
          clear hrb hb5 HC d0 d1 d2 d3
          cases rb
          · have HV := Lib.hid (show doD L (log, seq, nxt) (ts, ds, nm) = (1, [], 0, 0, 0) from by
              rw [HDL.out, HMN.out]
              refine if_neg fun h => ?_
              have := HRB.out.2 (rightDB_iff.1 h)
              cases this)
            have hz5 := HT5.out.res
            have z0 : w5.cell? ⟨w.heap.size + 1 + 1, 0, none⟩ = some (.slice none 0 0) := (blk_cell hz5 0).trans rfl
            have z1 : w5.cell? ⟨w.heap.size + 1 + 1, 1, none⟩ = some (.int .u64 0) := (blk_cell hz5 1).trans rfl
            have z2 : w5.cell? ⟨w.heap.size + 1 + 1, 2, none⟩ = some (.int .u64 0) := (blk_cell hz5 2).trans rfl
            have z3 : w5.cell? ⟨w.heap.size + 1 + 1, 3, none⟩ = some (.int .u64 0) := (blk_cell hz5 3).trans rfl
            have fz : ∀ q, w5.frozen? ⟨w.heap.size + 1 + 1, q, none⟩ = false := fun q => (blk_frozen hz5 q).trans (by simp)
            have HP := Lib.hid (box_putDZ (b := w.heap.size + 1 + 1) hz5)
            have HBP := Lib.hid (below_putDZ HT5.out.bel (b := w.heap.size + 1 + 1) (by omega))
            clear hz5
            go_wp2_with fail
            exact bodyPost_ret (v := .tuple #[encD zDn, .int .i64 1]) (results_row_tmpD Tryd.results29 _ _ (w.heap.size + 1 + 1) TDn _ (0, 0) _ _ rfl rfl HP.out Tryd.underlying32 rfl (by kernel_rfl)) rfl (zpost HV.out HP0.out HBP.out)
          · have HV := Lib.hid (show doD L (log, seq, nxt) (ts, ds, nm) = (0, N, mx log el, mx seq eq, mx nxt en) from by
              rw [HDL.out, HMN.out]
              exact if_pos (rightDB_iff.2 (HRB.out.1 (by first | rfl | trivial))))
            have hbx := HT5.out.box
            have d0 : w5.cell? ⟨w.heap.size, 0, none⟩ = some (.slice no N.length nc) := by rw [blk_cell hbx]; rfl
            have d1 : w5.cell? ⟨w.heap.size, 1, none⟩ = some (.int .u64 ((mx log el).toNat : Int)) := by rw [blk_cell hbx]; rfl
            have d2 : w5.cell? ⟨w.heap.size, 2, none⟩ = some (.int .u64 ((mx seq eq).toNat : Int)) := by rw [blk_cell hbx]; rfl
            have d3 : w5.cell? ⟨w.heap.size, 3, none⟩ = some (.int .u64 ((mx nxt en).toNat : Int)) := by rw [blk_cell hbx]; rfl
            have hz5 := HT5.out.res
            have z0 : w5.cell? ⟨w.heap.size + 1 + 1, 0, none⟩ = some (.slice none 0 0) := (blk_cell hz5 0).trans rfl
            have z1 : w5.cell? ⟨w.heap.size + 1 + 1, 1, none⟩ = some (.int .u64 0) := (blk_cell hz5 1).trans rfl
            have z2 : w5.cell? ⟨w.heap.size + 1 + 1, 2, none⟩ = some (.int .u64 0) := (blk_cell hz5 2).trans rfl
            have z3 : w5.cell? ⟨w.heap.size + 1 + 1, 3, none⟩ = some (.int .u64 0) := (blk_cell hz5 3).trans rfl
            have fz : ∀ q, w5.frozen? ⟨w.heap.size + 1 + 1, q, none⟩ = false := fun q => (blk_frozen hz5 q).trans (by simp)
            have HP := Lib.hid (box_putD (b := w.heap.size + 1 + 1) hz5 (by rfl) ⟨.slice no N.length nc, mx log el, mx seq eq, mx nxt en⟩)
            have HBP := Lib.hid (below_putD HT5.out.bel (b := w.heap.size + 1 + 1) (by omega) ⟨.slice no N.length nc, mx log el, mx seq eq, mx nxt en⟩)
            have HFP := Lib.hid (far_putD HT5.out.row (b := w.heap.size + 1 + 1) (by omega) (by omega) ⟨.slice no N.length nc, mx log el, mx seq eq, mx nxt en⟩)
            clear hbx hz5
            go_wp2_with fail
            exact bodyPost_ret (v := .tuple #[encD ⟨.slice no N.length nc, mx log el, mx seq eq, mx nxt en⟩, .int .i64 0]) (results_row_tmpD Tryd.results29 _ _ (w.heap.size + 1 + 1) TDn _ (0, 0) _ _ rfl rfl HP.out Tryd.underlying32 rfl (by kernel_rfl)) rfl (by
              rw [HV.out]
              exact ⟨⟨.slice no N.length nc, mx log el, mx seq eq, mx nxt en⟩, rfl, HFP.out.1, HT5.out.sep, rfl, HBP.out⟩)
end Go.Proofs.Tryd.Vr
