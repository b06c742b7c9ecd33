/- VH: texts put together: Vp1 Vp3. -/
import Derived.Test.YtkeaalacepjadaaDoorVE
import Derived.Test.YtkeaalacepjadaaDoorVr1
import Derived.Test.YtkeaalacepjadaaDoorVG
import Derived.Laws.ResultCell
/- What an edit works on: a version in its box, its rows our own; steps. -/
set_option linter.unusedVariables false
set_option linter.unusedSimpArgs false
set_option maxRecDepth 100000
namespace Go.Proofs.Tryd.Vr
open Go.RowKit Go.Cph Go.Cph.Skip Go.Cph.So Go.Cph.Ve
open Go.Proofs.Tryd.Sq (row_kept1 grown_below grown_set encU encU_len TU TUs infoU)

/-- How an edit lies. -/
structure Es where
  add : Value
  drop : Value
  log : UInt64
  seq : UInt64
  nxt : UInt64
abbrev TEd : TypeId := 38
abbrev encE (e : Es) : Value := .agg #[e.add, e.drop, .int .u64 (e.log.toNat : Int), .int .u64 (e.seq.toNat : Int), .int .u64 (e.nxt.toNat : Int)]
abbrev boxE (e : Es) : Obj := .cells #[e.add, e.drop, .int .u64 (e.log.toNat : Int), .int .u64 (e.seq.toNat : Int), .int .u64 (e.nxt.toNat : Int)] TEd (0, 0)
structure EdAt (w : World) (e : Es) (d : Ed) : Prop where
  add : TbsAt w e.add d.1
  drop : Elems encU 1 w e.drop d.2.1
  nums : d.2.2 = (e.log, e.seq, e.nxt)
  cap : ∀ a n c, e.add = .slice a n c → n ≤ c
theorem EdAt.kept {w w' : World} {e : Es} {d : Ed} (h : EdAt w e d) (hb : Below w.heap.size w w') : EdAt w' e d := ⟨h.add.kept hb, h.drop.kept hb, h.nums, h.cap⟩
theorem elems_take {w : World} {b off cap : Nat} {l : List Tb} (h : TbsAt w (.slice (some ⟨b, off, none⟩) l.length cap) l) (h0 : 0 < l.length) (j : Nat) (hj : j ≤ l.length) : TbsAt w (.slice (some ⟨b, off, none⟩) j cap) (l.take j) := by
  have hlen : (l.take j).length = j := by rw [List.length_take]; omega
  obtain ⟨b2, off2, cap2, hv, hc⟩ := tbs_cells h h0
  cases hv
  refine ⟨⟨some ⟨b, off, none⟩, cap, by rw [hlen], fun _ => ⟨b, off, rfl, fun i hi => ?_⟩⟩, by rw [flat_length encC_len]⟩
  have hi : i < (l.take j).length * 8 := hi
  rw [hlen] at hi
  have hq : i / 8 < j := by omega
  have hr : i % 8 < 8 := Nat.mod_lt _ (by decide)
  have g := hc (i / 8) (by omega)
  have e2 := flat_at encC_len (l.take j) (i / 8) (by omega) (i % 8) hr
  have e0 : i / 8 * 8 + i % 8 = i := by omega
  rw [e0] at e2
  rw [e2, List.getElem_take]
  rcases (show i % 8 = 0 ∨ i % 8 = 1 ∨ i % 8 = 2 ∨ i % 8 = 3 ∨ i % 8 = 4 ∨ i % 8 = 5 ∨ i % 8 = 6 ∨ i % 8 = 7 by omega) with e | e | e | e | e | e | e | e
  · rw [e, show off + i = off + i / 8 * 8 by omega]; exact g.c0
  · rw [e, show off + i = off + i / 8 * 8 + 1 by omega]; exact g.c1
  · rw [e, show off + i = off + i / 8 * 8 + 2 by omega]; exact g.c2
  · rw [e, show off + i = off + i / 8 * 8 + 3 by omega]; exact g.c3
  · rw [e, show off + i = off + i / 8 * 8 + 4 by omega]; exact g.c4
  · rw [e, show off + i = off + i / 8 * 8 + 5 by omega]; exact g.c5
  · rw [e, show off + i = off + i / 8 * 8 + 6 by omega]; exact g.c6
  · rw [e, show off + i = off + i / 8 * 8 + 7 by omega]; exact g.c7
/-- The world in the middle of an edit: the version's box b, the edit's box eb. -/
structure DoSt (w : World) (base b eb : Nat) (es : Es) (v : Vn) (A : Nat → List Tb) (W : World) : Prop where
  box : W.heap[b]? = some (boxV v)
  edt : W.heap[eb]? = some (boxE es)
  own : VerOwn W base v A
  far : ∀ k, k < 4 → (v.lev k).ownBlock ≠ some b
  fare : ∀ k, k < 4 → (v.lev k).ownBlock ≠ some eb
  ne : eb ≠ b
  bel : Below base w W
theorem DoSt.kept {w W W' : World} {base b eb : Nat} {es : Es} {v : Vn} {A : Nat → List Tb} (h : DoSt w base b eb es v A W) (hb : Below W.heap.size W W') (hs : base ≤ W.heap.size) : DoSt w base b eb es v A W' :=
  ⟨blk_kept hb h.box, blk_kept hb h.edt, h.own.kept hb, h.far, h.fare, h.ne, below_step h.bel hb hs⟩
theorem DoSt.mid {w W W' : World} {base b eb : Nat} {es : Es} {v : Vn} {A : Nat → List Tb} (h : DoSt w base b eb es v A W) {k : Nat} (hk : k < 4) (hg : W.grownBy W' (v.lev k).ownBlock) : W'.heap[b]? = some (boxV v) := by
  rw [hg.block b (blk_lt h.box) (fun e => h.far k hk e.symm)]; exact h.box
theorem grown_bel {w W W' : World} {base : Nat} {row : Option Nat} (h : Below base w W) (hg : W.grownBy W' row) (hs : base ≤ W.heap.size) (hr : ∀ p, row = some p → base ≤ p) : Below base w W' := h.grown hg hs hr
theorem DoSt.put {w W W' : World} {base b eb : Nat} {es : Es} {v : Vn} {A : Nat → List Tb} (h : DoSt w base b eb es v A W) {k : Nat} (hk : k < 4) {x : Value} {l : List Tb} (hg : W.grownBy W' (v.lev k).ownBlock) (hx : W'.ownsRow base TE 8 x l.length (l.flatMap encC))
    (hw : x.ownBlock = (v.lev k).ownBlock ∨ ∀ p, x.ownBlock = some p → W.heap.size ≤ p) (hs : base ≤ W.heap.size) (hb : base ≤ b) : DoSt w base b eb es (v.set k x) (upd A k l) (W'.setCell ⟨b, k, none⟩ x) := by
  have hbx := h.mid hk hg
  have hlb := blk_lt h.box
  have hle := blk_lt h.edt
  have lev : ∀ j, j < 4 → (v.set k x).lev j = if j = k then x else v.lev j := fun j hj => lev_set v hj hk x
  have far : ∀ c, c < W.heap.size → (∀ j, j < 4 → (v.lev j).ownBlock ≠ some c) → ∀ j, j < 4 → ((v.set k x).lev j).ownBlock ≠ some c := fun c hc hf j hj e => by
    rw [lev j hj] at e
    split at e
    · rcases hw with e2 | e2
      · exact hf k hk (e2 ▸ e)
      · have := e2 c e; omega
    · exact hf j hj e
  refine ⟨box_set hbx hk x, ?_, (h.own.put hk hg hx hw).box (far b hlb h.far) k x, far b hlb h.far, far eb hle h.fare, h.ne, ?_⟩
  · rw [blk_set_other (by show eb ≠ b; exact h.ne), hg.block eb hle (fun e => h.fare k hk e.symm)]; exact h.edt
  · exact (h.bel.grown hg hs fun p hp => (h.own.own k hk).lt p hp |>.1).setCell (p := ⟨b, k, none⟩) hb _
theorem DoSt.turned {w W W' : World} {base b eb : Nat} {es : Es} {v : Vn} {A : Nat → List Tb} (h : DoSt w base b eb es v A W) {k : Nat} (hk : k < 4) {l : List Tb} (hg : W.grownBy W' (v.lev k).ownBlock) (hx : W'.ownsRow base TE 8 (v.lev k) l.length (l.flatMap encC)) (hs : base ≤ W.heap.size) :
    DoSt w base b eb es v (upd A k l) W' := by
  have hv : v.set k (v.lev k) = v := by
    rcases (show k = 0 ∨ k = 1 ∨ k = 2 ∨ k = 3 by omega) with rfl | rfl | rfl | rfl <;> rfl
  have ho := h.own.put hk hg hx (.inl rfl)
  rw [hv] at ho
  refine ⟨h.mid hk hg, ?_, ho, h.far, h.fare, h.ne, h.bel.grown hg hs fun p hp => (h.own.own k hk).lt p hp |>.1⟩
  rw [hg.block eb (blk_lt h.edt) (fun e => h.fare k hk e.symm)]; exact h.edt
theorem DoSt.lens {w W : World} {base b eb : Nat} {es : Es} {v : Vn} {A : Nat → List Tb} (h : DoSt w base b eb es v A W) {L : List Tb} (hl : Lvs A L) {N : Nat} (hn : L.length ≤ N) : ∀ k, k < 4 → (A k).length ≤ N := fun k hk => by
  have := (hl.perm k hk).length_eq
  have := List.length_filter_le (onL k) L
  omega
theorem lvs_lens {A : Nat → List Tb} {L : List Tb} (hl : Lvs A L) {N : Nat} (hn : L.length ≤ N) : ∀ k, k < 4 → (A k).length ≤ N := fun k hk => by
  have := (hl.perm k hk).length_eq
  have := List.length_filter_le (onL k) L
  omega
theorem lvs_tabs {A : Nat → List Tb} {L : List Tb} (hl : Lvs A L) {N : Nat} (hn : L.length ≤ N) : (tabs A).length ≤ 4 * N := by
  have h := lvs_lens hl hn
  have := h 0 (by omega)
  have := h 1 (by omega)
  have := h 2 (by omega)
  have := h 3 (by omega)
  rw [tabs_eq]
  simp only [List.length_append]
  omega
/-- The append of one table that was laid in a block of its own, in a region that draws its order. -/
theorem step_appT {ops : Array Oper} {o : Oper} {a : Act} {W : World} {K : Act → World → Prop} {Q : Exit → Act → World → Prop} {E : Prop}
    (hg : o.guard = none) (d x : Operand) (hop : o.op = Op.call { callee := Callee.builtin Builtin.append, args := #[d, x], argTypes := #[TS, TS] })
    {base g : Nat} {v : Value} {l : List Tb} {t : Tb} (hd : a.eval d = v) (hx : a.eval x = .slice (some ⟨g, 0, none⟩) 1 1) (hh : W.heap[g]? = some (boxT t)) (hown : W.ownsRow base TE 8 v l.length (l.flatMap encC)) (hn : l.length ≤ 1000000) (hbase : base ≤ W.heap.size)
    (hK : ∀ v' W', W'.ownsRow base TE 8 v' (l ++ [t]).length ((l ++ [t]).flatMap encC) → W.grownBy W' v.ownBlock → (v'.ownBlock = v.ownBlock ∨ ∀ p, v'.ownBlock = some p → W.heap.size ≤ p) → K (a.put o.dst v') W') :
    if Region.wanted o (yielded ops a.tmps) = true then Oper.wp Tryd.prog o a W K Q else E := by
  have hseg : Seg W 8 (.slice (some ⟨g, 0, none⟩) 1 1) 1 (encC t) := by
    refine ⟨⟨_, _, rfl, fun _ => ⟨g, 0, rfl, fun j hj => ?_⟩⟩, rfl⟩
    rw [Nat.zero_add, blk_cell hh]
    simp [encC]
  obtain ⟨v', W', hr, ho, hgr, hwho⟩ := run_append_seg (P := Tryd.prog) W TS o.type TE _ 8 80 Tryd.underlying25 infoE rfl (by decide) hown hseg (encC_one1 t) (by omega) (by decide) hbase
  refine step_append hg d x TS TS hop _ _ hd hx hr (hK v' W' ?_ hgr ?_)
  · rw [List.length_append, List.flatMap_append]
    have e : List.flatMap encC [t] = encC t := by simp
    rw [e]
    exact ho
  · rcases hwho with h | h
    · exact .inl h
    · exact .inr fun p hp => by rw [h] at hp; cases hp; exact Nat.le_refl _
end Go.Proofs.Tryd.Vr

/- Edits done one behind the other: Apply. -/
set_option linter.unusedVariables false
set_option linter.unusedSimpArgs false
set_option maxRecDepth 100000
namespace Go.Proofs.Tryd.Vr
open Go.RowKit Go.Cph Go.Cph.Skip Go.Cph.So Go.Cph.Ve
open Go.Proofs.Tryd.Sq (row_kept1 grown_below grown_set encU encU_len TU TUs infoU)

abbrev encEc (e : Es) : List Value := [e.add, e.drop, .int .u64 (e.log.toNat : Int), .int .u64 (e.seq.toNat : Int), .int .u64 (e.nxt.toNat : Int)]
theorem encEc_len (e : Es) : (encEc e).length = 5 := rfl
/-- Edits as they lie in a slice. -/
structure EdsAt (w : World) (v : Value) (es : List Es) (ds : List Ed) : Prop where
  len : es.length = ds.length
  row : Elems encEc 5 w v es
  at' : ∀ i (h : i < es.length) (k : i < ds.length), EdAt w es[i] ds[i]
theorem EdsAt.kept {w w' : World} {v : Value} {es : List Es} {ds : List Ed} (h : EdsAt w v es ds) (hb : Below w.heap.size w w') : EdsAt w' v es ds := ⟨h.len, h.row.kept hb, fun i hi hk => (h.at' i hi hk).kept hb⟩
def zVn : Vn := ⟨.slice none 0 0, .slice none 0 0, .slice none 0 0, .slice none 0 0, 0, 0, 0⟩
/-- What Apply leaves: an error's number, and a version in memory of its own that stands beside what the document's edits make. -/
def ApplyPost (r : Int × List Tb × Nm) (w : World) (e : Ending) (w' : World) : Prop :=
  ∃ v' A', e = .returned (.tuple #[encV v', .int .i64 r.1]) ∧ VerOwn w' w.heap.size v' A' ∧ (v'.log, v'.seq, v'.nxt) = r.2.2 ∧ Below w.heap.size w w' ∧ (r.1 = 0 → Rel A' r.2.1 r.2.2) ∧ (r.1 ≠ 0 → v' = zVn ∧ A' = fun _ => [])
theorem own_zero (w : World) (base : Nat) : VerOwn w base zVn (fun _ => []) := by
  have e : ∀ k, zVn.lev k = .slice none 0 0 := fun k => by unfold Vn.lev; split <;> rfl
  refine ⟨fun k hk => ?_, fun j k hj hk hne p hp => ?_⟩
  · rw [e]; exact World.ownsRow_nil _ _ _ _
  · rw [e] at hp; simp [Value.ownBlock] at hp
theorem doD_bad {L : List Tb} {m : Nm} {d : Ed} (h : (doD L m d).1 ≠ 0) : (doD L m d).2 = ([], 0, 0, 0) := by
  rcases doD_codes L m d with h1 | h1 | h1 | h1
  · exact absurd h1 h
  · rw [h1]
  · rw [h1]
  · rw [h1]
theorem app_len {L M : List Tb} {ts : List Tb} (h : addL L ts = some M) : M.length = L.length + ts.length := by rw [addL_app h, List.length_append]
theorem drop_len : ∀ (ds : List UInt64) (L M : List Tb), ds.foldl dropStep (some L) = some M → M.length ≤ L.length
  | [], L, M, h => by cases h; exact Nat.le_refl _
  | n :: ds, L, M, h => by
    rw [List.foldl_cons] at h
    by_cases hn : hasN L n = true
    · have e : dropStep (some L) n = some (lessN L n) := by unfold dropStep; simp [hn]
      rw [e] at h
      exact Nat.le_trans (drop_len ds _ M h) (List.length_filter_le _ _)
    · have e : dropStep (some L) n = none := by unfold dropStep; simp [hn]
      rw [e, drop_none] at h
      cases h
theorem doD_len (L : List Tb) (m : Nm) (d : Ed) : (doD L m d).2.1.length ≤ L.length + d.1.length := by
  unfold doD
  cases hd : dropL L d.2.1 with
  | none => simp
  | some M =>
    have h1 := drop_len _ _ _ hd
    dsimp only
    cases ha : addL M d.1 with
    | none => simp
    | some N =>
      have h2 := app_len ha
      dsimp only
      split
      · dsimp only; omega
      · simp
theorem results_row_tmp {P : Program} {fn : Func} {p u : Tmp} {ty : TypeId} (h : fn.results = #[.cell p ty, .tmp u]) (tmps : Array Value) (w : World) (g : Nat) (t : TypeId) (cs : Array Value) (fr : Nat × Nat) (d : TypeDesc) (x : Value)
    (hp : tmps.getD p undef = .pointer (some ⟨g, 0, none⟩)) (hx : tmps.getD u undef = x) (hg : w.heap[g]? = some (.cells cs t fr))
    (hu : P.underlying ty = some d) (hd : (match d with | .struct _ | .array _ _ => true | _ => false) = true) (hi : (P.info? ty).map (·.size) = some cs.size) :
    (results fn tmps).run P w = .ok (.tuple #[.agg cs, x]) w := by
  rw [results_cell_tmp h, hp, hx]
  simp [asAddr, Result.andThen, run_loadVar_row w g t ty cs fr d hg hu hd hi]
/-- The world in the middle of Apply: the version's box b, the result's box c. -/
structure ApSt (w w1 : World) (b c : Nat) (v : Vn) (A : Nat → List Tb) (W : World) : Prop where
  box : W.heap[b]? = some (boxV v)
  own : VerOwn W w1.heap.size v A
  far : ∀ k, k < 4 → (v.lev k).ownBlock ≠ some b
  hc : W.heap[c]? = some boxZ
  ne : c < w1.heap.size
  bel : Below w1.heap.size w1 W
theorem ApSt.kept {w w1 W W' : World} {b c : Nat} {v : Vn} {A : Nat → List Tb} (h : ApSt w w1 b c v A W) (hb : Below W.heap.size W W') : ApSt w w1 b c v A W' :=
  ⟨blk_kept hb h.box, h.own.kept hb, h.far, blk_kept hb h.hc, h.ne, below_step h.bel hb h.bel.size⟩
def sumA (ds : List Ed) : Nat := (ds.map fun d => d.1.length).sum
theorem sum_drop {ds : List Ed} {i : Nat} (h : i < ds.length) : sumA (ds.drop i) = ds[i].1.length + sumA (ds.drop (i + 1)) := by
  unfold sumA
  rw [List.drop_eq_getElem_cons h, List.map_cons, List.sum_cons]
def ApInv (L : List Tb) (m : Nm) (ds : List Ed) (i : Nat) (M : List Tb) (v : Vn) (A : Nat → List Tb) : Prop :=
  editsD L m (ds.take i) = (0, M, v.log, v.seq, v.nxt) ∧ Rel A M (v.log, v.seq, v.nxt) ∧ M.length + sumA (ds.drop i) ≤ 100000
end Go.Proofs.Tryd.Vr
