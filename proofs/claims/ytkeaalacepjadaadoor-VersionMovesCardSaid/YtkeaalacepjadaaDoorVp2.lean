/- An edit done. -/
import Derived.Test.YtkeaalacepjadaaDoorVH
import Derived.Test.YtkeaalacepjadaaDoorVs6
import Derived.Deep.RegionWith
import Derived.Deep.RegionLaw
set_option linter.unusedVariables false
set_option linter.unusedSimpArgs false
set_option maxRecDepth 100000
namespace Go.Proofs.Tryd.Vr
open Go.RowKit Go.Cph Go.Cph.Skip Go.Cph.So Go.Cph.Ve
open Go.Proofs.Tryd.Sq (row_kept1 grown_below grown_set encU encU_len TU TUs infoU)

theorem flat_erase (l : List Tb) (j : Nat) (hj : j < l.length) : (l.flatMap encC).take (j * 8) ++ (l.flatMap encC).drop ((j + 1) * 8) = (l.eraseIdx j).flatMap encC := by
  induction l generalizing j with
  | nil => exact absurd hj (by simp)
  | cons x l ih =>
    cases j with
    | zero => simp [encC]
    | succ j =>
      have h := ih j (by simpa using hj)
      rw [List.eraseIdx_cons_succ, List.flatMap_cons, List.flatMap_cons, ← h]
      have e1 : (j + 1) * 8 = (encC x).length + j * 8 := by rw [encC_len]; omega
      have e2 : (j + 1 + 1) * 8 = (encC x).length + (j + 1) * 8 := by rw [encC_len]; omega
      rw [e2, List.drop_length_add_append, e1, List.take_length_add_append, List.append_assoc]
theorem grown_undrew {w w' : World} {row : Option Nat} (h : w.drew.grownBy w' row) : w.grownBy w' row := ⟨h.os, h.tape, h.output, h.size, h.block⟩
def DoPost (base b : Nat) (d : Ed) (L : List Tb) (m : Nm) (w : World) (e : Ending) (w' : World) : Prop :=
  e = .returned (.int .i64 (doD L m d).1) ∧ Below base w w' ∧ ((doD L m d).1 = 0 → ∃ v' A', w'.heap[b]? = some (boxV v') ∧ VerOwn w' base v' A' ∧ (∀ k, k < 4 → (v'.lev k).ownBlock ≠ some b) ∧ (v'.log, v'.seq, v'.nxt) = (doD L m d).2.2 ∧ Rel A' (doD L m d).2.1 (doD L m d).2.2)
theorem do_drop_stop {L : List Tb} {m : Nm} {d : Ed} (h : dropL L d.2.1 = none) : (doD L m d).1 = 4 := by unfold doD; rw [h]
theorem do_add_stop {L M : List Tb} {m : Nm} {d : Ed} (h : dropL L d.2.1 = some M) (g : addL M d.1 = none) : (doD L m d).1 = 5 := by unfold doD; rw [h]; dsimp only; rw [g]
theorem do_end {L M N : List Tb} {m : Nm} {d : Ed} (h : dropL L d.2.1 = some M) (g : addL M d.1 = some N) : doD L m d = if rightDB N (mxN m d.2.2) then (0, N, mxN m d.2.2) else (1, [], 0, 0, 0) := by unfold doD; rw [h]; dsimp only; rw [g]
def DropInv (L : List Tb) (ds : List UInt64) (i : Nat) (v v1 : Vn) (M : List Tb) (A1 : Nat → List Tb) : Prop :=
  dropL L (ds.take i) = some M ∧ Lvs A1 M ∧ Inside M ∧ (M.map tN).Nodup ∧ M.length ≤ L.length ∧ v1.log = v.log ∧ v1.seq = v.seq ∧ v1.nxt = v.nxt
theorem DropInv.next {L : List Tb} {ds : List UInt64} {i : Nat} {v v1 : Vn} {M : List Tb} {A1 : Nat → List Tb} (h : DropInv L ds i v v1 M A1) (hi : i < ds.length) {k j : Nat} (hk : k < 4) (hj : j < (A1 k).length) (hn : tN (A1 k)[j] = ds[i]) (x : Value) :
    DropInv L ds (i + 1) v (v1.set k x) (lessN M ds[i]) (upd A1 k ((A1 k).eraseIdx j)) := by
  obtain ⟨h1, h2, h3, h4, h5, h6, h7, h8⟩ := h
  obtain ⟨g1, g2⟩ := drop_found h2 h4 hk hj
  rw [hn] at g1 g2
  have hs := set_nums v1 k x
  exact ⟨dropL_next hi h1 g1, g2, h3.less _, nodup_less h4 _, Nat.le_trans (List.length_filter_le _ _) h5, hs.1.trans h6, hs.2.1.trans h7, hs.2.2.trans h8⟩
theorem DropInv.stop {L : List Tb} {ds : List UInt64} {i : Nat} {v v1 : Vn} {M : List Tb} {A1 : Nat → List Tb} (h : DropInv L ds i v v1 M A1) (hi : i < ds.length) (hp : PlaceIs A1 ds[i] none) : dropL L ds = none :=
  dropL_stop hi h.1 (drop_lost h.2.1 h.2.2.1 hp)
/-- While tables are added. -/
def AddInv (M ts : List Tb) (j : Nat) (v v1 : Vn) (A : Nat → List Tb) (out : Bool) : Prop :=
  addL M (ts.take j) = some (M ++ ts.take j) ∧ Lvs A (M ++ ts.take j) ∧ Inside M ∧ (out = false ↔ Inside (ts.take j)) ∧ v1.log = v.log ∧ v1.seq = v.seq ∧ v1.nxt = v.nxt
theorem inside_snoc {l : List Tb} {t : Tb} : Inside (l ++ [t]) ↔ Inside l ∧ 0 ≤ tV t ∧ tV t ≤ 3 := by
  constructor
  · intro h
    exact ⟨fun x hx => h x (List.mem_append_left _ hx), h t (by simp)⟩
  · rintro ⟨h, g⟩ x hx
    rcases List.mem_append.1 hx with hx | hx
    · exact h x hx
    · rw [List.mem_singleton] at hx
      rw [hx]; exact g
section
variable {M ts : List Tb} {j : Nat} {v v1 : Vn} {A : Nat → List Tb} {out : Bool}
theorem AddInv.there (h : AddInv M ts j v v1 A out) (hj : j < ts.length) (hn : hasN (M ++ ts.take j) (tN ts[j]) = true) : addL M ts = none := addL_stop hj h.1 hn
theorem AddInv.snoc (h : AddInv M ts j v v1 A out) (hj : j < ts.length) (hn : hasN (M ++ ts.take j) (tN ts[j]) = false) : addL M (ts.take (j + 1)) = some (M ++ ts.take (j + 1)) := by
  rw [addL_next hj h.1 hn, List.append_assoc, List.take_succ_eq_append_getElem hj]
theorem AddInv.next_in (h : AddInv M ts j v v1 A out) (hj : j < ts.length) (hn : hasN (M ++ ts.take j) (tN ts[j]) = false) {k : Nat} (hk : k < 4) (hv : tV ts[j] = (k : Int)) (x : Value) :
    AddInv M ts (j + 1) v (v1.set k x) (upd A k (A k ++ [ts[j]])) out := by
  have hs := set_nums v1 k x
  refine ⟨h.snoc hj hn, ?_, h.2.2.1, ?_, hs.1.trans h.2.2.2.2.1, hs.2.1.trans h.2.2.2.2.2.1, hs.2.2.trans h.2.2.2.2.2.2⟩
  · rw [List.take_succ_eq_append_getElem hj, ← List.append_assoc]
    exact add_in h.2.1 hv
  · rw [List.take_succ_eq_append_getElem hj, inside_snoc, h.2.2.2.1]
    exact ⟨fun g => ⟨g, by omega, by omega⟩, fun g => g.1⟩
theorem AddInv.next_out (h : AddInv M ts j v v1 A out) (hj : j < ts.length) (hn : hasN (M ++ ts.take j) (tN ts[j]) = false) (hv : tV ts[j] < 0 ∨ 4 ≤ tV ts[j]) : AddInv M ts (j + 1) v v1 A true := by
  refine ⟨h.snoc hj hn, ?_, h.2.2.1, ?_, h.2.2.2.2⟩
  · rw [List.take_succ_eq_append_getElem hj, ← List.append_assoc]
    exact add_out h.2.1 hv
  · rw [List.take_succ_eq_append_getElem hj, inside_snoc]
    exact ⟨fun g => (by cases g), fun g => (by omega)⟩
theorem AddInv.found (h : AddInv M ts j v v1 A out) (hj : j < ts.length) {o : Nat × Nat} (hp : PlaceIs A (tN ts[j]) (some o)) : hasN (M ++ ts.take j) (tN ts[j]) = true := by
  obtain ⟨k, i⟩ := o
  obtain ⟨hk, hi, hn⟩ := hp
  exact (add_there h.2.1 h.2.2.1).2 (.inl ⟨k, hk, _, List.getElem_mem hi, hn⟩)
theorem AddInv.sought (h : AddInv M ts j v v1 A out) (hj : j < ts.length) (hp : PlaceIs A (tN ts[j]) none) : hasN (M ++ ts.take j) (tN ts[j]) = hasN (ts.take j) (tN ts[j]) := by
  rw [Bool.eq_iff_iff, add_there h.2.1 h.2.2.1, hasN_iff]
  constructor
  · rintro (⟨k, hk, t, ht, e⟩ | g)
    · exact absurd e (hp k hk t ht)
    · exact g
  · exact .inr
end
def sortUpto (A : Nat → List Tb) (q : Nat) : Nat → List Tb := fun k => if k < q then sortL (bef k) (A k) else A k
theorem sort_zero (A : Nat → List Tb) : sortUpto A 0 = A := rfl
theorem sort_next (A : Nat → List Tb) (q : Nat) : upd (sortUpto A q) q (sortL (bef q) (sortUpto A q q)) = sortUpto A (q + 1) := by
  funext k
  unfold upd sortUpto
  rcases Nat.lt_trichotomy k q with h | h | h
  · rw [if_neg (by omega), if_pos h, if_pos (by omega)]
  · subst h
    rw [if_pos rfl, if_neg (by omega), if_pos (by omega)]
  · rw [if_neg (by omega), if_neg (by omega), if_neg (by omega)]
theorem sort_len (A : Nat → List Tb) (q k : Nat) : (sortUpto A q k).length = (A k).length := by
  unfold sortUpto
  split
  · exact sortL_length (bef_weak k) _
  · rfl
def Vn.nums (v : Vn) (l s n : UInt64) : Vn := { v with log := l, seq := s, nxt := n }
theorem mx_int (a b : UInt64) : max (a.toNat : Int) (b.toNat : Int) = ((mx a b).toNat : Int) := by
  unfold mx
  split <;> omega
theorem sort_four (A : Nat → List Tb) : ∀ k, k < 4 → sortUpto A 4 k = sortL (bef k) (A k) := fun k hk => by unfold sortUpto; rw [if_pos hk]
theorem nums_lev (v : Vn) (l s n : UInt64) (k : Nat) : (v.nums l s n).lev k = v.lev k := by
  unfold Vn.lev Vn.nums
  split <;> rfl
theorem DoSt.levels {w W : World} {base b eb : Nat} {es : Es} {v : Vn} {A B : Nat → List Tb} (h : DoSt w base b eb es v A W) (e : ∀ k, k < 4 → A k = B k) : DoSt w base b eb es v B W :=
  ⟨h.box, h.edt, ⟨fun k hk => by rw [← e k hk]; exact h.own.own k hk, h.own.dif⟩, h.far, h.fare, h.ne, h.bel⟩
abbrev put3 (w : World) (b : Nat) (l s n : UInt64) : World := ((w.setCell ⟨b, 4, none⟩ (.int .u64 (l.toNat : Int))).setCell ⟨b, 5, none⟩ (.int .u64 (s.toNat : Int))).setCell ⟨b, 6, none⟩ (.int .u64 (n.toNat : Int))
theorem box_put3 {w : World} {b : Nat} {v : Vn} (h : w.heap[b]? = some (boxV v)) (l s n : UInt64) : (put3 w b l s n).heap[b]? = some (boxV (v.nums l s n)) := by
  rw [blk_set (blk_set (blk_set h 4 _) 5 _) 6 _]
  rfl
theorem grown_put3 (w : World) (b : Nat) (l s n : UInt64) : w.grownBy (put3 w b l s n) (some b) := ((grown_set w b 4 _).trans (grown_set _ b 5 _)).trans (grown_set _ b 6 _)
theorem DoSt.numsSet {w W W' : World} {base b eb : Nat} {es : Es} {v : Vn} {A : Nat → List Tb} (h : DoSt w base b eb es v A W) (hb : base ≤ b) {l s n : UInt64} (hbx : W'.heap[b]? = some (boxV (v.nums l s n))) (hg : W.grownBy W' (some b)) (hs : base ≤ W.heap.size) : DoSt w base b eb es (v.nums l s n) A W' := by
  refine ⟨hbx, ?_, ⟨fun k hk => ?_, fun j k hj hk hne p hp => ?_⟩, fun k hk => by rw [nums_lev]; exact h.far k hk, fun k hk => by rw [nums_lev]; exact h.fare k hk, h.ne, h.bel.grown hg hs fun p hp => by cases hp; exact hb⟩
  · rw [hg.block eb (blk_lt h.edt) (by intro e; injection e with e; exact h.ne e)]; exact h.edt
  · rw [nums_lev]
    exact row_kept1 (h.own.own k hk) fun p hp => hg.block p ((h.own.own k hk).lt p hp).2 (fun e => h.far k hk (by rw [hp, e]))
  · rw [nums_lev] at hp ⊢
    exact h.own.dif j k hj hk hne p hp
theorem wp_then_intro {P : Program} {c : Code} {Q : Exit → Act → World → Prop} {a : Act} {w : World} (h : ∀ K : Act → World → Prop, (∀ a w, Q .normal a w → K a w) → c.wp P (Exit.then K Q) a w) : c.wp P Q a w := by
  refine wp_mono (h (fun a w => Q .normal a w) fun _ _ h => h) ?_
  intro e a' w' hq
  cases e <;> exact hq
theorem do_done {L M ts : List Tb} {ds : List UInt64} {m nm : Nm} {A : Nat → List Tb} (h : dropL L ds = some M) (g : addL M ts = some (M ++ ts)) (hl : Lvs A (M ++ ts)) :
    ((Inside (M ++ ts) ∧ RightV (fun k => sortL (bef k) (A k)) (mxN m nm).1 (mxN m nm).2.1 (mxN m nm).2.2) → doD L m (ts, ds, nm) = (0, M ++ ts, mxN m nm) ∧ Rel (fun k => sortL (bef k) (A k)) (M ++ ts) (mxN m nm)) ∧
    (¬ (Inside (M ++ ts) ∧ RightV (fun k => sortL (bef k) (A k)) (mxN m nm).1 (mxN m nm).2.1 (mxN m nm).2.2) → (doD L m (ts, ds, nm)).1 = 1) := by
  have he := do_end (m := m) (d := (ts, ds, nm)) h g
  constructor
  · intro hi
    have hr := (edit_end hl (mxN m nm)).1 hi
    rw [he]
    exact ⟨if_pos hr, edit_rel hl hr⟩
  · intro hi
    have hr : ¬ rightDB (M ++ ts) (mxN m nm) = true := fun hr => hi ((edit_end hl (mxN m nm)).2 hr)
    rw [he, if_neg hr]

set_option maxHeartbeats 16000000 in
theorem do_any {w0 : World} {base b : Nat} (es : Es) (d : Ed) (v : Vn) (A : Nat → List Tb) (L : List Tb) (w : World) (hbx : w.heap[b]? = some (boxV v)) (hown : VerOwn w base v A) (hfar : ∀ k, k < 4 → (v.lev k).ownBlock ≠ some b) (hE : EdAt w0 es d) (h0 : w0.heap.size ≤ base)
    (hbel : Below base w0 w) (hb : base ≤ b) (hR : Rel A L (v.log, v.seq, v.nxt)) (hn : L.length + d.1.length ≤ 100000) (hn2 : d.2.1.length ≤ 100000) :
    Calls Tryd.prog 27 #[.pointer (some ⟨b, 0, none⟩), encE es] w (DoPost base b d L (v.log, v.seq, v.nxt) w) := by
  have hEd : ∀ W, Below base w W → EdAt W es d := fun W h => hE.kept ((hbel.trans h).mono h0)
  have hsb : base ≤ w.heap.size := by have := blk_lt hbx; omega
  have hst : DoSt w base b w.heap.size es v A (w.alloc (boxE es)) :=
    ⟨blk_alloc hbx _, heap_alloc_new _ _, hown.kept (below_of_alloc _), hfar, fun k hk e => by have := ((hown.own k hk).lt _ e).2; omega, by have := blk_lt hbx; omega, (Below.refl _ _).alloc hsb _⟩
  have hdi : DropInv L d.2.1 0 v v L A := ⟨rfl, hR.lvs, hR.inside, hR.nodup, Nat.le_refl _, rfl, rfl, rfl⟩
  obtain ⟨ts, ds, nm⟩ := d
  obtain ⟨ea, edr, el, eq, en⟩ := es
  obtain ⟨dao, dc, hdv⟩ := elems_slice (hEd w (Below.refl _ _)).drop
  obtain ⟨tao, tc, htv⟩ := elems_slice (hEd w (Below.refl _ _)).add
  dsimp only at hdv htv hn hn2 hdi
  subst hdv htv
  have HST := Lib.hid hst
  have HDI := Lib.hid hdi
  have HED := Lib.hid hEd
  have HSB := Lib.hid hsb
  have HBB := Lib.hid hb
  have HN := Lib.hid hn
  have HN2 := Lib.hid hn2
  have HLT := Lib.hid (blk_lt hbx)
  have e0 : (w.alloc (boxE ⟨.slice tao ts.length tc, .slice dao ds.length dc, el, eq, en⟩)).cell? ⟨w.heap.size, 1, none⟩ = some (.slice dao ds.length dc) := by rw [blk_cell (heap_alloc_new _ _)]; rfl
  clear hE h0 hbel hR hbx hown hfar hEd hsb hst hdi hb hn hn2
  go_enter Tryd.func27, Tryd.ntmps27
  go_wp2_with fail
  go_loopw [20] (fun vi W => ∃ (i : Nat) (M : List Tb) (A1 : Nat → List Tb) (v1 : Vn), i ≤ ds.length ∧ vi = .int .i64 (i : Int) ∧ Hid (DropInv L ds i v v1 M A1) ∧ Hid (DoSt w base b w.heap.size ⟨.slice tao ts.length tc, .slice dao ds.length dc, el, eq, en⟩ v1 A1 W)) (fun vi _ => ds.length - (intOf vi).toNat)
  case atStart => exact ⟨0, L, A, v, Nat.zero_le _, rfl, HDI, HST⟩
  case round =>
    obtain ⟨i, M, A1, v1, hi, rfl, HI, HS⟩ := hrel
    clear e0
    by_cases hlt : i < ds.length
    · have hds := (HED.out wr HS.out.bel).drop
      dsimp only at hds
      obtain ⟨db, doff, dcap, hve, hcs⟩ := elems_shape encU_len hds (by omega)
      injection hve with hx1 hx2 hx3
      subst hx1
      have dcell : wr.cell? ⟨db, doff + i, none⟩ = some (.int .u64 (ds[i].toNat : Int)) := by
        have := hcs i hlt 0 (by omega)
        simpa using this
      obtain ⟨n, hnn⟩ : ∃ n, n = ds[i] := ⟨_, rfl⟩
      have HNN := Lib.hid hnn
      rw [← hnn] at dcell
      have HLT2 := Lib.hid hlt
      have j1 : (0 : Int) ≤ (i : Int) := by omega
      have j2 : (i : Int) < (ds.length : Int) := by omega
      have j4 : IntKind.i64.wrap ((i : Int) + 1) = (i : Int) + 1 := by have := HN2.out; rw [IntKind.wrap_i64]; omega
      have hlens := HS.out.lens HI.out.2.1 (N := 100000) (by have := HI.out.2.2.2.2.1; have := HN.out; omega)
      have HLN := Lib.hid hlens
      have HC := Lib.hid (place_any b v1 A1 n wr HS.out.box HS.out.own.at' (fun k hk => by have := hlens k hk; omega))
      clear hx2 hx3 hcs hnn hlens hds
      go_wp2_with fail
      refine HC.out.mono ?_
      rintro e w2 ⟨o, rfl, ho, hb2⟩
      have HS2 := Lib.hid (HS.out.kept hb2 (by have := HS.out.bel.size; have := HSB.out; omega))
      have HO := Lib.hid ho
      clear HC ho hb2 dcell
      cases o with
      | none =>
        have HV := Lib.hid (do_drop_stop (L := L) (m := (v.log, v.seq, v.nxt)) (d := (ts, ds, nm)) (HI.out.stop HLT2.out (by rw [← HNN.out]; exact HO.out)))
        dsimp only [placeV]
        go_wp2_with fail
        go_ret
        exact ⟨ret_int HV.out.symm, HS2.out.bel, fun h => by rw [HV.out] at h; cases h⟩
      | some p =>
        obtain ⟨k, j⟩ := p
        obtain ⟨hk, hj, hnj⟩ := HO.out
        obtain ⟨xo, xc, hx⟩ := owns_slice1 (HS2.out.own.own k hk)
        have HX := Lib.hid hx
        have HK := Lib.hid hk
        have HJ := Lib.hid hj
        have c1 : w2.cell? ⟨b, k, none⟩ = some (.slice xo (A1 k).length xc) := by rw [← hx]; exact boxV_lev HS2.out.box hk
        have f1 : w2.frozen? ⟨b, k, none⟩ = false := boxV_free HS2.out.box k
        have k1 : (k : Int) < 4 := by omega
        have k0 : (0 : Int) ≤ (k : Int) := by omega
        have k3 : IntKind.i64.wrap ((j : Int) + 1) = (j : Int) + 1 := by have := HLN.out k hk; rw [IntKind.wrap_i64]; omega
        have HDE := Lib.hid (delete_any w2.drew (show w2.drew.ownsRow base TE 8 (.slice xo (A1 k).length xc) (A1 k).length ((A1 k).flatMap encC) from by rw [← hx]; exact HS2.out.own.own k hk) hj (by have := HLN.out k hk; omega) encC_one (Nat.le_trans HSB.out HS2.out.bel.size))
        dsimp only [placeV]
        clear hx hnj
        go_wp2_with fail
        go_region_with (go_at_call 42; refine HDE.out.mono ?_; rintro e w3 ⟨x3, rfl, ho3, hg3d, hw3⟩; have hg3 := grown_undrew hg3d; clear hg3d; obtain ⟨xo3, xc3, hx3⟩ := owns_slice1 ho3; subst hx3; have HO3 := Lib.hid ho3; have HG3 := Lib.hid hg3; have HW3 := Lib.hid hw3; have c3 : w3.cell? ⟨b, k, none⟩ = some (.slice xo (A1 k).length xc) := (by rw [← HX.out]; exact boxV_lev (HS2.out.mid HK.out (W' := w3) (by rw [HX.out]; exact hg3)) HK.out); have f3 : w3.frozen? ⟨b, k, none⟩ = false := boxV_free (HS2.out.mid HK.out (W' := w3) (by rw [HX.out]; exact hg3)) k; clear ho3 hg3 hw3)
        go_wp2_with fail
        go_roundw
        case rel => exact ⟨i + 1, lessN M ds[i], upd A1 k ((A1 k).eraseIdx j), v1.set k (.slice xo3 ((A1 k).length - 1) xc3), hlt, by first | rfl | (congr 1), Lib.hid (HI.out.next hlt HK.out HJ.out (by have := HO.out.2.2; rw [← HNN.out]; exact this) _), Lib.hid (HS2.out.put HK.out (by rw [HX.out]; exact HG3.out) (by
          rw [List.length_eraseIdx_of_lt HJ.out, ← flat_erase _ _ HJ.out]; exact HO3.out) (.inl (by rw [HX.out]; exact HW3.out)) (Nat.le_trans HSB.out HS2.out.bel.size) HBB.out)⟩
        case measure => simp [intOf]; omega
    · have hil : i = ds.length := by omega
      subst hil
      have hM : dropL L ds = some M := by have := HI.out.1; rwa [List.take_length] at this
      have HM := Lib.hid hM
      have hai : AddInv M ts 0 v v1 A1 false := ⟨by show some M = some (M ++ []); rw [List.append_nil], by show Lvs A1 (M ++ []); rw [List.append_nil]; exact HI.out.2.1, HI.out.2.2.1, ⟨fun _ x hx => (by cases hx), fun _ => rfl⟩, HI.out.2.2.2.2.2⟩
      have HAI := Lib.hid hai
      have HML := Lib.hid HI.out.2.2.2.2.1
      have HS0 := HS
      have e0 : wr.cell? ⟨w.heap.size, 0, none⟩ = some (.slice tao ts.length tc) := by rw [blk_cell HS.out.edt]; rfl
      have i1 : ¬ (ds.length : Int) < (ds.length : Int) := by omega
      clear hM hai HDI HST HI
      go_wp2_with fail
      go_loopw [10, 52] (fun vo vi W => ∃ (j : Nat) (A2 : Nat → List Tb) (v2 : Vn) (out : Bool), j ≤ ts.length ∧ vi = .int .i64 (j : Int) ∧ vo = .bool out ∧ Hid (AddInv M ts j v v2 A2 out) ∧ Hid (DoSt w base b w.heap.size ⟨.slice tao ts.length tc, .slice dao ds.length dc, el, eq, en⟩ v2 A2 W)) (fun _ vi _ => ts.length - (intOf vi).toNat)
      case atStart => exact ⟨0, A1, v1, false, Nat.zero_le _, rfl, rfl, HAI, HS0⟩
      case round =>
        obtain ⟨j, A2, v2, out, hj, rfl, rfl, HA, HT⟩ := hrel
        clear e0 HAI HS0 HS
        by_cases hjl : j < ts.length
        · have hts := (HED.out wr HT.out.bel).add
          dsimp only at hts
          obtain ⟨tb, toff, tcap, hve, hcs⟩ := tbs_cells hts (by omega)
          injection hve with hx1 hx2 hx3
          subst hx1
          clear hx2 hx3
          have hcx := hcs j hjl
          obtain ⟨x, hx⟩ : ∃ x, x = ts[j] := ⟨_, rfl⟩
          have HX := Lib.hid hx
          rw [← hx] at hcx
          have HJL := Lib.hid hjl
          have d0 := hcx.c0
          have d1 := hcx.c1
          have d2 := hcx.c2
          have d3 := hcx.c3
          have d4 := hcx.c4
          have d5 := hcx.c5
          have d6 := hcx.c6
          have d7 := hcx.c7
          have j1 : (0 : Int) ≤ (j : Int) := by omega
          have j2 : (j : Int) < (ts.length : Int) := by omega
          have j3 : (j : Int) ≤ (tc : Int) := by have := (HED.out wr HT.out.bel).cap _ _ _ rfl; omega
          have j4 : IntKind.i64.wrap ((j : Int) + 1) = (j : Int) + 1 := by have := HN.out; rw [IntKind.wrap_i64]; omega
          have hbw := below_of_alloc (w := wr) (boxT x)
          have hT2 := HT.out.kept hbw (by have := HT.out.bel.size; have := HSB.out; omega)
          have hlens : ∀ k, k < 4 → (A2 k).length ≤ 100000 := hT2.lens HA.out.2.1 (by rw [List.length_append, List.length_take]; have := HML.out; have := HN.out; omega)
          have HLN := Lib.hid hlens
          have HT2 := Lib.hid hT2
          have HBX := Lib.hid (heap_alloc_new wr (boxT x))
          have HC := Lib.hid (place_any b v2 A2 x.1 _ hT2.box hT2.own.at' (fun k hk => by have := hlens k hk; omega))
          have e1 : (wr.alloc (boxT x)).cell? ⟨wr.heap.size, 0, none⟩ = some (.int .u64 (x.1.toNat : Int)) := (box_cells HBX.out).c0
          clear hcs hcx hx hbw hT2 hlens hts
          go_wp2_with fail
          clear d0 d1 d2 d3 d4 d5 d6 d7 e1
          refine HC.out.mono ?_
          rintro e w4 ⟨o, rfl, ho, hb4⟩
          have HO := Lib.hid ho
          have HT4 := Lib.hid (HT2.out.kept hb4 (by have := HT2.out.bel.size; have := HSB.out; omega))
          have HBX4 := Lib.hid (blk_kept hb4 HBX.out)
          have hbx4 := HBX4.out
          clear HC ho hb4 HT2 HBX
          cases o with
          | some p =>
            obtain ⟨pk, pj⟩ := p
            have HV := Lib.hid (do_add_stop (L := L) (m := (v.log, v.seq, v.nxt)) (d := (ts, ds, nm)) HM.out (HA.out.there HJL.out (HA.out.found HJL.out (by rw [← HX.out]; exact HO.out))))
            dsimp only [placeV]
            clear hbx4
            go_wp2_with fail
            go_ret
            exact ⟨ret_int HV.out.symm, HT4.out.bel, fun h => by rw [HV.out] at h; cases h⟩
          | none =>
            have hso := HA.out.sought HJL.out (by rw [← HX.out]; exact HO.out)
            rw [← HX.out] at hso
            have HSO := Lib.hid hso
            obtain ⟨r, hr⟩ : ∃ r, r = hasN (ts.take j) (tN x) := ⟨_, rfl⟩
            have HC2 := Lib.hid (contains_do _ (ts.take j) x wr.heap.size w4 (elems_take (HED.out w4 HT4.out.bel).add (by show 0 < ts.length; omega) j hj) (by rw [List.length_take]; have := HN.out; omega) hbx4)
            rw [← hr] at HC2 hso
            have HR := Lib.hid hr
            have q0 : w4.cell? ⟨w.heap.size, 0, none⟩ = some (.slice (some ⟨tb, toff, none⟩) ts.length tc) := by rw [blk_cell HT4.out.edt]; rfl
            dsimp only [placeV]
            clear hso hr hbx4
            go_wp2_with fail
            refine HC2.out.mono ?_
            rintro e w5 ⟨rfl, hb5⟩
            have HT5 := Lib.hid (HT4.out.kept hb5 (by have := HT4.out.bel.size; have := HSB.out; omega))
            have HBX5 := Lib.hid (blk_kept hb5 HBX4.out)
            clear HC2 hb5 HBX4 HT4 q0
            cases r
            · have HNO := Lib.hid (show hasN (M ++ ts.take j) (tN (ts[j]'hjl)) = false from by rw [← HX.out, HSO.out, ← HR.out])
              by_cases hlo : x.2.1 < 0
              · have HAN := Lib.hid (HA.out.next_out HJL.out HNO.out (.inl (by rw [← HX.out]; exact hlo)))
                have g1 : w5.cell? ⟨wr.heap.size, 1, none⟩ = some (.int .i64 x.2.1) := (box_cells HBX5.out).c1
                go_wp2_with fail
                go_roundw
                case rel => exact ⟨j + 1, A2, v2, true, hjl, by first | rfl | (congr 1), rfl, HAN, HT5⟩
                case measure => simp [intOf]; omega
              · by_cases hhi : 4 ≤ x.2.1
                · have HAN := Lib.hid (HA.out.next_out HJL.out HNO.out (.inr (by rw [← HX.out]; exact hhi)))
                  have g1 : w5.cell? ⟨wr.heap.size, 1, none⟩ = some (.int .i64 x.2.1) := (box_cells HBX5.out).c1
                  go_wp2_with fail
                  go_roundw
                  case rel => exact ⟨j + 1, A2, v2, true, hjl, by first | rfl | (congr 1), rfl, HAN, HT5⟩
                  case measure => simp [intOf]; omega
                · obtain ⟨xn, xv, xr⟩ := x
                  obtain ⟨k, hkv⟩ : ∃ k : Nat, xv = (k : Int) := ⟨xv.toNat, by dsimp only at hlo; omega⟩
                  subst hkv
                  have hk : k < 4 := by dsimp only at hhi; omega
                  have HK := Lib.hid hk
                  have hcb := box_cells HBX5.out
                  have g0 := hcb.c0
                  have g1 := hcb.c1
                  have g2 := hcb.c2
                  have g3 := hcb.c3
                  have g4 := hcb.c4
                  have g5 := hcb.c5
                  have g6 := hcb.c6
                  have g7 := hcb.c7
                  dsimp only at g0 g1 g2 g3 g4 g5 g6 g7
                  clear hlo hhi hcb
                  have HAN := Lib.hid fun y => HA.out.next_in HJL.out HNO.out HK.out (by rw [← HX.out]) y
                  obtain ⟨xo, xc, hlv⟩ := owns_slice1 (HT5.out.own.own k hk)
                  have HLV := Lib.hid hlv
                  have c1 : w5.cell? ⟨b, k, none⟩ = some (.slice xo (A2 k).length xc) := by rw [← hlv]; exact boxV_lev HT5.out.box hk
                  have f1 : w5.frozen? ⟨b, k, none⟩ = false := boxV_free HT5.out.box k
                  have k1 : (k : Int) < 4 := by omega
                  have k2 : ¬ (4 : Int) ≤ (k : Int) := by omega
                  have k3 : ¬ (k : Int) < 0 := by omega
                  have k0 : (0 : Int) ≤ (k : Int) := by omega
                  have HT6 := Lib.hid (HT5.out.kept ((below_of_alloc (w := w5) (boxT (xn, (k : Int), xr))).drew) (by have := HT5.out.bel.size; have := HSB.out; omega))
                  have HOW := Lib.hid (show ((w5.alloc (boxT (xn, (k : Int), xr))).drew).ownsRow base TE 8 (.slice xo (A2 k).length xc) (A2 k).length ((A2 k).flatMap encC) from by rw [← HLV.out]; exact HT6.out.own.own k HK.out)
                  have HB6 := Lib.hid (show ((w5.alloc (boxT (xn, (k : Int), xr))).drew).heap[wr.heap.size]? = some (boxT (xn, (k : Int), xr)) from blk_alloc HBX5.out _)
                  have HBW := Lib.hid (fun W6 (hg : ((w5.alloc (boxT (xn, (k : Int), xr))).drew).grownBy W6 (v2.lev k).ownBlock) => (hg.block wr.heap.size (blk_lt HB6.out) (fun e => by have := ((HT.out.own.own k HK.out).lt _ e.symm).2; omega)).trans HB6.out)
                  have ca : (w5.alloc (boxT (xn, (k : Int), xr))).cell? ⟨b, k, none⟩ = some (.slice xo (A2 k).length xc) := by rw [← hlv]; exact boxV_lev (blk_alloc HT5.out.box _) hk
                  have ga : (w5.alloc (boxT (xn, (k : Int), xr))).cell? ⟨wr.heap.size, 1, none⟩ = some (.int .i64 (k : Int)) := (box_cells (blk_alloc HBX5.out _)).c1
                  clear hlv
                  go_upto_region 18 with fail
                  refine wp_then_intro ?_
                  intro KK HKK
                  go_cut [] (fun W => ∃ y : Value, Hid (DoSt w base b w.heap.size ⟨.slice (some ⟨tb, toff, none⟩) ts.length tc, .slice dao ds.length dc, el, eq, en⟩ (v2.set k y) (upd A2 k (A2 k ++ [(xn, (k : Int), xr)])) W))
                  case first =>
                    clear HKK
                    focus
                      go_region_law (refine step_appT rfl (.tmp 91) (.tmp 93) rfl (t := (xn, (k : Int), xr)) (by simp [Act.eval, Act.put]) (by simp [Act.eval, Act.put]) (show ((w5.alloc (boxT (xn, (k : Int), xr))).drew).heap[w5.heap.size]? = some (boxT (xn, (k : Int), xr)) from heap_alloc_new _ _) HOW.out (by have := HLN.out k HK.out; omega) (Nat.le_trans HSB.out HT6.out.bel.size) ?_; intro v6 W6 ho6 hg6 hw6; obtain ⟨xo6, xc6, hx6⟩ := owns_slice1 ho6; subst hx6; have HO6 := Lib.hid ho6; have HG6 := Lib.hid hg6; have HW6 := Lib.hid hw6; have hm6 := HT6.out.mid HK.out (W' := W6) (by rw [HLV.out]; exact hg6); have c6 : W6.cell? ⟨b, k, none⟩ = some (.slice xo (A2 k).length xc) := (by rw [← HLV.out]; exact boxV_lev hm6 HK.out); have f6 : W6.frozen? ⟨b, k, none⟩ = false := boxV_free hm6 k; have g6 : W6.cell? ⟨wr.heap.size, 1, none⟩ = some (.int .i64 (k : Int)) := (box_cells (HBW.out W6 (by rw [HLV.out]; exact hg6))).c1; clear ho6 hg6 hw6 hm6)
                      all_goals (go_wp2_with fail; go_meet; exact ⟨_, Lib.hid (HT6.out.put HK.out (by rw [HLV.out]; exact HG6.out) (by have h := HO6.out; simp only [List.length_append, List.length_cons, List.length_nil, Nat.zero_add] at h ⊢; exact h) (by rw [HLV.out]; have h := HW6.out; simp only [List.length_append, List.length_cons, List.length_nil, Nat.zero_add] at h ⊢; exact h) (Nat.le_trans HSB.out HT6.out.bel.size) HBB.out)⟩)
                  case rest =>
                    rename World => w7
                    obtain ⟨y, HT7⟩ := hcut
                    refine HKK _ _ ?_
                    go_wp2_with fail
                    go_roundw
                    case rel => exact ⟨j + 1, _, v2.set k y, out, hjl, by first | rfl | (congr 1), rfl, HAN.out y, by rw [← HX.out]; exact HT7⟩
                    case measure => simp [intOf]; omega
            · have HV := Lib.hid (do_add_stop (L := L) (m := (v.log, v.seq, v.nxt)) (d := (ts, ds, nm)) HM.out (HA.out.there HJL.out (by rw [← HX.out, HSO.out, ← HR.out])))
              go_wp2_with fail
              go_ret
              exact ⟨ret_int HV.out.symm, HT5.out.bel, fun h => by rw [HV.out] at h; cases h⟩
        · have hjt : j = ts.length := by omega
          subst hjt
          have i2 : ¬ (ts.length : Int) < (ts.length : Int) := by omega
          have HUL := Lib.hid HT
          clear HT
          go_wp2_with fail
          go_loopw [99] (fun vi W => ∃ (q : Nat), q ≤ 4 ∧ vi = .int .i64 (q : Int) ∧ Hid (DoSt w base b w.heap.size ⟨.slice tao ts.length tc, .slice dao ds.length dc, el, eq, en⟩ v2 (sortUpto A2 q) W)) (fun vi _ => 4 - (intOf vi).toNat)
          case atStart => exact ⟨0, by omega, rfl, HUL⟩
          case round =>
            obtain ⟨q, hq, rfl, HQ⟩ := hrel
            clear HUL
            by_cases hq4 : q < 4
            · have HQ4 := Lib.hid hq4
              have q1 : (q : Int) < 4 := by omega
              have q0 : (0 : Int) ≤ (q : Int) := by omega
              have q4 : IntKind.i64.wrap ((q : Int) + 1) = (q : Int) + 1 := by rw [IntKind.wrap_i64]; omega
              obtain ⟨so, sc, hsv⟩ := owns_slice1 (HQ.out.own.own q hq4)
              rw [sort_len] at hsv
              have HSV := Lib.hid hsv
              have c1 : (wr.alloc (boxI q)).cell? ⟨b, q, none⟩ = some (.slice so (A2 q).length sc) := by rw [← hsv]; exact boxV_lev (blk_alloc HQ.out.box _) hq4
              have c2 : (wr.alloc (boxI q)).cell? ⟨wr.heap.size, 0, none⟩ = some (.int .i64 (q : Int)) := by rw [blk_cell (heap_alloc_new _ _)]; rfl
              have HQ5 := Lib.hid (HQ.out.kept ((below_of_alloc (w := wr) (boxI q)).drew) (by have := HQ.out.bel.size; have := HSB.out; omega))
              have HCS := Lib.hid (sort_stable (C := ⟨wr.heap.size, q⟩) (base := base) (.slice so (A2 q).length sc) (sortUpto A2 q q) ((wr.alloc (boxI q)).drew) (heap_alloc_new _ _) (fun p hp e => by
                have := ((HQ.out.own.own q HQ4.out).lt p (by rw [HSV.out]; exact hp)).2
                dsimp only at e
                omega) (by rw [← HSV.out]; exact HQ5.out.own.own q HQ4.out) (by rw [sort_len]; have := lvs_lens HA.out.2.1 (N := 100000) (by rw [List.length_append, List.take_length]; have := HML.out; have := HN.out; omega) q HQ4.out; omega))
              clear hsv
              go_wp2_with fail
              go_region_with (go_at_call 45; refine HCS.out.mono ?_; rintro e w8 ⟨rfl, ho8, hg8⟩; have HO8 := Lib.hid ho8; have HG8 := Lib.hid hg8; clear ho8 hg8)
              all_goals go_wp2_with fail
              all_goals go_roundw
              all_goals first
                | exact ⟨q + 1, hq4, by first | rfl | (congr 1), Lib.hid (by rw [← sort_next]; exact HQ5.out.turned HQ4.out (by rw [HSV.out]; exact HG8.out) (by rw [HSV.out]; exact HO8.out) (Nat.le_trans HSB.out HQ5.out.bel.size))⟩
                | (simp [intOf]; omega)
            · have hq4' : q = 4 := by omega
              subst hq4'
              have q1 : ¬ (4 : Int) < 4 := by omega
              have hD := HQ.out.levels (sort_four A2)
              have HD := Lib.hid hD
              have HNM := Lib.hid HA.out.2.2.2.2
              have b4 : wr.cell? ⟨b, 4, none⟩ = some (.int .u64 (v2.log.toNat : Int)) := by rw [blk_cell hD.box]; rfl
              have b5 : wr.cell? ⟨b, 5, none⟩ = some (.int .u64 (v2.seq.toNat : Int)) := by rw [blk_cell hD.box]; rfl
              have b6 : wr.cell? ⟨b, 6, none⟩ = some (.int .u64 (v2.nxt.toNat : Int)) := by rw [blk_cell hD.box]; rfl
              have f2 : wr.cell? ⟨w.heap.size, 2, none⟩ = some (.int .u64 (el.toNat : Int)) := by rw [blk_cell hD.edt]; rfl
              have f3 : wr.cell? ⟨w.heap.size, 3, none⟩ = some (.int .u64 (eq.toNat : Int)) := by rw [blk_cell hD.edt]; rfl
              have f4 : wr.cell? ⟨w.heap.size, 4, none⟩ = some (.int .u64 (en.toNat : Int)) := by rw [blk_cell hD.edt]; rfl
              have fz : ∀ j, wr.frozen? ⟨b, j, none⟩ = false := fun j => boxV_free hD.box j
              have hne : ¬ w.heap.size = b := hD.ne
              have hne2 : ¬ b = w.heap.size := fun e => hD.ne e.symm
              have m1 := mx_int v2.log el
              have m2 := mx_int v2.seq eq
              have m3 := mx_int v2.nxt en
              clear hD HQ
              go_upto_region 25 with fail
              go_cut [] from 115 to 142 (fun W => Hid (DoSt w base b w.heap.size ⟨.slice tao ts.length tc, .slice dao ds.length dc, el, eq, en⟩ (v2.nums (mx v2.log el) (mx v2.seq eq) (mx v2.nxt en)) (fun k => sortL (bef k) (A2 k)) W))
              case first =>
                as_aux_lemma =>
                  have HP8 := Lib.hid (HD.out.numsSet (W' := put3 wr b (mx v2.log el) (mx v2.seq eq) (mx v2.nxt en)) HBB.out (l := mx v2.log el) (s := mx v2.seq eq) (n := mx v2.nxt en) (box_put3 HD.out.box _ _ _) (grown_put3 _ _ _ _ _) (Nat.le_trans HSB.out HD.out.bel.size))
                  go_region
                  go_wp2_with fail
                  go_meet
                  exact Lib.hid (HP8.out.kept ((Below.refl _ _).drew) (Nat.le_trans HSB.out HP8.out.bel.size))
              case rest =>
                rename World => w9
                have HW := hcut
                have HADD := Lib.hid (show addL M ts = some (M ++ ts) from by have := HA.out.1; rwa [List.take_length] at this)
                have HLV := Lib.hid (show Lvs A2 (M ++ ts) from by have := HA.out.2.1; rwa [List.take_length] at this)
                have HOI := Lib.hid (show out = false ↔ Inside ts from by have := HA.out.2.2.2.1; rwa [List.take_length] at this)
                have HIM := Lib.hid HA.out.2.2.1
                have HMN := Lib.hid (show mxN (v.log, v.seq, v.nxt) nm = (mx v2.log el, mx v2.seq eq, mx v2.nxt en) from by
                  have h1 : nm = (el, eq, en) := (HED.out w9 HW.out.bel).nums
                  rw [h1, HNM.out.1, HNM.out.2.1, HNM.out.2.2]; rfl)
                have HDD := Lib.hid (do_done (m := (v.log, v.seq, v.nxt)) (nm := nm) HM.out HADD.out HLV.out)
                clear hcut HA
                cases out
                · obtain ⟨v5, hv5⟩ : ∃ v5, v5 = v2.nums (mx v2.log el) (mx v2.seq eq) (mx v2.nxt en) := ⟨_, rfl⟩
                  have hn1 : v5.log = mx v2.log el := by rw [hv5]; rfl
                  have hn2 : v5.seq = mx v2.seq eq := by rw [hv5]; rfl
                  have hn3 : v5.nxt = mx v2.nxt en := by rw [hv5]; rfl
                  rw [← hv5] at HW
                  have HN5 := Lib.hid (And.intro hn1 (And.intro hn2 hn3))
                  have hq := HW.out
                  obtain ⟨a0, c0, e0⟩ := owns_slice1 (hq.own.own 0 (by omega))
                  obtain ⟨a1, c1, e1⟩ := owns_slice1 (hq.own.own 1 (by omega))
                  obtain ⟨a2, c2, e2⟩ := owns_slice1 (hq.own.own 2 (by omega))
                  obtain ⟨a3, c3, e3⟩ := owns_slice1 (hq.own.own 3 (by omega))
                  rw [sortL_length (bef_weak 0)] at e0
                  rw [sortL_length (bef_weak 1)] at e1
                  rw [sortL_length (bef_weak 2)] at e2
                  rw [sortL_length (bef_weak 3)] at e3
                  have d0 : w9.cell? ⟨b, 0, none⟩ = some (.slice a0 (A2 0).length c0) := by rw [← e0]; exact boxV_lev hq.box (by omega)
                  have d1 : w9.cell? ⟨b, 1, none⟩ = some (.slice a1 (A2 1).length c1) := by rw [← e1]; exact boxV_lev hq.box (by omega)
                  have d2 : w9.cell? ⟨b, 2, none⟩ = some (.slice a2 (A2 2).length c2) := by rw [← e2]; exact boxV_lev hq.box (by omega)
                  have d3 : w9.cell? ⟨b, 3, none⟩ = some (.slice a3 (A2 3).length c3) := by rw [← e3]; exact boxV_lev hq.box (by omega)
                  have d4 : w9.cell? ⟨b, 4, none⟩ = some (.int .u64 (v5.log.toNat : Int)) := by rw [blk_cell hq.box]; rfl
                  have d5 : w9.cell? ⟨b, 5, none⟩ = some (.int .u64 (v5.seq.toNat : Int)) := by rw [blk_cell hq.box]; rfl
                  have d6 : w9.cell? ⟨b, 6, none⟩ = some (.int .u64 (v5.nxt.toNat : Int)) := by rw [blk_cell hq.box]; rfl
                  have hev : encV v5 = .agg #[.slice a0 (A2 0).length c0, .slice a1 (A2 1).length c1, .slice a2 (A2 2).length c2, .slice a3 (A2 3).length c3, .int .u64 (v5.log.toNat : Int), .int .u64 (v5.seq.toNat : Int), .int .u64 (v5.nxt.toNat : Int)] := by
                    rw [← e0, ← e1, ← e2, ← e3]; rfl
                  have HC := Lib.hid (verRight_any v5 _ w9 hq.own.at' (by
                    have := lvs_tabs (sort_lvs HLV.out) (N := 100000) (by rw [List.length_append]; have := HML.out; have := HN.out; omega)
                    omega))
                  rw [hev] at HC
                  clear hq hev e0 e1 e2 e3 hn1 hn2 hn3 hv5 b4 b5 b6 HNM HD fz m1 m2 m3 hne hne2
                  go_wp2_with fail
                  refine HC.out.mono ?_
                  rintro e w10 ⟨rb, rfl, hrb, hb10⟩
                  have HRB := Lib.hid hrb
                  have HW10 := Lib.hid (HW.out.kept hb10 (by have := HW.out.bel.size; have := HSB.out; omega))
                  have HIN := Lib.hid (show Inside (M ++ ts) from fun x hx => by
                    rcases List.mem_append.1 hx with h | h
                    · exact HIM.out x h
                    · exact HOI.out.1 (by first | rfl | trivial) x h)
                  clear hrb hb10 HC d0 d1 d2 d3 d4 d5 d6
                  cases rb
                  · have HV := Lib.hid (HDD.out.2 (fun h => by
                      have h2 := h.2
                      rw [HMN.out, ← HN5.out.1, ← HN5.out.2.1, ← HN5.out.2.2] at h2
                      have := HRB.out.2 h2
                      cases this))
                    go_wp2_with fail
                    go_ret
                    exact ⟨ret_int HV.out.symm, HW10.out.bel, fun h => by rw [HV.out] at h; cases h⟩
                  · have HV := Lib.hid (HDD.out.1 ⟨HIN.out, by rw [HMN.out, ← HN5.out.1, ← HN5.out.2.1, ← HN5.out.2.2]; exact HRB.out.1 rfl⟩)
                    go_wp2_with fail
                    go_ret
                    exact ⟨ret_int (by rw [HV.out.1]), HW10.out.bel, fun _ => ⟨v5, _, HW10.out.box, HW10.out.own, HW10.out.far, by rw [HV.out.1, HMN.out, ← HN5.out.1, ← HN5.out.2.1, ← HN5.out.2.2], by rw [HV.out.1]; exact HV.out.2⟩⟩
                · have HV := Lib.hid (HDD.out.2 (fun h => by
                    have := HOI.out.2 fun x hx => h.1 x (List.mem_append_right _ hx)
                    cases this))
                  clear b4 b5 b6 HNM HD fz m1 m2 m3 hne hne2
                  go_wp2_with fail
                  go_ret
                  exact ⟨ret_int HV.out.symm, HW.out.bel, fun h => by rw [HV.out] at h; cases h⟩

end Go.Proofs.Tryd.Vr
