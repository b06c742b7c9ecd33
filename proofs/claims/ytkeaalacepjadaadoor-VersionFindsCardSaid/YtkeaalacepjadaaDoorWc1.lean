/- The walk of VersionFinds. -/
import Derived.Test.YtkeaalacepjadaaDoorWb2
import Derived.Test.YtkeaalacepjadaaDoorVL
import Derived.Test.YtkeaalacepjadaaDoorVv2
import Derived.Test.YtkeaalacepjadaaDoorVu7
import Derived.Deep.RegionWith
set_option linter.unusedVariables false
set_option linter.unusedSimpArgs false
set_option maxRecDepth 100000
namespace Go.Proofs.Tryd.Vr
open Go.RowKit Go.Cph Go.Cph.Skip Go.Cph.So Go.Cph.Ve
open Go.Proofs.Tryd.Sq (row_kept1 grown_below grown_set encU encU_len TU TUs infoU)

/-- The world of VersionFinds: the program's version in the box bv, the document's behind it. -/
structure FdSt (w : World) (bv : Nat) (y : Vn) (B : Nat → List Tb) (lv : Value) (n : Nm) (M : List Tb) (W : World) : Prop where
  box : W.heap[bv]? = some (boxV y)
  dox : W.heap[bv + 1]? = some (boxD ⟨lv, n.1, n.2.1, n.2.2⟩)
  own : VerOwn W (bv + 2) y B
  far : FarT W lv M bv (bv + 2)
  bel : Below w.heap.size w W
  le : w.heap.size ≤ bv
section
variable {w W W' : World} {bv : Nat} {y y' : Vn} {B B' : Nat → List Tb} {lv : Value} {n : Nm} {M : List Tb}
theorem FdSt.kept (h : FdSt w bv y B lv n M W) (hb : Below W.heap.size W W') : FdSt w bv y B lv n M W' :=
  ⟨blk_kept hb h.box, blk_kept hb h.dox, h.own.kept hb, h.far.kept hb, below_step h.bel hb h.bel.size, h.le⟩
theorem FdSt.turn (h : FdSt w bv y B lv n M W) (ho : VerOwn W (bv + 2) y' B') : FdSt w bv y' B' lv n M (put7 W bv y') := by
  have hle := h.le
  refine ⟨box_put7 h.box rfl y', ?_, ho.keep (w' := put7 W bv y') (some bv) (grown_put7 _ _ _) fun k hk p hp e => ?_, ?_, below_put7 h.bel hle y', hle⟩
  · rw [(grown_put7 W bv y').block _ (blk_lt h.dox) (by intro e; injection e with e; omega)]
    exact h.dox
  · have := ((ho.own k hk).lt p hp).1
    have e2 : bv = p := by injection e
    omega
  · exact h.far.move fun k hk hn => (grown_put7 W bv y').block k hk (by intro e; injection e with e; omega)
theorem FdSt.dturn (h : FdSt w bv y B lv n M W) {u : Dn} {N : List Tb} (hf : FarT W u.l N bv (bv + 2)) : FdSt w bv y B u.l (u.log, u.seq, u.nxt) N (putD W (bv + 1) u) := by
  have hle := h.le
  have g : W.grownBy (putD W (bv + 1) u) (some (bv + 1)) := (((grown_set W (bv + 1) 0 _).trans (grown_set _ (bv + 1) 1 _)).trans (grown_set _ (bv + 1) 2 _)).trans (grown_set _ (bv + 1) 3 _)
  refine ⟨?_, box_putD h.dox rfl u, h.own.keep (w' := putD W (bv + 1) u) (some (bv + 1)) g fun k hk p hp e => ?_, far_putD hf (by omega) (by omega) u, below_putD h.bel (by omega) u, hle⟩
  · rw [g.block _ (blk_lt h.box) (by intro e; injection e with e; omega)]
    exact h.box
  · have := ((h.own.own k hk).lt p hp).1
    have e2 : bv + 1 = p := by injection e
    omega
end
def FdInv (ds : List Ed) (i : Nat) (M : List Tb) (v : Vn) (A : Nat → List Tb) : Prop :=
  Rel A M (v.log, v.seq, v.nxt) ∧ M.length + sumA (ds.drop i) ≤ 600 ∧ SmallL M
theorem FdInv.next_in {ds : List Ed} {i : Nat} {M : List Tb} {u v' : Vn} {A A' : Nat → List Tb} {r : Int × List Tb × Nm} (h : FdInv ds i M u A) (hi : i < ds.length) (hs : SmallL ds[i].1) (hr : r = doD M (u.log, u.seq, u.nxt) ds[i]) (hn : (v'.log, v'.seq, v'.nxt) = r.2.2) (hR : Rel A' r.2.1 r.2.2) :
    FdInv ds (i + 1) r.2.1 v' A' := by
  refine ⟨by rw [hn]; exact hR, ?_, by rw [hr]; exact doD_small h.2.2 hs⟩
  have h1 := doD_len M (u.log, u.seq, u.nxt) ds[i]
  rw [← hr] at h1
  have h2 := sum_drop hi
  have h3 := h.2.1
  omega
theorem FdInv.next_out {ds : List Ed} {i : Nat} {M : List Tb} {u : Vn} {A : Nat → List Tb} (h : FdInv ds i M u A) (hi : i < ds.length) : FdInv ds (i + 1) M u A := by
  refine ⟨h.1, ?_, h.2.2⟩
  have h2 := sum_drop hi
  have h3 := h.2.1
  omega
theorem sum_le {ds : List Ed} {n : Nat} (h : ∀ d ∈ ds, d.1.length ≤ n) : sumA ds ≤ n * ds.length := by
  unfold sumA
  induction ds with
  | nil => simp
  | cons d ds ih =>
    have h1 := h d (by simp)
    have h2 := ih fun d hd => h d (by simp [hd])
    simp only [List.map_cons, List.sum_cons, List.length_cons]
    rw [Nat.mul_succ]
    omega
theorem eds_cell {W : World} {b off c : Nat} {x : Es} {d : Ed} (hc : ∀ j, j < 5 → W.cell? ⟨b, off + j, none⟩ = (encEc x)[j]?) (h : EdAt W x d) : EdsAt W (.slice (some ⟨b, off, none⟩) 1 c) [x] [d] := by
  refine ⟨rfl, ⟨⟨some ⟨b, off, none⟩, c, rfl, fun _ => ⟨b, off, rfl, fun j hj => ?_⟩⟩, rfl⟩, fun i hi hk => ?_⟩
  · have : j < 5 := hj
    rw [hc j this]
    simp
  · have : i = 0 := by simpa using hi
    subst this
    exact h
theorem strs_two {w : World} (a b : ByteArray) : StrsAt (w.alloc (.cells #[.string a, .string b] (9) (0, 0))) (.slice (some ⟨w.heap.size, 0, none⟩) 2 2) [a, b] := by
  refine ⟨_, _, rfl, fun _ => ⟨w.heap.size, 0, rfl, fun j hj => ?_⟩⟩
  have hj2 : j < 2 := hj
  rcases (show j = 0 ∨ j = 1 by omega) with rfl | rfl
  · rw [blk_cell (heap_alloc_new _ _)]; rfl
  · rw [blk_cell (heap_alloc_new _ _)]; rfl
abbrev nDn : Dn := ⟨.slice none 0 0, 0, 0, 1⟩
theorem encD_new : encD nDn = .agg #[.slice none 0 0, .int .u64 0, .int .u64 0, .int .u64 1] := rfl
def plL (A : Nat → List Tb) : Nat := match levK A with
  | none => 0
  | some k => k
def plI (A : Nat → List Tb) : List Tb := match levK A with
  | none => []
  | some k => inK A k
def plB (A : Nat → List Tb) : List Tb := match levK A with
  | none => []
  | some k => belowK A k
def plT (A : Nat → List Tb) : Bool := match levK A with
  | none => false
  | some k => botK A k
theorem pl_same {A B : Nat → List Tb} (h : ∀ k, k < 4 → A k = B k) : levK A = levK B ∧ plL A = plL B ∧ plI A = plI B ∧ plB A = plB B ∧ plT A = plT B := by
  obtain ⟨h1, h2⟩ := plan_same h
  refine ⟨h1, ?_⟩
  unfold plL plI plB plT
  rw [← h1]
  cases hk : levK A with
  | none => exact ⟨rfl, rfl, rfl, rfl⟩
  | some k =>
    obtain ⟨h3, h4, h5⟩ := h2 k (levK_lt hk).1
    exact ⟨rfl, h3, h4, h5⟩
def PlanU (A : Nat → List Tb) (p : Pn) (ok : Bool) (lo : Nat) (W : World) : Prop := ok = (levK A).isSome ∧ p.lev = plL A ∧ p.bot = plT A ∧ Rw W lo W.heap.size p.inn (plI A) ∧ Rw W lo W.heap.size p.bel (plB A)
theorem plan_u {A : Nat → List Tb} {p : Pn} {ok : Bool} {lo : Nat} {W : World} (h1 : ∀ k, levK A = some k → ok = true ∧ p.lev = k ∧ p.bot = botK A k ∧ Rw W lo W.heap.size p.inn (inK A k) ∧ Rw W lo W.heap.size p.bel (belowK A k)) (h2 : levK A = none → ok = false ∧ p = zPn) : PlanU A p ok lo W := by
  unfold PlanU plL plI plB plT
  cases hk : levK A with
  | none =>
    obtain ⟨rfl, rfl⟩ := h2 hk
    exact ⟨rfl, rfl, rfl, Rw.nil _ _ _, Rw.nil _ _ _⟩
  | some k =>
    obtain ⟨rfl, h3, h4, h5, h6⟩ := h1 k hk
    exact ⟨rfl, h3, h4, h5, h6⟩
theorem plI_le {A : Nat → List Tb} {N : Nat} (h : ∀ k, k < 4 → (A k).length ≤ N) : (plI A).length ≤ N ∧ (plB A).length ≤ N := by
  unfold plI plB
  cases hk : levK A with
  | none => exact ⟨Nat.zero_le _, Nat.zero_le _⟩
  | some k =>
    have h3 := (levK_lt hk).1
    refine ⟨?_, Nat.le_trans (over_le _ _ _) (h (k + 1) (by omega))⟩
    show (inK A k).length ≤ N
    unfold inK
    split
    · exact h 0 (by omega)
    · rw [List.length_take]; have := h k (by omega); omega
/-- A row that may be written, cell by cell. -/
structure Wrt (W : World) (lo hi : Nat) (v : Value) (n : Nat) : Prop where
  shp : ∃ ao c, v = .slice ao n c ∧ (0 < n → ∃ b off, ao = some ⟨b, off, none⟩ ∧ lo ≤ b ∧ b ≠ hi ∧ (∀ j, j < n * 8 → ∃ u, W.cell? ⟨b, off + j, none⟩ = some u) ∧ ∀ j, W.frozen? ⟨b, j, none⟩ = false)
theorem Wrt.of {W : World} {lo hi : Nat} {v : Value} {l : List Tb} (h : Rw W lo hi v l) : Wrt W lo hi v l.length := by
  obtain ⟨⟨ao, c, hv, hc⟩, hl⟩ := h.at'
  refine ⟨ao, c, hv, fun h0 => ?_⟩
  obtain ⟨b, off, ha, hcs⟩ := hc (by omega)
  subst ha
  obtain ⟨h1, h2, h3, h4⟩ := h.blk b off _ _ hv h0
  refine ⟨b, off, rfl, h1, h2, fun j hj => ?_, h4⟩
  rw [hcs j hj]
  exact ⟨_, List.getElem?_eq_getElem (by rw [hl]; exact hj)⟩
theorem Wrt.set {W : World} {lo hi : Nat} {v : Value} {n : Nat} (h : Wrt W lo hi v n) (a : Addr) (x : Value) : Wrt (W.setCell a x) lo hi v n := by
  obtain ⟨ao, c, hv, hc⟩ := h.shp
  refine ⟨ao, c, hv, fun h0 => ?_⟩
  obtain ⟨b, off, ha, h1, h2, h3, h4⟩ := hc h0
  refine ⟨b, off, ha, h1, h2, fun j hj => ?_, fun j => by rw [World.frozen?_setCell]; exact h4 j⟩
  obtain ⟨u, hu⟩ := h3 j hj
  by_cases e : a = ⟨b, off + j, none⟩
  · subst e
    exact ⟨_, World.cell?_setCell_same _ _ _ hu⟩
  · exact ⟨u, by rw [World.cell?_setCell_other _ _ _ _ e]; exact hu⟩
theorem Wrt.kept {W W' : World} {lo hi : Nat} {v : Value} {n : Nat} (h : Wrt W lo hi v n) (hb : Below W.heap.size W W') : Wrt W' lo hi v n := by
  obtain ⟨ao, c, hv, hc⟩ := h.shp
  refine ⟨ao, c, hv, fun h0 => ?_⟩
  obtain ⟨b, off, ha, h1, h2, h3, h4⟩ := hc h0
  refine ⟨b, off, ha, h1, h2, fun j hj => ?_, fun j => ?_⟩
  · obtain ⟨u, hu⟩ := h3 j hj
    exact ⟨u, cell_kept hb hu⟩
  · rcases Nat.eq_zero_or_pos n with h5 | h5
    · omega
    · obtain ⟨u, hu⟩ := h3 0 (by omega)
      rw [hb.frozen (p := ⟨b, j, none⟩) (show b < W.heap.size from World.block_lt_of_cell? _ _ hu)]; exact h4 j
/-- What meets a range on any level, the document's and the program's. -/
theorem over_both {A : Nat → List Tb} {L : List Tb} {m : Nm} (h : Rel A L m) (v : Vn) (z : Int) (f g : ByteArray) (W : World) (hv : VerAt W v A) (hn : ∀ k, k < 4 → (A k).length ≤ 1000000) :
    Calls Tryd.prog 15 #[encV v, .int .i64 z, .string f, .string g] W (NewRow W (overL (levelZ L z) f g)) := by
  by_cases hz : 0 ≤ z ∧ z < 4
  · obtain ⟨k, rfl⟩ : ∃ k : Nat, z = (k : Int) := ⟨z.toNat, by omega⟩
    have hk : k < 4 := by omega
    rw [levelZ_D, ← h.level k hk]
    exact over_any k v A f g W hv hk (hn k hk)
  · rw [levelZ_out h.inside (by omega)]
    exact over_out z v f g W (by omega)

set_option maxHeartbeats 16000000 in
theorem finds_any (es : List Es) (ds : List Ed) (ao : Option Addr) (cap : Nat) (lev : Int) (ka kb : ByteArray) (w : World) (hl : LimAt w) (hcap : ds.length ≤ cap) (hE : EdsAt w (.slice ao ds.length cap) es ds) :
    Calls Tryd.prog 3 #[.slice ao ds.length cap, .int .i64 lev, .string ka, .string kb] w (fun e w' => e = .returned (.bool true) ∧ Below w.heap.size w w') := by
  have HE := Lib.hid hE
  have HLM := Lib.hid hl
  have HCAP := Lib.hid hcap
  have HB1 := Lib.hid (below_of_alloc (w := w) (.cells #[.string ka, .string kb] (9) (0, 0)))
  have HC := Lib.hid (great_any (.slice ao ds.length cap) (.slice (some ⟨w.heap.size, 0, none⟩) 2 2) es ds [ka, kb] (w.alloc (.cells #[.string ka, .string kb] (9) (0, 0))) (HE.out.kept HB1.out) (strs_two ka kb) (by simp))
  clear hE hl hcap
  go_enter Tryd.func3, Tryd.ntmps3
  go_wp2_with fail
  refine HC.out.mono ?_
  rintro e w1 ⟨b, rfl, hb, rfl⟩
  have HG := Lib.hid hb
  clear HC hb
  cases b
  · obtain ⟨hl, hok, hks⟩ := HG.out rfl
    have HS6 := Lib.hid (show sumA ds ≤ 600 from by
      have := sum_le (n := 30) (ds := ds) fun d hd => (hok d hd).1
      omega)
    have HLE := Lib.hid hl
    have HOK := Lib.hid hok
    have HSM := Lib.hid (show ∀ d ∈ ds, SmallL d.1 from fun d hd t ht => by
      have h1 := (hok d hd).2.2 t ht
      exact ⟨Nat.le_trans h1.1 (by decide), Nat.le_trans h1.2 (by decide)⟩)
    have HTK := Lib.hid (show TextOK ka ∧ TextOK kb from ⟨Nat.le_trans (hks ka (by simp)) (by decide), Nat.le_trans (hks kb (by simp)) (by decide)⟩)
    clear hl hok hks HG
    go_wp2_with fail
    refine (new_any _).mono ?_
    rintro e w2 ⟨rfl, hb2⟩
    have HB2 := Lib.hid (below_step HB1.out hb2 HB1.out.size)
    have HST := Lib.hid (show FdSt w w2.heap.size nVn (fun _ => []) (.slice none 0 0) (0, 0, 1) [] ((w2.alloc (boxV nVn)).alloc (boxD nDn)) from
      ⟨blk_alloc (heap_alloc_new _ _) _, alloc2_new _ _ _, own_newV _ _, ⟨Seg.nil _ 8, fun h => absurd h (by simp)⟩, (HB2.out.alloc HB2.out.size _).alloc (by rw [World.size_alloc]; exact Nat.le_succ_of_le HB2.out.size) _, HB2.out.size⟩)
    have HIN := Lib.hid (show FdInv ds 0 [] nVn (fun _ => []) from ⟨rel_new, by simpa using HS6.out, fun t ht => by cases ht⟩)
    clear hb2
    rw [encV_new]
    go_wp2_with fail
    go_loopw [11] (fun vi W => ∃ (i : Nat) (M : List Tb) (u : Vn) (A : Nat → List Tb) (lv : Value), i ≤ ds.length ∧ vi = .int .i64 (i : Int) ∧ Hid (FdInv ds i M u A) ∧ Hid (FdSt w w2.heap.size u A lv (u.log, u.seq, u.nxt) M W)) (fun vi _ => ds.length - (intOf vi).toNat)
    case atStart => exact ⟨0, [], nVn, fun _ => [], _, Nat.zero_le _, rfl, HIN, HST⟩
    case round =>
      obtain ⟨i, M, u, A, lv, hi, rfl, HI, HT⟩ := hrel
      clear HIN HST
      obtain ⟨mo, mc, hmv⟩ := elems_slice HT.out.far.1
      subst hmv
      have hq := HT.out
      obtain ⟨x0, x1, x2, x3, ul, us, un⟩ := u
      obtain ⟨ua0, uc0, e0⟩ := owns_slice1 (hq.own.own 0 (by omega))
      obtain ⟨ua1, uc1, e1⟩ := owns_slice1 (hq.own.own 1 (by omega))
      obtain ⟨ua2, uc2, e2⟩ := owns_slice1 (hq.own.own 2 (by omega))
      obtain ⟨ua3, uc3, e3⟩ := owns_slice1 (hq.own.own 3 (by omega))
      dsimp only [Vn.lev] at e0 e1 e2 e3
      subst e0 e1 e2 e3
      have hbx := hq.box
      have c0 : wr.cell? ⟨w2.heap.size, 0, none⟩ = some (.slice ua0 (A 0).length uc0) := (blk_cell hbx 0).trans rfl
      have c1 : wr.cell? ⟨w2.heap.size, 1, none⟩ = some (.slice ua1 (A 1).length uc1) := (blk_cell hbx 1).trans rfl
      have c2 : wr.cell? ⟨w2.heap.size, 2, none⟩ = some (.slice ua2 (A 2).length uc2) := (blk_cell hbx 2).trans rfl
      have c3 : wr.cell? ⟨w2.heap.size, 3, none⟩ = some (.slice ua3 (A 3).length uc3) := (blk_cell hbx 3).trans rfl
      have c4 : wr.cell? ⟨w2.heap.size, 4, none⟩ = some (.int .u64 (ul.toNat : Int)) := (blk_cell hbx 4).trans rfl
      have c5 : wr.cell? ⟨w2.heap.size, 5, none⟩ = some (.int .u64 (us.toNat : Int)) := (blk_cell hbx 5).trans rfl
      have c6 : wr.cell? ⟨w2.heap.size, 6, none⟩ = some (.int .u64 (un.toNat : Int)) := (blk_cell hbx 6).trans rfl
      by_cases hlt : i < ds.length
      · have hrow := HE.out.row
        obtain ⟨eb, eoff, ecap, hve, hcs⟩ := elems_shape encEc_len hrow (by rw [HE.out.len]; omega)
        injection hve with hx1 hx2 hx3
        subst hx1
        have hle : i < es.length := by rw [HE.out.len]; omega
        have hcx := hcs i hle
        obtain ⟨x, hx⟩ : ∃ x, x = es[i] := ⟨_, rfl⟩
        have hat := HE.out.at' i hle hlt
        rw [← hx] at hcx hat
        obtain ⟨ea, edr, el, eq, en⟩ := x
        obtain ⟨tao, tc, hta⟩ := elems_slice hat.add
        obtain ⟨dao, dc, hda⟩ := elems_slice hat.drop
        dsimp only at hta hda
        subst hta hda
        have HLT := Lib.hid hlt
        obtain ⟨e, he⟩ : ∃ d, d = ds[i]'HLT.out := ⟨_, rfl⟩
        have HDE := Lib.hid he
        rw [← he] at hat hcx
        have w0c : w.cell? ⟨eb, eoff + i * 5, none⟩ = some (.slice tao e.1.length tc) := hcx 0 (by omega)
        have b0 : wr.cell? ⟨eb, eoff + i * 5, none⟩ = some (.slice tao e.1.length tc) := cell_kept HT.out.bel w0c
        have b1 : wr.cell? ⟨eb, eoff + i * 5 + 1, none⟩ = some (.slice dao e.2.1.length dc) := cell_kept HT.out.bel (hcx 1 (by omega))
        have b2 : wr.cell? ⟨eb, eoff + i * 5 + 2, none⟩ = some (.int .u64 (el.toNat : Int)) := cell_kept HT.out.bel (hcx 2 (by omega))
        have b3 : wr.cell? ⟨eb, eoff + i * 5 + 3, none⟩ = some (.int .u64 (eq.toNat : Int)) := cell_kept HT.out.bel (hcx 3 (by omega))
        have b4 : wr.cell? ⟨eb, eoff + i * 5 + 4, none⟩ = some (.int .u64 (en.toNat : Int)) := cell_kept HT.out.bel (hcx 4 (by omega))
        have HONE := Lib.hid (show ∀ W c, Below w.heap.size w W → EdsAt W (.slice (some ⟨eb, eoff + i * 5, none⟩) 1 c) [⟨.slice tao e.1.length tc, .slice dao e.2.1.length dc, el, eq, en⟩] [e] from fun W c hb => by
          refine eds_cell (fun j hj => ?_) (hat.kept hb)
          rw [← hcx j hj]
          refine hb.cell ?_
          have := World.block_lt_of_cell? _ _ w0c
          exact this)
        have j1 : (0 : Int) ≤ (i : Int) := by omega
        have j2 : (i : Int) < (ds.length : Int) := by omega
        have j4 : IntKind.i64.wrap ((i : Int) + 1) = (i : Int) + 1 := by have := HLE.out; rw [IntKind.wrap_i64]; omega
        have HOKE := Lib.hid (show OkE e from HOK.out e (by rw [he]; exact List.getElem_mem _))
        have HSME := Lib.hid (show SmallL e.1 from HSM.out e (by rw [he]; exact List.getElem_mem _))
        obtain ⟨r, hr⟩ : ∃ r, r = doD M (ul, us, un) e := ⟨_, rfl⟩
        have HR := Lib.hid hr
        have HAP := Lib.hid (show ∀ (W : World) (g : Nat), Below wr.heap.size wr W → W.heap[g]? = some (boxE ⟨.slice tao e.1.length tc, .slice dao e.2.1.length dc, el, eq, en⟩) → Calls Tryd.prog 9 #[encV (⟨.slice ua0 (A 0).length uc0, .slice ua1 (A 1).length uc1, .slice ua2 (A 2).length uc2, .slice ua3 (A 3).length uc3, ul, us, un⟩ : Vn), .slice (some ⟨g, 0, none⟩) 1 1] W (ApplyPost r W) from fun W g hb hg =>
          apply_any _ A M _ [⟨.slice tao e.1.length tc, .slice dao e.2.1.length dc, el, eq, en⟩] [e] r W (VerOwn.at' (hq.own.kept hb)) (by
            have := lvs_tabs HI.out.1.lvs (N := 600) (by have := HI.out.2.1; omega)
            omega) (eds_one hg (hat.kept (below_step HT.out.bel hb HT.out.bel.size))) (fun _ => ⟨HI.out.1, hr⟩) (fun h => absurd HI.out.1.rv h) (by
            have h1 := HI.out.2.1
            have h2 := HOKE.out.1
            have h3 : sumA [e] = e.1.length := by simp [sumA]
            omega) (fun d hd => by
            rw [List.mem_singleton] at hd
            have := HOKE.out.2.1
            rw [hd]; omega) (by simp))
        have q1 : eb < wr.heap.size := World.block_lt_of_cell? _ _ b0
        have q2 : w2.heap.size + 1 < wr.heap.size := blk_lt hq.dox
        obtain ⟨z, hz⟩ : ∃ z, z = r.1 := ⟨_, rfl⟩
        unfold ApplyPost at HAP
        rw [← hz] at HAP
        have HZ := Lib.hid hz
        have HQ2 := Lib.hid q2
        have HCL := Lib.hid (show ∀ W, Below wr.heap.size wr W → W.cell? ⟨w2.heap.size, 0, none⟩ = some (.slice ua0 (A 0).length uc0) ∧ W.cell? ⟨w2.heap.size, 1, none⟩ = some (.slice ua1 (A 1).length uc1) ∧ W.cell? ⟨w2.heap.size, 2, none⟩ = some (.slice ua2 (A 2).length uc2) ∧ W.cell? ⟨w2.heap.size, 3, none⟩ = some (.slice ua3 (A 3).length uc3) ∧ W.cell? ⟨w2.heap.size, 4, none⟩ = some (.int .u64 (ul.toNat : Int)) ∧ W.cell? ⟨w2.heap.size, 5, none⟩ = some (.int .u64 (us.toNat : Int)) ∧ W.cell? ⟨w2.heap.size, 6, none⟩ = some (.int .u64 (un.toNat : Int)) ∧ W.cell? ⟨eb, eoff + i * 5, none⟩ = some (.slice tao e.1.length tc) ∧ W.cell? ⟨eb, eoff + i * 5 + 1, none⟩ = some (.slice dao e.2.1.length dc) ∧ W.cell? ⟨eb, eoff + i * 5 + 2, none⟩ = some (.int .u64 (el.toNat : Int)) ∧ W.cell? ⟨eb, eoff + i * 5 + 3, none⟩ = some (.int .u64 (eq.toNat : Int)) ∧ W.cell? ⟨eb, eoff + i * 5 + 4, none⟩ = some (.int .u64 (en.toNat : Int)) from fun W hb => ⟨cell_kept hb c0, cell_kept hb c1, cell_kept hb c2, cell_kept hb c3, cell_kept hb c4, cell_kept hb c5, cell_kept hb c6, cell_kept hb b0, cell_kept hb b1, cell_kept hb b2, cell_kept hb b3, cell_kept hb b4⟩)
        clear hrow hx2 hx3 hcs hcx hx hat he hr hz hq hbx hlt w0c
        go_upto_region 8 with fail
        go_cut [12, 13] (fun vb vz W => ∃ (bx : Nat) (v' : Vn) (A' : Nat → List Tb), vb = .pointer (some ⟨bx, 0, none⟩) ∧ vz = .int .i64 z ∧ Hid (W.heap[bx]? = some (boxV v')) ∧ Hid (VerOwn W (w2.heap.size + 2) v' A') ∧ Hid ((v'.log, v'.seq, v'.nxt) = r.2.2 ∧ (z = 0 → Rel A' r.2.1 r.2.2)) ∧ Hid (FdSt w w2.heap.size (⟨.slice ua0 (A 0).length uc0, .slice ua1 (A 1).length uc1, .slice ua2 (A 2).length uc2, .slice ua3 (A 3).length uc3, ul, us, un⟩ : Vn) A (.slice mo M.length mc) (ul, us, un) M W) ∧ Hid (Below wr.heap.size wr W))
        case first =>
          go_region_held3 (fun W => W.cell? ⟨w2.heap.size, 0, none⟩ = some (.slice ua0 (A 0).length uc0) ∧ W.cell? ⟨w2.heap.size, 1, none⟩ = some (.slice ua1 (A 1).length uc1) ∧ W.cell? ⟨w2.heap.size, 2, none⟩ = some (.slice ua2 (A 2).length uc2) ∧ W.cell? ⟨w2.heap.size, 3, none⟩ = some (.slice ua3 (A 3).length uc3) ∧ W.cell? ⟨w2.heap.size, 4, none⟩ = some (.int .u64 (ul.toNat : Int)) ∧ W.cell? ⟨w2.heap.size, 5, none⟩ = some (.int .u64 (us.toNat : Int)) ∧ W.cell? ⟨w2.heap.size, 6, none⟩ = some (.int .u64 (un.toNat : Int)) ∧ W.cell? ⟨eb, eoff + i * 5, none⟩ = some (.slice tao e.1.length tc) ∧ W.cell? ⟨eb, eoff + i * 5 + 1, none⟩ = some (.slice dao e.2.1.length dc) ∧ W.cell? ⟨eb, eoff + i * 5 + 2, none⟩ = some (.int .u64 (el.toNat : Int)) ∧ W.cell? ⟨eb, eoff + i * 5 + 3, none⟩ = some (.int .u64 (eq.toNat : Int)) ∧ W.cell? ⟨eb, eoff + i * 5 + 4, none⟩ = some (.int .u64 (en.toNat : Int)))
            (go_keep)
            (first
              | (go_at_call 9; ((with_reducible show Calls _ _ _ ((World.alloc wr (.cells _ TEd _)).drew) _); refine (HAP.out (wr.alloc (boxE ⟨.slice tao e.1.length tc, .slice dao e.2.1.length dc, el, eq, en⟩)).drew _ (below_of_alloc (w := wr) (boxE ⟨.slice tao e.1.length tc, .slice dao e.2.1.length dc, el, eq, en⟩)).drew (heap_alloc_new wr (boxE ⟨.slice tao e.1.length tc, .slice dao e.2.1.length dc, el, eq, en⟩))).mono ?_; rintro e6 w6 ⟨v6, A2, rfl, ho6, hn6, hb6, hok6, -⟩; obtain ⟨x0, x1, x2, x3, pl, ps, pn⟩ := v6; obtain ⟨pa0, pc0, e0⟩ := owns_slice1 (ho6.own 0 (by omega)); obtain ⟨pa1, pc1, e1⟩ := owns_slice1 (ho6.own 1 (by omega)); obtain ⟨pa2, pc2, e2⟩ := owns_slice1 (ho6.own 2 (by omega)); obtain ⟨pa3, pc3, e3⟩ := owns_slice1 (ho6.own 3 (by omega)); dsimp only [Vn.lev] at e0 e1 e2 e3; subst e0 e1 e2 e3; have hw0 : Below wr.heap.size wr (wr.alloc (boxE ⟨.slice tao e.1.length tc, .slice dao e.2.1.length dc, el, eq, en⟩)).drew := (below_of_alloc (w := wr) (boxE ⟨.slice tao e.1.length tc, .slice dao e.2.1.length dc, el, eq, en⟩)).drew; have HB6 := Lib.hid (below_step hw0 hb6 hw0.size); obtain ⟨s0, s1, s2, s3, s4, s5, s6, s7, s8, s9, s10, s11⟩ := HCL.out w6 HB6.out; have HF6 := Lib.hid (And.intro hn6 hok6); have hsz : w2.heap.size + 2 ≤ ((wr.alloc (boxE ⟨.slice tao e.1.length tc, .slice dao e.2.1.length dc, el, eq, en⟩)).drew).heap.size := (by have := HQ2.out; have := hw0.size; omega); have hvo : VerOwn w6 (w2.heap.size + 2) (⟨.slice pa0 (A2 0).length pc0, .slice pa1 (A2 1).length pc1, .slice pa2 (A2 2).length pc2, .slice pa3 (A2 3).length pc3, pl, ps, pn⟩ : Vn) A2 := ⟨fun k hk => owns_mono (ho6.own k hk) hsz, ho6.dif⟩; have HP := Lib.hid (heap_alloc_new w6 (boxV (⟨.slice pa0 (A2 0).length pc0, .slice pa1 (A2 1).length pc1, .slice pa2 (A2 2).length pc2, .slice pa3 (A2 3).length pc3, pl, ps, pn⟩ : Vn))); have HQ := Lib.hid (hvo.kept (below_of_alloc (boxV (⟨.slice pa0 (A2 0).length pc0, .slice pa1 (A2 1).length pc1, .slice pa2 (A2 2).length pc2, .slice pa3 (A2 3).length pc3, pl, ps, pn⟩ : Vn)))); have HM := Lib.hid (HT.out.kept (HB6.out.alloc HB6.out.size (boxV (⟨.slice pa0 (A2 0).length pc0, .slice pa1 (A2 1).length pc1, .slice pa2 (A2 2).length pc2, .slice pa3 (A2 3).length pc3, pl, ps, pn⟩ : Vn)))); have HBM := Lib.hid (HB6.out.alloc HB6.out.size (boxV (⟨.slice pa0 (A2 0).length pc0, .slice pa1 (A2 1).length pc1, .slice pa2 (A2 2).length pc2, .slice pa3 (A2 3).length pc3, pl, ps, pn⟩ : Vn))); clear ho6 hn6 hb6 hok6 hw0 hsz hvo))
              | (go_at_call 9; ((with_reducible show Calls _ _ _ ((World.alloc (World.alloc wr (.cells _ TVn _)) (.cells _ TEd _)).drew) _); refine (HAP.out ((wr.alloc boxZ).alloc (boxE ⟨.slice tao e.1.length tc, .slice dao e.2.1.length dc, el, eq, en⟩)).drew _ (((below_of_alloc (w := wr) boxZ)).alloc (below_of_alloc (w := wr) boxZ).size _).drew (alloc2_new wr boxZ (boxE ⟨.slice tao e.1.length tc, .slice dao e.2.1.length dc, el, eq, en⟩))).mono ?_; rintro e6 w6 ⟨v6, A2, rfl, ho6, hn6, hb6, hok6, -⟩; obtain ⟨x0, x1, x2, x3, pl, ps, pn⟩ := v6; obtain ⟨pa0, pc0, e0⟩ := owns_slice1 (ho6.own 0 (by omega)); obtain ⟨pa1, pc1, e1⟩ := owns_slice1 (ho6.own 1 (by omega)); obtain ⟨pa2, pc2, e2⟩ := owns_slice1 (ho6.own 2 (by omega)); obtain ⟨pa3, pc3, e3⟩ := owns_slice1 (ho6.own 3 (by omega)); dsimp only [Vn.lev] at e0 e1 e2 e3; subst e0 e1 e2 e3; have hw0 : Below wr.heap.size wr ((wr.alloc boxZ).alloc (boxE ⟨.slice tao e.1.length tc, .slice dao e.2.1.length dc, el, eq, en⟩)).drew := (((below_of_alloc (w := wr) boxZ)).alloc (below_of_alloc (w := wr) boxZ).size _).drew; have HB6 := Lib.hid (below_step hw0 hb6 hw0.size); obtain ⟨s0, s1, s2, s3, s4, s5, s6, s7, s8, s9, s10, s11⟩ := HCL.out w6 HB6.out; have HF6 := Lib.hid (And.intro hn6 hok6); have hsz : w2.heap.size + 2 ≤ (((wr.alloc boxZ).alloc (boxE ⟨.slice tao e.1.length tc, .slice dao e.2.1.length dc, el, eq, en⟩)).drew).heap.size := (by have := HQ2.out; have := hw0.size; omega); have hvo : VerOwn w6 (w2.heap.size + 2) (⟨.slice pa0 (A2 0).length pc0, .slice pa1 (A2 1).length pc1, .slice pa2 (A2 2).length pc2, .slice pa3 (A2 3).length pc3, pl, ps, pn⟩ : Vn) A2 := ⟨fun k hk => owns_mono (ho6.own k hk) hsz, ho6.dif⟩; have n1 : ¬ wr.heap.size = eb := (by omega); have n2 : ¬ eb = wr.heap.size := (by omega); have n3 : ¬ wr.heap.size = w2.heap.size := (by omega); have n4 : ¬ w2.heap.size = wr.heap.size := (by omega); have hx6 : w6.heap[wr.heap.size]? = some boxZ := blk_kept hb6 (blk_alloc (heap_alloc_new wr boxZ) _); have z0 : w6.cell? ⟨wr.heap.size, 0, none⟩ = some (.slice none 0 0) := (blk_cell hx6 0).trans rfl; have z1 : w6.cell? ⟨wr.heap.size, 1, none⟩ = some (.slice none 0 0) := (blk_cell hx6 1).trans rfl; have z2 : w6.cell? ⟨wr.heap.size, 2, none⟩ = some (.slice none 0 0) := (blk_cell hx6 2).trans rfl; have z3 : w6.cell? ⟨wr.heap.size, 3, none⟩ = some (.slice none 0 0) := (blk_cell hx6 3).trans rfl; have z4 : w6.cell? ⟨wr.heap.size, 4, none⟩ = some (.int .u64 0) := (blk_cell hx6 4).trans rfl; have z5 : w6.cell? ⟨wr.heap.size, 5, none⟩ = some (.int .u64 0) := (blk_cell hx6 5).trans rfl; have z6 : w6.cell? ⟨wr.heap.size, 6, none⟩ = some (.int .u64 0) := (blk_cell hx6 6).trans rfl; have fz : ∀ j, w6.frozen? ⟨wr.heap.size, j, none⟩ = false := (fun j => by rw [blk_frozen hx6]; simp); have HP := Lib.hid (box_put7 hx6 rfl (⟨.slice pa0 (A2 0).length pc0, .slice pa1 (A2 1).length pc1, .slice pa2 (A2 2).length pc2, .slice pa3 (A2 3).length pc3, pl, ps, pn⟩ : Vn)); have HQ := Lib.hid (hvo.keep (w' := put7 w6 (wr.heap.size) (⟨.slice pa0 (A2 0).length pc0, .slice pa1 (A2 1).length pc1, .slice pa2 (A2 2).length pc2, .slice pa3 (A2 3).length pc3, pl, ps, pn⟩ : Vn)) (some (wr.heap.size)) (grown_put7 _ _ _) fun k hk p hp ee => (by have := ((ho6.own k hk).lt p hp).1; have e2 : wr.heap.size = p := (by injection ee); have hxl : wr.heap.size < (((wr.alloc boxZ).alloc (boxE ⟨.slice tao e.1.length tc, .slice dao e.2.1.length dc, el, eq, en⟩)).drew).heap.size := blk_lt ((blk_alloc (heap_alloc_new wr boxZ) _)); omega)); have HM := Lib.hid (HT.out.kept (below_put7 HB6.out (b := wr.heap.size) (by omega) (⟨.slice pa0 (A2 0).length pc0, .slice pa1 (A2 1).length pc1, .slice pa2 (A2 2).length pc2, .slice pa3 (A2 3).length pc3, pl, ps, pn⟩ : Vn))); have HBM := Lib.hid (below_put7 HB6.out (b := wr.heap.size) (by omega) (⟨.slice pa0 (A2 0).length pc0, .slice pa1 (A2 1).length pc1, .slice pa2 (A2 2).length pc2, .slice pa3 (A2 3).length pc3, pl, ps, pn⟩ : Vn)); clear ho6 hn6 hb6 hok6 hw0 hsz hvo hx6))
              | (go_at_call 9; ((with_reducible show Calls _ _ _ ((World.alloc (World.alloc wr (.cells _ TEd _)) (.cells _ TVn _)).drew) _); refine (HAP.out ((wr.alloc (boxE ⟨.slice tao e.1.length tc, .slice dao e.2.1.length dc, el, eq, en⟩)).alloc boxZ).drew _ (((below_of_alloc (w := wr) (boxE ⟨.slice tao e.1.length tc, .slice dao e.2.1.length dc, el, eq, en⟩))).alloc (below_of_alloc (w := wr) (boxE ⟨.slice tao e.1.length tc, .slice dao e.2.1.length dc, el, eq, en⟩)).size _).drew (blk_alloc (heap_alloc_new wr (boxE ⟨.slice tao e.1.length tc, .slice dao e.2.1.length dc, el, eq, en⟩)) _)).mono ?_; rintro e6 w6 ⟨v6, A2, rfl, ho6, hn6, hb6, hok6, -⟩; obtain ⟨x0, x1, x2, x3, pl, ps, pn⟩ := v6; obtain ⟨pa0, pc0, e0⟩ := owns_slice1 (ho6.own 0 (by omega)); obtain ⟨pa1, pc1, e1⟩ := owns_slice1 (ho6.own 1 (by omega)); obtain ⟨pa2, pc2, e2⟩ := owns_slice1 (ho6.own 2 (by omega)); obtain ⟨pa3, pc3, e3⟩ := owns_slice1 (ho6.own 3 (by omega)); dsimp only [Vn.lev] at e0 e1 e2 e3; subst e0 e1 e2 e3; have hw0 : Below wr.heap.size wr ((wr.alloc (boxE ⟨.slice tao e.1.length tc, .slice dao e.2.1.length dc, el, eq, en⟩)).alloc boxZ).drew := (((below_of_alloc (w := wr) (boxE ⟨.slice tao e.1.length tc, .slice dao e.2.1.length dc, el, eq, en⟩))).alloc (below_of_alloc (w := wr) (boxE ⟨.slice tao e.1.length tc, .slice dao e.2.1.length dc, el, eq, en⟩)).size _).drew; have HB6 := Lib.hid (below_step hw0 hb6 hw0.size); obtain ⟨s0, s1, s2, s3, s4, s5, s6, s7, s8, s9, s10, s11⟩ := HCL.out w6 HB6.out; have HF6 := Lib.hid (And.intro hn6 hok6); have hsz : w2.heap.size + 2 ≤ (((wr.alloc (boxE ⟨.slice tao e.1.length tc, .slice dao e.2.1.length dc, el, eq, en⟩)).alloc boxZ).drew).heap.size := (by have := HQ2.out; have := hw0.size; omega); have hvo : VerOwn w6 (w2.heap.size + 2) (⟨.slice pa0 (A2 0).length pc0, .slice pa1 (A2 1).length pc1, .slice pa2 (A2 2).length pc2, .slice pa3 (A2 3).length pc3, pl, ps, pn⟩ : Vn) A2 := ⟨fun k hk => owns_mono (ho6.own k hk) hsz, ho6.dif⟩; have n1 : ¬ wr.heap.size + 1 = eb := (by omega); have n2 : ¬ eb = wr.heap.size + 1 := (by omega); have n3 : ¬ wr.heap.size + 1 = w2.heap.size := (by omega); have n4 : ¬ w2.heap.size = wr.heap.size + 1 := (by omega); have hx6 : w6.heap[wr.heap.size + 1]? = some boxZ := blk_kept hb6 (alloc2_new wr (boxE ⟨.slice tao e.1.length tc, .slice dao e.2.1.length dc, el, eq, en⟩) boxZ); have z0 : w6.cell? ⟨wr.heap.size + 1, 0, none⟩ = some (.slice none 0 0) := (blk_cell hx6 0).trans rfl; have z1 : w6.cell? ⟨wr.heap.size + 1, 1, none⟩ = some (.slice none 0 0) := (blk_cell hx6 1).trans rfl; have z2 : w6.cell? ⟨wr.heap.size + 1, 2, none⟩ = some (.slice none 0 0) := (blk_cell hx6 2).trans rfl; have z3 : w6.cell? ⟨wr.heap.size + 1, 3, none⟩ = some (.slice none 0 0) := (blk_cell hx6 3).trans rfl; have z4 : w6.cell? ⟨wr.heap.size + 1, 4, none⟩ = some (.int .u64 0) := (blk_cell hx6 4).trans rfl; have z5 : w6.cell? ⟨wr.heap.size + 1, 5, none⟩ = some (.int .u64 0) := (blk_cell hx6 5).trans rfl; have z6 : w6.cell? ⟨wr.heap.size + 1, 6, none⟩ = some (.int .u64 0) := (blk_cell hx6 6).trans rfl; have fz : ∀ j, w6.frozen? ⟨wr.heap.size + 1, j, none⟩ = false := (fun j => by rw [blk_frozen hx6]; simp); have HP := Lib.hid (box_put7 hx6 rfl (⟨.slice pa0 (A2 0).length pc0, .slice pa1 (A2 1).length pc1, .slice pa2 (A2 2).length pc2, .slice pa3 (A2 3).length pc3, pl, ps, pn⟩ : Vn)); have HQ := Lib.hid (hvo.keep (w' := put7 w6 (wr.heap.size + 1) (⟨.slice pa0 (A2 0).length pc0, .slice pa1 (A2 1).length pc1, .slice pa2 (A2 2).length pc2, .slice pa3 (A2 3).length pc3, pl, ps, pn⟩ : Vn)) (some (wr.heap.size + 1)) (grown_put7 _ _ _) fun k hk p hp ee => (by have := ((ho6.own k hk).lt p hp).1; have e2 : wr.heap.size + 1 = p := (by injection ee); have hxl : wr.heap.size + 1 < (((wr.alloc (boxE ⟨.slice tao e.1.length tc, .slice dao e.2.1.length dc, el, eq, en⟩)).alloc boxZ).drew).heap.size := blk_lt ((alloc2_new wr (boxE ⟨.slice tao e.1.length tc, .slice dao e.2.1.length dc, el, eq, en⟩) boxZ)); omega)); have HM := Lib.hid (HT.out.kept (below_put7 HB6.out (b := wr.heap.size + 1) (by omega) (⟨.slice pa0 (A2 0).length pc0, .slice pa1 (A2 1).length pc1, .slice pa2 (A2 2).length pc2, .slice pa3 (A2 3).length pc3, pl, ps, pn⟩ : Vn))); have HBM := Lib.hid (below_put7 HB6.out (b := wr.heap.size + 1) (by omega) (⟨.slice pa0 (A2 0).length pc0, .slice pa1 (A2 1).length pc1, .slice pa2 (A2 2).length pc2, .slice pa3 (A2 3).length pc3, pl, ps, pn⟩ : Vn)); clear ho6 hn6 hb6 hok6 hw0 hsz hvo hx6)))
          all_goals (go_wp2_with fail; go_meet; exact ⟨_, (⟨.slice pa0 (A2 0).length pc0, .slice pa1 (A2 1).length pc1, .slice pa2 (A2 2).length pc2, .slice pa3 (A2 3).length pc3, pl, ps, pn⟩ : Vn), A2, rfl, rfl, HP, HQ, HF6, HM, HBM⟩)
        case rest =>
          rename World => w7
          obtain ⟨bx, v5, A2, rfl, rfl, HX7, HO7, HF7, HM7, HB7⟩ := hcut
          clear HAP c0 c1 c2 c3 c4 c5 c6 b0 b1 b2 b3 b4
          by_cases hz0 : z = 0
          · have hzb : (z == 0) = true := by rw [hz0]; rfl
            have HZ0 := Lib.hid hz0
            obtain ⟨x0, x1, x2, x3, pl, ps, pn⟩ := v5
            obtain ⟨pa0, pc0, e0⟩ := owns_slice1 (HO7.out.own 0 (by omega))
            obtain ⟨pa1, pc1, e1⟩ := owns_slice1 (HO7.out.own 1 (by omega))
            obtain ⟨pa2, pc2, e2⟩ := owns_slice1 (HO7.out.own 2 (by omega))
            obtain ⟨pa3, pc3, e3⟩ := owns_slice1 (HO7.out.own 3 (by omega))
            dsimp only [Vn.lev] at e0 e1 e2 e3
            subst e0 e1 e2 e3
            have hx7 := HX7.out
            have hm7 := HM7.out.box
            have d0 : w7.cell? ⟨bx, 0, none⟩ = some (.slice pa0 (A2 0).length pc0) := (blk_cell hx7 0).trans rfl
            have d1 : w7.cell? ⟨bx, 1, none⟩ = some (.slice pa1 (A2 1).length pc1) := (blk_cell hx7 1).trans rfl
            have d2 : w7.cell? ⟨bx, 2, none⟩ = some (.slice pa2 (A2 2).length pc2) := (blk_cell hx7 2).trans rfl
            have d3 : w7.cell? ⟨bx, 3, none⟩ = some (.slice pa3 (A2 3).length pc3) := (blk_cell hx7 3).trans rfl
            have d4 : w7.cell? ⟨bx, 4, none⟩ = some (.int .u64 (pl.toNat : Int)) := (blk_cell hx7 4).trans rfl
            have d5 : w7.cell? ⟨bx, 5, none⟩ = some (.int .u64 (ps.toNat : Int)) := (blk_cell hx7 5).trans rfl
            have d6 : w7.cell? ⟨bx, 6, none⟩ = some (.int .u64 (pn.toNat : Int)) := (blk_cell hx7 6).trans rfl
            have c0 : w7.cell? ⟨w2.heap.size, 0, none⟩ = some (.slice ua0 (A 0).length uc0) := (blk_cell hm7 0).trans rfl
            have c1 : w7.cell? ⟨w2.heap.size, 1, none⟩ = some (.slice ua1 (A 1).length uc1) := (blk_cell hm7 1).trans rfl
            have c2 : w7.cell? ⟨w2.heap.size, 2, none⟩ = some (.slice ua2 (A 2).length uc2) := (blk_cell hm7 2).trans rfl
            have c3 : w7.cell? ⟨w2.heap.size, 3, none⟩ = some (.slice ua3 (A 3).length uc3) := (blk_cell hm7 3).trans rfl
            have c4 : w7.cell? ⟨w2.heap.size, 4, none⟩ = some (.int .u64 (ul.toNat : Int)) := (blk_cell hm7 4).trans rfl
            have c5 : w7.cell? ⟨w2.heap.size, 5, none⟩ = some (.int .u64 (us.toNat : Int)) := (blk_cell hm7 5).trans rfl
            have c6 : w7.cell? ⟨w2.heap.size, 6, none⟩ = some (.int .u64 (un.toNat : Int)) := (blk_cell hm7 6).trans rfl
            have fz : ∀ j, w7.frozen? ⟨w2.heap.size, j, none⟩ = false := fun j => by rw [blk_frozen hm7]; simp
            have HT8 := Lib.hid (HM7.out.turn HO7.out)
            clear hx7 hm7 hz0
            go_upto_region 11 with fail
            refine (show ∀ W, W = put7 w7 w2.heap.size (⟨.slice pa0 (A2 0).length pc0, .slice pa1 (A2 1).length pc1, .slice pa2 (A2 2).length pc2, .slice pa3 (A2 3).length pc3, pl, ps, pn⟩ : Vn) → Code.wp _ _ _ _ W from ?_) _ rfl
            intro w8 hw8
            rw [← hw8] at HT8
            clear hw8 c0 c1 c2 c3 c4 c5 c6 d0 d1 d2 d3 d4 d5 d6 fz hzb
            have hdx := HT8.out.dox
            have c0 : w8.cell? ⟨w2.heap.size + 1, 0, none⟩ = some (.slice mo M.length mc) := (blk_cell hdx 0).trans rfl
            have c1 : w8.cell? ⟨w2.heap.size + 1, 1, none⟩ = some (.int .u64 (ul.toNat : Int)) := (blk_cell hdx 1).trans rfl
            have c2 : w8.cell? ⟨w2.heap.size + 1, 2, none⟩ = some (.int .u64 (us.toNat : Int)) := (blk_cell hdx 2).trans rfl
            have c3 : w8.cell? ⟨w2.heap.size + 1, 3, none⟩ = some (.int .u64 (un.toNat : Int)) := (blk_cell hdx 3).trans rfl
            have k1 : (i : Int) + 1 ≤ (cap : Int) := by have := HCAP.out; have := HLT.out; omega
            have k2 : ¬ cap = i := by have := HCAP.out; have := HLT.out; omega
            have k3 : (i : Int) ≤ (i : Int) + 1 := by omega
            have HB8 := Lib.hid HT8.out.bel
            have HQ8 := Lib.hid (blk_lt HT8.out.dox)
            have HGV := Lib.hid (show ∀ W, Below w8.heap.size w8 W → Calls Tryd.prog 11 #[.slice (some ⟨eb, eoff + i * 5, none⟩) 1 (cap - i)] W (fun e9 w' => ∃ v', e9 = .returned v' ∧ EdsAt w' v' [⟨.slice tao e.1.length tc, .slice dao e.2.1.length dc, el, eq, en⟩] [e] ∧ Below W.heap.size W w') from fun W hb =>
              given_any _ _ _ W (HONE.out W _ (below_step HB8.out hb HB8.out.size)) (by simp))
            have HDA := Lib.hid (show ∀ (W : World) (vg : Value), Below w8.heap.size w8 W → EdsAt W vg [⟨.slice tao e.1.length tc, .slice dao e.2.1.length dc, el, eq, en⟩] [e] → Calls Tryd.prog 10 #[.agg #[.slice mo M.length mc, .int .u64 (ul.toNat : Int), .int .u64 (us.toNat : Int), .int .u64 (un.toNat : Int)], vg] W (DDoPost (fun v N => SepT v N w2.heap.size (w2.heap.size + 2)) r W) from fun W vg hb hg => by
              have h1 := dapply_any (fun v N => SepT v N w2.heap.size (w2.heap.size + 2)) ⟨.slice mo M.length mc, ul, us, un⟩ vg [⟨.slice tao e.1.length tc, .slice dao e.2.1.length dc, el, eq, en⟩] M [e] W (HT8.out.far.1.kept hb) hg HI.out.2.2 (fun d hd => by rw [List.mem_singleton] at hd; rw [hd]; exact HSME.out) (by
                have h1 := HI.out.2.1
                have h2 := HOKE.out.1
                have h3 : sumA [e] = e.1.length := by simp [sumA]
                omega) (fun d hd => by
                rw [List.mem_singleton] at hd
                have := HOKE.out.2.1
                rw [hd]; omega) (by simp) HT8.out.far.2 (sep_nil _ _) (fun v N W2 ho => sep_new ho (by have := HQ8.out; have := hb.size; omega))
              have h2 : applyD M (ul, us, un) [e] = r := by
                unfold applyD
                rw [if_pos (rightDB_iff.2 HI.out.1.rd), edits_one, HR.out]
              rw [h2] at h1
              exact h1)
            unfold DDoPost at HDA
            rw [← HZ.out] at HDA
            have HCD := Lib.hid (show ∀ W, Below w8.heap.size w8 W → W.cell? ⟨w2.heap.size + 1, 0, none⟩ = some (.slice mo M.length mc) ∧ W.cell? ⟨w2.heap.size + 1, 1, none⟩ = some (.int .u64 (ul.toNat : Int)) ∧ W.cell? ⟨w2.heap.size + 1, 2, none⟩ = some (.int .u64 (us.toNat : Int)) ∧ W.cell? ⟨w2.heap.size + 1, 3, none⟩ = some (.int .u64 (un.toNat : Int)) from fun W hb => ⟨cell_kept hb c0, cell_kept hb c1, cell_kept hb c2, cell_kept hb c3⟩)
            refine wp_then_intro ?_
            intro KK HKK
            go_cut [] (fun W => ∃ lv : Value, Hid (FdSt w w2.heap.size (⟨.slice pa0 (A2 0).length pc0, .slice pa1 (A2 1).length pc1, .slice pa2 (A2 2).length pc2, .slice pa3 (A2 3).length pc3, pl, ps, pn⟩ : Vn) A2 lv r.2.2 r.2.1 W))
            case first =>
              clear HKK
              go_region_with (first
                | (go_at_call 11; refine (HGV.out _ (by first | exact (Below.refl _ _).drew | exact Below.refl _ _)).mono ?_; rintro eG wG ⟨vG, rfl, hG, hbG⟩; have hbG2 : Below w8.heap.size w8 wG := below_step (by first | exact (Below.refl _ _).drew | exact Below.refl _ _) hbG (Nat.le_refl _); have HBG := Lib.hid hbG2; have HEG := Lib.hid hG; obtain ⟨c0, c1, c2, c3⟩ := HCD.out wG hbG2; clear hbG hbG2 hG)
                | (go_at_call 10; refine (HDA.out wG vG HBG.out HEG.out).mono ?_; rintro eA wA ⟨u9, rfl, ht9, hp9, hn9, hbA⟩; obtain ⟨nl, nlog, nseq, nnx⟩ := u9; obtain ⟨no, nc, hnl⟩ := elems_slice ht9; dsimp only at hnl; subst hnl; have hbA2 := below_step HBG.out hbA HBG.out.size; have HBA := Lib.hid hbA2; have HFA := Lib.hid (show FarT wA (.slice no r.2.1.length nc) r.2.1 w2.heap.size (w2.heap.size + 2) from ⟨ht9, hp9⟩); have HNA := Lib.hid (show (nlog, nseq, nnx) = r.2.2 from hn9); obtain ⟨c0, c1, c2, c3⟩ := HCD.out wA hbA2; have fz : ∀ j, wA.frozen? ⟨w2.heap.size + 1, j, none⟩ = false := (fun j => by rw [blk_frozen (blk_kept hbA2 HT8.out.dox)]; simp); clear ht9 hp9 hn9 hbA hbA2))
              all_goals (go_wp2_with fail; go_meet; exact ⟨_, Lib.hid (by rw [← HNA.out]; exact (HT8.out.kept HBA.out).dturn (u := ⟨.slice no r.2.1.length nc, nlog, nseq, nnx⟩) HFA.out)⟩)
            case rest =>
              rename World => w11
              obtain ⟨lv, HT11⟩ := hcut
              refine HKK _ _ ?_
              clear HKK c0 c1 c2 c3 k1 k2 k3
              go_wp2_with fail
              go_roundw
              case rel => exact ⟨i + 1, r.2.1, (⟨.slice pa0 (A2 0).length pc0, .slice pa1 (A2 1).length pc1, .slice pa2 (A2 2).length pc2, .slice pa3 (A2 3).length pc3, pl, ps, pn⟩ : Vn), A2, lv, HLT.out, by first | rfl | (congr 1), Lib.hid (HI.out.next_in HLT.out (by rw [← HDE.out]; exact HSME.out) (by rw [← HDE.out]; exact HR.out) HF7.out.1 (HF7.out.2 HZ0.out)), by rw [show (pl, ps, pn) = r.2.2 from HF7.out.1]; exact HT11⟩
              case measure => simp [intOf]; have := HLT.out; omega
          · have hzb : (z == 0) = false := by simpa using hz0
            clear hz0
            go_wp2_with fail
            go_roundw
            case rel => exact ⟨i + 1, M, (⟨.slice ua0 (A 0).length uc0, .slice ua1 (A 1).length uc1, .slice ua2 (A 2).length uc2, .slice ua3 (A 3).length uc3, ul, us, un⟩ : Vn), A, _, HLT.out, by first | rfl | (congr 1), Lib.hid (HI.out.next_out HLT.out), HM7⟩
            case measure => simp [intOf]; have := HLT.out; omega
      · have hil : i = ds.length := by omega
        subst hil
        have i1 : ¬ (ds.length : Int) < (ds.length : Int) := by omega
        rename World => wl
        have HRL := Lib.hid HI.out.1
        have HMS := Lib.hid HI.out.2.2
        have HML := Lib.hid (show M.length ≤ 600 from by have := HI.out.2.1; omega)
        have HAL := Lib.hid (show ∀ k, k < 4 → (A k).length ≤ 600 from lvs_lens HI.out.1.lvs (by have := HI.out.2.1; omega))
        have HTA := Lib.hid (show (tabs A).length ≤ 1000000 from by have := lvs_tabs HI.out.1.lvs (N := 600) (by have := HI.out.2.1; omega); omega)
        have HSAME := Lib.hid (pl_same (A := levelD M) (B := A) fun k hk => (HI.out.1.level k hk).symm)
        have HPC := Lib.hid (pick_any (⟨.slice ua0 (A 0).length uc0, .slice ua1 (A 1).length uc1, .slice ua2 (A 2).length uc2, .slice ua3 (A 3).length uc3, ul, us, un⟩ : Vn) A wl (HLM.out.kept HT.out.bel) (VerOwn.at' hq.own) HTA.out (fun k hk => Nat.le_trans (HAL.out k hk) (by decide)))
        have HVW := Lib.hid (VerOwn.at' hq.own)
        clear hq hbx hlt hi
        go_wp2_with fail
        refine HPC.out.mono ?_
        rintro e wp ⟨pp, ok, rfl, hbp, hp1, hp2⟩
        obtain ⟨hok, hlv, hbt, hri, hrb⟩ := plan_u hp1 hp2
        obtain ⟨plev, pinn, pbel, pbot⟩ := pp
        dsimp only at hlv hbt hri hrb
        obtain ⟨io, ic, hpi⟩ := elems_slice hri.at'
        obtain ⟨bo, bc, hpb⟩ := elems_slice hrb.at'
        subst hpi hpb
        obtain ⟨il, hil⟩ : ∃ n, n = (plI A).length := ⟨_, rfl⟩
        obtain ⟨bl, hbl⟩ : ∃ n, n = (plB A).length := ⟨_, rfl⟩
        have HILN := Lib.hid hil
        have HBLN := Lib.hid hbl
        rw [← hil] at hri ⊢
        rw [← hbl] at hrb ⊢
        have HIB := Lib.hid (show il ≤ 600 ∧ bl ≤ 600 from by rw [hil, hbl]; exact plI_le HAL.out)
        have HOK1 := Lib.hid hok
        have HLV1 := Lib.hid hlv
        have HBT1 := Lib.hid hbt
        have HRI := Lib.hid hri
        have HRB := Lib.hid hrb
        have HBP := Lib.hid hbp
        have HTP := Lib.hid (HT.out.kept hbp)
        have hdx := HTP.out.dox
        have HTQ := Lib.hid (HTP.out.kept (below_of_alloc (boxPn ⟨plev, .slice io il ic, .slice bo bl bc, pbot⟩)))
        have HBQ := Lib.hid (HBP.out.alloc HBP.out.size (boxPn ⟨plev, .slice io il ic, .slice bo bl bc, pbot⟩))
        have hdx := HTQ.out.dox
        have d0 : (wp.alloc (boxPn ⟨plev, .slice io il ic, .slice bo bl bc, pbot⟩)).cell? ⟨w2.heap.size + 1, 0, none⟩ = some (.slice mo M.length mc) := (blk_cell hdx 0).trans rfl
        have d1 : (wp.alloc (boxPn ⟨plev, .slice io il ic, .slice bo bl bc, pbot⟩)).cell? ⟨w2.heap.size + 1, 1, none⟩ = some (.int .u64 (ul.toNat : Int)) := (blk_cell hdx 1).trans rfl
        have d2 : (wp.alloc (boxPn ⟨plev, .slice io il ic, .slice bo bl bc, pbot⟩)).cell? ⟨w2.heap.size + 1, 2, none⟩ = some (.int .u64 (us.toNat : Int)) := (blk_cell hdx 2).trans rfl
        have d3 : (wp.alloc (boxPn ⟨plev, .slice io il ic, .slice bo bl bc, pbot⟩)).cell? ⟨w2.heap.size + 1, 3, none⟩ = some (.int .u64 (un.toNat : Int)) := (blk_cell hdx 3).trans rfl
        have HDP := Lib.hid (dpick_any ⟨.slice mo M.length mc, ul, us, un⟩ M (wp.alloc (boxPn ⟨plev, .slice io il ic, .slice bo bl bc, pbot⟩)) HTQ.out.far.1 (by have := HML.out; omega) HMS.out)
        clear HPC hp1 hp2 hok hlv hbt hri hrb hil hbl hbp hdx c0 c1 c2 c3 c4 c5 c6 i1
        go_wp2_with fail
        refine HDP.out.mono ?_
        rintro e wq ⟨qq, is2, rfl, hbq, hq1, hq2⟩
        obtain ⟨hok, hlv, hbt, hri, hrb⟩ := plan_u hq1 hq2
        obtain ⟨qlev, qinn, qbel, qbot⟩ := qq
        dsimp only at hlv hbt hri hrb
        obtain ⟨s1, s2, s3, s4, s5⟩ := HSAME.out
        rw [s1, ← HOK1.out] at hok
        rw [s2, ← HLV1.out] at hlv
        rw [s5, ← HBT1.out] at hbt
        rw [s3] at hri
        rw [s4] at hrb
        obtain ⟨jo, jc, hpi⟩ := elems_slice hri.at'
        obtain ⟨ko, kc, hpb⟩ := elems_slice hrb.at'
        have hok := hok.symm
        have hlv := hlv.symm
        have hbt := hbt.symm
        subst hok hlv hbt hpi hpb
        rw [← HILN.out] at hri ⊢
        rw [← HBLN.out] at hrb ⊢
        have HBQ2 := Lib.hid (below_step HBQ.out hbq HBQ.out.size)
        have HW0 := Lib.hid (HBQ2.out.alloc HBQ2.out.size (.cells #[.int .i64 (plev : Int), .slice jo il jc, .slice ko bl kc, .bool pbot] TQn (0, 0)))
        have HXP := Lib.hid (show (wq.alloc (.cells #[.int .i64 (plev : Int), .slice jo il jc, .slice ko bl kc, .bool pbot] TQn (0, 0))).heap[wp.heap.size]? = some (boxPn ⟨plev, .slice io il ic, .slice bo bl bc, pbot⟩) from blk_alloc (blk_kept hbq (heap_alloc_new _ _)) _)
        have HXQ := Lib.hid (heap_alloc_new wq (.cells #[.int .i64 (plev : Int), .slice jo il jc, .slice ko bl kc, .bool pbot] TQn (0, 0)))
        have HRI0 := Lib.hid (((HRI.out.kept (below_of_alloc (boxPn ⟨plev, .slice io il ic, .slice bo bl bc, pbot⟩))).kept hbq).kept (below_of_alloc (.cells #[.int .i64 (plev : Int), .slice jo il jc, .slice ko bl kc, .bool pbot] TQn (0, 0))))
        have HRB0 := Lib.hid (((HRB.out.kept (below_of_alloc (boxPn ⟨plev, .slice io il ic, .slice bo bl bc, pbot⟩))).kept hbq).kept (below_of_alloc (.cells #[.int .i64 (plev : Int), .slice jo il jc, .slice ko bl kc, .bool pbot] TQn (0, 0))))
        have HSM1 := Lib.hid (show ∀ W, Below (wq.alloc (.cells #[.int .i64 (plev : Int), .slice jo il jc, .slice ko bl kc, .bool pbot] TQn (0, 0))).heap.size (wq.alloc (.cells #[.int .i64 (plev : Int), .slice jo il jc, .slice ko bl kc, .bool pbot] TQn (0, 0))) W → Calls Tryd.prog 14 #[.slice io il ic, .slice jo il jc] W (fun e w' => e = .returned (.bool true) ∧ Below W.heap.size W w') from fun W hb => by
          have h1 := same_any (.slice io il ic) (.slice jo il jc) (plI A) (plI A) W (HRI0.out.at'.kept hb) ((hri.at'.kept (below_of_alloc (.cells #[.int .i64 (plev : Int), .slice jo il jc, .slice ko bl kc, .bool pbot] TQn (0, 0)))).kept hb) (by have := HIB.out; have := HILN.out; omega) (by have := HIB.out; have := HILN.out; omega)
          rwa [show decide (plI A = plI A) = true from by simp] at h1)
        have HSM2 := Lib.hid (show ∀ W, Below (wq.alloc (.cells #[.int .i64 (plev : Int), .slice jo il jc, .slice ko bl kc, .bool pbot] TQn (0, 0))).heap.size (wq.alloc (.cells #[.int .i64 (plev : Int), .slice jo il jc, .slice ko bl kc, .bool pbot] TQn (0, 0))) W → Calls Tryd.prog 14 #[.slice bo bl bc, .slice ko bl kc] W (fun e w' => e = .returned (.bool true) ∧ Below W.heap.size W w') from fun W hb => by
          have h1 := same_any (.slice bo bl bc) (.slice ko bl kc) (plB A) (plB A) W (HRB0.out.at'.kept hb) ((hrb.at'.kept (below_of_alloc (.cells #[.int .i64 (plev : Int), .slice jo il jc, .slice ko bl kc, .bool pbot] TQn (0, 0)))).kept hb) (by have := HIB.out; have := HBLN.out; omega) (by have := HIB.out; have := HBLN.out; omega)
          rwa [show decide (plB A = plB A) = true from by simp] at h1)
        have hxp := HXP.out
        have hxq := HXQ.out
        have p0 : (wq.alloc (.cells #[.int .i64 (plev : Int), .slice jo il jc, .slice ko bl kc, .bool pbot] TQn (0, 0))).cell? ⟨wp.heap.size, 0, none⟩ = some (.int .i64 (plev : Int)) := (blk_cell hxp 0).trans rfl
        have p1 : (wq.alloc (.cells #[.int .i64 (plev : Int), .slice jo il jc, .slice ko bl kc, .bool pbot] TQn (0, 0))).cell? ⟨wp.heap.size, 1, none⟩ = some (.slice io il ic) := (blk_cell hxp 1).trans rfl
        have p2 : (wq.alloc (.cells #[.int .i64 (plev : Int), .slice jo il jc, .slice ko bl kc, .bool pbot] TQn (0, 0))).cell? ⟨wp.heap.size, 2, none⟩ = some (.slice bo bl bc) := (blk_cell hxp 2).trans rfl
        have p3 : (wq.alloc (.cells #[.int .i64 (plev : Int), .slice jo il jc, .slice ko bl kc, .bool pbot] TQn (0, 0))).cell? ⟨wp.heap.size, 3, none⟩ = some (.bool pbot) := (blk_cell hxp 3).trans rfl
        have q0 : (wq.alloc (.cells #[.int .i64 (plev : Int), .slice jo il jc, .slice ko bl kc, .bool pbot] TQn (0, 0))).cell? ⟨wq.heap.size, 0, none⟩ = some (.int .i64 (plev : Int)) := (blk_cell hxq 0).trans rfl
        have q1 : (wq.alloc (.cells #[.int .i64 (plev : Int), .slice jo il jc, .slice ko bl kc, .bool pbot] TQn (0, 0))).cell? ⟨wq.heap.size, 1, none⟩ = some (.slice jo il jc) := (blk_cell hxq 1).trans rfl
        have q2 : (wq.alloc (.cells #[.int .i64 (plev : Int), .slice jo il jc, .slice ko bl kc, .bool pbot] TQn (0, 0))).cell? ⟨wq.heap.size, 2, none⟩ = some (.slice ko bl kc) := (blk_cell hxq 2).trans rfl
        have q3 : (wq.alloc (.cells #[.int .i64 (plev : Int), .slice jo il jc, .slice ko bl kc, .bool pbot] TQn (0, 0))).cell? ⟨wq.heap.size, 3, none⟩ = some (.bool pbot) := (blk_cell hxq 3).trans rfl
        have HCPQ := Lib.hid (show ∀ W, Below (wq.alloc (.cells #[.int .i64 (plev : Int), .slice jo il jc, .slice ko bl kc, .bool pbot] TQn (0, 0))).heap.size (wq.alloc (.cells #[.int .i64 (plev : Int), .slice jo il jc, .slice ko bl kc, .bool pbot] TQn (0, 0))) W → W.cell? ⟨wp.heap.size, 0, none⟩ = some (.int .i64 (plev : Int)) ∧ W.cell? ⟨wp.heap.size, 1, none⟩ = some (.slice io il ic) ∧ W.cell? ⟨wp.heap.size, 2, none⟩ = some (.slice bo bl bc) ∧ W.cell? ⟨wp.heap.size, 3, none⟩ = some (.bool pbot) ∧ W.cell? ⟨wq.heap.size, 0, none⟩ = some (.int .i64 (plev : Int)) ∧ W.cell? ⟨wq.heap.size, 1, none⟩ = some (.slice jo il jc) ∧ W.cell? ⟨wq.heap.size, 2, none⟩ = some (.slice ko bl kc) ∧ W.cell? ⟨wq.heap.size, 3, none⟩ = some (.bool pbot) from fun W hb => ⟨cell_kept hb p0, cell_kept hb p1, cell_kept hb p2, cell_kept hb p3, cell_kept hb q0, cell_kept hb q1, cell_kept hb q2, cell_kept hb q3⟩)
        clear hri hrb hbq hxp hxq HRI HRB HDP d0 d1 d2 d3
        go_wp2_with fail
        refine (HSM1.out _ (Below.refl _ _)).mono ?_
        rintro e ws1 ⟨rfl, hb1⟩
        have HS1 := Lib.hid hb1
        clear hb1 p0 p1 p2 p3 q0 q1 q2 q3
        obtain ⟨p0, p1, p2, p3, q0, q1, q2, q3⟩ := HCPQ.out ws1 HS1.out
        go_wp2_with fail
        refine (HSM2.out _ HS1.out).mono ?_
        rintro e ws2 ⟨rfl, hb1⟩
        have HS2 := Lib.hid (below_step HS1.out hb1 HS1.out.size)
        have HBS := Lib.hid (below_step HW0.out HS2.out HW0.out.size)
        have HXP2 := Lib.hid (blk_kept HS2.out HXP.out)
        have HWI := Lib.hid (show Wrt ws2 wl.heap.size wp.heap.size (.slice io il ic) il from by have h1 := Wrt.of (HRI0.out.kept HS2.out); rw [← HILN.out] at h1; exact h1)
        have HWB := Lib.hid (show Wrt ws2 wl.heap.size wp.heap.size (.slice bo bl bc) bl from by have h1 := Wrt.of (HRB0.out.kept HS2.out); rw [← HBLN.out] at h1; exact h1)
        have HVD := Lib.hid (show ∀ W, Below wl.heap.size wl W → W.cell? ⟨w2.heap.size, 0, none⟩ = some (.slice ua0 (A 0).length uc0) ∧ W.cell? ⟨w2.heap.size, 1, none⟩ = some (.slice ua1 (A 1).length uc1) ∧ W.cell? ⟨w2.heap.size, 2, none⟩ = some (.slice ua2 (A 2).length uc2) ∧ W.cell? ⟨w2.heap.size, 3, none⟩ = some (.slice ua3 (A 3).length uc3) ∧ W.cell? ⟨w2.heap.size, 4, none⟩ = some (.int .u64 (ul.toNat : Int)) ∧ W.cell? ⟨w2.heap.size, 5, none⟩ = some (.int .u64 (us.toNat : Int)) ∧ W.cell? ⟨w2.heap.size, 6, none⟩ = some (.int .u64 (un.toNat : Int)) ∧ W.cell? ⟨w2.heap.size + 1, 0, none⟩ = some (.slice mo M.length mc) ∧ W.cell? ⟨w2.heap.size + 1, 1, none⟩ = some (.int .u64 (ul.toNat : Int)) ∧ W.cell? ⟨w2.heap.size + 1, 2, none⟩ = some (.int .u64 (us.toNat : Int)) ∧ W.cell? ⟨w2.heap.size + 1, 3, none⟩ = some (.int .u64 (un.toNat : Int)) from fun W hb => by
          have h1 := (HT.out.kept hb).box
          have h2 := (HT.out.kept hb).dox
          exact ⟨(blk_cell h1 0).trans rfl, (blk_cell h1 1).trans rfl, (blk_cell h1 2).trans rfl, (blk_cell h1 3).trans rfl, (blk_cell h1 4).trans rfl, (blk_cell h1 5).trans rfl, (blk_cell h1 6).trans rfl, (blk_cell h2 0).trans rfl, (blk_cell h2 1).trans rfl, (blk_cell h2 2).trans rfl, (blk_cell h2 3).trans rfl⟩)
        clear hb1 p0 p1 p2 p3 q0 q1 q2 q3 HSM1 HSM2 HCPQ HXQ HRI0 HRB0 HS1
        obtain ⟨OL, hOL⟩ : ∃ l, l = overL (levelZ M lev) ka kb := ⟨_, rfl⟩
        obtain ⟨FL, hFL⟩ : ∃ l, l = findL A ka := ⟨_, rfl⟩
        have HOV := Lib.hid (show ∀ W, Below wl.heap.size wl W → Calls Tryd.prog 15 #[encV (⟨.slice ua0 (A 0).length uc0, .slice ua1 (A 1).length uc1, .slice ua2 (A 2).length uc2, .slice ua3 (A 3).length uc3, ul, us, un⟩ : Vn), .int .i64 lev, .string ka, .string kb] W (NewRow W OL) from fun W hb => by
          rw [hOL]; exact over_both HRL.out _ lev ka kb W (HVW.out.kept hb) (fun k hk => Nat.le_trans (HAL.out k hk) (by decide)))
        have HOD := Lib.hid (show ∀ W, Below wl.heap.size wl W → Calls Tryd.prog 16 #[encD ⟨.slice mo M.length mc, ul, us, un⟩, .int .i64 lev, .string ka, .string kb] W (NewRow W OL) from fun W hb => by
          rw [hOL]; exact dover_any ⟨.slice mo M.length mc, ul, us, un⟩ M lev ka kb W (HT.out.far.1.kept hb) (by have := HML.out; omega) HMS.out HTK.out.1 HTK.out.2)
        have HFV := Lib.hid (show ∀ W, Below wl.heap.size wl W → Calls Tryd.prog 17 #[encV (⟨.slice ua0 (A 0).length uc0, .slice ua1 (A 1).length uc1, .slice ua2 (A 2).length uc2, .slice ua3 (A 3).length uc3, ul, us, un⟩ : Vn), .string ka] W (NewRow W FL) from fun W hb => by
          rw [hFL]; exact find_any _ A ka W (HVW.out.kept hb) (fun k hk => Nat.le_trans (HAL.out k hk) (by decide)))
        have HFD := Lib.hid (show ∀ W, Below wl.heap.size wl W → Calls Tryd.prog 18 #[encD ⟨.slice mo M.length mc, ul, us, un⟩, .string ka] W (NewRow W FL) from fun W hb => by
          have h1 := dfind_any ⟨.slice mo M.length mc, ul, us, un⟩ M ka W (HT.out.far.1.kept hb) (by have := HML.out; omega) HMS.out HTK.out.1
          have h2 : findL (levelD M) ka = FL := by
            rw [hFL]; unfold findL
            rw [alike_tabs (v := nVn) (d := nDn) (A := A) (L := M) fun k hk => HRL.out.level k hk]
          rwa [h2] at h1)
        have hol1 : OL.length ≤ 1000 := by rw [hOL]; exact Nat.le_trans (over_le _ _ _) (Nat.le_trans (levelZ_le M lev) (by have := HML.out; omega))
        have hfl1 : FL.length ≤ 100000 := by
          rw [hFL]
          have h1 : (findL A ka).length ≤ (tabs A).length := List.length_filter_le _ _
          have h2 := lvs_tabs HRL.out.lvs (N := 600) HML.out
          omega
        obtain ⟨ol, hol⟩ : ∃ n, n = OL.length := ⟨_, rfl⟩
        obtain ⟨fl, hfl⟩ : ∃ n, n = FL.length := ⟨_, rfl⟩
        have HOLN := Lib.hid hol
        have HFLN := Lib.hid hfl
        have HSO := Lib.hid (show ∀ (W : World) (a b : Option Addr) (c d : Nat), TbsAt W (.slice a OL.length c) OL → TbsAt W (.slice b OL.length d) OL → Calls Tryd.prog 14 #[.slice a ol c, .slice b ol d] W (fun e w' => e = .returned (.bool true) ∧ Below W.heap.size W w') from fun W a b c d ha hb => by
          have h1 := same_any _ _ OL OL W ha hb (by omega) (by omega)
          rwa [show decide (OL = OL) = true from by simp, ← hol] at h1)
        have HSF := Lib.hid (show ∀ (W : World) (a b : Option Addr) (c d : Nat), TbsAt W (.slice a FL.length c) FL → TbsAt W (.slice b FL.length d) FL → Calls Tryd.prog 14 #[.slice a fl c, .slice b fl d] W (fun e w' => e = .returned (.bool true) ∧ Below W.heap.size W w') from fun W a b c d ha hb => by
          have h1 := same_any _ _ FL FL W ha hb (by omega) (by omega)
          rwa [show decide (FL = FL) = true from by simp, ← hfl] at h1)
        clear hOL hFL hol hfl hol1 hfl1
        obtain ⟨c0, c1, c2, c3, c4, c5, c6, d0, d1, d2, d3⟩ := HVD.out ws2 HBS.out
        go_upto_region 16 with fail
        go_cut [122] (fun vb W => vb = .bool false ∧ Hid (Below ws2.heap.size ws2 W))
        case first =>
          rename_i zK2 za4 zK1 za3 zK0 za2 zJ zK za1 za0
          clear za4 za3 za2
          clear HE HLM HCAP HB1 HSM HTK HSAME HIB HBP HTP HTQ HBQ HVW HW0 HXP HXP2 HWI HWB HOK1 HLV1 HBT1 HILN HBLN HRL HMS HML HAL HTA HB2
          go_region_held3 (fun W => W.cell? ⟨w2.heap.size, 0, none⟩ = some (.slice ua0 (A 0).length uc0) ∧ W.cell? ⟨w2.heap.size, 1, none⟩ = some (.slice ua1 (A 1).length uc1) ∧ W.cell? ⟨w2.heap.size, 2, none⟩ = some (.slice ua2 (A 2).length uc2) ∧ W.cell? ⟨w2.heap.size, 3, none⟩ = some (.slice ua3 (A 3).length uc3) ∧ W.cell? ⟨w2.heap.size, 4, none⟩ = some (.int .u64 (ul.toNat : Int)) ∧ W.cell? ⟨w2.heap.size, 5, none⟩ = some (.int .u64 (us.toNat : Int)) ∧ W.cell? ⟨w2.heap.size, 6, none⟩ = some (.int .u64 (un.toNat : Int)) ∧ W.cell? ⟨w2.heap.size + 1, 0, none⟩ = some (.slice mo M.length mc) ∧ W.cell? ⟨w2.heap.size + 1, 1, none⟩ = some (.int .u64 (ul.toNat : Int)) ∧ W.cell? ⟨w2.heap.size + 1, 2, none⟩ = some (.int .u64 (us.toNat : Int)) ∧ W.cell? ⟨w2.heap.size + 1, 3, none⟩ = some (.int .u64 (un.toNat : Int)))
            (go_keep)
            (first
              | (go_at_call 15; refine (HOV.out _ (by first | exact HBS.out.drew | exact HBS.out)).mono ?_; rintro e1 w1x ⟨v1x, rfl, ho1, hb1⟩; obtain ⟨a1, b1, hv1⟩ := owns_slice1 ho1; subst hv1; have HX1 := Lib.hid (show Below ws2.heap.size ws2 w1x from below_step (by first | exact (Below.refl _ _).drew | exact Below.refl _ _) hb1 (Nat.le_refl _)); have HR1 := Lib.hid (Seg.of_owns ho1); rw [← HOLN.out]; obtain ⟨c0, c1, c2, c3, c4, c5, c6, d0, d1, d2, d3⟩ := HVD.out w1x (below_step HBS.out HX1.out HBS.out.size); clear ho1 hb1)
              | (go_at_call 16; refine (HOD.out w1x (below_step HBS.out HX1.out HBS.out.size)).mono ?_; rintro e2 w2x ⟨v2x, rfl, ho2, hb2⟩; obtain ⟨a2, b2, hv2⟩ := owns_slice1 ho2; subst hv2; have HX2 := Lib.hid (below_step HX1.out hb2 HX1.out.size); have HR1b := Lib.hid (HR1.out.kept hb2); have HR2 := Lib.hid (Seg.of_owns ho2); rw [← HOLN.out]; obtain ⟨c0, c1, c2, c3, c4, c5, c6, d0, d1, d2, d3⟩ := HVD.out w2x (below_step HBS.out HX2.out HBS.out.size); clear ho2 hb2)
              | (go_at_call 14; (with_reducible show Calls _ _ _ w2x _); refine (HSO.out w2x a1 a2 b1 b2 HR1b.out HR2.out).mono ?_; rintro e3 w3x ⟨rfl, hb3⟩; have HX3 := Lib.hid (below_step HX2.out hb3 HX2.out.size); obtain ⟨c0, c1, c2, c3, c4, c5, c6, d0, d1, d2, d3⟩ := HVD.out w3x (below_step HBS.out HX3.out HBS.out.size); clear hb3)
              | (go_at_call 17; refine (HFV.out w3x (below_step HBS.out HX3.out HBS.out.size)).mono ?_; rintro e4 w4x ⟨v4x, rfl, ho4, hb4⟩; obtain ⟨a4, b4, hv4⟩ := owns_slice1 ho4; subst hv4; have HX4 := Lib.hid (below_step HX3.out hb4 HX3.out.size); have HR4 := Lib.hid (Seg.of_owns ho4); rw [← HFLN.out]; obtain ⟨c0, c1, c2, c3, c4, c5, c6, d0, d1, d2, d3⟩ := HVD.out w4x (below_step HBS.out HX4.out HBS.out.size); clear ho4 hb4)
              | (go_at_call 18; refine (HFD.out w4x (below_step HBS.out HX4.out HBS.out.size)).mono ?_; rintro e5 w5x ⟨v5x, rfl, ho5, hb5⟩; obtain ⟨a5, b5, hv5⟩ := owns_slice1 ho5; subst hv5; have HX5 := Lib.hid (below_step HX4.out hb5 HX4.out.size); have HR4b := Lib.hid (HR4.out.kept hb5); have HR5 := Lib.hid (Seg.of_owns ho5); rw [← HFLN.out]; obtain ⟨c0, c1, c2, c3, c4, c5, c6, d0, d1, d2, d3⟩ := HVD.out w5x (below_step HBS.out HX5.out HBS.out.size); clear ho5 hb5)
              | (go_at_call 14; (with_reducible show Calls _ _ _ w5x _); refine (HSF.out w5x a4 a5 b4 b5 HR4b.out HR5.out).mono ?_; rintro e6 w6x ⟨rfl, hb6⟩; have HX6 := Lib.hid (below_step HX5.out hb6 HX5.out.size); obtain ⟨c0, c1, c2, c3, c4, c5, c6, d0, d1, d2, d3⟩ := HVD.out w6x (below_step HBS.out HX6.out HBS.out.size); clear hb6)
              )
          all_goals (go_wp2_with fail; go_meet; exact ⟨rfl, HX6⟩)
        case rest =>
          rename World => wx
          obtain ⟨rfl, HBX⟩ := hcut
          clear c0 c1 c2 c3 c4 c5 c6 d0 d1 d2 d3 HOV HOD HFV HFD HSO HSF
          have HT1 := Lib.hid (below_step HBS.out HBX.out HBS.out.size)
          have HXP3 := Lib.hid (blk_kept HBX.out HXP2.out)
          have HWI2 := Lib.hid (HWI.out.kept HBX.out)
          have HWB2 := Lib.hid (HWB.out.kept HBX.out)
          have HLO := Lib.hid (show wl.heap.size ≤ wp.heap.size from HBP.out.size)
          clear HXP2 HWI HWB
          go_wp2_with fail
          go_loopw [18] (fun vt W => ∃ t : Nat, t ≤ il ∧ vt = .int .i64 (t : Int) ∧ Hid (Wrt W wl.heap.size wp.heap.size (.slice io il ic) il) ∧ Hid (Wrt W wl.heap.size wp.heap.size (.slice bo bl bc) bl) ∧ Hid (W.heap[wp.heap.size]? = some (boxPn ⟨plev, .slice io il ic, .slice bo bl bc, pbot⟩)) ∧ Hid (Below wl.heap.size wl W)) (fun vt _ => il - (intOf vt).toNat)
          case atStart => exact ⟨0, Nat.zero_le _, rfl, HWI2, HWB2, HXP3, HT1⟩
          case round =>
            obtain ⟨t, ht, rfl, HWI, HWB, HXQ, HBW⟩ := hrel
            have p1 : wr.cell? ⟨wp.heap.size, 1, none⟩ = some (.slice io il ic) := (blk_cell HXQ.out 1).trans rfl
            by_cases hlt : t < il
            · obtain ⟨xo, xc, hv, hx⟩ := HWI.out.shp
              injection hv with h1 h2 h3
              subst h1
              obtain ⟨b, off, ha, g1, g2, g3, g4⟩ := hx (by omega)
              subst ha
              obtain ⟨u, hu⟩ := g3 (t * 8) (by omega)
              have k1 : (0 : Int) ≤ (t : Int) := by omega
              have k2 : (t : Int) < (il : Int) := by omega
              have k3 : IntKind.i64.wrap ((t : Int) + 1) = (t : Int) + 1 := by have := HIB.out; rw [IntKind.wrap_i64]; omega
              have HXN := Lib.hid ((Below.heap_setCell wr ⟨b, off + t * 8, none⟩ (.int .u64 77) wp.heap.size (fun e => g2 e.symm)).trans HXQ.out)
              have HBN := Lib.hid (HBW.out.setCell (p := ⟨b, off + t * 8, none⟩) g1 (.int .u64 77))
              have HLT2 := Lib.hid hlt
              clear h2 h3 hx g1 g2 g3 hlt
              go_wp2_with fail
              go_roundw
              case rel => exact ⟨t + 1, HLT2.out, by first | rfl | (congr 1), Lib.hid (HWI.out.set _ _), Lib.hid (HWB.out.set _ _), HXN, HBN⟩
              case measure => simp [intOf]; have := HLT2.out; omega
            · have htl : il = t := by omega
              subst htl
              have k2 : ¬ (il : Int) < (il : Int) := by omega
              rename World => wy
              clear hlt ht
              go_wp2_with fail
              go_loopw [19] (fun vt W => ∃ t : Nat, t ≤ bl ∧ vt = .int .i64 (t : Int) ∧ Hid (Wrt W wl.heap.size wp.heap.size (.slice bo bl bc) bl) ∧ Hid (W.heap[wp.heap.size]? = some (boxPn ⟨plev, .slice io il ic, .slice bo bl bc, pbot⟩)) ∧ Hid (Below wl.heap.size wl W)) (fun vt _ => bl - (intOf vt).toNat)
              case atStart => exact ⟨0, Nat.zero_le _, rfl, HWB, HXQ, HBW⟩
              case round =>
                obtain ⟨t, ht, rfl, HWB3, HXQ3, HBW3⟩ := hrel
                have p2 : wr.cell? ⟨wp.heap.size, 2, none⟩ = some (.slice bo bl bc) := (blk_cell HXQ3.out 2).trans rfl
                clear p1
                by_cases hlt : t < bl
                · obtain ⟨xo, xc, hv, hx⟩ := HWB3.out.shp
                  injection hv with h1 h2 h3
                  subst h1
                  obtain ⟨b, off, ha, g1, g2, g3, g4⟩ := hx (by omega)
                  subst ha
                  obtain ⟨u, hu⟩ := g3 (t * 8) (by omega)
                  have k1 : (0 : Int) ≤ (t : Int) := by omega
                  have k2 : (t : Int) < (bl : Int) := by omega
                  have k3 : IntKind.i64.wrap ((t : Int) + 1) = (t : Int) + 1 := by have := HIB.out; rw [IntKind.wrap_i64]; omega
                  have HXN := Lib.hid ((Below.heap_setCell wr ⟨b, off + t * 8, none⟩ (.int .u64 77) wp.heap.size (fun e => g2 e.symm)).trans HXQ3.out)
                  have HBN := Lib.hid (HBW3.out.setCell (p := ⟨b, off + t * 8, none⟩) g1 (.int .u64 77))
                  have HLT2 := Lib.hid hlt
                  clear h2 h3 hx g1 g2 g3 hlt
                  go_wp2_with fail
                  go_roundw
                  case rel => exact ⟨t + 1, HLT2.out, by first | rfl | (congr 1), Lib.hid (HWB3.out.set _ _), HXN, HBN⟩
                  case measure => simp [intOf]; have := HLT2.out; omega
                · have htl : bl = t := by omega
                  subst htl
                  have k4 : ¬ (bl : Int) < (bl : Int) := by omega
                  obtain ⟨c0, c1, c2, c3, c4, c5, c6, d0, d1, d2, d3⟩ := HVD.out wr HBW3.out
                  have HAK := Lib.hid (show Alike (⟨.slice ua0 (A 0).length uc0, .slice ua1 (A 1).length uc1, .slice ua2 (A 2).length uc2, .slice ua3 (A 3).length uc3, ul, us, un⟩ : Vn) A ⟨.slice mo M.length mc, ul, us, un⟩ M from ⟨fun k hk => HRL.out.level k hk, rfl, rfl, rfl⟩)
                  have HC := Lib.hid (alike_any (⟨.slice ua0 (A 0).length uc0, .slice ua1 (A 1).length uc1, .slice ua2 (A 2).length uc2, .slice ua3 (A 3).length uc3, ul, us, un⟩ : Vn) A ⟨.slice mo M.length mc, ul, us, un⟩ M wr (HVW.out.kept HBW3.out) (HT.out.far.1.kept HBW3.out) HTA.out (by have := HML.out; omega) HMS.out)
                  clear hlt ht
                  go_wp2_with fail
                  refine HC.out.mono ?_
                  rintro e w30 ⟨b9, rfl, hb9, hbb9⟩
                  have hbt : b9 = true := hb9.2 HAK.out
                  subst hbt
                  have HB30 := Lib.hid (below_step HBW3.out hbb9 HBW3.out.size)
                  clear HC hb9 hbb9
                  go_wp2_with fail
                  refine (awake_any _).mono ?_
                  rintro e w31 ⟨rfl, hb31⟩
                  have hb32 := below_step HB30.out hb31 HB30.out.size
                  have HBZ := Lib.hid (below_step HT.out.bel hb32 HT.out.bel.size)
                  clear hb31 hb32
                  go_wp2_with fail
                  go_ret
                  exact ⟨rfl, HBZ.out⟩
  · go_wp2_with fail
    refine (awake_any _).mono ?_
    rintro e w2 ⟨rfl, hb2⟩
    have HBZ := Lib.hid (below_step HB1.out hb2 HB1.out.size)
    clear hb2
    go_wp2_with fail
    go_ret
    exact ⟨rfl, HBZ.out⟩
end Go.Proofs.Tryd.Vr
