/- A memory: Range. -/
import Derived.Test.YtkikjbcmdlghnaaDoorKs
import Derived.Deep.RegionHeld3
import Derived.Test.YtkikjbcmdlghnaaDoorSeq2
set_option linter.unusedVariables false
set_option linter.unusedSimpArgs false
set_option maxRecDepth 100000
namespace Go.Proofs.Tryd.Skm
open Go.RowKit Go.Cph Go.Cph.Skip Go.Cph.Skm Go.Cph.Ok Go.Proofs.Tryd.Ok
attribute [local go_sem] Oper.semAt_some
/-- From's two boxes, as blocks. -/
structure BoxesB (q : Nat) (kk : ByteArray) (w w' : World) : Prop where
  size : w'.heap.size = w.heap.size + 2
  hC : w'.heap[w.heap.size]? = some (.cells #[ptr q] TPtr (0, 0))
  hD : w'.heap[w.heap.size + 1]? = some (.cells #[.string kk] TStr (0, 0))
  bel : Below w.heap.size w w'
theorem cFromB (q : Nat) (key : ByteArray) (w : World) :
    Calls Tryd.prog 30 #[ptr q, .string key] w fun e w' => e = .returned (fromV w.heap.size) ∧ BoxesB q key w w' := by
  go_enter Tryd.func30, Tryd.ntmps30
  go_wp2_with fail
  go_ret
  refine ⟨by simp, by simp, blk_alloc (heap_alloc_new _ _) _, ?_, ((Below.refl _ _).alloc (Nat.le_refl _) _).alloc (by simp) _⟩
  have := heap_alloc_new (w.alloc (.cells #[ptr q] TPtr)) (.cells #[.string key] TStr)
  rw [World.size_alloc] at this
  exact this
theorem wpListIn_appendE {F : Fence} {nF : Nat} {P : Program} {ops : Array Oper} {rest : List Oper} {o : Oper} {a : Act} {W : World} {Q : Exit → Act → World → Prop} (hgd : o.guard = none) (s x : Operand) (t : TypeId)
    (ho : o.op = .call { callee := .builtin .append, args := #[s, x], argTypes := #[t, t] })
    (base : Nat) (e : TypeId) (z : Value) (size bytes : Nat) (ht : P.underlying t = some (.slice e)) (hinfo : (P.info? e).map (fun i => (i.zero, i.size, i.bytes)) = some (some z, size, bytes))
    (hzs : z.cells.size = size) (hsz : 0 < size) (v : Value) (n : Nat) (xs us : List Value) (hs : a.eval s = v) (hown : W.ownsRow base e size v n xs)
    (cells : Array Value) (c : Nat) (hx : a.eval x = .slice (some ⟨W.heap.size, 0, none⟩) 1 c) (hcells : cells.toList = us) (hus : us.length = size) (h1 : ∀ u ∈ us, u.oneCell' = true)
    (h63 : n + 1 ≤ 1099511627776) (hbytes : bytes ≤ 128) (hbase : base ≤ W.heap.size)
    (h : ∀ g cap w', w'.ownsRow base e size (.slice (some ⟨g, 0, none⟩) (n + 1) cap) (n + 1) (xs ++ us) → (W.alloc (.cells cells e)).grownBy w' v.ownBlock → W.heap.size < w'.heap.size →
      wpListIn F nF P ops Q rest (a.put o.dst (.slice (some ⟨g, 0, none⟩) (n + 1) cap)) w') :
    wpListIn F nF P ops Q (o :: rest) a (W.alloc (.cells cells e)) := by
  obtain ⟨i, hi, hz0, hz1, hz2⟩ := info_parts hinfo
  have hown' := hown.alloc (.cells cells e)
  have hsize : (W.alloc (.cells cells e)).heap.size = W.heap.size + 1 := by show (W.heap.push _).size = _; rw [Array.size_push]
  refine wpListIn_append_own_at _ hgd s x t ho base e i z size bytes ht hi hz0 hz1 hz2 hzs hsz v n xs hs hown' ⟨W.heap.size, 0, none⟩ 1 c us hx (by rw [hus, Nat.one_mul]) ?_ h1 (by unfold maxLen; omega) ?_ (by rw [hsize]; omega) ?_
  · intro j y hj
    have hadd : (⟨W.heap.size, 0, none⟩ : Addr).add j = ⟨W.heap.size, j, none⟩ := by unfold Addr.add; split <;> simp_all
    rw [hadd, blk_cell (heap_alloc_new W _)]
    rw [← hcells] at hj
    simpa using hj
  · exact Nat.le_trans (Nat.mul_le_mul h63 hbytes) (by omega)
  · intro v' w' h2 h3 _ h5
    obtain ⟨g, cap, rfl, _⟩ := owns_shape h2 (by omega)
    refine h g cap w' h2 h3 ?_
    have := h3.size
    rw [hsize] at this
    omega
/-- The state of a round of Range. -/
structure RS (w : World) (b5 b7 C base q : Nat) (to_ K : ByteArray) (L : List KV) (pre : List KV) (vs : List Et) (W : World) : Prop where
  bel : Below w.heap.size w W
  sz : base ≤ W.heap.size
  h5 : W.heap[b5]? = some (.cells #[.string to_] TStr (0, 0))
  hC : W.heap[C]? = some (.cells #[ptr q] TPtr (0, 0))
  hD : W.heap[C + 1]? = some (.cells #[.string K] TStr (0, 0))
  told : Told L K pre
  row : ∃ v, W.heap[b7]? = some (.cells #[v] TSl (0, 0)) ∧ W.ownsRow base TE 4 v vs.length (vs.flatMap encE)
section
variable {w W W' : World} {b5 b7 C base q : Nat} {to_ K : ByteArray} {L pre : List KV} {vs : List Et}
theorem RS.kept (h : RS w b5 b7 C base q to_ K L pre vs W) {B0 : Nat} (hk : Kept B0 W W') (hB : w.heap.size ≤ B0) : RS w b5 b7 C base q to_ K L pre vs W' := by
  obtain ⟨h1, h2, h3, h4, h5, h6, v, h7, h8⟩ := h
  exact ⟨hk.below h1 hB (Nat.le_refl _), Nat.le_trans h2 hk.size, hk.cells h3, hk.cells h4, hk.cells h5, h6, v, hk.cells h7, row_same h8 fun j o _ ho hc => hk.same j o ho (.inr hc)⟩
theorem grow_old {W y1 : World} {v : Value} {o : Obj} (r2 : (W.alloc o).grownBy y1 v.ownBlock) {k : Nat} {x : Obj} (hk : W.heap[k]? = some x) (hne : v.ownBlock ≠ some k) : y1.heap[k]? = some x :=
  (r2.block k (by have := blk_lt hk; simp; omega) (fun e => hne e.symm)).trans (blk_alloc hk _)
theorem RS.push (h : RS w b5 b7 C base q to_ K L pre vs W) {v : Value} (h7 : W.heap[b7]? = some (.cells #[v] TSl (0, 0))) (hrow : W.ownsRow base TE 4 v vs.length (vs.flatMap encE)) (hb : b5 < b7 ∧ b7 < C ∧ C + 1 < base ∧ w.heap.size ≤ b5) {x : KV} (hx : Comes L K pre x)
    {y1 : World} {g1 p1 : Nat} (r1 : y1.ownsRow base TE 4 (.slice (some ⟨g1, 0, none⟩) (vs.length + 1) p1) (vs.length + 1) (vs.flatMap encE ++ encE x.2)) {o : Obj} (r2 : (W.alloc o).grownBy y1 v.ownBlock) :
    RS w b5 b7 C base q to_ K L (pre ++ [x]) (vs ++ [x.2]) (y1.setCell ⟨b7, 0, none⟩ (.slice (some ⟨g1, 0, none⟩) (vs.length + 1) p1)) ∧ KeepsOthers W (y1.setCell ⟨b7, 0, none⟩ (.slice (some ⟨g1, 0, none⟩) (vs.length + 1) p1)) ∧ y1.cell? ⟨b7, 0, none⟩ = some v ∧ y1.frozen? ⟨b7, 0, none⟩ = false := by
  have hown : ∀ k, k < base → v.ownBlock ≠ some k := fun k hk e => by have := (hrow.lt k e).1; omega
  have k7 := grow_old r2 h7 (hown b7 (by omega))
  have hle : W.heap.size ≤ y1.heap.size := by have := r2.size; rw [World.size_alloc] at this; omega
  refine ⟨⟨?_, ?_, ?_, ?_, ?_, h.told.snoc hx, _, blk_one_set k7 _, ?_⟩, ?_, (blk_one k7).1, (blk_one k7).2⟩
  · exact ((h.bel.alloc h.bel.size o).grown r2 (by rw [World.size_alloc]; have := h.bel.size; omega) (fun k e => by have := (hrow.lt k e).1; omega)).setCell (p := ⟨b7, 0, none⟩) (by show w.heap.size ≤ b7; omega) _
  · have := h.sz; simp only [World.setCell, Array.size_modify]; omega
  · exact (blk_set_other (by show b5 ≠ b7; omega)).trans (grow_old r2 h.h5 (hown b5 (by omega)))
  · exact (blk_set_other (by show C ≠ b7; omega)).trans (grow_old r2 h.hC (hown C (by omega)))
  · exact (blk_set_other (by show C + 1 ≠ b7; omega)).trans (grow_old r2 h.hD (hown (C + 1) (by omega)))
  · rw [List.length_append, List.flatMap_append]
    show World.ownsRow _ base TE 4 _ (vs.length + 1) (vs.flatMap encE ++ [x.2].flatMap encE)
    rw [List.flatMap_singleton]
    exact ownsRow_setCell_other r1 (by simp only [Value.ownBlock, ne_eq, Option.some.injEq]; intro e; have := (r1.lt g1 rfl).1; omega) _
  · refine ((KeepsOthers.mk hle fun k x hk ho => grow_old r2 hk fun he => ?_)).trans (KeepsOthers.setCell _ _ _)
    obtain ⟨cur, hc⟩ : ∃ cur, W.heap[k]? = some (.cells cur TE (0, 0)) := Skip.row_block hrow he
    rw [hk] at hc
    cases hc
    cases ho
theorem RS.below (h : RS w b5 b7 C base q to_ K L pre vs W) (hb : Below W.heap.size W W') : RS w b5 b7 C base q to_ K L pre vs W' := h.kept (.of_below (B := w.heap.size) hb) (Nat.le_refl _)
end
def RI (w : World) (C base q : Nat) (to_ K : ByteArray) (L pre : List KV) (Y : World) : Prop := RS w w.heap.size (w.heap.size + 1) C base q to_ K L pre (pre.map (·.2)) Y ∧ ∀ x ∈ pre, Skm.below x.2.1 to_ = true
def RBk (w : World) (C base q : Nat) (to_ K : ByteArray) (L _pre : List KV) (Y : World) : Prop := ∃ pr x, RS w w.heap.size (w.heap.size + 1) C base q to_ K L pr (pr.map (·.2)) Y ∧ (∀ x ∈ pr, Skm.below x.2.1 to_ = true) ∧ Comes L K pr x ∧ Skm.below x.2.1 to_ = false
def RangePost (es : List Et) (from_ to_ : ByteArray) (w : World) (r : Ending) (w' : World) : Prop := ∃ v l, r = .returned v ∧ RangeIs es from_ to_ l ∧ w'.ownsRow w.heap.size TE 4 v l.length (l.flatMap encE) ∧ Below w.heap.size w w'
theorem mRangeN {v : Value} (from_ to_ : ByteArray) (w : World) (h : NoMem w v) :
    Calls Tryd.prog 20 #[v, .string from_, .string to_] w fun r w' => r = .returned (.slice none 0 0) ∧ Below w.heap.size w w' := by
  have HB := Lib.hid (show Below w.heap.size w (w.alloc (.cells #[.string to_] TStr)) from (Below.refl _ _).alloc (Nat.le_refl _) _)
  have HC := Lib.hid (mNoneN _ (h.kept HB.out))
  clear h
  go_enter Tryd.func20, Tryd.ntmps20
  go_wp2_with fail
  refine HC.out.mono ?_
  rintro r w1 ⟨rfl, rfl⟩
  go_wp2_with fail
  go_ret
  exact ⟨rfl, HB.out⟩
set_option maxHeartbeats 6400000 in
theorem mRange {F : Nat → Prop} {p : Nat} {es : List Et} (from_ to_ : ByteArray) (m : Int) (w : World) (h : IsMem F w p es) (hm : MaxAt m w) (hk : from_.size ≤ 1000000) (hn : es.length ≤ 1000000) :
    Calls Tryd.prog 20 #[ptr p, .string from_, .string to_] w (RangePost es from_ to_ w) := by
  have HB := Lib.hid (show Below w.heap.size w (w.alloc (.cells #[.string to_] TStr)) from (Below.refl _ _).alloc (Nat.le_refl _) _)
  have HG5 := Lib.hid (heap_alloc_new w (.cells #[.string to_] TStr))
  have HM := Lib.hid hm
  have HKF := Lib.hid hk
  have HN := Lib.hid hn
  obtain ⟨q, nx, nodes, v, g1, g2, g3, g4, g5, g6, g7⟩ := h.out
  have hpl := h.lt _ g6
  replace g1 := blk_kept HB.out g1
  have c0 : (w.alloc (.cells #[.string to_] TStr)).cell? ⟨p, 0, none⟩ = some (ptr q) := by rw [blk_cell g1]; rfl
  have HC := Lib.hid (mNone2 p q _ c0)
  have GB := Lib.hid g1
  have GA := Lib.hid g2
  have GL := Lib.hid g3
  have GE := Lib.hid g4
  have GK := Lib.hid g5
  have HSZ0 := Lib.hid (World.size_alloc w (.cells #[.string to_] TStr))
  clear h hm hk hn g1 g2 g3 g4 g5 g6 g7 c0
  refine calls_of_wp_marks Tryd.func20 rfl ?_
  simp only [Tryd.ntmps20, List.size_toArray, List.length_cons, List.length_nil, Nat.reduceAdd, Nat.reduceSub, Array.replicate_succ, Array.replicate_zero, List.push_toArray, List.append_toArray, List.nil_append, List.cons_append]
  go_wp2_with fail
  refine HC.out.mono ?_
  rintro r w1 ⟨rfl, rfl⟩
  go_wp2_with fail
  have HB1 := Lib.hid (HB.out.alloc HB.out.size (.cells #[.slice none 0 0] TSl))
  have hb01 : Below (w.alloc (.cells #[.string to_] TStr)).heap.size (w.alloc (.cells #[.string to_] TStr)) ((w.alloc (.cells #[.string to_] TStr)).alloc (.cells #[.slice none 0 0] TSl)) := (Below.refl _ _).alloc (Nat.le_refl _) _
  have HG7 := Lib.hid (heap_alloc_new (w.alloc (.cells #[.string to_] TStr)) (.cells #[.slice none 0 0] TSl))
  have HG51 := Lib.hid (blk_kept hb01 HG5.out)
  have GB1 := Lib.hid (blk_kept hb01 GB.out)
  have HSZ1 := Lib.hid (World.size_alloc (w.alloc (.cells #[.string to_] TStr)) (.cells #[.slice none 0 0] TSl))
  rw [HSZ0.out] at HG7 HSZ1
  clear hb01 HG5 GB HC
  generalize (w.alloc (.cells #[.string to_] TStr)).alloc (.cells #[.slice none 0 0] TSl) = w1 at *
  have hsz1 : w1.heap.size = w.heap.size + 2 := HSZ1.out
  have HS0 := Lib.hid (show Below w1.heap.size w1 w1 from Below.refl _ _)
  have HCC := Lib.hid (show ∀ W, Below w1.heap.size w1 W → W.cell? ⟨p, 0, none⟩ = some (ptr q) from fun W hb => by rw [blk_cell (blk_kept hb GB1.out)]; rfl)
  obtain ⟨K, hK⟩ : ∃ K, K = ofBs (Cph.Ok.bytes ⟨true, from_, 0⟩) := ⟨_, rfl⟩
  have HKK := Lib.hid hK
  have HKEY := Lib.hid (show ∀ (W : World), Below w1.heap.size w1 W → Calls Tryd.prog 23 #[.slice (some ⟨W.heap.size, 0, none⟩) 1 1] (W.alloc (boxP ⟨true, from_, 0⟩)) fun e w' => e = .returned (.string K) ∧ Below (W.alloc (boxP ⟨true, from_, 0⟩)).heap.size (W.alloc (boxP ⟨true, from_, 0⟩)) w' from fun W hW => by
    rw [HKK.out, ← key_one]
    have hM := max_kept HM.out (below_step HB1.out hW HB1.out.size) (max_lt HM.out)
    exact key_any _ _ m _ (pts_one W _) (by simp) (by rw [key_one]; have := esc_size from_; have := HKF.out; omega) (max_kept hM ((Below.refl _ _).alloc (Nat.le_refl _) _) (max_lt hM)))
  clear hK HM HKF HSZ0 HSZ1 HB
  have c0 := HCC.out _ (bel_drew HS0.out)
  go_region_held3 (fun W => W.cell? ⟨p, 0, none⟩ = some (ptr q)) (go_keep)
    (first
      | (go_at_call 24; refine (str_any from_ _).mono ?_; rintro r u1 ⟨rfl, hb⟩; have B1 := Lib.hid (bel_call hb (bel_drew HS0.out)); clear hb; have d0 := HCC.out _ B1.out; have d1 := HCC.out _ (bel_alloc B1.out (boxP ⟨true, from_, 0⟩)))
      | (go_at_call 23; refine (HKEY.out u1 B1.out).mono ?_; rintro r u2 ⟨rfl, hb⟩; have B2 := Lib.hid (bel_call hb (bel_alloc B1.out (boxP ⟨true, from_, 0⟩))); clear hb; have f0 := HCC.out _ B2.out)
      | (go_at_call 30; refine (cFromB q K u2).mono ?_; rintro r u3 ⟨rfl, hbx⟩; have HBX := Lib.hid hbx; have B3 := Lib.hid (bel_call hbx.bel B2.out); clear hbx; have h0 := HCC.out _ B3.out))
  clear c0 d0 d1 f0 h0
  go_wp2_with fail
  have hsz3 : u3.heap.size = u2.heap.size + 2 := HBX.out.size
  have hsz2 : w1.heap.size ≤ u2.heap.size := B2.out.size
  have HRS0 := Lib.hid (show RS w w.heap.size (w.heap.size + 1) u2.heap.size u3.heap.size q to_ K (kv nodes) [] [] u3 from
    ⟨below_step HB1.out B3.out HB1.out.size, Nat.le_refl _, blk_kept B3.out HG51.out, HBX.out.hC, HBX.out.hD, .nil, _, blk_kept B3.out HG7.out, World.ownsRow_nil _ _ _ _⟩)
  have HAT := Lib.hid (show ∀ W, Below w.heap.size w W → IsAt W q nx nodes v from fun W hW => GA.out.kept hW)
  have HLEN := Lib.hid (show (kv nodes).length ≤ 1000000 from by unfold kv; rw [List.length_map, ← List.length_map (f := fun x : Nd Et => x.val), GE.out]; exact HN.out)
  obtain ⟨C, hC⟩ : ∃ C, C = u2.heap.size := ⟨_, rfl⟩
  rw [← hC] at HRS0 hsz3 hsz2 ⊢
  obtain ⟨base, hbase⟩ : ∃ b, b = u3.heap.size := ⟨_, rfl⟩
  rw [← hbase] at HRS0 hsz3
  have HBASE := Lib.hid hbase
  have HSZ3 := Lib.hid hsz3
  clear hC hbase HBX B1 B2 hsz3
  refine' wp_rangeFunc_break2 (gf := 43) (lb := #[.pointer (some ⟨C, 0, none⟩), .pointer (some ⟨C + 1, 0, none⟩)]) rfl (enters_of Tryd.func43 (by kernel_rfl) rfl)
    (from_tells (fun _ => kv nodes) K C (C + 1) q ((kv nodes).map (·.1)) (fun _ y hy => List.mem_map.2 ⟨y, hy, rfl⟩) (fun _ _ _ => List.prefix_rfl)) (fun _ => rfl)
    (RI w C base q to_ K (kv nodes))
    (RBk w C base q to_ K (kv nodes))
    ?hI ?hIb ?hIL ?h0 _ (fun x W => W.alloc (boxE x.2)) (fun x W => (Below.refl _ _).alloc (Nat.le_refl _) _) ?assign ?body ?after
  case assign =>
    intro l x W K' hK
    gi_wp2
    exact hK
  case hI => exact fun s A A' h hk => ⟨h.1.kept hk (by have := B3.out.size; omega), h.2⟩
  case hIb => exact fun s A A' ⟨pr, x, h1, h2⟩ hk => ⟨pr, x, h1.kept hk (by have := B3.out.size; omega), h2⟩
  case hIL =>
    intro pre Y h
    exact ⟨(blk_one h.1.hC).1, (blk_one h.1.hD).1, nx, nodes, v, HAT.out Y h.1.bel, GL.out, rfl⟩
  case h0 => exact ⟨HRS0.out, by simp⟩
  case body =>
    rintro l pre ⟨xk, xe⟩ W0 W ⟨h1, h2⟩ hx hkp
    have hgE : W.heap[W0.heap.size]? = some (boxE xe) := hkp.cells (heap_alloc_new W0 (boxE xe))
    have hrs := (h1.below ((Below.refl _ _).alloc (Nat.le_refl _) (boxE xe))).kept hkp (by have := B3.out.size; omega)
    have hlt0 : base ≤ W0.heap.size := h1.sz
    clear h1 hkp
    have hpre := (hrs.told.snoc hx).length_le
    have e0 : W.cell? ⟨W0.heap.size, 0, none⟩ = some (.string xe.1) := (boxE_cells hgE).c0
    have e1 : W.cell? ⟨W0.heap.size, 1, none⟩ = some (.string xe.2.1) := (boxE_cells hgE).c1
    have e2 : W.cell? ⟨W0.heap.size, 2, none⟩ = some (.int .u64 (xe.2.2.1.toNat : Int)) := (boxE_cells hgE).c2
    have e3 : W.cell? ⟨W0.heap.size, 3, none⟩ = some (.bool xe.2.2.2) := (boxE_cells hgE).c3
    have q5 := (blk_one hrs.h5).1
    obtain ⟨vv, hg7, hrow⟩ := hrs.row
    obtain ⟨ao, cp, hvv⟩ := owns_slice hrow
    have q7 := (blk_one hg7).1
    have f7 := (blk_one hg7).2
    have HRS := Lib.hid hrs
    have HX := Lib.hid hx
    have H2 := Lib.hid h2
    have hplen : pre.length + 1 ≤ 1000000 := by have := HLEN.out; rw [List.length_append] at hpre; simp at hpre; omega
    obtain ⟨vs, hvs⟩ : ∃ vs, vs = pre.map (·.2) := ⟨_, rfl⟩
    have HVS := Lib.hid hvs
    rw [← hvs] at HRS hrow hvv
    obtain ⟨n, hn⟩ : ∃ n, n = vs.length := ⟨_, rfl⟩
    have hnb : n + 1 ≤ 1099511627776 := by rw [hn, hvs, List.length_map]; omega
    rw [← hn] at hvv
    subst hvv
    have hrow' := hrow
    rw [← hn] at hrow'
    have hbW : base ≤ W.heap.size := HRS.out.sz
    have HROW := Lib.hid hrow
    have HROW2 := Lib.hid hrow'
    have HG7W := Lib.hid hg7
    have HN2 := Lib.hid hn
    have HLT0 := Lib.hid hlt0
    have HBB := Lib.hid (show w.heap.size < w.heap.size + 1 ∧ w.heap.size + 1 < C ∧ C + 1 < base ∧ w.heap.size ≤ w.heap.size from by have := HSZ3.out; omega)
    clear hrs hx h2 hrow hrow' hg7 hgE hpre hn hlt0 hvs
    by_cases hb : below xe.1 to_ = true
    · have HTO := Lib.hid hb
      by_cases hz : to_.size = 0
      all_goals
        first
          | (have j1 := str_nil to_ hz)
          | (have j1 := str_some to_ hz
             have j2 : Op.bytesLess xe.1.toList to_.toList = true := by
               unfold below at hb
               rw [Bool.or_eq_true, decide_eq_true_eq] at hb
               exact hb.resolve_left hz)
        clear hb hz
        gi_wp2_with (gi_at_builtin; refine wpListIn_appendE rfl (.tmp 31) (.tmp 33) TSl rfl base TE _ 4 48 Tryd.underlying40 infoE rfl (by decide) (.slice ao n cp) n (vs.flatMap encE) (encE xe) rfl HROW2.out _ 1 rfl rfl rfl (encE_one xe) hnb (by decide) hbW ?_; intro g1 p1 y1 r1 r2 r3; rw [HN2.out] at r1; have R := Lib.hid (HRS.out.push HG7W.out HROW.out HBB.out HX.out r1 r2); rw [← HN2.out] at R; have t7 := R.out.2.2.1; have u7 := R.out.2.2.2; clear r1 r2 r3)
        refine ⟨R.out.2.1.from _, trivial, ?_⟩
        refine ⟨?_, fun x hx => ?_⟩
        · rw [List.map_append, ← HVS.out]; exact R.out.1
        · rcases List.mem_append.1 hx with hx | hx
          · exact H2.out x hx
          · rw [List.mem_singleton.1 hx]; exact HTO.out
    · rw [Bool.not_eq_true] at hb
      have HTO := Lib.hid hb
      unfold below at hb
      rw [Bool.or_eq_false_iff, decide_eq_false_iff_not] at hb
      have j1 := str_some to_ hb.1
      have j2 : Op.bytesLess xe.1.toList to_.toList = false := hb.2
      clear hb
      gi_wp2_with fail
      refine ⟨(KeepsOthers.refl _).from _, rfl, pre, (xk, xe), ?_, H2.out, HX.out, HTO.out⟩
      rw [← HVS.out]; exact HRS.out
  case after =>
    intro D xs Y hD hor hK
    obtain ⟨pr, hrs, hto, hend⟩ : ∃ pr, RS w w.heap.size (w.heap.size + 1) C base q to_ K (kv nodes) pr (pr.map (·.2)) Y ∧ (∀ x ∈ pr, below x.2.1 to_ = true) ∧ (Done (kv nodes) K pr ∨ ∃ x, Comes (kv nodes) K pr x ∧ below x.2.1 to_ = false) := by
      rcases hor with ⟨hd, hi⟩ | ⟨pr, x, h1, h2, h3, h4⟩
      · exact ⟨xs, hi.1, hi.2, .inl hd⟩
      · exact ⟨pr, h1, h2, .inr ⟨x, h3, h4⟩⟩
    have HRANGE := Lib.hid (show RangeIs es from_ to_ (pr.map (·.2)) from by
      have h0 := HKK.out
      subst h0
      exact range_done GL.out GE.out GK.out hrs.told hto hend)
    obtain ⟨vv, hg7, hrow⟩ := hrs.row
    obtain ⟨vs, hvs⟩ : ∃ vs, vs = pr.map (·.2) := ⟨_, rfl⟩
    rw [← hvs] at hrow HRANGE
    have q7 := (blk_one hg7).1
    have HROW := Lib.hid hrow
    have HBEL := Lib.hid hrs.bel
    have HDD := Lib.hid hK
    have hDw : w.heap.size ≤ D := by have := B3.out.size; omega
    have hbw : w.heap.size ≤ base := by have := HSZ3.out; omega
    clear hor hrs hto hend hg7 hrow hvs hK hD
    go_wp2_with fail
    refine ⟨by simp, .inl ⟨_, _, rfl, run_takeDeferred HDD.out, vv, ?_, vv, vs, rfl, HRANGE.out, ?_, below_put HBEL.out hDw⟩⟩
    · simp [results, Tryd.results20, go_sem]
    · refine owns_mono ?_ hbw
      refine row_same HROW.out fun k o _ hk ho => ?_
      rw [World.putObj_heap_other]
      · exact hk
      · rintro rfl
        rw [HDD.out] at hk
        cases hk
        cases ho
end Go.Proofs.Tryd.Skm
