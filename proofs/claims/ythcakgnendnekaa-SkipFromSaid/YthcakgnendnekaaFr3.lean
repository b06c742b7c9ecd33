/- SkipFrom: a round's state; a loop over an iterator that may be left by a break. -/
import Derived.Test.YthcakgnendnekaaFr1
open Go.RowKit Go.Cph Go.Cph.Skip
set_option linter.unusedVariables false
set_option linter.unusedSimpArgs false
namespace Go.Proofs.Try.SkS

theorem wp_rangeFunc_break {α : Type} {P : Program} {g : Operand} {ps : Array Tmp} {assign body : Code} {id : Nat} {Q : Exit → Act → World → Prop} {a : Act} {w : World}
    {gf : Nat} {lb : Array Value} (hg : a.eval g = .func (.func gf) #[] lb) (eg : ∀ args w, (callFunc gf args).run P w = .ok (.enter gf args) w)
    {encs : α → Array Value} {LIST : List α → World → Prop} {NEXT : List α → α → Prop} {DONE : List α → Prop} (hseq : SeqTells P gf lb encs LIST NEXT DONE) (hps : ∀ x, (encs x).size = ps.size)
    (I Ib : List α → World → Prop) (hI : ∀ s A B, I s A → Kept w.heap.size A B → I s B) (hIb : ∀ s A B, Ib s A → Kept w.heap.size A B → Ib s B)
    (hIL : ∀ s W, I s W → LIST s W) (h0 : I [] w) (a₁ : α → Act)
    (hassign : ∀ (l : Nat) (x : α) (W : World) (K : Act → World → Prop), K (a₁ x) W →
      assign.wpIn (Fence.wide.inRound l) 5 P (Exit.then K (fun _ _ _ => False)) { tmps := (ps.zip (encs x)).foldl (fun t (p, v) => t.setIfInBounds p v) a.tmps, defers := [] } W)
    (hbody : ∀ (l : Nat) (pre : List α) (x : α) (W : World), I pre W → NEXT pre x →
      body.wpIn (Fence.wide.inRound l) 5 P (ownPostG w.heap.size (fun _ _ => True) I (fun c pre W => c = .exit id ∧ Ib pre W) (pre ++ [x]) W) (a₁ x) W)
    (hafter : ∀ (D : Nat) (xs : List α) (W : World), w.heap.size ≤ D → (DONE xs ∧ I xs W ∨ Ib xs W) → W.heap[D]? = some (.deferred (some [])) → Q .normal { a with defers := { target := .collected D, args := #[] } :: a.defers } W) :
    (Code.rangeFunc g ps assign body).wp P (Exit.inBlock id Q) a w :=
  wp_rangeFunc_tells hg eg hseq hps I (fun c pre W => c = .exit id ∧ Ib pre W) hI (fun c s A B h hk => ⟨h.1, hIb s A B h.2 hk⟩) hIL h0 a₁ hassign hbody
    (fun D xs W hD hd hi hk => hafter D xs W hD (.inl ⟨hd, hi⟩) hk)
    (fun D c pre W hD ⟨hc, hb⟩ hk => by
      subst hc
      refine wp_exit ?_
      simp only [Exit.inBlock, if_pos]
      exact hafter D pre W hD (.inr hb) hk)

/-- From's two boxes, as blocks. -/
structure BoxesB (v : Value) (kk : ByteArray) (w w' : World) : Prop where
  size : w'.heap.size = w.heap.size + 2
  hC : w'.heap[w.heap.size]? = some (.cells #[v] TPtr (0, 0))
  hD : w'.heap[w.heap.size + 1]? = some (.cells #[.string kk] TStr (0, 0))
  bel : Below w.heap.size w w'
theorem cFromB (ao : Option Addr) (key : ByteArray) (w : World) :
    Calls Try.prog 18 #[.pointer ao, .string key] w fun e w' => e = .returned (fromV w.heap.size) ∧ BoxesB (.pointer ao) key w w' := by
  go_enter Try.func18, Try.ntmps18
  go_wp2_with fail
  go_ret
  refine ⟨by simp, by simp, blk_alloc (heap_alloc_new _ _) _, ?_, ((Below.refl _ _).alloc (Nat.le_refl _) _).alloc (by simp) _⟩
  have := heap_alloc_new (w.alloc (.cells #[.pointer ao] TPtr)) (.cells #[.string key] TStr)
  rw [World.size_alloc] at this
  exact this
def lastKV (key : ByteArray) (pre : List KV) : ByteArray := match pre.getLast? with | .none => key | .some x => x.1
theorem lastKV_snoc (key : ByteArray) (pre : List KV) (x : KV) : lastKV key (pre ++ [x]) = x.1 := by simp [lastKV]
theorem mayB_boundKV (key : ByteArray) (pre : List KV) (z : ByteArray) : mayB (lastKV key pre) (!pre.isEmpty) z = bound key pre z := by
  rcases List.eq_nil_or_concat pre with rfl | ⟨t, x, rfl⟩
  · simp [mayB, lastKV, bound]
  · rw [List.concat_eq_append, lastKV_snoc, bound_snoc]
    have he : (t ++ [x]).isEmpty = false := by simp
    rw [he, may_after]
    rfl
/-- The function's state, the iterator's boxes among it. -/
structure FB (w : World) (fresh : ByteArray) (leave : Int) (p b9 b10 C : Nat) (key : ByteArray) (B : List Nat) (L : List It) (W : World) : Prop where
  fa : FA w fresh leave p b9 b10 B L W
  hC : W.heap[C]? = some (.cells #[ptr p] TPtr (0, 0))
  hD : W.heap[C + 1]? = some (.cells #[.string key] TStr (0, 0))
section
variable {w W W' : World} {fresh key : ByteArray} {leave : Int} {p b9 b10 C : Nat} {B : List Nat} {L : List It}
theorem FB.kept (h : FB w fresh leave p b9 b10 C key B L W) {B0 : Nat} (hk : Kept B0 W W') (hB : w.heap.size ≤ B0) : FB w fresh leave p b9 b10 C key B L W' := ⟨h.fa.kept hk hB, hk.cells h.hC, hk.cells h.hD⟩
theorem FB.below (h : FB w fresh leave p b9 b10 C key B L W) (hb : Below W.heap.size W W') : FB w fresh leave p b9 b10 C key B L W' := ⟨h.fa.below hb, blk_kept hb h.hC, blk_kept hb h.hD⟩
theorem FB.more (h : FB w fresh leave p b9 b10 C key B L W) {k : Nat} (hk : W.heap.size ≤ k) : FB w fresh leave p b9 b10 C key (k :: B) L W := ⟨h.fa.more hk, h.hC, h.hD⟩
theorem FB.store (h : FB w fresh leave p b9 b10 C key B L W) {k : Nat} {cur : Array Value} {E : TypeId} (hk : W.heap[k]? = some (.cells cur E (0, 0))) (hE : E ≠ TItem) (hf : k ∈ B ∨ (E ≠ TL ∧ E ≠ TN ∧ E ≠ TInt)) (h0 : w.heap.size + 3 ≤ k) (hn9 : k ≠ b9) (hn10 : k ≠ b10) (hnC : k ≠ C) (hnD : k ≠ C + 1) (x : Value) :
    FB w fresh leave p b9 b10 C key B L (W.setCell ⟨k, 0, none⟩ x) :=
  ⟨h.fa.store hk hE hf h0 hn9 hn10 x, (blk_set_other (by show _ ≠ k; omega)).trans h.hC, (blk_set_other (by show _ ≠ k; omega)).trans h.hD⟩
theorem FB.list (h : FB w fresh leave p b9 b10 C key B L W) {st : List KV → List KV} {pre : List KV} (hst : st pre = kvIt L) : ListAt st key C (C + 1) p pre W := by
  obtain ⟨nx, nodes, v, h1, h2, h3, h4⟩ := h.fa.lst
  exact ⟨(blk_one h.hC).1, (blk_one h.hD).1, nx, nodes, v, h1, h2, by rw [hst, ← h3, kvIt_its]⟩
/-- What the document's Least tells where the iterator tells x. -/
theorem least_next (hu : UniqIt L) {st : List KV → List KV} {pre : List KV} (hst : st pre = kvIt L) {k : ByteArray} {xv : V} (hx : NextKV st key pre (k, xv)) {e : Ending}
    (hr : (e = .returned (.tuple #[.agg #[.string ⟨#[]⟩, .string ⟨#[]⟩, .int .i64 0], .bool false]) ∧ LeastIt L (mayB (lastKV key pre) (!pre.isEmpty)) .none) ∨
      ∃ x1 x2 x3, e = .returned (.tuple #[.agg #[.string x1, .string x2, .int .i64 (x3 : Nat)], .bool true]) ∧ LeastIt L (mayB (lastKV key pre) (!pre.isEmpty)) (.some (x1, x2, x3))) :
    ∃ n : Nat, e = .returned (.tuple #[.agg #[.string k, .string xv, .int .i64 n], .bool true]) := by
  obtain ⟨h1, h2, h3⟩ := hx
  rw [hst] at h1 h3
  exact least_same hu (.inr ⟨rfl, h1, by rw [mayB_boundKV]; exact h2, fun y hy hb => h3 y hy (by rw [mayB_boundKV] at hb; exact hb)⟩) hr
theorem least_done {st : List KV → List KV} {pre : List KV} (hst : st pre = kvIt L) (hd : DoneKV st key pre) {e : Ending}
    (hr : (e = .returned (.tuple #[.agg #[.string ⟨#[]⟩, .string ⟨#[]⟩, .int .i64 0], .bool false]) ∧ LeastIt L (mayB (lastKV key pre) (!pre.isEmpty)) .none) ∨
      ∃ x1 x2 x3, e = .returned (.tuple #[.agg #[.string x1, .string x2, .int .i64 (x3 : Nat)], .bool true]) ∧ LeastIt L (mayB (lastKV key pre) (!pre.isEmpty)) (.some (x1, x2, x3))) :
    e = .returned (.tuple #[.agg #[.string ⟨#[]⟩, .string ⟨#[]⟩, .int .i64 0], .bool false]) := by
  rcases hr with ⟨h, _⟩ | ⟨x1, x2, x3, _, r1, r2, _⟩
  · exact h
  · rw [mayB_boundKV] at r2
    unfold DoneKV at hd
    rw [hst] at hd
    have := hd _ (List.mem_map.2 ⟨_, r1, rfl⟩)
    simp only at this
    rw [r2] at this
    cases this
/-- A round: how far it has come. -/
structure RD (w : World) (fresh : ByteArray) (leave : Int) (p b9 b10 C : Nat) (key : ByteArray) (B : List Nat) (L : List It) (b13 s : Nat) (r : Int) (all : List ByteArray) (pre : List KV) (W : World) : Prop where
  fb : FB w fresh leave p b9 b10 C key B L W
  g13 : W.heap[b13]? = some (.cells #[.int .i64 r] TInt (0, 0))
  g14 : W.heap[s]? = some (.cells #[.string (lastKV key pre)] TStr (0, 0))
  g15 : W.heap[s + 1]? = some (.cells #[.bool (!pre.isEmpty)] TBool (0, 0))
  g16 : W.heap[s + 2]? = some (.cells #[.int .i64 pre.length] TInt (0, 0))
  cnt : pre.length + all.countP (bound key pre) ≤ all.length
  lk : (lastKV key pre).size ≤ 20000
theorem RD.kept {b13 s : Nat} {r : Int} {all : List ByteArray} {pre : List KV} (h : RD w fresh leave p b9 b10 C key B L b13 s r all pre W) {B0 : Nat} (hk : Kept B0 W W') (hB : w.heap.size ≤ B0) : RD w fresh leave p b9 b10 C key B L b13 s r all pre W' :=
  ⟨h.fb.kept hk hB, hk.cells h.g13, hk.cells h.g14, hk.cells h.g15, hk.cells h.g16, h.cnt, h.lk⟩
theorem cnt_step {all : List ByteArray} {st : List KV → List KV} {pre : List KV} {x : KV} (hall : ∀ y ∈ st pre, y.1 ∈ all) (hx : NextKV st key pre x) (h : pre.length + all.countP (bound key pre) ≤ all.length) : (pre ++ [x]).length + all.countP (bound key (pre ++ [x])) ≤ all.length := by
  have hlt : all.countP (bound key (pre ++ [x])) < all.countP (bound key pre) := by
    refine countP_lt (fun z hz => ?_) ⟨x.1, hall _ hx.mem, hx.ok, by rw [bound_snoc]; exact klt_irrefl _⟩
    rw [bound_snoc] at hz
    exact bound_up hx.ok hz
  rw [List.length_append, List.length_singleton]
  omega
/-- One told: the three boxes stored. -/
theorem RD.step {b13 s : Nat} {r : Int} {all : List ByteArray} {pre : List KV} {x : KV} (h : RD w fresh leave p b9 b10 C key B L b13 s r all pre W) (hs : s + 2 ∈ B) (h0 : w.heap.size + 3 ≤ s) (h13 : b13 < s) (h9 : b9 < s) (h10 : b10 < s) (hC : C + 1 < s)
    (hcnt : (pre ++ [x]).length + all.countP (bound key (pre ++ [x])) ≤ all.length) (hxs : x.1.size ≤ 20000) :
    RD w fresh leave p b9 b10 C key B L b13 s r all (pre ++ [x]) (((W.setCell ⟨s, 0, none⟩ (.string x.1)).setCell ⟨s + 1, 0, none⟩ (.bool true)).setCell ⟨s + 2, 0, none⟩ (.int .i64 ((pre.length : Int) + 1))) := by
  have k14 := blk_one_set h.g14 (.string x.1)
  have f1 := h.fb.store h.g14 (by decide) (.inr (by decide)) (by omega) (by omega) (by omega) (by omega) (by omega) (.string x.1)
  have j15 : (W.setCell ⟨s, 0, none⟩ (.string x.1)).heap[s + 1]? = _ := (blk_set_other (by show s + 1 ≠ s; omega)).trans h.g15
  have j16 : (W.setCell ⟨s, 0, none⟩ (.string x.1)).heap[s + 2]? = _ := (blk_set_other (by show s + 2 ≠ s; omega)).trans h.g16
  have j13 : (W.setCell ⟨s, 0, none⟩ (.string x.1)).heap[b13]? = _ := (blk_set_other (by show b13 ≠ s; omega)).trans h.g13
  have f2 := f1.store j15 (by decide) (.inr (by decide)) (by omega) (by omega) (by omega) (by omega) (by omega) (.bool true)
  have m14 : ((W.setCell ⟨s, 0, none⟩ (.string x.1)).setCell ⟨s + 1, 0, none⟩ (.bool true)).heap[s]? = _ := (blk_set_other (by show s ≠ s + 1; omega)).trans k14
  have m15 := blk_one_set j15 (.bool true)
  have m16 : ((W.setCell ⟨s, 0, none⟩ (.string x.1)).setCell ⟨s + 1, 0, none⟩ (.bool true)).heap[s + 2]? = _ := (blk_set_other (by show s + 2 ≠ s + 1; omega)).trans j16
  have m13 : ((W.setCell ⟨s, 0, none⟩ (.string x.1)).setCell ⟨s + 1, 0, none⟩ (.bool true)).heap[b13]? = _ := (blk_set_other (by show b13 ≠ s + 1; omega)).trans j13
  have f3 := f2.store m16 (by decide) (.inl hs) (by omega) (by omega) (by omega) (by omega) (by omega) (.int .i64 ((pre.length : Int) + 1))
  refine ⟨f3, (blk_set_other (by show b13 ≠ s + 2; omega)).trans m13, ?_, ?_, ?_, hcnt, by rw [lastKV_snoc]; exact hxs⟩
  · rw [lastKV_snoc]; exact (blk_set_other (by show s ≠ s + 2; omega)).trans m14
  · have he : (!(pre ++ [x]).isEmpty) = true := by simp
    rw [he]; exact (blk_set_other (by show s + 1 ≠ s + 2; omega)).trans m15
  · have hl : (((pre ++ [x]).length : Nat) : Int) = (pre.length : Int) + 1 := by simp
    rw [hl]; exact blk_one_set m16 _
theorem next_size (h : FA w fresh leave p b9 b10 B L W) {st : List KV → List KV} {pre : List KV} (hst : st pre = kvIt L) {x : KV} (hx : NextKV st key pre x) : x.1.size ≤ 20000 := by
  have := hx.mem
  rw [hst] at this
  obtain ⟨y, hy, rfl⟩ := List.mem_map.1 this
  exact h.sz.2 y hy
end

/-! ### round 1: a key is set meanwhile -/
def nwV : ByteArray := ⟨#[110, 101, 119]⟩
theorem putIt_prefix (l : List It) (k : ByteArray) (x : V) (h : Nat) : (kvIt l).map (·.1) <+: (kvIt (putIt l k x h)).map (·.1) := by
  unfold putIt
  split
  · have : (kvIt (l.map fun e => if e.1 = k then (k, x, e.2.2) else e)).map (·.1) = (kvIt l).map (·.1) := by
      simp only [kvIt, List.map_map]
      refine List.map_congr_left fun e _ => ?_
      simp only [Function.comp]
      split
      · rename_i he; exact he.symm
      · rfl
    rw [this]
    exact List.prefix_rfl
  · simp only [kvIt, List.map_append]
    exact List.prefix_append _ _
theorem putIt_len (l : List It) (k : ByteArray) (x : V) (h : Nat) : (putIt l k x h).length ≤ l.length + 1 := by
  unfold putIt
  split <;> simp
theorem all_one {c : Prop} [Decidable c] {A B : List It} {y : KV} (hy : y ∈ kvIt (if c then B else A)) : y.1 ∈ (kvIt A ++ kvIt B).map (·.1) := by
  refine List.mem_map.2 ⟨y, List.mem_append.2 ?_, rfl⟩
  split at hy
  · exact .inr hy
  · exact .inl hy
theorem prefix_one {leave : Int} {A B : List It} (hp : (kvIt A).map (·.1) <+: (kvIt B).map (·.1)) (pre : List KV) (x : KV) :
    (kvIt (if 1 ≤ leave ∧ leave ≤ (pre.length : Int) then B else A)).map (·.1) <+: (kvIt (if 1 ≤ leave ∧ leave ≤ ((pre ++ [x]).length : Int) then B else A)).map (·.1) := by
  by_cases h1 : 1 ≤ leave ∧ leave ≤ (pre.length : Int)
  · rw [if_pos h1, if_pos ⟨h1.1, by simp; omega⟩]; exact List.prefix_rfl
  · rw [if_neg h1]
    split
    · exact hp
    · exact List.prefix_rfl
theorem leaves3 {F : Fence} {n : Nat} {P : Program} {fn : Func} {tmps : Array Value} {R : Ending → World → Prop} {b : Bool} {B D E G : Nat} {w W : World} (hD : W.heap[D]? = some (.deferred (some []))) (hE : W.heap[E]? = some (.deferred (some []))) (hG : W.heap[G]? = some (.deferred (some [])))
    (hne : D ≠ E) (hne2 : D ≠ G) (hne3 : E ≠ G) (hBD : B ≤ D) (hBE : B ≤ E) (hBG : B ≤ G) (h : ResAt P fn tmps b W) (hb : Below B w W) (hR : ∀ w', Below B w w' → R (.returned (.bool b)) w') :
    bodyPostM F n P fn R .ret { tmps := tmps, defers := [{ target := .collected D, args := #[] }, { target := .collected E, args := #[] }, { target := .collected G, args := #[] }] } W := by
  have hE' : (W.putObj D (.deferred none)).heap[E]? = some (.deferred (some [])) := (World.putObj_heap_other (fun e => hne e.symm)).trans hE
  have hG' : ((W.putObj D (.deferred none)).putObj E (.deferred none)).heap[G]? = some (.deferred (some [])) := (World.putObj_heap_other (fun e => hne3 e.symm)).trans ((World.putObj_heap_other (fun e => hne2 e.symm)).trans hG)
  exact ⟨by simp, .inl ⟨_, _, rfl, run_takeDeferred hD, by simp, .inl ⟨_, _, rfl, run_takeDeferred hE', by simp, .inl ⟨_, _, rfl, run_takeDeferred hG', _, (((h.put hD).put hE').put hG').run, hR _ (below_put (below_put (below_put hb hBD) hBE) hBG)⟩⟩⟩⟩
end Go.Proofs.Try.SkS
