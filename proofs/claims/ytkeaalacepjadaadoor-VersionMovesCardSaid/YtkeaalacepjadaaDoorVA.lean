/- VA: texts put together: Lib Seg CopA SkA SkO So1 So2 So3 So4 So5. -/
import Derived.WalkKit
import Derived.WalkLawsBesides
import Derived.WalkSpells
import Derived.Handy
import Derived.Lib.Hide
import Derived.BigQuiet
import Derived.Deep.QuietTactic
import Derived.Outline
import Derived.Deep.AppendSrc
import Derived.Maps.AppendAt
import Derived.Laws.CopyRow
import Derived.Laws.CopyOwn
import Derived.Lib.AppendZerosOnto
import Derived.Lib.AppendZeros
import Derived.Lib.SliceRun
import Derived.OneCell
import Derived.Laws.OwnMore
/- Small laws of our own on worlds, blocks and numbers, used by the walks of this seat. Of whatever program. -/
namespace Go.Cph
open Go.RowKit

/-! ### numbers -/
theorem u64_wrap_nat (n : Nat) : IntKind.u64.wrap (n : Int) = ((n % 18446744073709551616 : Nat) : Int) := by
  rw [IntKind.wrap_u64]; omega
theorem u32_wrap_nat (n : Nat) : IntKind.u32.wrap (n : Int) = ((n % 4294967296 : Nat) : Int) := by
  rw [IntKind.wrap_u32]; omega
@[go_sem] theorem u64_byte (c : UInt8) : IntKind.u64.wrap (c.toNat : Int) = (c.toNat : Int) := IntWalk.u64_in _ (by have := c.toNat_lt; omega)
@[go_sem] theorem i64_byte (c : UInt8) : IntKind.i64.wrap (c.toNat : Int) = (c.toNat : Int) := IntWalk.i64_in _ (by have := c.toNat_lt; omega)
theorem take_snoc (s : ByteArray) (k : Nat) (h : k < s.size) : s.data.toList.take (k + 1) = s.data.toList.take k ++ [s[k]] := by
  rw [List.take_succ_eq_append_getElem (by simpa using h)]; rfl

theorem str_nil (s : ByteArray) (h : s.size = 0) : s.toList = [] := by
  rw [ByteArray.toList_eq]
  exact List.eq_nil_of_length_eq_zero (by rw [Array.length_toList]; exact h)
theorem str_some (s : ByteArray) (h : ¬ s.size = 0) : s.toList.isEmpty = false := by
  rw [ByteArray.toList_eq]
  cases hl : s.data.toList with
  | nil => exact absurd (show s.data.size = 0 by rw [← Array.length_toList, hl]; rfl) h
  | cons a l => rfl

theorem ret_bool {a b : Bool} (h : a = b) : Ending.returned (.bool a) = Ending.returned (.bool b) := by rw [h]
theorem ret_int {k : IntKind} {a b : Int} (h : a = b) : Ending.returned (.int k a) = Ending.returned (.int k b) := by rw [h]
theorem ret_str {a b : ByteArray} (h : a = b) : Ending.returned (.string a) = Ending.returned (.string b) := by rw [h]

/-! ### one block of cells, whole -/
theorem blk_cell {w : World} {b : Nat} {cur : Array Value} {E : TypeId} {fr : Nat × Nat} (h : w.heap[b]? = some (.cells cur E fr)) (j : Nat) :
    w.cell? ⟨b, j, none⟩ = cur[j]? := by simp [World.cell?, h]
theorem blk_frozen {w : World} {b : Nat} {cur : Array Value} {E : TypeId} {fr : Nat × Nat} (h : w.heap[b]? = some (.cells cur E fr)) (j : Nat) :
    w.frozen? ⟨b, j, none⟩ = (decide (fr.1 ≤ j) && decide (j < fr.2)) := by
  obtain ⟨lo, hi⟩ := fr
  simp [World.frozen?, h]
theorem blk_lt {w : World} {b : Nat} {o : Obj} (h : w.heap[b]? = some o) : b < w.heap.size := (Array.getElem?_eq_some_iff.1 h).1
theorem blk_set {w : World} {b : Nat} {cur : Array Value} {E : TypeId} {fr : Nat × Nat} (h : w.heap[b]? = some (.cells cur E fr)) (j : Nat) (v : Value) :
    (w.setCell ⟨b, j, none⟩ v).heap[b]? = some (.cells (cur.setIfInBounds j v) E fr) := by
  simp [World.setCell, Array.getElem?_modify, h]
theorem blk_set_other {w : World} {c : Nat} {a : Addr} {v : Value} (hne : c ≠ a.block) : (w.setCell a v).heap[c]? = w.heap[c]? := by
  simp only [World.setCell, Array.getElem?_modify]
  rw [if_neg (by omega)]
theorem blk_alloc {w : World} {b : Nat} {x : Obj} (h : w.heap[b]? = some x) (o : Obj) : (w.alloc o).heap[b]? = some x := by
  rw [Below.heap_alloc w o b (blk_lt h)]; exact h
theorem blk_below {B : Nat} {w w' : World} (hb : Below B w w') {b : Nat} {x : Obj} (h : w.heap[b]? = some x) (hlt : b < B) : w'.heap[b]? = some x := by
  rw [hb.block b hlt]; exact h
/-- A callee that writes nothing that was there keeps every block. -/
theorem blk_kept {w w' : World} (hb : Below w.heap.size w w') {b : Nat} {x : Obj} (h : w.heap[b]? = some x) : w'.heap[b]? = some x := blk_below hb h (blk_lt h)
theorem cell_kept {w w' : World} (hb : Below w.heap.size w w') {a : Addr} {v : Value} (h : w.cell? a = some v) : w'.cell? a = some v :=
  (hb.cell (World.block_lt_of_cell? w a h)).trans h
theorem below_step {B : Nat} {w0 w w' : World} (h : Below B w0 w) (hb : Below w.heap.size w w') (hB : B ≤ w.heap.size) : Below B w0 w' := h.trans (hb.mono hB)

/-! ### the later worlds of one world, as a type: for a region that draws its order -/
structure Later (B : Nat) (w : World) where
  val : World
  prop : Below B w val
instance laterNonempty (B : Nat) (w : World) : Nonempty (Later B w) := ⟨⟨w, Below.refl _ _⟩⟩
theorem wp_region_later {P : Program} {id : Nat} {Q : Exit → Act → World → Prop} {a : Act} {w : World} {l : List Oper} (B : Nat) (hm : P.follows .mixedOrders = true) (hB : Region.lexB .any l.toArray = true)
    (h : wpQuiet P l.toArray (fun w' => ∃ x : Later B w, w' = x.val) (fun a' => ∀ w', (∃ x : Later B w, w' = x.val) → Q .normal a' w') l a) : (Code.region id l.toArray true).wp P Q a w :=
  wp_region_quiet (C := fun w' => ∃ x : Later B w, w' = x.val) hm hB ⟨⟨_, (Below.refl B w).drew⟩, rfl⟩ (by simpa using h)
theorem Later.calls {P : Program} {f : FuncId} {args : Array Value} {B : Nat} {w : World} {x : Later B w} {v : Value} (hB : B ≤ w.heap.size)
    (h : Calls P f args x.val fun e w' => e = .returned v ∧ Below x.val.heap.size x.val w') : Calls P f args x.val fun e w'' => e = .returned v ∧ ∃ y : Later B w, w'' = y.val :=
  h.mono fun _ w' ⟨he, hb⟩ => ⟨he, ⟨w', x.prop.trans (hb.mono (Nat.le_trans hB x.prop.size))⟩, rfl⟩
theorem Later.cell {B : Nat} {w : World} {p : Addr} {v : Value} (h : w.cell? p = some v) (hp : p.block < B) (x : Later B w) : x.val.cell? p = some v := (x.prop.cell hp).trans h

/-! ### '[]byte(s)', and back -/
theorem conv_bytes {P : Program} (w : World) (src dst e : TypeId) (s : ByteArray) (hs : P.underlying src = some .string) (hd : P.underlying dst = some (.slice e)) (he : P.underlying e = some (.int .u8)) :
    ∃ cap cur w', (convert src dst (.string s)).run P w = .ok (.slice (some ⟨w.heap.size, 0, none⟩) s.size cap) w' ∧ s.size ≤ cap ∧ cur.size = cap ∧ w'.heap[w.heap.size]? = some (.cells cur e (cap, cap + 1)) ∧
      (∀ j (h : j < s.size), cur[j]? = some (.int .u8 (s[j].toNat : Int))) ∧ Below w.heap.size w w' ∧ w'.heap.size = w.heap.size + 1 := by
  have hge := grownCap_ge w s.size 0 e
  have hz : (bytesRow s (grownCap w s.size 0 e)).size = grownCap w s.size 0 e := by
    simp only [bytesRow, Array.size_append, Array.size_map, Array.size_replicate]
    have h2 : s.data.size = s.size := rfl
    omega
  have hrun := run_bytes_of_string w src dst e s hs hd he
  rw [hz] at hrun
  refine ⟨_, _, _, hrun, hge, hz, heap_alloc_new w.drew _, fun j h => bytesRow_at s _ j h, (Below.refl _ _).drew.alloc (Nat.le_refl _) _, ?_⟩
  show (w.drew.heap.push _).size = _
  rw [Array.size_push]; rfl

/-! ### a whole row stored; what lies below -/
theorem below_row {B : Nat} {a w : World} (h : Below B a w) {g : Nat} (hg : B ≤ g) (cs : Array Value) : Below B a (w.setRow g cs) :=
  h.trans ⟨rfl, rfl, rfl, by simp, fun k hk => setRow_other w g k cs (by omega)⟩
/-! ### bytes in a block -/
def bytesV (bs : List UInt8) : Array Value := (bs.map fun c => Value.int .u8 (c.toNat : Int)).toArray
theorem bytesV_size (bs : List UInt8) : (bytesV bs).size = bs.length := by simp [bytesV]
theorem bytesV_at (bs : List UInt8) (j : Nat) (h : j < bs.length) : (bytesV bs)[j]? = some (.int .u8 ((bs.getD j 0).toNat : Int)) := by
  simp [bytesV, List.getD_eq_getElem?_getD, h]
theorem bytesV_set (bs : List UInt8) (j : Nat) (c : UInt8) : (bytesV bs).setIfInBounds j (.int .u8 (c.toNat : Int)) = bytesV (bs.set j c) := by
  unfold bytesV
  apply Array.ext'
  simp [List.map_set]
theorem bytesV_zero (n : Nat) : madeCells #[.int .u8 0] n = bytesV (List.replicate n 0) := by
  apply Array.ext'
  rw [toList_madeCells_one]
  simp [bytesV]
/-- 'make([]byte, n)': one new block of zeros. -/
theorem run_make_bytes {P : Program} (w : World) (t e : TypeId) (ht : P.underlying t = some (.slice e)) (hinfo : (P.info? e).map (fun i => (i.zero, i.size, i.bytes)) = some (some (.int .u8 0), 1, 1))
    (kl kc : IntKind) (n : Nat) (hn : n ≤ 1099511627776) :
    (Instr.makeSlice t (.int kl n) (.int kc n)).run P w = .ok (.slice (some ⟨w.heap.size, 0, none⟩) n n) (w.alloc (.cells (bytesV (List.replicate n 0)) e)) := by
  obtain ⟨i, hi, hz0, hz1, hz2⟩ := info_parts hinfo
  have h := run_make w t e i _ ht hi hz0 kl kc n n (by omega) (by omega) (by rw [hz2]; omega) (by omega)
  rw [h, hz1]
  simp only [Int.toNat_natCast, Nat.mul_one, Value.cells, bytesV_zero]
/-- 'make([]T, n)' of one-cell elements: one new block of zero values. -/
theorem run_make_one {P : Program} (w : World) (t e : TypeId) (z : Value) (bytes : Nat) (ht : P.underlying t = some (.slice e)) (hinfo : (P.info? e).map (fun i => (i.zero, i.size, i.bytes)) = some (some z, 1, bytes))
    (hz : z.cells = #[z]) (kl kc : IntKind) (n : Nat) (hn : n ≤ 1099511627776) (hby : bytes ≤ 256) :
    (Instr.makeSlice t (.int kl n) (.int kc n)).run P w = .ok (.slice (some ⟨w.heap.size, 0, none⟩) n n) (w.alloc (.cells (List.replicate n z).toArray e)) := by
  obtain ⟨i, hi, hz0, hz1, hz2⟩ := info_parts hinfo
  have hm : (i.bytes : Int) * (n : Int) ≤ 256 * 1099511627776 := Int.mul_le_mul (by omega) (by omega) (by omega) (by omega)
  have h := run_make w t e i _ ht hi hz0 kl kc n n (by omega) (by omega) (by omega) (by omega)
  rw [h, hz1]
  have e : madeCells z.cells n = (List.replicate n z).toArray := by
    rw [hz]; apply Array.ext'; rw [toList_madeCells_one]
  simp only [Int.toNat_natCast, Nat.mul_one, e]
/-- 'string(b)': the bytes as they lie. -/
theorem run_string_of_bytes {P : Program} (w : World) (src dst e : TypeId) (hs : P.underlying src = some (.slice e)) (he : P.underlying e = some (.int .u8)) (hd : P.underlying dst = some .string)
    (b cap : Nat) (bs : List UInt8) (hc : ∀ j, j < bs.length → w.cell? ⟨b, j, none⟩ = some (.int .u8 ((bs.getD j 0).toNat : Int))) :
    (convert src dst (.slice (some ⟨b, 0, none⟩) bs.length cap)).run P w = .ok (.string ⟨bs.toArray⟩) w := by
  refine run_convert_bytes_back w src dst e ⟨b, 0, none⟩ cap bs hs he hd fun j hj => ?_
  have hadd : (⟨b, 0, none⟩ : Addr).add j = ⟨b, j, none⟩ := by unfold Addr.add; split <;> simp_all
  rw [hadd, hc j hj]
  simp [List.getD_eq_getElem?_getD, hj]
/-- A slice of strings that came in, or was made: its length is the list's, and its cells hold the strings. -/
def StrsAt (w : World) (v : Value) (ss : List ByteArray) : Prop :=
  ∃ ao cap, v = .slice ao ss.length cap ∧ (0 < ss.length → ∃ b off, ao = some ⟨b, off, none⟩ ∧ ∀ j (h : j < ss.length), w.cell? ⟨b, off + j, none⟩ = some (.string ss[j]))
theorem StrsAt.kept {w w' : World} {v : Value} {ss : List ByteArray} (h : StrsAt w v ss) (hb : Below w.heap.size w w') : StrsAt w' v ss := by
  obtain ⟨ao, cap, rfl, h⟩ := h
  refine ⟨ao, cap, rfl, fun h0 => ?_⟩
  obtain ⟨b, off, rfl, hc⟩ := h h0
  exact ⟨b, off, rfl, fun j hj => cell_kept hb (hc j hj)⟩

/-! ### what an owned row that is not empty gives -/
theorem owns_shape {w : World} {base : Nat} {e : TypeId} {size : Nat} {v : Value} {n : Nat} {xs : List Value} (h : w.ownsRow base e size v n xs) (hn : 0 < n) :
    ∃ g cap, v = .slice (some ⟨g, 0, none⟩) n cap ∧ base ≤ g ∧ g < w.heap.size ∧ n ≤ cap ∧ (∀ j, j < n * size → w.cell? ⟨g, j, none⟩ = xs[j]?) ∧ (∀ j, w.frozen? ⟨g, j, none⟩ = false) := by
  have hown := h
  obtain ⟨_, h2⟩ := h
  rcases h2 with ⟨_, h0⟩ | ⟨g, cap, cur, rfl, hb, hg, hc, _, _, _⟩
  · omega
  · exact ⟨g, cap, rfl, hb, blk_lt hg, hc, fun j hj => hown.cellAt j hj, fun j => hown.frozenAt j⟩

/-! ### append of one element (a struct's cells, or one cell), laid in a new block right ahead of it -/
theorem below_grown {B : Nat} {w0 w w' : World} {v : Value} {base : Nat} {e : TypeId} {size n : Nat} {xs : List Value} (h : Below B w0 w) (hg : w.grownBy w' v.ownBlock)
    (hown : w.ownsRow base e size v n xs) (hB : B ≤ base) (hBw : B ≤ w.heap.size) : Below B w0 w' :=
  h.grown hg hBw fun k hk => Nat.le_trans hB (hown.lt k hk).1
theorem wpList_append1 {P : Program} {ops : Array Oper} {rest : List Oper} {o : Oper} {a : Act} {W : World} {Q : Exit → Act → World → Prop} (hgd : o.guard = none) (s x : Operand) (t : TypeId)
    (ho : o.op = .call { callee := .builtin .append, args := #[s, x], argTypes := #[t, t] })
    (base : Nat) (e : TypeId) (z : Value) (size bytes : Nat) (ht : P.underlying t = some (.slice e)) (hinfo : (P.info? e).map (fun i => (i.zero, i.size, i.bytes)) = some (some z, size, bytes))
    (hzs : z.cells.size = size) (hsz : 0 < size) (v : Value) (n : Nat) (xs us : List Value) (hs : a.eval s = v) (hown : W.ownsRow base e size v n xs)
    (cells : Array Value) (c : Nat) (hx : a.eval x = .slice (some ⟨W.heap.size, 0, none⟩) 1 c) (hcells : cells.toList = us) (hus : us.length = size) (h1 : ∀ u ∈ us, u.oneCell' = true)
    (h63 : n + 1 ≤ 1099511627776) (hbytes : bytes ≤ 128) (hbase : base ≤ W.heap.size) (B : Nat) (w0 : World) (hb : Below B w0 W) (hB : B ≤ base)
    (h : ∀ v' w', w'.ownsRow base e size v' (n + 1) (xs ++ us) → (W.alloc (.cells cells e)).grownBy w' v.ownBlock → Below B w0 w' → W.heap.size < w'.heap.size → wpList P ops Q rest (a.put o.dst v') w') :
    wpList P ops Q (o :: rest) a (W.alloc (.cells cells e)) := by
  obtain ⟨i, hi, hz0, hz1, hz2⟩ := info_parts hinfo
  have hbl : Below B w0 (W.alloc (.cells cells e)) := hb.alloc (Nat.le_trans hB hbase) _
  have hown' := hown.alloc (.cells cells e)
  have hsize : (W.alloc (.cells cells e)).heap.size = W.heap.size + 1 := by show (W.heap.push _).size = _; rw [Array.size_push]
  refine wpList_append_own _ hgd s x t ho base e i z size bytes ht hi hz0 hz1 hz2 hzs hsz v n xs hs hown' ⟨W.heap.size, 0, none⟩ 1 c us hx (by rw [hus, Nat.one_mul]) ?_ h1 (by unfold maxLen; omega) ?_ (by rw [hsize]; omega) ?_
  · intro j u hj
    have hadd : (⟨W.heap.size, 0, none⟩ : Addr).add j = ⟨W.heap.size, j, none⟩ := by unfold Addr.add; split <;> simp_all
    rw [hadd, blk_cell (heap_alloc_new W _)]
    rw [← hcells] at hj
    simpa using hj
  · exact Nat.le_trans (Nat.mul_le_mul h63 hbytes) (by omega)
  · intro v' w' h2 h3 _
    refine h v' w' h2 h3 (below_grown hbl h3 hown' hB (by rw [hsize]; omega)) ?_
    have := h3.size
    rw [hsize] at this
    omega

end Go.Cph

/- Slices whose elements have several cells, as lists: where they lie; appended to a slice without elements. Of whatever program. -/
set_option linter.unusedVariables false
set_option linter.unusedSimpArgs false
namespace Go.Cph
open Go.RowKit

theorem flat_length {α : Type} {enc : α → List Value} {size : Nat} (hs : ∀ x, (enc x).length = size) : ∀ l : List α, (l.flatMap enc).length = l.length * size
  | [] => by simp
  | x :: l => by rw [List.flatMap_cons, List.length_append, hs, flat_length hs l, List.length_cons, Nat.succ_mul]; omega
theorem flat_at {α : Type} {enc : α → List Value} {size : Nat} (hs : ∀ x, (enc x).length = size) : ∀ (l : List α) (i : Nat) (h : i < l.length) (j : Nat), j < size → (l.flatMap enc)[i * size + j]? = (enc l[i])[j]?
  | [], i, h, _, _ => absurd h (by simp)
  | x :: l, 0, h, j, hj => by
    rw [List.flatMap_cons, List.getElem?_append_left (by rw [hs]; omega)]
    simp
  | x :: l, i + 1, h, j, hj => by
    have ih := flat_at hs l i (by simpa using h) j hj
    rw [List.flatMap_cons, List.getElem?_append_right (by rw [hs, Nat.succ_mul]; omega), hs]
    rw [List.getElem_cons_succ, ← ih]
    congr 1
    rw [Nat.succ_mul]; omega

theorem flat_set {α : Type} {enc : α → List Value} {size : Nat} (hs : ∀ x, (enc x).length = size) : ∀ (l : List α) (i : Nat) (h : i < l.length) (j : Nat), j < size → ∀ (y : α) (u : Value), enc y = (enc l[i]).set j u →
    (l.flatMap enc).set (i * size + j) u = (l.set i y).flatMap enc
  | [], i, h, _, _, _, _, _ => absurd h (by simp)
  | x :: l, 0, h, j, hj, y, u, hy => by
    rw [List.flatMap_cons, List.set_append_left _ _ (by rw [hs]; omega)]
    simp only [List.set_cons_zero, List.flatMap_cons, hy, List.getElem_cons_zero, Nat.zero_mul, Nat.zero_add]
  | x :: l, i + 1, h, j, hj, y, u, hy => by
    have ih := flat_set hs l i (by simpa using h) j hj y u (by simpa using hy)
    rw [List.flatMap_cons, List.set_append_right _ _ (by rw [hs, Nat.succ_mul]; omega), hs, List.set_cons_succ, List.flatMap_cons, ← ih]
    congr 2
    rw [Nat.succ_mul]; omega

/-- A slice of n elements of so many cells, whose cells are xs. -/
structure Seg (w : World) (size : Nat) (v : Value) (n : Nat) (xs : List Value) : Prop where
  out : ∃ ao cap, v = .slice ao n cap ∧ (0 < n → ∃ b off, ao = some ⟨b, off, none⟩ ∧ ∀ j, j < n * size → w.cell? ⟨b, off + j, none⟩ = xs[j]?)
  len : xs.length = n * size
theorem Seg.kept {w w' : World} {size : Nat} {v : Value} {n : Nat} {xs : List Value} (h : Seg w size v n xs) (hb : Below w.heap.size w w') : Seg w' size v n xs := by
  obtain ⟨⟨ao, cap, rfl, h⟩, hl⟩ := h
  refine ⟨⟨ao, cap, rfl, fun h0 => ?_⟩, hl⟩
  obtain ⟨b, off, rfl, hc⟩ := h h0
  refine ⟨b, off, rfl, fun j hj => ?_⟩
  have hj' : j < xs.length := by omega
  have := hc j hj
  rw [List.getElem?_eq_getElem hj'] at this ⊢
  exact cell_kept hb this
theorem Seg.of_owns {w : World} {base : Nat} {e : TypeId} {size : Nat} {v : Value} {n : Nat} {xs : List Value} (h : w.ownsRow base e size v n xs) : Seg w size v n xs := by
  have hown := h
  obtain ⟨hl, h2⟩ := h
  refine ⟨?_, hl⟩
  rcases h2 with ⟨h2, h3⟩ | ⟨g, cap, cur, rfl, hb, hg, hc, _, _, _⟩
  · exact ⟨none, 0, by rw [h2, h3], fun h => by omega⟩
  · exact ⟨_, _, rfl, fun _ => ⟨g, 0, rfl, fun j hj => by rw [Nat.zero_add]; exact hown.cellAt j hj⟩⟩
theorem Seg.nil (w : World) (size : Nat) : Seg w size (.slice none 0 0) 0 [] := ⟨⟨_, _, rfl, fun h => by omega⟩, by simp⟩

/-- A slice that reads as a list. -/
abbrev Elems {α : Type} (enc : α → List Value) (size : Nat) (w : World) (v : Value) (l : List α) : Prop := Seg w size v l.length (l.flatMap enc)
section
variable {α : Type} {enc : α → List Value} {size : Nat} {w : World} {v : Value} {l : List α}
theorem elems_slice (h : Elems enc size w v l) : ∃ ao cap, v = .slice ao l.length cap := by
  obtain ⟨⟨ao, cap, hv, _⟩, _⟩ := h
  exact ⟨ao, cap, hv⟩
theorem elems_shape (hs : ∀ x, (enc x).length = size) (h : Elems enc size w v l) (h0 : 0 < l.length) :
    ∃ b off cap, v = .slice (some ⟨b, off, none⟩) l.length cap ∧ ∀ i (hi : i < l.length), ∀ j, j < size → w.cell? ⟨b, off + i * size + j, none⟩ = (enc l[i])[j]? := by
  obtain ⟨⟨ao, cap, rfl, h⟩, hl⟩ := h
  obtain ⟨b, off, rfl, hc⟩ := h h0
  refine ⟨b, off, cap, rfl, fun i hi j hj => ?_⟩
  have hlt : i * size + j < l.length * size := by
    have : (i + 1) * size ≤ l.length * size := Nat.mul_le_mul_right _ hi
    rw [Nat.succ_mul] at this
    omega
  rw [Nat.add_assoc, hc _ hlt, flat_at hs l i hi j hj]
theorem owns_len {w : World} {base : Nat} {e : TypeId} {v : Value} {n : Nat} {xs : List Value} (h : w.ownsRow base e size v n xs) : n ≤ maxLen := by
  obtain ⟨_, h2⟩ := h
  rcases h2 with ⟨_, h2⟩ | ⟨g, cap, cur, _, _, _, h3, h4, _⟩
  · omega
  · exact Nat.le_trans h3 h4
end

theorem owns_slice_cap {w : World} {base : Nat} {e : TypeId} {size g n cp : Nat} {xs : List Value} (h : w.ownsRow base e size (.slice (some ⟨g, 0, none⟩) n cp) n xs) :
    ∃ g' cap', (Value.slice (some ⟨g, 0, none⟩) n cp = .slice (some ⟨g', 0, none⟩) n cap') ∧ base ≤ g' ∧ g' < w.heap.size ∧ n ≤ cap' ∧ True := by
  obtain ⟨_, h2⟩ := h
  rcases h2 with ⟨h2, _⟩ | ⟨g', cap', cur, h2, hb, hg, hc, _⟩
  · cases h2
  · exact ⟨g', cap', h2, hb, blk_lt hg, hc, trivial⟩
theorem run_append_seg {P : Program} (w : World) (t ty e : TypeId) (z : Value) (size bytes : Nat) (ht : P.underlying t = some (.slice e)) (hinfo : (P.info? e).map (fun i => (i.zero, i.size, i.bytes)) = some (some z, size, bytes))
    (hzs : z.cells.size = size) (hsz : 0 < size) {base : Nat} {v : Value} {n : Nat} {xs : List Value} (hown : w.ownsRow base e size v n xs) {src : Value} {m : Nat} {news : List Value} (hsrc : Seg w size src m news) (h1 : ∀ u ∈ news, u.oneCell' = true)
    (h63 : n + m ≤ 1099511627776) (hbytes : bytes ≤ 128) (hbase : base ≤ w.heap.size) :
    ∃ v' w', (Builtin.append_ #[t, t] ty #[v, src]).run P w = .ok v' w' ∧ w'.ownsRow base e size v' (n + m) (xs ++ news) ∧ w.grownBy w' v.ownBlock ∧ (v'.ownBlock = v.ownBlock ∨ v'.ownBlock = some w.heap.size) := by
  obtain ⟨i, hi, hz0, hz1, hz2⟩ := info_parts hinfo
  have hb : (n + m) * bytes ≤ 140737488355328 := Nat.le_trans (Nat.mul_le_mul h63 hbytes) (by omega)
  obtain ⟨⟨ao, cap, rfl, hc⟩, hl⟩ := hsrc
  have hsome : ∀ a c, ao = some a → (∀ j u, news[j]? = some u → w.cell? (a.add j) = some u) → _ := fun a c (_ : ao = some a) hn =>
    run_append_own_at (P := P) w base t ty e i z size bytes ht hi hz0 hz1 hz2 hzs hsz v n xs hown a m c news hl hn h1 (by unfold maxLen; omega) hb hbase
  rcases Nat.eq_zero_or_pos m with rfl | h0
  · obtain rfl : news = [] := List.eq_nil_of_length_eq_zero (by simpa using hl)
    cases ao with
    | some a =>
      obtain ⟨v', w', r1, r2, r3, _, r5⟩ := hsome a cap rfl (by simp)
      exact ⟨v', w', r1, r2, r3, r5⟩
    | none =>
      have hown' := hown
      obtain ⟨hx, h2⟩ := hown'
      rcases h2 with ⟨rfl, rfl⟩ | ⟨g, cp, cur, rfl, _⟩
      · refine ⟨.slice none 0 0, w, ?_, by simpa using hown, ⟨rfl, rfl, rfl, Nat.le_refl _, fun _ _ _ => rfl⟩, .inl rfl⟩
        simp [Builtin.append_, run_underlying ht, sizeOf, typeInfo, hi, Builtin.lenOf, Builtin.firstCells, loadCells, loadCellsFrom]
      · have hle : n ≤ cp := by
          obtain ⟨_, _, h3, _, _, h4, _⟩ := owns_slice_cap hown
          cases h3; exact h4
        have h := run_append_room_src (P := P) w t t ty e i ht hi g 0 n cp (.slice none 0 cap) 0 [] (Src.ofNil (size := i.size) w ht cap) (by omega) (by simp) (by simp)
        refine ⟨_, _, h, ?_, ?_, .inl rfl⟩
        · simpa [World.setCells] using hown
        · simpa [World.setCells] using (⟨rfl, rfl, rfl, Nat.le_refl _, fun _ _ _ => rfl⟩ : w.grownBy w _)
  · obtain ⟨b, off, rfl, hcc⟩ := hc h0
    obtain ⟨v', w', r1, r2, r3, _, r5⟩ := hsome ⟨b, off, none⟩ cap rfl (fun j u hu => by
      have hj : j < news.length := (List.getElem?_eq_some_iff.1 hu).1
      have hadd : (⟨b, off, none⟩ : Addr).add j = ⟨b, off + j, none⟩ := by unfold Addr.add; split <;> simp_all
      rw [hadd, hcc j (by omega), hu])
    exact ⟨v', w', r1, r2, r3, r5⟩
theorem wpList_append_seg {P : Program} {ops : Array Oper} {rest : List Oper} {o : Oper} {a : Act} {w : World} {Q : Exit → Act → World → Prop} (hgd : o.guard = none) (s x : Operand) (t : TypeId)
    (ho : o.op = .call { callee := .builtin .append, args := #[s, x], argTypes := #[t, t] })
    (base : Nat) (e : TypeId) (z : Value) (size bytes : Nat) (ht : P.underlying t = some (.slice e)) (hinfo : (P.info? e).map (fun i => (i.zero, i.size, i.bytes)) = some (some z, size, bytes))
    (hzs : z.cells.size = size) (hsz : 0 < size) (v : Value) (n : Nat) (xs : List Value) (hs : a.eval s = v) (hown : w.ownsRow base e size v n xs)
    (src : Value) (m : Nat) (news : List Value) (hx : a.eval x = src) (hsrc : Seg w size src m news) (h1 : ∀ u ∈ news, u.oneCell' = true)
    (h63 : n + m ≤ 1099511627776) (hbytes : bytes ≤ 128) (hbase : base ≤ w.heap.size)
    (h : ∀ v' w', w'.ownsRow base e size v' (n + m) (xs ++ news) → w.grownBy w' v.ownBlock → (v'.ownBlock = v.ownBlock ∨ v'.ownBlock = some w.heap.size) → wpList P ops Q rest (a.put o.dst v') w') :
    wpList P ops Q (o :: rest) a w := by
  refine wpList_plain hgd fun K hK => ?_
  obtain ⟨v', w', hr, h2, h3, h5⟩ := run_append_seg (P := P) w t o.type e z size bytes ht hinfo hzs hsz hown hsrc h1 h63 hbytes hbase
  unfold Oper.wp execOp
  simp only [ho, resolve, invoke, builtin, Sem.run_bind, Sem.run_pure, Result.andThen_ok, List.map_toArray, List.map_cons, List.map_nil, hs, hx, hr]
  exact hK _ _ (h v' w' h2 h3 h5)
/-- An empty slice that is not nil owns its block. -/
theorem owns_empty {w : World} {g : Nat} {e : TypeId} (hg : w.heap[g]? = some (.cells #[] e (0, 0))) {base : Nat} (hb : base ≤ g) (size : Nat) : w.ownsRow base e size (.slice (some ⟨g, 0, none⟩) 0 0) 0 [] :=
  ⟨by simp, .inr ⟨g, 0, #[], rfl, hb, hg, Nat.le_refl _, by unfold maxLen; omega, by simp, by simp⟩⟩
theorem owns_slice1 {w : World} {base : Nat} {e : TypeId} {size : Nat} {v : Value} {n : Nat} {xs : List Value} (h : w.ownsRow base e size v n xs) : ∃ ao cap, v = .slice ao n cap := by
  obtain ⟨_, h2⟩ := h
  rcases h2 with ⟨h2, h3⟩ | ⟨g, cap, cur, h2, _⟩
  · exact ⟨_, _, by rw [h2, h3]⟩
  · exact ⟨_, _, h2⟩
theorem owns_drewN {w : World} {base : Nat} {e : TypeId} {size : Nat} {v : Value} {n : Nat} {xs : List Value} (h : w.ownsRow base e size v n xs) (k : Nat) : (w.drewN k).ownsRow base e size v n xs := h
theorem owns_mono {w : World} {base base' : Nat} {e : TypeId} {size : Nat} {v : Value} {n : Nat} {xs : List Value} (h : w.ownsRow base e size v n xs) (hb : base' ≤ base) : w.ownsRow base' e size v n xs := by
  obtain ⟨h1, h2⟩ := h
  refine ⟨h1, ?_⟩
  rcases h2 with h2 | ⟨g, cap, cur, h3, h4, r⟩
  · exact .inl h2
  · exact .inr ⟨g, cap, cur, h3, Nat.le_trans hb h4, r⟩
end Go.Cph

/- copy, clear, and append of a make, at rows whose elements have several cells. Of whatever program. -/
set_option linter.unusedVariables false
set_option linter.unusedSimpArgs false
namespace Go.Cph
open Go.RowKit

theorem run_copy_rowK {P : Program} (w : World) (dT sT ty elem : TypeId) (size g o dLen dCap : Nat) (a : Addr) (sLen sCap : Nat) (cur : Array Value) (t : TypeId) (cs : List Value)
    (hu : P.underlying dT = some (.slice elem)) (hs : (P.info? elem).map (·.size) = some size)
    (hg : w.heap[g]? = some (.cells cur t (0, 0))) (hn : cs.length = Nat.min sLen dLen * size)
    (hsrc : ∀ j v, cs[j]? = some v → w.cell? (a.add j) = some v) (hfit : o + cs.length ≤ cur.size) (h1 : ∀ v ∈ cs, v.oneCell' = true) :
    (Builtin.copy_ #[dT, sT] ty #[.slice (some ⟨g, o, none⟩) dLen dCap, .slice (some a) sLen sCap]).run P w =
      .ok (goInt (Nat.min sLen dLen)) (w.setRow g (cur.toList.take o ++ cs ++ cur.toList.drop (o + cs.length)).toArray) := by
  have hl := run_loadCells_list (P := P) w a cs hsrc
  have hst := run_storeCells_at P g o t cs 0 cur w hg (by simpa using hfit) h1
  cases hq : P.info? elem with
  | none => simp [hq] at hs
  | some i =>
    have hi : i.size = size := by simpa [hq] using hs
    simp [Builtin.copy_, run_underlying hu, Builtin.lenOf, Builtin.firstCells, sizeOf, typeInfo, hq, hi, ← hn, hl, hst]

theorem owns_block {w : World} {base : Nat} {e : TypeId} {size g n cap : Nat} {xs : List Value} (h : w.ownsRow base e size (.slice (some ⟨g, 0, none⟩) n cap) n xs) :
    ∃ cur, base ≤ g ∧ w.heap[g]? = some (.cells cur e (0, 0)) ∧ n ≤ cap ∧ cap ≤ maxLen ∧ cur.size = cap * size ∧ cur.toList.take (n * size) = xs := by
  obtain ⟨_, h2⟩ := h
  rcases h2 with ⟨h2, _⟩ | ⟨g', cap', cur, h2, h3, h4, h5, h6, h7, h8⟩
  · cases h2
  · cases h2
    exact ⟨cur, h3, h4, h5, h6, h7, h8⟩
theorem grown_setRow (w : World) (g : Nat) (cs : Array Value) : w.grownBy (w.setRow g cs) (some g) :=
  ⟨rfl, rfl, rfl, by simp, fun k _ hk => setRow_other w g k cs (by intro e; exact hk (by rw [e]))⟩
/-- copy into a part of a row of the call's own. -/
theorem run_copy_own {P : Program} (w : World) (dT sT elem : TypeId) (size : Nat) (hu : P.underlying dT = some (.slice elem)) (hs : (P.info? elem).map (·.size) = some size)
    {base g n cap : Nat} {xs : List Value} (hown : w.ownsRow base elem size (.slice (some ⟨g, 0, none⟩) n cap) n xs) (i dLen : Nat) (a : Addr) (sLen : Nat) (cs : List Value)
    (hil : i + dLen ≤ n) (hn : cs.length = Nat.min sLen dLen * size) (hsrc : ∀ j v, cs[j]? = some v → w.cell? (a.add j) = some v) (h1 : ∀ v ∈ cs, v.oneCell' = true) :
    ∃ w', (∀ ty dCap sCap, (Builtin.copy_ #[dT, sT] ty #[.slice (some ⟨g, i * size, none⟩) dLen dCap, .slice (some a) sLen sCap]).run P w = .ok (goInt (Nat.min sLen dLen)) w') ∧
      w'.ownsRow base elem size (.slice (some ⟨g, 0, none⟩) n cap) n (splice xs (i * size) cs) ∧ w.grownBy w' (some g) ∧ w'.heap.size = w.heap.size := by
  obtain ⟨cur, hb, hg, hnc, hcm, hcs, hx⟩ := owns_block hown
  have hmin : Nat.min sLen dLen ≤ dLen := Nat.min_le_right _ _
  have hfit1 : i * size + cs.length ≤ n * size := by
    rw [hn, ← Nat.add_mul]
    exact Nat.mul_le_mul_right _ (by omega)
  have hnc' : n * size ≤ cap * size := Nat.mul_le_mul_right _ hnc
  refine ⟨_, fun ty dCap sCap => run_copy_rowK w dT sT ty elem size g (i * size) dLen dCap a sLen sCap cur elem cs hu hs hg hn hsrc (by omega) h1, ?_, grown_setRow _ _ _, by simp⟩
  have hlx : xs.length = n * size := hown.1
  have hcl : cur.toList.length = cap * size := by simpa using hcs
  refine ⟨by rw [length_splice _ _ _ (by omega)]; exact hlx, .inr ⟨g, cap, _, rfl, hb, setRow_heap w g cur _ elem _ hg, hnc, hcm, ?_, ?_⟩⟩
  · simp; omega
  · show List.take (n * size) (cur.toList.take (i * size) ++ cs ++ cur.toList.drop (i * size + cs.length)) = _
    unfold splice
    rw [← hx, List.take_append, List.take_of_length_le (by simp; omega), List.append_assoc]
    congr 1
    · rw [List.take_take, Nat.min_eq_left (by omega)]
    · congr 1
      rw [List.length_append, List.length_take, hcl, Nat.min_eq_left (by omega), List.drop_take]
theorem wpList_copyK {P : Program} {w : World} {ops : Array Oper} {rest : List Oper} {o : Oper} {a : Act} {Q : Exit → Act → World → Prop} (hgd : o.guard = none) (d s : Operand) (dT sT : TypeId)
    (ho : o.op = .call { callee := .builtin .copy, args := #[d, s], argTypes := #[dT, sT] }) (v u : Value) (hd : a.eval d = v) (hs : a.eval s = u) {v' : Value} {w' : World}
    (hr : (Builtin.copy_ #[dT, sT] o.type #[v, u]).run P w = .ok v' w') (h : wpList P ops Q rest (a.put o.dst v') w') : wpList P ops Q (o :: rest) a w := by
  refine wpList_plain hgd fun K hK => ?_
  unfold Oper.wp execOp
  simp only [ho, resolve, invoke, builtin, Sem.run_bind, Sem.run_pure, Result.andThen_ok, List.map_toArray, List.map_cons, List.map_nil, hd, hs, hr]
  exact hK _ _ h
theorem step_copyK {P : Program} {ops : Array Oper} {o : Oper} {a : Act} {w : World} {K : Act → World → Prop} {Q : Exit → Act → World → Prop} {E : Prop}
    (hg : o.guard = none) (d x : Operand) (dT sT : TypeId) (hop : o.op = Op.call { callee := Callee.builtin Builtin.copy, args := #[d, x], argTypes := #[dT, sT] })
    (v u : Value) (hd : a.eval d = v) (hx : a.eval x = u) {v' : Value} {w' : World} (hr : (Builtin.copy_ #[dT, sT] o.type #[v, u]).run P w = .ok v' w') (hK : K (a.put o.dst v') w') :
    if Region.wanted o (yielded ops a.tmps) = true then Oper.wp P o a w K Q else E := by
  have hw : Region.wanted o (yielded ops a.tmps) = true := by simp [Region.wanted, hg]
  rw [if_pos hw]
  unfold Oper.wp
  simp [execOp, hop, resolve, invoke, builtin, hd, hx, hr, Result.andThen]
  exact hK

/-- A row that has room, with more of its elements. -/
theorem owns_reslice {w : World} {base : Nat} {e : TypeId} {size g n cap : Nat} {xs : List Value} (h : w.ownsRow base e size (.slice (some ⟨g, 0, none⟩) n cap) n xs) {m : Nat} (hn : n ≤ m) (hm : m ≤ cap) :
    ∃ ys, ys.length = (m - n) * size ∧ w.ownsRow base e size (.slice (some ⟨g, 0, none⟩) m cap) m (xs ++ ys) := by
  obtain ⟨cur, hb, hg, hnc, hcm, hcs, hx⟩ := owns_block h
  have hcl : cur.toList.length = cap * size := by simpa using hcs
  have h1 : n * size ≤ m * size := Nat.mul_le_mul_right _ hn
  have h2 : m * size ≤ cap * size := Nat.mul_le_mul_right _ hm
  have hsub : (m - n) * size = m * size - n * size := Nat.sub_mul _ _ _
  refine ⟨(cur.toList.take (m * size)).drop (n * size), by rw [List.length_drop, List.length_take, hcl]; omega, ?_, .inr ⟨g, cap, cur, rfl, hb, hg, hm, hcm, hcs, ?_⟩⟩
  · rw [List.length_append, h.1, List.length_drop, List.length_take, hcl]; omega
  · rw [← hx]
    conv => lhs; rw [← List.take_append_drop (n * size) (cur.toList.take (m * size))]
    rw [List.take_take, Nat.min_eq_left h1]
/-- A row's first elements alone. -/
theorem owns_less {w : World} {base : Nat} {e : TypeId} {size g n cap : Nat} {xs : List Value} (h : w.ownsRow base e size (.slice (some ⟨g, 0, none⟩) n cap) n xs) {m : Nat} (hm : m ≤ n) :
    w.ownsRow base e size (.slice (some ⟨g, 0, none⟩) m cap) m (xs.take (m * size)) := by
  obtain ⟨cur, hb, hg, hnc, hcm, hcs, hx⟩ := owns_block h
  have h1 : m * size ≤ n * size := Nat.mul_le_mul_right _ hm
  refine ⟨by rw [List.length_take, h.1]; omega, .inr ⟨g, cap, cur, rfl, hb, hg, by omega, hcm, hcs, ?_⟩⟩
  rw [← hx, List.take_take, Nat.min_eq_left h1]
theorem zeroCells_length {z : Array Value} (n : Nat) : (Builtin.zeroCells z n).toList.length = n * z.size := by simp [Builtin.zeroCells]
/-- append of a make, where it must grow: a new row. -/
theorem run_append_make {P : Program} (w : World) (t tn e : TypeId) (z : Value) (size bytes : Nat) (kq kn : IntKind) (ht : P.underlying t = some (.slice e)) (htn : P.underlying tn = some (.int kn))
    (hinfo : (P.info? e).map (fun i => (i.zero, i.size, i.bytes)) = some (some z, size, bytes)) (hzs : z.cells.size = size) (hsz : 0 < size)
    {base g n cap : Nat} {xs : List Value} (hown : w.ownsRow base e size (.slice (some ⟨g, 0, none⟩) n cap) n xs) (i k : Nat) (hi : i ≤ n) (h0 : 0 < k) (hg : cap < i + k) (h63 : i + k ≤ 1099511627776) (hbytes : bytes ≤ 128) :
    ∃ G zs w', (∀ ty, (Builtin.append_ #[t, tn] ty #[.slice (some ⟨g, 0, none⟩) i cap, .int kq k]).run P w = .ok (.slice (some ⟨w.heap.size, 0, none⟩) (i + k) G) w') ∧
      w'.ownsRow w.heap.size e size (.slice (some ⟨w.heap.size, 0, none⟩) (i + k) G) (i + k) (xs.take (i * size) ++ zs) ∧ zs.length = k * size ∧ Below w.heap.size w w' ∧ w'.heap.size = w.heap.size + 1 ∧ i + k ≤ G ∧ G ≤ maxLen := by
  obtain ⟨ti, hti, hz0, hz1, hz2⟩ := info_parts hinfo
  have hless := owns_less hown hi
  have hb : (i + k) * bytes ≤ 140737488355328 := Nat.le_trans (Nat.mul_le_mul h63 hbytes) (by omega)
  have hkb : k * bytes ≤ 140737488355328 := Nat.le_trans (Nat.mul_le_mul (by omega) hbytes) (by omega : 1099511627776 * 128 ≤ 140737488355328)
  have hold : (Builtin.firstCells ti.size i (.slice (some ⟨g, 0, none⟩) i cap)).run P w.drew = .ok (xs.take (i * size)).toArray w.drew := by
    rw [hz1]
    exact run_firstCells_some w.drew size i ⟨g, 0, none⟩ i cap (xs.take (i * size)) hless.1 (fun j v hj => by
      have hadd : (⟨g, 0, none⟩ : Addr).add j = ⟨g, j, none⟩ := by unfold Addr.add; split <;> simp_all
      have hlt : j < i * size := by rw [← hless.1]; exact (List.getElem?_eq_some_iff.1 hj).1
      rw [hadd]
      exact (hless.cellAt j hlt).trans hj)
  have h := fun ty => Lib.run_append_grow_zeros w t tn ty e ti z kq kn ht htn hti hz0 (some ⟨g, 0, none⟩) i cap (xs.take (i * size)) hold k h0 (by rw [hz1]; exact hsz) hg (by omega) (by rw [hz2]; omega) (by rw [hz2]; exact growslice_fits hg hb)
  have hG := grownCap_ge w (i + k) cap e
  have hGm := grownCap_le_maxLen w (i + k) cap e (by unfold maxLen; omega)
  generalize grownCap w (i + k) cap e = G at *
  refine ⟨G, (Builtin.zeroCells z.cells k).toList, _, h, ⟨?_, .inr ⟨w.heap.size, G, _, rfl, Nat.le_refl _, heap_alloc_new w.drew _, hG, hGm, ?_, ?_⟩⟩, by rw [zeroCells_length, hzs], (Below.refl _ _).drew.alloc (Nat.le_refl _) _, ?_, hG, hGm⟩
  · rw [List.length_append, hless.1, zeroCells_length, hzs, ← Nat.add_mul]
  · have e1 := hless.1
    have e2 : (Builtin.zeroCells z.cells k).size = k * size := by have := zeroCells_length (z := z.cells) k; rw [hzs] at this; simpa using this
    have e3 : (Builtin.zeroCells z.cells (G - (i + k))).size = (G - (i + k)) * size := by have := zeroCells_length (z := z.cells) (G - (i + k)); rw [hzs] at this; simpa using this
    rw [Array.size_append, Array.size_append, e2, e3, List.size_toArray, e1, ← Nat.add_mul, ← Nat.add_mul]
    congr 1; omega
  · have e1 := hless.1
    have e2 := zeroCells_length (z := z.cells) k
    rw [hzs] at e2
    rw [Array.toList_append, Array.toList_append, List.take_append_of_le_length (by rw [List.length_append, e2]; simp only [e1]; rw [← Nat.add_mul]; exact Nat.le_refl _), List.take_of_length_le (by rw [List.length_append, e2]; simp only [e1]; rw [← Nat.add_mul]; exact Nat.le_refl _)]
  · show (w.drew.heap.push _).size = _
    rw [Array.size_push]; rfl
/-- Two splices: room made, and filled. -/
theorem splice_shift (xs ys us : List Value) (p q : Nat) (hp : p ≤ xs.length) (hu : us.length = q) (hy : ys.length = q) :
    splice (splice (xs ++ ys) (p + q) (xs.drop p)) p us = xs.take p ++ (us ++ xs.drop p) := by
  unfold splice
  have e1 : (xs ++ ys).take (p + q) ++ (xs.drop p ++ (xs ++ ys).drop (p + q + (xs.drop p).length)) = (xs ++ ys).take (p + q) ++ xs.drop p := by
    have : (xs ++ ys).drop (p + q + (xs.drop p).length) = [] := List.drop_eq_nil_of_le (by simp; omega)
    rw [this, List.append_nil]
  rw [e1]
  have hl : ((xs ++ ys).take (p + q)).length = p + q := by simp; omega
  have e2 : (List.take (p + q) (xs ++ ys) ++ List.drop p xs).take p = xs.take p := by
    rw [List.take_append_of_le_length (by omega), List.take_take, Nat.min_eq_left (by omega), List.take_append_of_le_length hp]
  have e3 : (List.take (p + q) (xs ++ ys) ++ List.drop p xs).drop (p + us.length) = xs.drop p := by
    rw [hu, List.drop_append, hl, Nat.sub_self, List.drop_zero, List.drop_eq_nil_of_le (by omega), List.nil_append]
  rw [e2, e3]
theorem splice_fill (xs zs us vs : List Value) (p q : Nat) (hp : p = xs.length) (hu : us.length = q) (hz : zs.length = q + vs.length) :
    splice (splice (xs ++ zs) p us) (p + q) vs = xs ++ (us ++ vs) := by
  unfold splice
  subst hp
  have e1 : (xs ++ zs).take xs.length = xs := by simp
  have e2 : (xs ++ zs).drop (xs.length + us.length) = zs.drop q := by rw [List.drop_append, List.drop_eq_nil_of_le (by omega), List.nil_append, hu]; congr 1; omega
  rw [e1, e2]
  have e3 : (xs ++ (us ++ zs.drop q)).take (xs.length + q) = xs ++ us := by
    rw [← List.append_assoc, List.take_append_of_le_length (by simp; omega), List.take_of_length_le (by simp; omega)]
  have e4 : (xs ++ (us ++ zs.drop q)).drop (xs.length + q + vs.length) = [] := List.drop_eq_nil_of_le (by simp; omega)
  rw [e3, e4]
  simp
end Go.Cph

namespace Go.Cph
open Go.RowKit

theorem owns_setRow {w : World} {base : Nat} {e : TypeId} {size g n cap : Nat} {xs : List Value} (h : w.ownsRow base e size (.slice (some ⟨g, 0, none⟩) n cap) n xs) {cur : Array Value} (hg : w.heap[g]? = some (.cells cur e (0, 0)))
    (o : Nat) (cs : List Value) (hfit : o + cs.length ≤ n * size) :
    (w.setRow g (cur.toList.take o ++ cs ++ cur.toList.drop (o + cs.length)).toArray).ownsRow base e size (.slice (some ⟨g, 0, none⟩) n cap) n (splice xs o cs) := by
  obtain ⟨cur', hb, hg', hnc, hcm, hcs, hx⟩ := owns_block h
  rw [hg] at hg'
  simp only [Option.some.injEq, Obj.cells.injEq] at hg'
  obtain ⟨rfl, _⟩ := hg'
  have hnc' : n * size ≤ cap * size := Nat.mul_le_mul_right _ hnc
  have hlx : xs.length = n * size := h.1
  have hcl : cur.toList.length = cap * size := by simpa using hcs
  refine ⟨by rw [length_splice _ _ _ (by omega)]; exact hlx, .inr ⟨g, cap, _, rfl, hb, setRow_heap w g cur _ e _ hg, hnc, hcm, ?_, ?_⟩⟩
  · simp; omega
  · show List.take (n * size) (cur.toList.take o ++ cs ++ cur.toList.drop (o + cs.length)) = _
    unfold splice
    rw [← hx, List.take_append, List.take_of_length_le (by simp; omega), List.append_assoc]
    congr 1
    · rw [List.take_take, Nat.min_eq_left (by omega)]
    · congr 1
      rw [List.length_append, List.length_take, hcl, Nat.min_eq_left (by omega), List.drop_take]
/-- append(s[:i], x...) where there is room in the row. -/
theorem run_append_in {P : Program} (w : World) (t tx e : TypeId) (z : Value) (size bytes : Nat) (ht : P.underlying t = some (.slice e)) (hinfo : (P.info? e).map (fun i => (i.zero, i.size, i.bytes)) = some (some z, size, bytes))
    {base g n cap : Nat} {xs : List Value} (hown : w.ownsRow base e size (.slice (some ⟨g, 0, none⟩) n cap) n xs) (i m : Nat) (x : Value) (news : List Value) (hs : Src P size tx x m news w) (him : i + m ≤ n) :
    ∃ w', (∀ ty, (Builtin.append_ #[t, tx] ty #[.slice (some ⟨g, 0, none⟩) i cap, x]).run P w = .ok (.slice (some ⟨g, 0, none⟩) (i + m) cap) w') ∧
      w'.ownsRow base e size (.slice (some ⟨g, 0, none⟩) n cap) n (splice xs (i * size) news) ∧ w.grownBy w' (some g) ∧ w'.heap.size = w.heap.size := by
  obtain ⟨ti, hti, hz0, hz1, hz2⟩ := info_parts hinfo
  obtain ⟨cur, hb, hg, hnc, hcm, hcs, hx⟩ := owns_block hown
  have hfit : i * size + news.length ≤ n * size := by rw [hs.newsLen, ← Nat.add_mul]; exact Nat.mul_le_mul_right _ him
  have hnc' : n * size ≤ cap * size := Nat.mul_le_mul_right _ hnc
  have hst := run_storeCells_at P g (i * size) e news 0 cur w hg (by simp; omega) hs.one
  simp only [Nat.add_zero] at hst
  have hroom : i + m ≤ cap := by omega
  have hadd : (⟨g, 0, none⟩ : Addr).add (i * size) = ⟨g, i * size, none⟩ := by unfold Addr.add; split <;> simp_all
  refine ⟨_, fun ty => ?_, owns_setRow hown hg (i * size) news hfit, grown_setRow _ _ _, by simp⟩
  rcases hs.kind with ⟨e', hk⟩ | hk <;> simp [Builtin.append_, run_underlying ht, run_underlying hk, sizeOf, typeInfo, hti, hz1, hs.len, hroom, hs.cells, hadd, hst]
/-- clear of a part of a row. -/
theorem run_clear_in {P : Program} (w : World) (t e : TypeId) (z : Value) (size : Nat) (ht : P.underlying t = some (.slice e)) (hv : ∀ w, (zeroValue e).run P w = .ok z w) (hzs : z.cells.size = size)
    (h1 : ∀ n, ∀ v ∈ (Builtin.zeroCells z.cells n).toList, v.oneCell' = true)
    {base g n cap : Nat} {xs : List Value} (hown : w.ownsRow base e size (.slice (some ⟨g, 0, none⟩) n cap) n xs) (i m : Nat) (hm : 0 < m) (him : i + m ≤ n) :
    ∃ zs w', (∀ ty c, (Builtin.clear_ #[t] ty #[.slice (some ⟨g, i * size, none⟩) m c]).run P w = .ok (.tuple #[]) w') ∧ zs.length = m * size ∧
      w'.ownsRow base e size (.slice (some ⟨g, 0, none⟩) n cap) n (splice xs (i * size) zs) ∧ w.grownBy w' (some g) ∧ w'.heap.size = w.heap.size := by
  obtain ⟨cur, hb, hg, hnc, hcm, hcs, hx⟩ := owns_block hown
  have hzl : (Builtin.zeroCells z.cells m).toList.length = m * size := by rw [zeroCells_length, hzs]
  have hfit : i * size + (Builtin.zeroCells z.cells m).toList.length ≤ n * size := by rw [hzl, ← Nat.add_mul]; exact Nat.mul_le_mul_right _ him
  have hnc' : n * size ≤ cap * size := Nat.mul_le_mul_right _ hnc
  have hst := run_storeCells_at P g (i * size) e (Builtin.zeroCells z.cells m).toList 0 cur w hg (by simp only [Nat.add_zero]; omega) (h1 m)
  simp only [Nat.add_zero] at hst
  obtain ⟨k, rfl⟩ : ∃ k, m = k + 1 := ⟨m - 1, by omega⟩
  refine ⟨_, _, fun ty c => ?_, hzl, owns_setRow hown hg (i * size) _ hfit, grown_setRow _ _ _, by simp⟩
  simp [Builtin.clear_, run_underlying ht, hv, hst]
/-- The tail moved down, and what was behind it overlaid: the first elements. -/
theorem splice_less (xs zs : List Value) (p q : Nat) (hp : p + q ≤ xs.length) :
    (splice (splice xs p (xs.drop (p + q))) (xs.length - q) zs).take (xs.length - q) = xs.take p ++ xs.drop (p + q) := by
  unfold splice
  have hl : (xs.drop (p + q)).length = xs.length - (p + q) := by simp
  have e0 : (List.take p xs ++ (List.drop (p + q) xs ++ List.drop (p + (List.drop (p + q) xs).length) xs)).take (xs.length - q) = xs.take p ++ xs.drop (p + q) := by
    rw [← List.append_assoc, List.take_append_of_le_length (by simp; omega), List.take_of_length_le (by simp; omega)]
  rw [List.take_append_of_le_length (by simp; omega), List.take_take, Nat.min_self, e0]
end Go.Cph

namespace Go.Cph
open Go.RowKit

/-- append of a make to nil: a new row, of which nothing is used yet. -/
theorem run_append_make_nil {P : Program} (w : World) (t tn e : TypeId) (z : Value) (size bytes : Nat) (kq kn : IntKind) (ht : P.underlying t = some (.slice e)) (htn : P.underlying tn = some (.int kn))
    (hinfo : (P.info? e).map (fun i => (i.zero, i.size, i.bytes)) = some (some z, size, bytes)) (hzs : z.cells.size = size) (hsz : 0 < size) (k : Nat) (h0 : 0 < k) (h63 : k ≤ 1099511627776) (hbytes : bytes ≤ 128) :
    ∃ G w', (∀ ty, (Builtin.append_ #[t, tn] ty #[.slice none 0 0, .int kq k]).run P w = .ok (.slice (some ⟨w.heap.size, 0, none⟩) k G) w') ∧
      w'.ownsRow w.heap.size e size (.slice (some ⟨w.heap.size, 0, none⟩) 0 G) 0 [] ∧ Below w.heap.size w w' ∧ k ≤ G ∧ G ≤ maxLen := by
  obtain ⟨ti, hti, hz0, hz1, hz2⟩ := info_parts hinfo
  have hb : (0 + k) * bytes ≤ 140737488355328 := Nat.le_trans (Nat.mul_le_mul (by omega : 0 + k ≤ 1099511627776) hbytes) (by omega)
  have hkb : k * bytes ≤ 140737488355328 := Nat.le_trans (Nat.mul_le_mul (by omega) hbytes) (by omega : 1099511627776 * 128 ≤ 140737488355328)
  have hold : (Builtin.firstCells ti.size 0 (.slice none 0 0)).run P w.drew = .ok ([] : List Value).toArray w.drew := run_firstCells_none _ _ _ _ _
  have hg : 0 < 0 + k := by omega
  have h := fun ty => Lib.run_append_grow_zeros w t tn ty e ti z kq kn ht htn hti hz0 none 0 0 [] hold k h0 (by rw [hz1]; exact hsz) hg (by omega) (by rw [hz2]; omega) (by rw [hz2]; exact growslice_fits hg hb)
  have hG := grownCap_ge w (0 + k) 0 e
  have hGm := grownCap_le_maxLen w (0 + k) 0 e (by unfold maxLen; omega)
  generalize grownCap w (0 + k) 0 e = G at *
  simp only [Nat.zero_add] at h hG
  refine ⟨G, _, h, ⟨by simp, .inr ⟨w.heap.size, G, _, rfl, Nat.le_refl _, heap_alloc_new w.drew _, Nat.zero_le _, hGm, ?_, by simp⟩⟩, (Below.refl _ _).drew.alloc (Nat.le_refl _) _, hG, hGm⟩
  have e2 : (Builtin.zeroCells z.cells k).size = k * size := by have := zeroCells_length (z := z.cells) k; rw [hzs] at this; simpa using this
  have e3 : (Builtin.zeroCells z.cells (G - k)).size = (G - k) * size := by have := zeroCells_length (z := z.cells) (G - k); rw [hzs] at this; simpa using this
  rw [Array.size_append, Array.size_append, e2, e3, List.size_toArray, List.length_nil, Nat.zero_add, ← Nat.add_mul]
  congr 1; omega

theorem step_append {P : Program} {ops : Array Oper} {o : Oper} {a : Act} {w : World} {K : Act → World → Prop} {Q : Exit → Act → World → Prop} {E : Prop}
    (hg : o.guard = none) (d x : Operand) (dT sT : TypeId) (hop : o.op = Op.call { callee := Callee.builtin Builtin.append, args := #[d, x], argTypes := #[dT, sT] })
    (v u : Value) (hd : a.eval d = v) (hx : a.eval x = u) {v' : Value} {w' : World} (hr : (Builtin.append_ #[dT, sT] o.type #[v, u]).run P w = .ok v' w') (hK : K (a.put o.dst v') w') :
    if Region.wanted o (yielded ops a.tmps) = true then Oper.wp P o a w K Q else E := by
  have hw : Region.wanted o (yielded ops a.tmps) = true := by simp [Region.wanted, hg]
  rw [if_pos hw]
  unfold Oper.wp execOp
  simp only [hop, resolve, invoke, builtin, Sem.run_bind, Sem.run_pure, Result.andThen_ok, List.map_toArray, List.map_cons, List.map_nil, hd, hx, hr]
  exact hK
/-- append of one element that was laid in a new block in the same region (which draws its order). -/
theorem run_append1 {P : Program} (w w0 : World) (t ty e : TypeId) (z : Value) (size bytes : Nat) (ht : P.underlying t = some (.slice e)) (hinfo : (P.info? e).map (fun i => (i.zero, i.size, i.bytes)) = some (some z, size, bytes))
    (hzs : z.cells.size = size) (hsz : 0 < size) {base : Nat} {v : Value} {n : Nat} {xs : List Value} (hown : w.ownsRow base e size v n xs) (us : List Value) (hus : us.length = size) (h1 : ∀ u ∈ us, u.oneCell' = true)
    (h63 : n + 1 ≤ 1099511627776) (hbytes : bytes ≤ 128) {B : Nat} (hb : Below B w0 w) (hB : B ≤ base) (hbase : base ≤ w.heap.size) :
    ∃ v' w', (Builtin.append_ #[t, t] ty #[v, .slice (some ⟨w.heap.size, 0, none⟩) 1 1]).run P ((w.alloc (.cells us.toArray e)).drew) = .ok v' w' ∧ w'.ownsRow base e size v' (n + 1) (xs ++ us) ∧ Below B w0 w' := by
  have hB' : B ≤ w.heap.size := Nat.le_trans hB hbase
  have hbl : Below B w0 ((w.alloc (.cells us.toArray e)).drew) := (hb.alloc hB' _).drew
  have hown' : (w.alloc (.cells us.toArray e)).drew.ownsRow base e size v n xs := hown.alloc _
  have hsz' : ((w.alloc (.cells us.toArray e)).drew).heap.size = w.heap.size + 1 := by show (w.heap.push _).size = _; rw [Array.size_push]
  have hseg : Seg ((w.alloc (.cells us.toArray e)).drew) size (.slice (some ⟨w.heap.size, 0, none⟩) 1 1) 1 us :=
    ⟨⟨_, _, rfl, fun _ => ⟨w.heap.size, 0, rfl, fun j hj => by rw [Nat.zero_add]; show (w.alloc (.cells us.toArray e)).cell? _ = _; rw [blk_cell (heap_alloc_new w _)]; simp⟩⟩, by rw [hus, Nat.one_mul]⟩
  obtain ⟨v', w', hr, ho, hg, -⟩ := run_append_seg (P := P) ((w.alloc (.cells us.toArray e)).drew) t ty e z size bytes ht hinfo hzs hsz hown' hseg h1 h63 hbytes (by rw [hsz']; omega)
  exact ⟨v', w', hr, ho, below_grown hbl hg hown' hB (by rw [hsz']; omega)⟩
/-- A slice of slices that reads as a list of lists. -/
structure Lists {α : Type} (enc : α → List Value) (size : Nat) (w : World) (v : Value) (ls : List (List α)) : Prop where
  out : ∃ vs : List Value, vs.length = ls.length ∧ Seg w 1 v ls.length vs ∧ ∀ j (h : j < vs.length) (k : j < ls.length), Elems enc size w vs[j] ls[j]
section
variable {α : Type} {enc : α → List Value} {size : Nat} {w : World} {v : Value} {ls : List (List α)}
theorem Lists.kept {w' : World} (h : Lists enc size w v ls) (hb : Below w.heap.size w w') : Lists enc size w' v ls := by
  obtain ⟨vs, h1, h2, h3⟩ := h.out
  exact ⟨vs, h1, h2.kept hb, fun j hj hk => (h3 j hj hk).kept hb⟩
theorem Lists.slice (h : Lists enc size w v ls) : ∃ ao cap, v = .slice ao ls.length cap := by
  obtain ⟨vs, h1, ⟨⟨ao, cap, hv, _⟩, _⟩, h3⟩ := h.out
  exact ⟨ao, cap, hv⟩
theorem Lists.cell (h : Lists enc size w v ls) (h0 : 0 < ls.length) : ∃ b off cap, v = .slice (some ⟨b, off, none⟩) ls.length cap ∧
    ∀ i (hi : i < ls.length), ∃ u, w.cell? ⟨b, off + i, none⟩ = some u ∧ Elems enc size w u ls[i] := by
  obtain ⟨vs, h1, ⟨⟨ao, cap, rfl, hc⟩, hl⟩, h3⟩ := h.out
  obtain ⟨b, off, rfl, hcc⟩ := hc h0
  refine ⟨b, off, cap, rfl, fun i hi => ⟨vs[i]'(by omega), ?_, h3 i (by omega) hi⟩⟩
  rw [hcc i (by omega)]
  exact List.getElem?_eq_getElem _
theorem Lists.nil (w : World) : Lists enc size w (.slice none 0 0) [] := ⟨[], rfl, Seg.nil w 1, fun j h => by simp at h⟩
theorem Lists.one {b c : Nat} {u : Value} {l : List α} {E : TypeId} {fr : Nat × Nat} (hb : w.heap[b]? = some (.cells #[u] E fr)) (h : Elems enc size w u l) : Lists enc size w (.slice (some ⟨b, 0, none⟩) 1 c) [l] := by
  refine ⟨[u], rfl, ⟨⟨_, _, rfl, fun _ => ⟨b, 0, rfl, fun j hj => ?_⟩⟩, rfl⟩, fun j hj hk => ?_⟩
  · obtain rfl : j = 0 := by simp at hj; omega
    rw [Nat.zero_add, blk_cell hb]; rfl
  · obtain rfl : j = 0 := by simp at hj; omega
    exact h
end
theorem flatten_take {α : Type} (ls : List (List α)) {k : Nat} (h : k < ls.length) : (ls.take (k + 1)).flatten = (ls.take k).flatten ++ ls[k] := by
  rw [List.take_succ_eq_append_getElem h, List.flatten_append]; simp
theorem flatten_le {α : Type} (ls : List (List α)) (k : Nat) : (ls.take k).flatten.length ≤ ls.flatten.length := by
  conv => rhs; rw [← List.take_append_drop k ls, List.flatten_append, List.length_append]
  omega
end Go.Cph

/- A skip list in memory: what its blocks hold. Of whatever program: TL, TN, TI: the types of a list, a node, an int. -/
set_option linter.unusedVariables false
set_option linter.unusedSimpArgs false
namespace Go.Cph.Skip
open Go.RowKit Go.Cph

/-- A node: its key, its value, its height, the block of its tower, that block's capacity. -/
structure Nd (α : Type) where
  key : ByteArray
  val : α
  ht : Nat
  tb : Nat
  tc : Nat

def Nd.tower {α} (x : Nd α) : Value := .slice (some ⟨x.tb, 0, none⟩) x.ht x.tc
def Nd.cells {α} (enc : α → Value) (x : Nd α) : List Value := [.string x.key, enc x.val, x.tower]
def nodeCells {α} (enc : α → Value) (nodes : List (Nd α)) : List Value := nodes.flatMap (Nd.cells enc)
def headCells (nx : Nat → Nat → Nat) (v : Value) : Array Value := (((List.range 12).map fun l => Value.int .i64 (nx 0 l)) ++ [v]).toArray
def towerCells (nx : Nat → Nat → Nat) (n ht : Nat) : List Value := (List.range ht).map fun l => Value.int .i64 (nx n l)

theorem nodeCells_length {α} (enc : α → Value) (nodes : List (Nd α)) : (nodeCells enc nodes).length = nodes.length * 3 := by
  induction nodes with
  | nil => rfl
  | cons x l ih => simp only [nodeCells, List.flatMap_cons, List.length_append, List.length_cons] at ih ⊢; rw [ih]; simp [Nd.cells]; omega
theorem nodeCells_at {α} (enc : α → Value) : ∀ (nodes : List (Nd α)) (i : Nat) (h : i < nodes.length) (j : Nat), j < 3 → (nodeCells enc nodes)[i * 3 + j]? = (Nd.cells enc nodes[i])[j]?
  | [], i, h, _, _ => absurd h (by simp)
  | x :: l, 0, h, j, hj => by
    simp only [nodeCells, List.flatMap_cons]
    rw [List.getElem?_append_left (by simp [Nd.cells]; omega)]
    simp
  | x :: l, i + 1, h, j, hj => by
    have ih := nodeCells_at enc l i (by simpa using h) j hj
    simp only [nodeCells, List.flatMap_cons] at ih ⊢
    rw [List.getElem?_append_right (by simp [Nd.cells]; omega)]
    simp only [List.getElem_cons_succ]
    rw [← ih]
    congr 1
    simp [Nd.cells]; omega
theorem nodeCells_snoc {α} (enc : α → Value) (nodes : List (Nd α)) (x : Nd α) : nodeCells enc (nodes ++ [x]) = nodeCells enc nodes ++ Nd.cells enc x := by
  simp [nodeCells]

theorem headCells_at (nx : Nat → Nat → Nat) (v : Value) (l : Nat) (h : l < 12) : (headCells nx v)[l]? = some (.int .i64 (nx 0 l)) := by
  simp only [headCells, List.getElem?_toArray]
  rw [List.getElem?_append_left (by simpa using h)]
  simp [h]
theorem headCells_v (nx : Nat → Nat → Nat) (v : Value) : (headCells nx v)[12]? = some v := by
  simp [headCells]
theorem headCells_set (nx : Nat → Nat → Nat) (v : Value) (l to : Nat) (h : l < 12) :
    (headCells nx v).setIfInBounds l (.int .i64 to) = headCells (fun n k => if n = 0 ∧ k = l then to else nx n k) v := by
  apply Array.ext'
  simp only [headCells, List.setIfInBounds_toArray]
  apply List.ext_getElem?
  intro i
  rw [List.getElem?_set]
  by_cases hi : i < 12
  · rw [List.getElem?_append_left (by simpa using hi), List.getElem?_append_left (by simpa using hi)]
    by_cases hil : l = i
    · subst hil; simp [h]; omega
    · rw [if_neg hil]; simp [hi, Ne.symm hil]
  · rw [if_neg (by omega), List.getElem?_append_right (by simp; omega), List.getElem?_append_right (by simp; omega)]
    simp
theorem headCells_setv (nx : Nat → Nat → Nat) (v v' : Value) : (headCells nx v).setIfInBounds 12 v' = headCells nx v' := by
  apply Array.ext'
  simp only [headCells, List.setIfInBounds_toArray]
  rw [List.set_append_right _ _ (by simp)]
  simp
theorem towerCells_set (nx : Nat → Nat → Nat) (n ht l to : Nat) (h : l < ht) :
    (towerCells nx n ht).set l (.int .i64 to) = towerCells (fun m k => if m = n ∧ k = l then to else nx m k) n ht := by
  apply List.ext_getElem?
  intro i
  rw [List.getElem?_set]
  simp only [towerCells, List.getElem?_map, List.length_map, List.length_range]
  by_cases hil : l = i
  · subst hil; simp [h]
  · rw [if_neg hil]
    by_cases hi : i < ht
    · simp [hi, Ne.symm hil]
    · simp [hi]

/-- What a list's blocks hold: nx n l: the node behind node n (0: the head) on level l. -/
structure At {α} (TL TN TI : TypeId) (enc : α → Value) (w : World) (p : Nat) (nx : Nat → Nat → Nat) (nodes : List (Nd α)) (v : Value) : Prop where
  head : w.heap[p]? = some (.cells (headCells nx v) TL (0, 0))
  row : w.ownsRow 0 TN 3 v nodes.length (nodeCells enc nodes)
  towers : ∀ i (h : i < nodes.length), w.ownsRow 0 TI 1 nodes[i].tower nodes[i].ht (towerCells nx (i + 1) nodes[i].ht)
  apart : ∀ i j (hi : i < nodes.length) (hj : j < nodes.length), nodes[i].tb = nodes[j].tb → i = j

section
variable {α : Type} {TL TN TI : TypeId} {enc : α → Value} {w : World} {p : Nat} {nx : Nat → Nat → Nat} {nodes : List (Nd α)} {v : Value}

/-- The list's blocks. -/
def foot (p : Nat) (v : Value) (nodes : List (Nd α)) (k : Nat) : Prop := k = p ∨ v.ownBlock = some k ∨ ∃ x ∈ nodes, x.tb = k

theorem cellAt' {w : World} {base : Nat} {e : TypeId} {size g m cap n : Nat} {xs : List Value} (h : w.ownsRow base e size (.slice (some ⟨g, 0, none⟩) m cap) n xs) (j : Nat) (hj : j < n * size) : w.cell? ⟨g, j, none⟩ = xs[j]? := by
  obtain ⟨g', cap', hv, _, _, _, hc, _⟩ := owns_shape h (by rcases Nat.eq_zero_or_pos n with rfl | h0 <;> omega)
  cases hv
  exact hc j hj
theorem row_kept {w w' : World} {base : Nat} {e : TypeId} {size : Nat} {v : Value} {n : Nat} {xs : List Value} (h : w.ownsRow base e size v n xs)
    (hk : ∀ k, v.ownBlock = some k → w'.heap[k]? = w.heap[k]?) : w'.ownsRow base e size v n xs := by
  obtain ⟨h1, h2⟩ := h
  refine ⟨h1, ?_⟩
  rcases h2 with h2 | ⟨g, cap, cur, rfl, hb, hg, r⟩
  · exact .inl h2
  · exact .inr ⟨g, cap, cur, rfl, hb, by rw [hk g rfl]; exact hg, r⟩

theorem At.same (h : At TL TN TI enc w p nx nodes v) {w' : World} (hk : ∀ k, foot p v nodes k → w'.heap[k]? = w.heap[k]?) : At TL TN TI enc w' p nx nodes v :=
  ⟨by rw [hk p (.inl rfl)]; exact h.head, row_kept h.row fun k e => hk k (.inr (.inl e)),
    fun i hi => row_kept (h.towers i hi) fun k e => hk k (.inr (.inr ⟨_, List.getElem_mem hi, by simpa [Nd.tower, Value.ownBlock] using e⟩)), h.apart⟩
theorem At.foot_lt (h : At TL TN TI enc w p nx nodes v) {k : Nat} (hk : foot p v nodes k) : k < w.heap.size := by
  rcases hk with rfl | hk | ⟨x, hx, rfl⟩
  · exact blk_lt h.head
  · exact (h.row.lt k hk).2
  · obtain ⟨i, hi, rfl⟩ := List.getElem_of_mem hx
    exact ((h.towers i hi).lt _ rfl).2
theorem At.kept (h : At TL TN TI enc w p nx nodes v) {w' : World} (hb : Below w.heap.size w w') : At TL TN TI enc w' p nx nodes v :=
  h.same fun k hk => hb.block k (h.foot_lt hk)
/-- Links that the list has not may be any. -/
theorem At.congr (h : At TL TN TI enc w p nx nodes v) {nx' : Nat → Nat → Nat} (h0 : ∀ l, l < 12 → nx' 0 l = nx 0 l) (h1 : ∀ i (hi : i < nodes.length) l, l < nodes[i].ht → nx' (i + 1) l = nx (i + 1) l) :
    At TL TN TI enc w p nx' nodes v := by
  refine ⟨?_, h.row, fun i hi => ?_, h.apart⟩
  · have e : headCells nx' v = headCells nx v := by
      unfold headCells
      congr 2
      exact List.map_congr_left fun l hl => by rw [h0 l (List.mem_range.1 hl)]
    rw [e]; exact h.head
  · have e : towerCells nx' (i + 1) nodes[i].ht = towerCells nx (i + 1) nodes[i].ht := by
      unfold towerCells
      exact List.map_congr_left fun l hl => by rw [h1 i hi l (List.mem_range.1 hl)]
    rw [e]; exact h.towers i hi

/-! ### what the walk reads -/
theorem At.headCell (h : At TL TN TI enc w p nx nodes v) (l : Nat) (hl : l < 12) : w.cell? ⟨p, l, none⟩ = some (.int .i64 (nx 0 l)) := by
  rw [blk_cell h.head, headCells_at _ _ _ hl]
theorem At.rowCell (h : At TL TN TI enc w p nx nodes v) : w.cell? ⟨p, 12, none⟩ = some v := by
  rw [blk_cell h.head, headCells_v]
theorem At.free (h : At TL TN TI enc w p nx nodes v) (j : Nat) : w.frozen? ⟨p, j, none⟩ = false := by
  rw [blk_frozen h.head]; simp
theorem At.shape (h : At TL TN TI enc w p nx nodes v) (h0 : 0 < nodes.length) : ∃ g cap, v = .slice (some ⟨g, 0, none⟩) nodes.length cap ∧ nodes.length ≤ cap := by
  obtain ⟨g, cap, hv, _, _, hc, _⟩ := owns_shape h.row h0
  exact ⟨g, cap, hv, hc⟩
theorem At.len (h : At TL TN TI enc w p nx nodes v) : nodes.length ≤ maxLen := by
  obtain ⟨_, h2⟩ := h.row
  rcases h2 with ⟨_, h2⟩ | ⟨g, cap, cur, _, _, _, h3, h4, _⟩
  · omega
  · exact Nat.le_trans h3 h4
theorem At.htle (h : At TL TN TI enc w p nx nodes v) (i : Nat) (hi : i < nodes.length) : nodes[i].ht ≤ nodes[i].tc := by
  obtain ⟨_, h2⟩ := h.towers i hi
  rcases h2 with ⟨h2, _⟩ | ⟨g, cap, cur, h2, _, _, h3, h4, _⟩
  · simp [Nd.tower] at h2
  · simp [Nd.tower] at h2; omega
theorem At.nil (h : At TL TN TI enc w p nx [] v) : ∃ ao cap, v = .slice ao 0 cap := by
  obtain ⟨_, h2⟩ := h.row
  rcases h2 with ⟨h2, _⟩ | ⟨g, cap, cur, h2, _⟩
  · exact ⟨_, _, h2⟩
  · exact ⟨_, _, h2⟩
theorem At.slice (h : At TL TN TI enc w p nx nodes v) : ∃ ao cap, v = .slice ao nodes.length cap := by
  obtain ⟨_, h2⟩ := h.row
  rcases h2 with ⟨h2, h3⟩ | ⟨g, cap, cur, h2, _⟩
  · exact ⟨_, _, by rw [h2, h3]⟩
  · exact ⟨_, _, h2⟩
theorem At.nodeCell {g cap n : Nat} (h : At TL TN TI enc w p nx nodes (.slice (some ⟨g, 0, none⟩) n cap)) (i : Nat) (hi : i < nodes.length) :
    w.cell? ⟨g, i * 3, none⟩ = some (.string nodes[i].key) ∧ w.cell? ⟨g, i * 3 + 1, none⟩ = some (enc nodes[i].val) ∧ w.cell? ⟨g, i * 3 + 2, none⟩ = some nodes[i].tower := by
  have hc : ∀ j, j < 3 → w.cell? ⟨g, i * 3 + j, none⟩ = (Nd.cells enc nodes[i])[j]? := fun j hj => by
    have h1 : w.cell? ⟨g, i * 3 + j, none⟩ = (nodeCells enc nodes)[i * 3 + j]? := cellAt' h.row (i * 3 + j) (by omega)
    rw [h1, nodeCells_at enc nodes i hi j hj]
  exact ⟨by simpa [Nd.cells] using hc 0 (by omega), by simpa [Nd.cells] using hc 1 (by omega), by simpa [Nd.cells] using hc 2 (by omega)⟩
theorem At.towerCell (h : At TL TN TI enc w p nx nodes v) (i : Nat) (hi : i < nodes.length) (l : Nat) (hl : l < nodes[i].ht) : w.cell? ⟨nodes[i].tb, l, none⟩ = some (.int .i64 (nx (i + 1) l)) := by
  have h1 := (h.towers i hi).cellAt l (by simpa using hl)
  rw [h1]
  simp [towerCells, hl]
theorem At.towerFree (h : At TL TN TI enc w p nx nodes v) (i : Nat) (hi : i < nodes.length) (l : Nat) : w.frozen? ⟨nodes[i].tb, l, none⟩ = false := (h.towers i hi).frozenAt l
end
end Go.Cph.Skip

/- The order of texts; the links of a skip list, as what they say. No program here. -/
set_option linter.unusedVariables false
set_option linter.unusedSimpArgs false
namespace Go.Cph.Skip
open Go.RowKit Go.Cph

/-! ### the order of texts -/
theorem bl_irrefl : ∀ x : List UInt8, Op.bytesLess x x = false
  | [] => rfl
  | a :: x => by simp [Op.bytesLess, bl_irrefl x]
theorem bl_trans : ∀ x y z : List UInt8, Op.bytesLess x y = true → Op.bytesLess y z = true → Op.bytesLess x z = true
  | _, [], z, h, _ => by simp [Op.bytesLess] at h
  | _, _ :: _, [], _, h => by simp [Op.bytesLess] at h
  | [], _ :: _, _ :: _, _, _ => rfl
  | a :: x, b :: y, c :: z, h, k => by
    simp only [Op.bytesLess, Bool.or_eq_true, Bool.and_eq_true, decide_eq_true_eq, beq_iff_eq] at h k ⊢
    rcases h with h | ⟨rfl, h⟩
    · rcases k with k | ⟨rfl, k⟩
      · exact .inl (UInt8.lt_trans h k)
      · exact .inl h
    · rcases k with k | ⟨rfl, k⟩
      · exact .inl k
      · exact .inr ⟨rfl, bl_trans x y z h k⟩
theorem bl_total : ∀ x y : List UInt8, Op.bytesLess x y = false → Op.bytesLess y x = false → x = y
  | [], [], _, _ => rfl
  | [], _ :: _, h, _ => by simp [Op.bytesLess] at h
  | _ :: _, [], _, h => by simp [Op.bytesLess] at h
  | a :: x, b :: y, h, k => by
    simp only [Op.bytesLess, Bool.or_eq_false_iff, Bool.and_eq_false_iff, decide_eq_false_iff_not, beq_eq_false_iff_ne] at h k
    have hab : a = b := by
      have h1 := h.1
      have k1 := k.1
      rw [UInt8.not_lt] at h1 k1
      exact UInt8.le_antisymm k1 h1
    subst hab
    have h2 : Op.bytesLess x y = false := by rcases h.2 with h | h; exact absurd rfl h; exact h
    have k2 : Op.bytesLess y x = false := by rcases k.2 with h | h; exact absurd rfl h; exact h
    rw [bl_total x y h2 k2]
def klt (a b : ByteArray) : Bool := Op.bytesLess a.toList b.toList
theorem toList_inj {a b : ByteArray} (h : a.toList = b.toList) : a = b := by
  rw [ByteArray.toList_eq, ByteArray.toList_eq] at h
  exact ByteArray.ext (Array.ext' h)
theorem klt_irrefl (a : ByteArray) : klt a a = false := bl_irrefl _
theorem klt_trans {a b c : ByteArray} (h : klt a b = true) (k : klt b c = true) : klt a c = true := bl_trans _ _ _ h k
theorem klt_total {a b : ByteArray} (h : klt a b = false) (k : klt b a = false) : a = b := toList_inj (bl_total _ _ h k)
theorem klt_asymm {a b : ByteArray} (h : klt a b = true) : klt b a = false := by
  cases k : klt b a with
  | false => rfl
  | true => have := klt_trans h k; rw [klt_irrefl] at this; exact absurd this (by simp)
/-- From 'not below' to 'below': a ≤ b < c. -/
theorem klt_of_le_lt {a b c : ByteArray} (h : klt b a = false) (k : klt b c = true) : klt a c = true := by
  cases hab : klt a b with
  | true => exact klt_trans hab k
  | false => rw [klt_total hab h]; exact k
theorem klt_of_lt_le {a b c : ByteArray} (h : klt a b = true) (k : klt c b = false) : klt a c = true := by
  cases hbc : klt b c with
  | true => exact klt_trans h hbc
  | false => rw [← klt_total hbc k]; exact h
theorem kle_trans {a b c : ByteArray} (h : klt b a = false) (k : klt c b = false) : klt c a = false := by
  cases hca : klt c a with
  | false => rfl
  | true => have := klt_of_le_lt k hca; rw [h] at this; exact absurd this (by simp)
theorem beq_toList (a b : ByteArray) : (a.toList == b.toList) = decide (a = b) := by
  by_cases h : a = b
  · subst h; simp
  · have : a.toList ≠ b.toList := fun e => h (toList_inj e)
    simp [h, this]

section
variable {α : Type}
/-- Is a key above a place (none: the list's head)? -/
def above : Option ByteArray → ByteArray → Bool
  | none, _ => true
  | some k, x => klt k x
/-- The key of a node (0: the head). -/
def keyNo (nodes : List (Nd α)) : Nat → Option ByteArray
  | 0 => none
  | n + 1 => (nodes[n]?).map (·.key)

/-- m is the node of the least key above a place, of those on a level (0: none). -/
def Nxt (nodes : List (Nd α)) (l : Nat) (lo : Option ByteArray) (m : Nat) : Prop :=
  (m = 0 ∧ ∀ y ∈ nodes, l < y.ht → above lo y.key = false) ∨
  (∃ i, ∃ h : i < nodes.length, m = i + 1 ∧ l < nodes[i].ht ∧ above lo nodes[i].key = true ∧ ∀ y ∈ nodes, l < y.ht → above lo y.key = true → klt y.key nodes[i].key = false)
/-- m is the node of the greatest key below one, of those on a level (0: none). -/
def Prv (nodes : List (Nd α)) (l : Nat) (key : ByteArray) (m : Nat) : Prop :=
  (m = 0 ∧ ∀ y ∈ nodes, l < y.ht → klt y.key key = false) ∨
  (∃ i, ∃ h : i < nodes.length, m = i + 1 ∧ l < nodes[i].ht ∧ klt nodes[i].key key = true ∧ ∀ y ∈ nodes, l < y.ht → klt y.key key = true → klt nodes[i].key y.key = false)
/-- A node of a level, or the head. -/
def On (nodes : List (Nd α)) (l n : Nat) : Prop := n = 0 ∨ ∃ i, ∃ h : i < nodes.length, n = i + 1 ∧ l < nodes[i].ht
/-- What the links of a list say. -/
structure Linked (nodes : List (Nd α)) (nx : Nat → Nat → Nat) : Prop where
  links : ∀ l n, l < 12 → On nodes l n → Nxt nodes l (keyNo nodes n) (nx n l)
  hts : ∀ x ∈ nodes, 1 ≤ x.ht ∧ x.ht ≤ 12
  keys : ∀ i j (hi : i < nodes.length) (hj : j < nodes.length), nodes[i].key = nodes[j].key → i = j

theorem keyNo_succ (nodes : List (Nd α)) (i : Nat) (h : i < nodes.length) : keyNo nodes (i + 1) = some nodes[i].key := by simp [keyNo, h]
theorem On.down {nodes : List (Nd α)} {l n : Nat} (h : On nodes (l + 1) n) : On nodes l n := by
  rcases h with h | ⟨i, hi, h, hl⟩
  · exact .inl h
  · exact .inr ⟨i, hi, h, by omega⟩
theorem Nxt.on {nodes : List (Nd α)} {l m : Nat} {lo : Option ByteArray} (h : Nxt nodes l lo m) : On nodes l m := by
  rcases h with ⟨h, _⟩ | ⟨i, hi, h, hl, _⟩
  · exact .inl h
  · exact .inr ⟨i, hi, h, hl⟩
theorem Prv.on {nodes : List (Nd α)} {l m : Nat} {key : ByteArray} (h : Prv nodes l key m) : On nodes l m := by
  rcases h with ⟨h, _⟩ | ⟨i, hi, h, hl, _⟩
  · exact .inl h
  · exact .inr ⟨i, hi, h, hl⟩

/-- Is a place below a key (the head is)? -/
def under (lo : Option ByteArray) (key : ByteArray) : Bool := match lo with | none => true | some k => klt k key
/-- The walk of a level ends: what lies behind is not below the key. -/
theorem prev_of_next {nodes : List (Nd α)} {l at' n : Nat} {key : ByteArray} (hon : On nodes l at') (hu : under (keyNo nodes at') key = true) (hn : Nxt nodes l (keyNo nodes at') n)
    (hstop : n = 0 ∨ ∃ i, ∃ h : i < nodes.length, n = i + 1 ∧ klt nodes[i].key key = false) : Prv nodes l key at' := by
  have hno : ∀ y ∈ nodes, l < y.ht → above (keyNo nodes at') y.key = true → klt y.key key = false := by
    intro y hy hl ha
    rcases hn with ⟨rfl, h0⟩ | ⟨i, hi, rfl, hli, hai, hle⟩
    · rw [h0 y hy hl] at ha; exact absurd ha (by simp)
    · rcases hstop with h | ⟨i', hi', he, hk⟩
      · omega
      · obtain rfl : i = i' := by omega
        exact kle_trans hk (hle y hy hl ha)
  rcases hon with rfl | ⟨i, hi, rfl, hl⟩
  · exact .inl ⟨rfl, fun y hy hl => hno y hy hl rfl⟩
  · refine .inr ⟨i, hi, rfl, hl, ?_, fun y hy hl hk => ?_⟩
    · rw [keyNo_succ nodes i hi] at hu; exact hu
    · cases ha : klt nodes[i].key y.key with
      | false => rfl
      | true =>
        have := hno y hy hl (by rw [keyNo_succ nodes i hi]; exact ha)
        rw [hk] at this; exact absurd this (by simp)
/-- How many keys lie above a place. -/
def left (nodes : List (Nd α)) (n : Nat) : Nat := nodes.countP fun y => above (keyNo nodes n) y.key
theorem left_lt {nodes : List (Nd α)} {l n m : Nat} (hn : Nxt nodes l (keyNo nodes n) m) (hm : m ≠ 0) : left nodes m < left nodes n := by
  rcases hn with ⟨h, _⟩ | ⟨i, hi, rfl, hl, ha, _⟩
  · exact absurd h hm
  · unfold left
    rw [keyNo_succ nodes i hi]
    have hsub : ∀ y : Nd α, above (some nodes[i].key) y.key = true → above (keyNo nodes n) y.key = true := by
      intro y hy
      cases hk : keyNo nodes n with
      | none => rfl
      | some k => rw [hk] at ha; exact klt_trans ha hy
    have hle : nodes.countP (fun y => above (some nodes[i].key) y.key) ≤ (nodes.countP fun y => above (keyNo nodes n) y.key && !(decide (y.key = nodes[i].key))) := by
      refine List.countP_mono_left fun y _ hy => ?_
      have h2 : y.key ≠ nodes[i].key := fun e => by rw [e] at hy; simp [above, klt_irrefl] at hy
      simp [hsub y hy, h2]
    refine Nat.lt_of_le_of_lt hle ?_
    rw [List.countP_eq_length_filter, List.countP_eq_length_filter]
    have hss : List.Sublist (nodes.filter fun y => above (keyNo nodes n) y.key && !(decide (y.key = nodes[i].key))) (nodes.filter fun y => above (keyNo nodes n) y.key) := by
      have : (nodes.filter fun y => above (keyNo nodes n) y.key && !(decide (y.key = nodes[i].key))) = ((nodes.filter fun y => above (keyNo nodes n) y.key).filter fun y => !(decide (y.key = nodes[i].key))) := by
        rw [List.filter_filter]
        exact List.filter_congr fun y _ => Bool.and_comm _ _
      rw [this]
      exact List.filter_sublist
    rcases Nat.lt_or_ge (nodes.filter fun y => above (keyNo nodes n) y.key && !(decide (y.key = nodes[i].key))).length (nodes.filter fun y => above (keyNo nodes n) y.key).length with h | h
    · exact h
    · have he := hss.eq_of_length_le h
      have hin : nodes[i] ∈ (nodes.filter fun y => above (keyNo nodes n) y.key) := List.mem_filter.2 ⟨List.getElem_mem hi, ha⟩
      rw [← he] at hin
      have := (List.mem_filter.1 hin).2
      simp at this

/-- The node of the least key that is not below one (0: none). -/
def Seek (nodes : List (Nd α)) (key : ByteArray) (m : Nat) : Prop :=
  (m = 0 ∧ ∀ y ∈ nodes, klt y.key key = true) ∨
  (∃ i, ∃ h : i < nodes.length, m = i + 1 ∧ klt nodes[i].key key = false ∧ ∀ y ∈ nodes, klt y.key key = false → klt y.key nodes[i].key = false)
theorem seek_of_prev {nodes : List (Nd α)} {nx : Nat → Nat → Nat} (hl : Linked nodes nx) {key : ByteArray} {at' n : Nat} (hp : Prv nodes 0 key at') (hn : Nxt nodes 0 (keyNo nodes at') n) : Seek nodes key n := by
  have hgo : ∀ y ∈ nodes, klt y.key key = false → above (keyNo nodes at') y.key = true := by
    intro y hy hk
    rcases hp with ⟨rfl, _⟩ | ⟨i, hi, rfl, _, hik, _⟩
    · rfl
    · rw [keyNo_succ nodes i hi]; exact klt_of_lt_le hik hk
  have hno : ∀ y ∈ nodes, above (keyNo nodes at') y.key = true → klt y.key key = false := by
    intro y hy ha
    have h0 := (hl.hts y hy).1
    rcases hp with ⟨rfl, h⟩ | ⟨i, hi, rfl, _, hik, hle⟩
    · exact h y hy (by omega)
    · rw [keyNo_succ nodes i hi] at ha
      cases hk : klt y.key key with
      | false => rfl
      | true => have := hle y hy (by omega) hk; rw [show klt nodes[i].key y.key = true from ha] at this; exact absurd this (by simp)
  rcases hn with ⟨rfl, h⟩ | ⟨i, hi, rfl, _, hai, hle⟩
  · refine .inl ⟨rfl, fun y hy => ?_⟩
    cases hk : klt y.key key with
    | true => rfl
    | false => have := h y hy (by have := (hl.hts y hy).1; omega); rw [hgo y hy hk] at this; exact absurd this (by simp)
  · exact .inr ⟨i, hi, rfl, hno _ (List.getElem_mem hi) hai, fun y hy hk => hle y hy (by have := (hl.hts y hy).1; omega) (hgo y hy hk)⟩
end
end Go.Cph.Skip

/- Stable sorting, plainly: lists put in the order of a weak order, alike ones as they stood. No program in sight. -/
namespace Go.Cph.So

/-- A strict weak order, as a test. -/
structure Weak {α : Type} (lt : α → α → Bool) : Prop where
  asymm : ∀ {a b}, lt a b = true → lt b a = false
  trans : ∀ {a b c}, lt b a = false → lt c b = false → lt c a = false
section
variable {α : Type} {lt : α → α → Bool}
def eqv (lt : α → α → Bool) (x y : α) : Bool := !lt x y && !lt y x
def Sorted (lt : α → α → Bool) (l : List α) : Prop := l.Pairwise fun a b => lt b a = false
def Same (lt : α → α → Bool) (l m : List α) : Prop := ∀ x, l.filter (eqv lt x) = m.filter (eqv lt x)
theorem Weak.irrefl (h : Weak lt) (a : α) : lt a a = false := by
  cases hc : lt a a with
  | false => rfl
  | true => have := h.asymm hc; rw [hc] at this; exact this
theorem Weak.lt_of_lt_le (h : Weak lt) {a b c : α} (h1 : lt a b = true) (h2 : lt c b = false) : lt a c = true := by
  cases hc : lt a c with
  | true => rfl
  | false => have := h.trans h2 hc; rw [h1] at this; cases this
theorem Weak.lt_of_le_lt (h : Weak lt) {a b c : α} (h1 : lt b a = false) (h2 : lt b c = true) : lt a c = true := by
  cases hc : lt a c with
  | true => rfl
  | false => have := h.trans hc h1; rw [h2] at this; cases this
theorem eqv_iff {x y : α} : eqv lt x y = true ↔ lt x y = false ∧ lt y x = false := by simp [eqv]
theorem Weak.eqv_refl (h : Weak lt) (x : α) : eqv lt x x = true := eqv_iff.2 ⟨h.irrefl x, h.irrefl x⟩
theorem Weak.eqv_trans (h : Weak lt) {x y z : α} (h1 : eqv lt x y = true) (h2 : eqv lt x z = true) : lt y z = false ∧ lt z y = false := by
  obtain ⟨a, b⟩ := eqv_iff.1 h1
  obtain ⟨c, d⟩ := eqv_iff.1 h2
  exact ⟨h.trans c b, h.trans a d⟩
theorem Same.rfl' (l : List α) : Same lt l l := fun _ => rfl
theorem Same.symm {l m : List α} (h : Same lt l m) : Same lt m l := fun x => (h x).symm
theorem Same.trans {l m k : List α} (h : Same lt l m) (g : Same lt m k) : Same lt l k := fun x => (h x).trans (g x)
theorem Same.append {l m l' m' : List α} (h : Same lt l l') (g : Same lt m m') : Same lt (l ++ m) (l' ++ m') := fun x => by rw [List.filter_append, List.filter_append, h x, g x]
theorem Same.mem (h : Weak lt) {l m : List α} (hs : Same lt l m) {x : α} (hx : x ∈ l) : x ∈ m := by
  have : x ∈ l.filter (eqv lt x) := List.mem_filter.2 ⟨hx, h.eqv_refl x⟩
  rw [hs x] at this
  exact (List.mem_filter.1 this).1
/-- Two rows the one of which is ahead of the other change places. -/
theorem Same.swap (h : Weak lt) {x y : List α} (hs : ∀ a ∈ x, ∀ b ∈ y, lt b a = true) : Same lt (x ++ y) (y ++ x) := by
  intro z
  rw [List.filter_append, List.filter_append]
  by_cases hx : x.filter (eqv lt z) = []
  · rw [hx]; simp
  · have hy : y.filter (eqv lt z) = [] := by
      rw [List.filter_eq_nil_iff]
      intro b hb hc
      obtain ⟨a, ha⟩ := List.exists_mem_of_ne_nil _ hx
      obtain ⟨ha1, ha2⟩ := List.mem_filter.1 ha
      have h1 := h.eqv_trans ha2 hc
      have h2 := hs a ha1 b hb
      rw [h2] at h1; exact absurd h1.2 (by decide)
    rw [hy]; simp
theorem same_unique (h : Weak lt) : ∀ {l m : List α}, Sorted lt l → Sorted lt m → Same lt l m → l = m
  | [], [], _, _, _ => rfl
  | [], b :: m, _, _, hs => absurd (hs.symm.mem h (List.mem_cons_self)) (by simp)
  | a :: l, [], _, _, hs => absurd (hs.mem h (List.mem_cons_self)) (by simp)
  | a :: l, b :: m, hl, hm, hs => by
    unfold Sorted at hl hm
    rw [List.pairwise_cons] at hl hm
    have h1 : lt a b = false := by
      rcases List.mem_cons.1 (hs.mem h (List.mem_cons_self (a := a) (l := l))) with e | e
      · rw [e]; exact h.irrefl b
      · exact hm.1 a e
    have h2 : lt b a = false := by
      rcases List.mem_cons.1 (hs.symm.mem h (List.mem_cons_self (a := b) (l := m))) with e | e
      · rw [e]; exact h.irrefl a
      · exact hl.1 b e
    have hab : a = b := by
      have := hs a
      rw [List.filter_cons_of_pos (h.eqv_refl a), List.filter_cons_of_pos (eqv_iff.2 ⟨h1, h2⟩)] at this
      exact (List.cons.inj this).1
    subst hab
    congr 1
    refine same_unique h hl.2 hm.2 fun x => ?_
    have := hs x
    rw [List.filter_cons, List.filter_cons] at this
    split at this
    · exact (List.cons.inj this).2
    · exact this

/-! ### the sorted list -/
def ins (lt : α → α → Bool) (x : α) : List α → List α
  | [] => [x]
  | y :: l => if lt x y then x :: y :: l else y :: ins lt x l
def sortL (lt : α → α → Bool) : List α → List α := fun l => l.foldl (fun s x => ins lt x s) []
theorem mem_ins {x y : α} : ∀ {l : List α}, y ∈ ins lt x l ↔ y = x ∨ y ∈ l
  | [] => by simp [ins]
  | z :: l => by
    unfold ins
    split
    · simp
    · simp only [List.mem_cons, mem_ins (l := l)]
      constructor
      · rintro (h | h | h)
        · exact .inr (.inl h)
        · exact .inl h
        · exact .inr (.inr h)
      · rintro (h | h | h)
        · exact .inr (.inl h)
        · exact .inl h
        · exact .inr (.inr h)
theorem ins_length (x : α) : ∀ l : List α, (ins lt x l).length = l.length + 1
  | [] => rfl
  | z :: l => by
    unfold ins
    split
    · rfl
    · simp [ins_length x l]
theorem ins_sorted (h : Weak lt) (x : α) : ∀ {l : List α}, Sorted lt l → Sorted lt (ins lt x l)
  | [], _ => by simp [ins, Sorted]
  | z :: l, hs => by
    unfold Sorted at hs ⊢
    rw [List.pairwise_cons] at hs
    unfold ins
    split
    · rename_i hc
      rw [List.pairwise_cons, List.pairwise_cons]
      refine ⟨fun y hy => ?_, hs⟩
      rcases List.mem_cons.1 hy with rfl | hy
      · exact h.asymm hc
      · exact h.trans (h.asymm hc) (hs.1 y hy)
    · rename_i hc
      rw [List.pairwise_cons]
      refine ⟨fun y hy => ?_, ins_sorted h x hs.2⟩
      rcases mem_ins.1 hy with rfl | hy
      · simpa using hc
      · exact hs.1 y hy
theorem ins_same (h : Weak lt) (x : α) : ∀ {l : List α}, Sorted lt l → Same lt (ins lt x l) (l ++ [x])
  | [], _ => Same.rfl' _
  | z :: l, hs => by
    unfold Sorted at hs
    rw [List.pairwise_cons] at hs
    unfold ins
    split
    · rename_i hc
      refine (Same.swap h (x := z :: l) (y := [x]) fun a ha b hb => ?_).symm
      simp at hb
      subst hb
      rcases List.mem_cons.1 ha with rfl | ha
      · exact hc
      · exact h.lt_of_lt_le hc (hs.1 a ha)
    · intro y
      have := ins_same h x hs.2 y
      rw [List.cons_append, List.filter_cons, List.filter_cons, this]
theorem sortL_snoc (l : List α) (x : α) : sortL lt (l ++ [x]) = ins lt x (sortL lt l) := by unfold sortL; rw [List.foldl_append]; rfl
theorem sortL_is (h : Weak lt) (l : List α) : Sorted lt (sortL lt l) ∧ Same lt (sortL lt l) l ∧ (sortL lt l).length = l.length := by
  suffices k : ∀ r : List α, Sorted lt (sortL lt r.reverse) ∧ Same lt (sortL lt r.reverse) r.reverse ∧ (sortL lt r.reverse).length = r.reverse.length by simpa using k l.reverse
  intro r
  induction r with
  | nil => exact ⟨List.Pairwise.nil, Same.rfl' _, rfl⟩
  | cons x r ih =>
    obtain ⟨h1, h2, h3⟩ := ih
    rw [List.reverse_cons, sortL_snoc]
    exact ⟨ins_sorted h x h1, (ins_same h x h1).trans (h2.append (Same.rfl' _)), by rw [ins_length, h3]; simp⟩
theorem sortL_eq (h : Weak lt) {l m : List α} (hs : Sorted lt m) (hm : Same lt m l) : sortL lt l = m :=
  same_unique h (sortL_is h l).1 hs ((sortL_is h l).2.1.trans hm.symm)
theorem sortL_same (h : Weak lt) {l m : List α} (hs : Same lt l m) : sortL lt l = sortL lt m := sortL_eq h (sortL_is h m).1 ((sortL_is h m).2.1.trans hs.symm)
theorem sortL_sorted (h : Weak lt) {l : List α} (hs : Sorted lt l) : sortL lt l = l := sortL_eq h hs (Same.rfl' _)
theorem sortL_length (h : Weak lt) (l : List α) : (sortL lt l).length = l.length := (sortL_is h l).2.2
theorem mem_sortL (h : Weak lt) {l : List α} {x : α} : x ∈ sortL lt l ↔ x ∈ l := ⟨fun hx => (sortL_is h l).2.1.mem h hx, fun hx => (sortL_is h l).2.1.symm.mem h hx⟩
theorem sortL_pair (h : Weak lt) (l m : List α) : sortL lt (sortL lt l ++ sortL lt m) = sortL lt (l ++ m) := sortL_same h ((sortL_is h l).2.1.append (sortL_is h m).2.1)
theorem Sorted.append {l m : List α} (hl : Sorted lt l) (hm : Sorted lt m) (hx : ∀ a ∈ l, ∀ b ∈ m, lt b a = false) : Sorted lt (l ++ m) := List.pairwise_append.2 ⟨hl, hm, hx⟩
theorem Sorted.take {l : List α} (h : Sorted lt l) (k : Nat) : Sorted lt (l.take k) := h.sublist (List.take_sublist _ _)
theorem Sorted.drop {l : List α} (h : Sorted lt l) (k : Nat) : Sorted lt (l.drop k) := h.sublist (List.drop_sublist _ _)
theorem Sorted.at {l : List α} (h : Sorted lt l) {i j : Nat} (hi : i < l.length) (hj : j < l.length) (hle : i ≤ j) (hw : Weak lt) : lt l[j] l[i] = false := by
  rcases Nat.lt_or_ge i j with hlt | hge
  · exact List.pairwise_iff_getElem.1 h i j hi hj hlt
  · have : i = j := by omega
    subst this; exact hw.irrefl _

/-! ### one put into its place -/
/-- A list that is sorted but for its last one, which was moved down past some: what stands now. -/
def shifted (s : List α) (x : α) (j : Nat) : List α := s.take j ++ x :: s.drop j
theorem ins_shift (h : Weak lt) {s : List α} (hs : Sorted lt s) {x : α} {j : Nat} (hj : j ≤ s.length) (hlo : ∀ i (hi : i < s.length), i < j → lt x s[i] = false) (hhi : ∀ i (hi : i < s.length), j ≤ i → lt x s[i] = true) : ins lt x s = shifted s x j := by
  refine same_unique h (ins_sorted h x hs) ?_ ((ins_same h x hs).trans ?_)
  · unfold shifted
    refine Sorted.append (hs.take j) ?_ fun a ha b hb => ?_
    · refine List.pairwise_cons.2 ⟨fun b hb => ?_, hs.drop j⟩
      obtain ⟨i, hi, rfl⟩ := List.getElem_of_mem hb
      rw [List.length_drop] at hi
      rw [List.getElem_drop]
      exact h.asymm (hhi _ (by omega) (by omega))
    · obtain ⟨i, hi, rfl⟩ := List.getElem_of_mem ha
      rw [List.length_take] at hi
      rw [List.getElem_take]
      rcases List.mem_cons.1 hb with rfl | hb
      · exact hlo i (by omega) (by omega)
      · obtain ⟨k, hk, rfl⟩ := List.getElem_of_mem hb
        rw [List.length_drop] at hk
        rw [List.getElem_drop]
        exact hs.at (by omega) (by omega) (by omega) h
  · have e : s ++ [x] = s.take j ++ (s.drop j ++ [x]) := by rw [← List.append_assoc, List.take_append_drop]
    rw [e]
    unfold shifted
    refine (Same.rfl' _).append (Same.swap h (x := s.drop j) (y := [x]) fun a ha b hb => ?_)
    simp at hb
    subst hb
    obtain ⟨i, hi, rfl⟩ := List.getElem_of_mem ha
    rw [List.length_drop] at hi
    rw [List.getElem_drop]
    exact hhi _ (by omega) (by omega)
theorem shifted_length (s : List α) (x : α) {j : Nat} (hj : j ≤ s.length) : (shifted s x j).length = s.length + 1 := by unfold shifted; simp; omega
theorem shifted_at (s : List α) (x : α) {j : Nat} (hj : j ≤ s.length) : (shifted s x j)[j]? = some x := by
  unfold shifted
  rw [List.getElem?_append_right (by rw [List.length_take]; omega), List.length_take, Nat.min_eq_left hj, Nat.sub_self]
  rfl
theorem shifted_prev (s : List α) (x : α) {j : Nat} (hj : j + 1 ≤ s.length) : (shifted s x (j + 1))[j]? = some (s[j]'(by omega)) := by
  unfold shifted
  rw [List.getElem?_append_left (by simp; omega), List.getElem?_take, if_pos (by omega)]
  exact List.getElem?_eq_getElem (by omega)
theorem shifted_down (s : List α) (x : α) {j : Nat} (hj : j < s.length) : ((shifted s x (j + 1)).set (j + 1) s[j]).set j x = shifted s x j := by
  unfold shifted
  have hl : (s.take (j + 1)).length = j + 1 := by simp; omega
  rw [List.set_append_right _ _ (by omega), hl, Nat.sub_self, List.set_cons_zero, List.set_append_left _ _ (by omega), List.take_succ_eq_append_getElem hj, List.set_append_right _ _ (by simp; omega)]
  have e : j - (s.take j).length = 0 := by simp; omega
  rw [e, List.set_cons_zero, List.append_assoc, List.drop_eq_getElem_cons hj]
  rfl
end
end Go.Cph.So

/- Stable sorting, plainly: two sorted rows made one; blocks. No program in sight. -/
set_option linter.unusedVariables false
set_option linter.unusedSimpArgs false
namespace Go.Cph.So
section
variable {α : Type} {lt : α → α → Bool}

/-! ### one in front of a sorted row; one behind -/
theorem front_one (h : Weak lt) {y : List α} (hy : Sorted lt y) {x : α} {t : Nat} (ht : t ≤ y.length) (hlo : ∀ i (hi : i < y.length), i < t → lt y[i] x = true) (hhi : ∀ i (hi : i < y.length), t ≤ i → lt y[i] x = false) :
    sortL lt ([x] ++ y) = y.take t ++ x :: y.drop t := by
  refine sortL_eq h ?_ ?_
  · refine Sorted.append (hy.take t) ?_ fun a ha b hb => ?_
    · refine List.pairwise_cons.2 ⟨fun b hb => ?_, hy.drop t⟩
      obtain ⟨i, hi, rfl⟩ := List.getElem_of_mem hb
      rw [List.length_drop] at hi
      rw [List.getElem_drop]
      exact hhi _ (by omega) (by omega)
    · obtain ⟨i, hi, rfl⟩ := List.getElem_of_mem ha
      rw [List.length_take] at hi
      rw [List.getElem_take]
      rcases List.mem_cons.1 hb with rfl | hb
      · exact h.asymm (hlo i (by omega) (by omega))
      · obtain ⟨k, hk, rfl⟩ := List.getElem_of_mem hb
        rw [List.length_drop] at hk
        rw [List.getElem_drop]
        exact hy.at (by omega) (by omega) (by omega) h
  · have e1 : y.take t ++ x :: y.drop t = (y.take t ++ [x]) ++ y.drop t := by simp
    have e2 : [x] ++ y = ([x] ++ y.take t) ++ y.drop t := by rw [List.append_assoc, List.take_append_drop]
    rw [e1, e2]
    refine Same.append (Same.swap h fun a ha b hb => ?_).symm (Same.rfl' _)
    simp at ha
    subst ha
    obtain ⟨i, hi, rfl⟩ := List.getElem_of_mem hb
    rw [List.length_take] at hi
    rw [List.getElem_take]
    exact hlo i (by omega) (by omega)
theorem behind_one (h : Weak lt) {s : List α} (hs : Sorted lt s) {x : α} {j : Nat} (hj : j ≤ s.length) (hlo : ∀ i (hi : i < s.length), i < j → lt x s[i] = false) (hhi : ∀ i (hi : i < s.length), j ≤ i → lt x s[i] = true) :
    sortL lt (s ++ [x]) = shifted s x j := by
  rw [sortL_snoc, sortL_sorted h hs]
  exact ins_shift h hs hj hlo hhi
/-! ### where two sorted rows part -/
theorem sym_split (h : Weak lt) {x y : List α} (hx : Sorted lt x) (hy : Sorted lt y) {s e : Nat} (hs : s ≤ x.length) (he : e ≤ y.length)
    (h1 : ∀ (a : s < x.length) (b : 0 < e), lt (y[e - 1]'(by omega)) x[s] = true) (h2 : ∀ (a : 0 < s) (b : e < y.length), lt y[e] (x[s - 1]'(by omega)) = false) :
    sortL lt (x ++ y) = sortL lt (x.take s ++ y.take e) ++ sortL lt (x.drop s ++ y.drop e) := by
  have hyx : ∀ a ∈ x.drop s, ∀ b ∈ y.take e, lt b a = true := by
    intro a ha b hb
    obtain ⟨i, hi, rfl⟩ := List.getElem_of_mem ha
    obtain ⟨j, hj, rfl⟩ := List.getElem_of_mem hb
    rw [List.length_drop] at hi
    rw [List.length_take] at hj
    rw [List.getElem_drop, List.getElem_take]
    have g := h1 (by omega) (by omega)
    have g1 := hx.at (i := s) (j := s + i) (by omega) (by omega) (by omega) h
    have g2 := hy.at (i := j) (j := e - 1) (by omega) (by omega) (by omega) h
    exact h.lt_of_lt_le (h.lt_of_le_lt g2 g) g1
  refine sortL_eq h ?_ ?_
  · refine Sorted.append (sortL_is h _).1 (sortL_is h _).1 fun a ha b hb => ?_
    rw [mem_sortL h, List.mem_append] at ha hb
    rcases ha with ha | ha <;> rcases hb with hb | hb
    · have := hx
      unfold Sorted at this
      rw [← List.take_append_drop s x, List.pairwise_append] at this
      exact this.2.2 a ha b hb
    · obtain ⟨i, hi, rfl⟩ := List.getElem_of_mem ha
      obtain ⟨j, hj, rfl⟩ := List.getElem_of_mem hb
      rw [List.length_take] at hi
      rw [List.length_drop] at hj
      rw [List.getElem_take, List.getElem_drop]
      have g := h2 (by omega) (by omega)
      have g1 := hx.at (i := i) (j := s - 1) (by omega) (by omega) (by omega) h
      have g2 := hy.at (i := e) (j := e + j) (by omega) (by omega) (by omega) h
      exact h.trans (h.trans g1 g) g2
    · exact h.asymm (hyx b hb a ha)
    · have := hy
      unfold Sorted at this
      rw [← List.take_append_drop e y, List.pairwise_append] at this
      exact this.2.2 a ha b hb
  · refine ((sortL_is h _).2.1.append (sortL_is h _).2.1).trans ?_
    have e1 : x.take s ++ y.take e ++ (x.drop s ++ y.drop e) = x.take s ++ ((y.take e ++ x.drop s) ++ y.drop e) := by simp
    have e2 : x ++ y = x.take s ++ ((x.drop s ++ y.take e) ++ y.drop e) := by
      conv => lhs; rw [← List.take_append_drop s x, ← List.take_append_drop e y]
      simp only [List.append_assoc]
    rw [e1, e2]
    exact (Same.rfl' _).append ((Same.swap h hyx).symm.append (Same.rfl' _))
/-- The test of the search: the document's own order is not asked. -/
def symT (lt : α → α → Bool) (x y : List α) (hh i : Nat) : Prop := ∀ (a : i < x.length) (b : hh - 1 - i < y.length), lt (y[hh - 1 - i]) (x[i]) = true
def symF (lt : α → α → Bool) (x y : List α) (hh i : Nat) : Prop := ∀ (a : i < x.length) (b : hh - 1 - i < y.length), lt (y[hh - 1 - i]) (x[i]) = false
theorem symF_down (h : Weak lt) {x y : List α} (hx : Sorted lt x) (hy : Sorted lt y) {hh i j : Nat} (hij : i ≤ j) (hj : j < x.length) (hjh : j < hh) (hb : hh - 1 - i < y.length) (hf : lt (y[hh - 1 - j]'(by omega)) x[j] = false) : symF lt x y hh i := fun a b => by
  have g1 := hx.at (i := i) (j := j) a hj hij h
  have g2 := hy.at (i := hh - 1 - j) (j := hh - 1 - i) (by omega) b (by omega) h
  exact h.trans (h.trans g1 hf) g2
theorem symT_up (h : Weak lt) {x y : List α} (hx : Sorted lt x) (hy : Sorted lt y) {hh i j : Nat} (hij : i ≤ j) (hi : i < x.length) (hjh : j < hh) (hb : hh - 1 - i < y.length) (hf : lt (y[hh - 1 - i]) x[i] = true) : symT lt x y hh j := fun a b => by
  have g1 := hx.at (i := i) (j := j) hi a hij h
  have g2 := hy.at (i := hh - 1 - j) (j := hh - 1 - i) b hb (by omega) h
  exact h.lt_of_lt_le (h.lt_of_le_lt g2 hf) g1

/-! ### blocks -/
/-- r is l with each of its blocks of so many sorted. -/
inductive Blk (lt : α → α → Bool) (bs : Nat) : List α → List α → Prop
  | nil : Blk lt bs [] []
  | last (c : List α) (h0 : 0 < c.length) (h : c.length ≤ bs) : Blk lt bs c (sortL lt c)
  | cons {l r : List α} (c : List α) (h : c.length = bs) (k : Blk lt bs l r) : Blk lt bs (c ++ l) (sortL lt c ++ r)
theorem Blk.len (h : Weak lt) {bs : Nat} {l r : List α} (k : Blk lt bs l r) : r.length = l.length := by
  induction k with
  | nil => rfl
  | last c h0 hl => exact sortL_length h c
  | cons c hl k ih => rw [List.length_append, List.length_append, sortL_length h, ih]
/-- One block alone. -/
theorem Blk.whole (h : Weak lt) {bs : Nat} {l r : List α} (k : Blk lt bs l r) (hl : l.length ≤ bs) (h0 : 0 < bs) : r = sortL lt l := by
  cases k with
  | nil => rfl
  | last c _ _ => rfl
  | cons c hc k =>
    rename_i l' r'
    rw [List.length_append] at hl
    have e : l' = [] := List.eq_nil_of_length_eq_zero (by omega)
    have e2 : r' = [] := List.eq_nil_of_length_eq_zero (by have := k.len h; rw [this, e]; rfl)
    rw [e, e2, List.append_nil, List.append_nil]
/-- The first two blocks, where there are more than one block. -/
theorem Blk.two (h : Weak lt) {bs : Nat} {l r : List α} (k : Blk lt bs l r) (h0 : 0 < bs) (hl : bs < l.length) :
    ∃ c l' r', l = c ++ l' ∧ r = sortL lt c ++ r' ∧ c.length = bs ∧ Blk lt bs l' r' := by
  cases k with
  | nil => simp at hl
  | last c _ hc => omega
  | cons c hc k => exact ⟨c, _, _, rfl, rfl, hc, k⟩
theorem Blk.one {bs : Nat} {l : List α} (hl : l.length ≤ bs) : Blk lt bs l (sortL lt l) := by
  rcases Nat.eq_zero_or_pos l.length with h | h
  · have : l = [] := List.eq_nil_of_length_eq_zero h
    subst this; exact .nil
  · exact .last l h hl
/-- Whole blocks, and what is behind. -/
inductive Full (lt : α → α → Bool) (bs : Nat) : Nat → List α → List α → Prop
  | nil : Full lt bs 0 [] []
  | snoc {n : Nat} {l r : List α} (k : Full lt bs n l r) (c : List α) (h : c.length = bs) : Full lt bs (n + 1) (l ++ c) (r ++ sortL lt c)
theorem Full.len (h : Weak lt) {bs n : Nat} {l r : List α} (k : Full lt bs n l r) : l.length = n * bs ∧ r.length = n * bs := by
  induction k with
  | nil => simp
  | snoc k c hc ih => rw [List.length_append, List.length_append, sortL_length h, ih.1, ih.2, hc, Nat.succ_mul]; exact ⟨rfl, rfl⟩
theorem Full.blk {bs n : Nat} {l r : List α} (k : Full lt bs n l r) : ∀ {l' r' : List α}, Blk lt bs l' r' → Blk lt bs (l ++ l') (r ++ r') := by
  induction k with
  | nil => intro l' r' h; exact h
  | snoc k c hc ih =>
    intro l' r' h
    rw [List.append_assoc, List.append_assoc]
    exact ih (.cons c hc h)

/-! ### a part of a row set anew -/
theorem set_mid (p l q : List α) (j : Nat) (hj : j < l.length) (v : α) : (p ++ (l ++ q)).set (p.length + j) v = p ++ (l.set j v ++ q) := by
  rw [List.set_append_right _ _ (by omega), Nat.add_sub_cancel_left, List.set_append_left _ _ hj]
theorem get_mid (p l q : List α) (j : Nat) (hj : j < l.length) : (p ++ (l ++ q))[p.length + j]? = some l[j] := by
  rw [List.getElem?_append_right (by omega), Nat.add_sub_cancel_left, List.getElem?_append_left hj]
  exact List.getElem?_eq_getElem hj
end
end Go.Cph.So

/- Stable sorting, plainly: of alike ones the first; rows that rise are told by what is in them. No program in sight. -/
set_option linter.unusedVariables false
set_option linter.unusedSimpArgs false
namespace Go.Cph.So
section
variable {α : Type} {lt : α → α → Bool}
theorem eqv_comm (x y : α) : eqv lt x y = eqv lt y x := by unfold eqv; rw [Bool.and_comm]
theorem Weak.eqv_tr (h : Weak lt) {x y z : α} (h1 : eqv lt x y = true) (h2 : eqv lt y z = true) : eqv lt x z = true := by
  rw [eqv_iff] at h1 h2 ⊢
  exact ⟨h.trans h2.1 h1.1, h.trans h1.2 h2.2⟩
theorem Weak.eqv_left (h : Weak lt) {x y : α} (h1 : eqv lt x y = true) (z : α) : eqv lt z x = eqv lt z y := by
  rw [Bool.eq_iff_iff]
  exact ⟨fun k => h.eqv_tr k h1, fun k => h.eqv_tr k (by rw [eqv_comm]; exact h1)⟩
/-- A row that rises. -/
def Strict (lt : α → α → Bool) (l : List α) : Prop := l.Pairwise fun a b => lt a b = true
theorem Strict.sorted (h : Weak lt) {l : List α} (hs : Strict lt l) : Sorted lt l := List.Pairwise.imp (fun {a b} hab => h.asymm hab) hs
theorem strict_unique (h : Weak lt) : ∀ {l m : List α}, Strict lt l → Strict lt m → (∀ x, x ∈ l ↔ x ∈ m) → l = m
  | [], [], _, _, _ => rfl
  | [], b :: m, _, _, hs => absurd ((hs b).2 List.mem_cons_self) (by simp)
  | a :: l, [], _, _, hs => absurd ((hs a).1 List.mem_cons_self) (by simp)
  | a :: l, b :: m, hl, hm, hs => by
    unfold Strict at hl hm
    rw [List.pairwise_cons] at hl hm
    have hab : a = b := by
      rcases List.mem_cons.1 ((hs a).1 List.mem_cons_self) with e | e
      · exact e
      · rcases List.mem_cons.1 ((hs b).2 List.mem_cons_self) with e2 | e2
        · exact e2.symm
        · have h1 := hm.1 a e
          have h2 := h.asymm (hl.1 b e2)
          rw [h1] at h2; cases h2
    subst hab
    congr 1
    refine strict_unique h hl.2 hm.2 fun x => ?_
    have := hs x
    simp only [List.mem_cons] at this
    constructor
    · intro hx
      rcases this.1 (.inr hx) with e | e
      · subst e; have h1 := hl.1 x hx; rw [h.irrefl] at h1; cases h1
      · exact e
    · intro hx
      rcases this.2 (.inr hx) with e | e
      · subst e; have h1 := hm.1 x hx; rw [h.irrefl] at h1; cases h1
      · exact e

/-! ### of alike ones the first -/
/-- Is it the first of those alike? -/
def Fst (lt : α → α → Bool) (l : List α) (x : α) : Prop := (l.filter (eqv lt x)).head? = some x
theorem Fst.mem {l : List α} {x : α} (h : Fst lt l x) : x ∈ l := by
  have : x ∈ l.filter (eqv lt x) := List.mem_of_mem_head? (by rw [h]; rfl)
  exact (List.mem_filter.1 this).1
theorem Fst.same {l m : List α} (hs : Same lt l m) {x : α} : Fst lt l x ↔ Fst lt m x := by unfold Fst; rw [hs x]
theorem fst_some (h : Weak lt) {l : List α} {x : α} (hx : x ∈ l) : ∃ y, Fst lt l y ∧ eqv lt x y = true := by
  have hm : x ∈ l.filter (eqv lt x) := List.mem_filter.2 ⟨hx, h.eqv_refl x⟩
  cases hf : l.filter (eqv lt x) with
  | nil => rw [hf] at hm; cases hm
  | cons y r =>
    have hy : y ∈ l.filter (eqv lt x) := by rw [hf]; exact List.mem_cons_self
    have hxy := (List.mem_filter.1 hy).2
    refine ⟨y, ?_, hxy⟩
    have e : l.filter (eqv lt y) = l.filter (eqv lt x) := by
      congr 1; funext z
      rw [eqv_comm y z, eqv_comm x z, h.eqv_left (by rw [eqv_comm]; exact hxy)]
    unfold Fst
    rw [e, hf]; rfl
def compA (lt : α → α → Bool) : α → List α → List α
  | _, [] => []
  | p, b :: l => if eqv lt b p then compA lt b l else b :: compA lt b l
def compactL (lt : α → α → Bool) : List α → List α
  | [] => []
  | a :: l => a :: compA lt a l
theorem compA_snoc (lt : α → α → Bool) (x : α) : ∀ (l : List α) (p : α), compA lt p (l ++ [x]) = compA lt p l ++ (if eqv lt x ((p :: l).getLast (by simp)) then [] else [x])
  | [], p => by by_cases h : eqv lt x p = true <;> simp [compA, h]
  | b :: l, p => by
    simp only [List.cons_append, compA]
    have ih := compA_snoc lt x l b
    rw [List.getLast_cons (by simp)]
    split
    · exact ih
    · rw [ih]; rfl
theorem mem_compA (h : Weak lt) {x : α} : ∀ {l : List α} {p : α}, Sorted lt (p :: l) → (x ∈ compA lt p l ↔ eqv lt x p = false ∧ (l.filter (eqv lt x)).head? = some x)
  | [], p, _ => by simp [compA]
  | b :: l, p, hs => by
    unfold Sorted at hs
    rw [List.pairwise_cons] at hs
    have ih := mem_compA h (x := x) (l := l) (p := b) hs.2
    unfold compA
    by_cases hbp : eqv lt b p = true
    · rw [if_pos hbp, ih, h.eqv_left hbp x]
      refine and_congr_right fun hxp => ?_
      rw [List.filter_cons, h.eqv_left hbp x, hxp]
      simp
    · rw [if_neg hbp, List.mem_cons, ih, List.filter_cons]
      by_cases hxb : eqv lt x b = true
      · rw [if_pos hxb, hxb]
        simp only [List.head?_cons, Option.some.injEq, Bool.true_eq_false, false_and, or_false]
        constructor
        · rintro rfl; exact ⟨by simpa using hbp, rfl⟩
        · exact fun k => k.2.symm
      · have hxb' : eqv lt x b = false := by simpa using hxb
        have hne : x ≠ b := fun e => by subst e; rw [h.eqv_refl] at hxb'; cases hxb'
        rw [hxb']
        simp only [hne, false_or, true_and, Bool.false_eq_true, if_false]
        constructor
        · intro hh
          refine ⟨?_, hh⟩
          have hxl : x ∈ l := (Fst.mem (lt := lt) hh)
          cases hxp : eqv lt x p with
          | false => rfl
          | true =>
            exfalso; apply hbp
            have hr := hs.2
            rw [List.pairwise_cons] at hr
            have h1 := hs.1 b List.mem_cons_self
            have h2 := hr.1 x hxl
            obtain ⟨h3, h4⟩ := eqv_iff.1 hxp
            exact eqv_iff.2 ⟨h1, h.trans h2 h4⟩
        · exact fun k => k.2
theorem mem_compactL (h : Weak lt) {x : α} {l : List α} (hs : Sorted lt l) : x ∈ compactL lt l ↔ Fst lt l x := by
  cases l with
  | nil => simp [compactL, Fst]
  | cons a l =>
    unfold compactL Fst
    rw [List.mem_cons, mem_compA h hs, List.filter_cons]
    by_cases hxa : eqv lt x a = true
    · rw [if_pos hxa, hxa]; simp; exact ⟨fun e => e.symm, fun e => e.symm⟩
    · have hxa' : eqv lt x a = false := by simpa using hxa
      have hne : x ≠ a := fun e => by subst e; rw [h.eqv_refl] at hxa'; cases hxa'
      rw [hxa']; simp [hne]
theorem compA_sub (lt : α → α → Bool) : ∀ (l : List α) (p : α), (compA lt p l).Sublist l
  | [], _ => List.Sublist.slnil
  | b :: l, p => by
    unfold compA
    split
    · exact (compA_sub lt l b).cons _
    · exact (compA_sub lt l b).cons_cons _
theorem compactL_sub (lt : α → α → Bool) (l : List α) : (compactL lt l).Sublist l := by
  cases l with
  | nil => exact List.Sublist.slnil
  | cons a l => exact (compA_sub lt l a).cons_cons _
theorem compA_strict (h : Weak lt) : ∀ {l : List α} {p : α}, Sorted lt (p :: l) → Strict lt (p :: compA lt p l)
  | [], p, _ => by simp [compA, Strict]
  | b :: l, p, hs => by
    unfold Sorted at hs
    rw [List.pairwise_cons] at hs
    have ih := compA_strict h (l := l) (p := b) hs.2
    unfold Strict at ih ⊢
    rw [List.pairwise_cons] at ih
    unfold compA
    by_cases hbp : eqv lt b p = true
    · rw [if_pos hbp, List.pairwise_cons]
      exact ⟨fun x hx => h.lt_of_le_lt (eqv_iff.1 hbp).1 (ih.1 x hx), ih.2⟩
    · rw [if_neg hbp, List.pairwise_cons, List.pairwise_cons]
      have hpb : lt p b = true := by
        have h1 := hs.1 b List.mem_cons_self
        cases k : lt p b with
        | true => rfl
        | false => exact absurd (eqv_iff.2 ⟨h1, k⟩) hbp
      refine ⟨fun x hx => ?_, ih⟩
      rcases List.mem_cons.1 hx with rfl | hx
      · exact hpb
      · exact h.lt_of_lt_le hpb (h.asymm (ih.1 x hx))
theorem compactL_strict (h : Weak lt) {l : List α} (hs : Sorted lt l) : Strict lt (compactL lt l) := by
  cases l with
  | nil => exact List.Pairwise.nil
  | cons a l => exact compA_strict h hs
theorem strict_fst (h : Weak lt) {l : List α} (hs : Strict lt l) {x : α} (hx : x ∈ l) : Fst lt l x := by
  obtain ⟨y, hy, hxy⟩ := fst_some h hx
  have hyl := hy.mem
  have hxe : x = y := by
    obtain ⟨i, hi, rfl⟩ := List.getElem_of_mem hx
    obtain ⟨j, hj, rfl⟩ := List.getElem_of_mem hyl
    obtain ⟨h1, h2⟩ := eqv_iff.1 hxy
    rcases Nat.lt_trichotomy i j with hlt | rfl | hlt
    · have := List.pairwise_iff_getElem.1 hs i j hi hj hlt; rw [h1] at this; cases this
    · rfl
    · have := List.pairwise_iff_getElem.1 hs j i hj hi hlt; rw [h2] at this; cases this
  rw [hxe]; exact hy

/-- Lists put together: sorted, of alike ones the first. -/
def mergeL (lt : α → α → Bool) (l : List α) : List α := compactL lt (sortL lt l)
theorem mergeL_strict (h : Weak lt) (l : List α) : Strict lt (mergeL lt l) := compactL_strict h (sortL_is h l).1
theorem mem_mergeL (h : Weak lt) {l : List α} {x : α} : x ∈ mergeL lt l ↔ Fst lt l x := by
  unfold mergeL
  rw [mem_compactL h (sortL_is h l).1]
  exact Fst.same (sortL_is h l).2.1
theorem mergeL_eq (h : Weak lt) {l m : List α} (hm : Strict lt m) (hs : ∀ x, x ∈ m ↔ Fst lt l x) : mergeL lt l = m :=
  strict_unique h (mergeL_strict h l) hm fun x => by rw [mem_mergeL h, hs x]
theorem mergeL_length (h : Weak lt) (l : List α) : (mergeL lt l).length ≤ l.length := by
  have := (compactL_sub lt (sortL lt l)).length_le
  rw [sortL_length h] at this
  exact this
theorem mergeL_self (h : Weak lt) {l : List α} (hs : Strict lt l) : mergeL lt l = l :=
  mergeL_eq h hs fun x => ⟨strict_fst h hs, Fst.mem⟩
end
end Go.Cph.So

/- Stable sorting, plainly: what a row is while one is put into its place. No program in sight. -/
set_option linter.unusedVariables false
set_option linter.unusedSimpArgs false
namespace Go.Cph.So
section
variable {α : Type} {lt : α → α → Bool}
/-- The first t of c are sorted. -/
def insA (lt : α → α → Bool) (p c q : List α) (t : Nat) : List α := p ++ (sortL lt (c.take t) ++ (c.drop t ++ q))
theorem sortL_le_one (c : List α) (h : c.length ≤ 1) : sortL lt c = c := by
  rcases c with _ | ⟨a, _ | ⟨b, c⟩⟩
  · rfl
  · rfl
  · simp at h
theorem insA_start (p c q : List α) : insA lt p c q 1 = p ++ (c ++ q) := by
  unfold insA
  rw [sortL_le_one _ (by simp; omega), ← List.append_assoc (c.take 1), List.take_append_drop]
theorem insA_end (p c q : List α) {t : Nat} (h : c.length ≤ t) : insA lt p c q t = p ++ (sortL lt c ++ q) := by
  unfold insA
  rw [List.take_of_length_le h, List.drop_of_length_le h, List.nil_append]
theorem insA_length (h : Weak lt) (p c q : List α) (t : Nat) : (insA lt p c q t).length = p.length + (c.length + q.length) := by
  unfold insA
  simp only [List.length_append, sortL_length h, List.length_take, List.length_drop]
  omega
/-- .. and the next one moves down. -/
def insB (lt : α → α → Bool) (p c q : List α) (t : Nat) (x : α) (k : Nat) : List α := p ++ (shifted (sortL lt (c.take t)) x k ++ (c.drop (t + 1) ++ q))
theorem take_len {t : Nat} {c : List α} (ht : t < c.length) : (c.take t).length = t := by rw [List.length_take]; omega
theorem insB_start (h : Weak lt) (p c q : List α) {t : Nat} (ht : t < c.length) : insA lt p c q t = insB lt p c q t c[t] t := by
  unfold insA insB shifted
  have hl : (sortL lt (c.take t)).length = t := by rw [sortL_length h, take_len ht]
  have e1 : (sortL lt (c.take t)).take t = sortL lt (c.take t) := List.take_of_length_le (by omega)
  have e2 : (sortL lt (c.take t)).drop t = [] := List.drop_of_length_le (by omega)
  rw [e1, e2, List.drop_eq_getElem_cons ht]
  simp only [List.append_assoc, List.cons_append, List.nil_append]
theorem insB_at (h : Weak lt) (p c q : List α) {t k : Nat} (ht : t < c.length) (x : α) (hk : k ≤ t) : (insB lt p c q t x k)[p.length + k]? = some x := by
  have hl : (sortL lt (c.take t)).length = t := by rw [sortL_length h, take_len ht]
  unfold insB
  rw [get_mid _ _ _ k (by rw [shifted_length _ _ (by omega)]; omega), ← shifted_at (sortL lt (c.take t)) x (j := k) (by omega)]
  exact (List.getElem?_eq_getElem _).symm
theorem insB_prev (h : Weak lt) (p c q : List α) {t k : Nat} (ht : t < c.length) (x : α) (hk : k + 1 ≤ t) : (insB lt p c q t x (k + 1))[p.length + k]? = (sortL lt (c.take t))[k]? := by
  have hl : (sortL lt (c.take t)).length = t := by rw [sortL_length h, take_len ht]
  unfold insB
  rw [get_mid _ _ _ k (by rw [shifted_length _ _ (by omega)]; omega)]
  have := shifted_prev (sortL lt (c.take t)) x (j := k) (by omega)
  rw [List.getElem?_eq_getElem (by rw [shifted_length _ _ (by omega)]; omega)] at this
  rw [this]
  exact (List.getElem?_eq_getElem _).symm
theorem insB_down (h : Weak lt) (p c q : List α) {t k : Nat} (ht : t < c.length) (x y : α) (hk : k + 1 ≤ t) (hy : (sortL lt (c.take t))[k]? = some y) :
    ((insB lt p c q t x (k + 1)).set (p.length + (k + 1)) y).set (p.length + k) x = insB lt p c q t x k := by
  have hl : (sortL lt (c.take t)).length = t := by rw [sortL_length h, take_len ht]
  have hy' : y = (sortL lt (c.take t))[k]'(by omega) := by
    rw [List.getElem?_eq_getElem (by omega)] at hy; exact (Option.some.inj hy).symm
  unfold insB
  rw [set_mid _ _ _ _ (by rw [shifted_length _ _ (by omega)]; omega), set_mid _ _ _ _ (by rw [List.length_set, shifted_length _ _ (by omega)]; omega), hy', shifted_down _ x (by omega)]
theorem insB_end (h : Weak lt) (p c q : List α) {t k : Nat} (ht : t < c.length) (hk : k ≤ t)
    (hlo : ∀ y, 0 < k → (sortL lt (c.take t))[k - 1]? = some y → lt c[t] y = false) (hhi : ∀ i y, k ≤ i → (sortL lt (c.take t))[i]? = some y → lt c[t] y = true) :
    insB lt p c q t c[t] k = insA lt p c q (t + 1) := by
  have hl : (sortL lt (c.take t)).length = t := by rw [sortL_length h, take_len ht]
  have hs := (sortL_is h (c.take t)).1
  unfold insA insB
  rw [List.take_succ_eq_append_getElem ht, sortL_snoc, ins_shift h hs (j := k) (by omega) (fun i hi hik => ?_) (fun i hi hik => hhi i _ hik (List.getElem?_eq_getElem hi))]
  have h0 := hlo _ (by omega) (List.getElem?_eq_getElem (by omega))
  exact h.trans (hs.at (i := i) (j := k - 1) hi (by omega) (by omega) h) h0
end
end Go.Cph.So

/- Stable sorting, plainly: two blocks change places; blocks turned round. No program in sight. -/
set_option linter.unusedVariables false
set_option linter.unusedSimpArgs false
namespace Go.Cph.So
section
variable {α : Type}
/-- Two blocks of one length, of which the first t have changed places. -/
def exA (p u m v q : List α) (t : Nat) : List α := p ++ ((v.take t ++ u.drop t) ++ (m ++ ((u.take t ++ v.drop t) ++ q)))
theorem exA_start (p u m v q : List α) : exA p u m v q 0 = p ++ (u ++ (m ++ (v ++ q))) := by simp [exA]
theorem exA_end (p u m v q : List α) {t : Nat} (hu : u.length ≤ t) (hv : v.length ≤ t) : exA p u m v q t = p ++ (v ++ (m ++ (u ++ q))) := by
  unfold exA
  rw [List.take_of_length_le hu, List.take_of_length_le hv, List.drop_of_length_le hu, List.drop_of_length_le hv, List.append_nil, List.append_nil]
theorem half_len {u v : List α} (h : u.length = v.length) (t : Nat) : (v.take t ++ u.drop t).length = u.length := by simp; omega
theorem half_at {u v : List α} (h : u.length = v.length) {t : Nat} (ht : t < u.length) : (v.take t ++ u.drop t)[t]? = some u[t] := by
  rw [List.getElem?_append_right (by simp; omega), List.length_take, Nat.min_eq_left (by omega), Nat.sub_self, List.drop_eq_getElem_cons ht]
  rfl
theorem half_set {u v : List α} (h : u.length = v.length) {t : Nat} (ht : t < u.length) : (v.take t ++ u.drop t).set t (v[t]'(by omega)) = v.take (t + 1) ++ u.drop (t + 1) := by
  rw [List.set_append_right _ _ (by simp; omega), List.length_take, Nat.min_eq_left (by omega), Nat.sub_self, List.drop_eq_getElem_cons ht, List.set_cons_zero, List.take_succ_eq_append_getElem (by omega), List.append_assoc]
  rfl
theorem exA_at1 (p u m v q : List α) (h : u.length = v.length) {t : Nat} (ht : t < u.length) : (exA p u m v q t)[p.length + t]? = some u[t] := by
  unfold exA
  rw [get_mid _ _ _ t (by rw [half_len h]; exact ht), ← half_at h ht]
  exact (List.getElem?_eq_getElem _).symm
theorem exA_at2 (p u m v q : List α) (h : u.length = v.length) {t : Nat} (ht : t < u.length) : (exA p u m v q t)[p.length + u.length + m.length + t]? = some (v[t]'(by omega)) := by
  unfold exA
  have e : p ++ ((v.take t ++ u.drop t) ++ (m ++ ((u.take t ++ v.drop t) ++ q))) = (p ++ ((v.take t ++ u.drop t) ++ m)) ++ ((u.take t ++ v.drop t) ++ q) := by simp
  have hl : (p ++ ((v.take t ++ u.drop t) ++ m)).length = p.length + u.length + m.length := by
    rw [List.length_append, List.length_append, half_len h]; omega
  rw [e, ← hl, get_mid _ _ _ t (by rw [half_len h.symm]; omega), ← half_at h.symm (by omega)]
  exact (List.getElem?_eq_getElem _).symm
theorem exA_step (p u m v q : List α) (h : u.length = v.length) {t : Nat} (ht : t < u.length) :
    ((exA p u m v q t).set (p.length + t) (v[t]'(by omega))).set (p.length + u.length + m.length + t) u[t] = exA p u m v q (t + 1) := by
  unfold exA
  rw [set_mid _ _ _ t (by rw [half_len h]; exact ht), half_set h ht]
  have e : p ++ ((v.take (t + 1) ++ u.drop (t + 1)) ++ (m ++ ((u.take t ++ v.drop t) ++ q))) = (p ++ ((v.take (t + 1) ++ u.drop (t + 1)) ++ m)) ++ ((u.take t ++ v.drop t) ++ q) := by simp
  have hl : (p ++ ((v.take (t + 1) ++ u.drop (t + 1)) ++ m)).length = p.length + u.length + m.length := by
    rw [List.length_append, List.length_append, half_len h]; omega
  rw [e, ← hl, set_mid _ _ _ t (by rw [half_len h.symm]; omega), half_set h.symm (by omega)]
  simp
/-- What is left to turn: the blocks U and V between p and q. -/
structure Rot (d g : List α) (m i j : Nat) : Prop where
  out : ∃ p U V q, d = p ++ (U ++ (V ++ q)) ∧ g = p ++ (V ++ (U ++ q)) ∧ U.length = i ∧ V.length = j ∧ p.length + U.length = m
end
end Go.Cph.So
