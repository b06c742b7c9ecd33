/- Small laws of our own on worlds, blocks and numbers, used by the walks of this seat. Of whatever program. -/
import Derived.WalkKit
import Derived.WalkLawsBesides
import Derived.WalkSpells
import Derived.Handy
import Derived.Lib.Hide
import Derived.BigQuiet
import Derived.Deep.QuietTactic
import Derived.Outline
namespace Go.Cph
open Go.RowKit

/-! ### numbers -/
theorem u64_wrap_nat (n : Nat) : IntKind.u64.wrap (n : Int) = ((n % 18446744073709551616 : Nat) : Int) := by
  rw [IntKind.wrap_u64]; omega
theorem u32_wrap_nat (n : Nat) : IntKind.u32.wrap (n : Int) = ((n % 4294967296 : Nat) : Int) := by
  rw [IntKind.wrap_u32]; omega
@[go_sem] theorem u64_byte (c : UInt8) : IntKind.u64.wrap (c.toNat : Int) = (c.toNat : Int) := IntWalk.u64_in _ (by have := c.toNat_lt; omega)
@[go_sem] theorem i64_byte (c : UInt8) : IntKind.i64.wrap (c.toNat : Int) = (c.toNat : Int) := IntWalk.i64_in _ (by have := c.toNat_lt; omega)
theorem take_snoc (s : ByteArray) (k : Nat) (h : k < s.size) : s.data.toList.take (k + 1) = s.data.toList.take k ++ [s[k]] := by
  rw [List.take_succ_eq_append_getElem (by simpa using h)]; rfl

theorem str_nil (s : ByteArray) (h : s.size = 0) : s.toList = [] := by
  rw [ByteArray.toList_eq]
  exact List.eq_nil_of_length_eq_zero (by rw [Array.length_toList]; exact h)
theorem str_some (s : ByteArray) (h : ¬ s.size = 0) : s.toList.isEmpty = false := by
  rw [ByteArray.toList_eq]
  cases hl : s.data.toList with
  | nil => exact absurd (show s.data.size = 0 by rw [← Array.length_toList, hl]; rfl) h
  | cons a l => rfl

theorem ret_bool {a b : Bool} (h : a = b) : Ending.returned (.bool a) = Ending.returned (.bool b) := by rw [h]
theorem ret_int {k : IntKind} {a b : Int} (h : a = b) : Ending.returned (.int k a) = Ending.returned (.int k b) := by rw [h]
theorem ret_str {a b : ByteArray} (h : a = b) : Ending.returned (.string a) = Ending.returned (.string b) := by rw [h]

/-! ### one block of cells, whole -/
theorem blk_cell {w : World} {b : Nat} {cur : Array Value} {E : TypeId} {fr : Nat × Nat} (h : w.heap[b]? = some (.cells cur E fr)) (j : Nat) :
    w.cell? ⟨b, j, none⟩ = cur[j]? := by simp [World.cell?, h]
theorem blk_frozen {w : World} {b : Nat} {cur : Array Value} {E : TypeId} {fr : Nat × Nat} (h : w.heap[b]? = some (.cells cur E fr)) (j : Nat) :
    w.frozen? ⟨b, j, none⟩ = (decide (fr.1 ≤ j) && decide (j < fr.2)) := by
  obtain ⟨lo, hi⟩ := fr
  simp [World.frozen?, h]
theorem blk_lt {w : World} {b : Nat} {o : Obj} (h : w.heap[b]? = some o) : b < w.heap.size := (Array.getElem?_eq_some_iff.1 h).1
theorem blk_set {w : World} {b : Nat} {cur : Array Value} {E : TypeId} {fr : Nat × Nat} (h : w.heap[b]? = some (.cells cur E fr)) (j : Nat) (v : Value) :
    (w.setCell ⟨b, j, none⟩ v).heap[b]? = some (.cells (cur.setIfInBounds j v) E fr) := by
  simp [World.setCell, Array.getElem?_modify, h]
theorem blk_set_other {w : World} {c : Nat} {a : Addr} {v : Value} (hne : c ≠ a.block) : (w.setCell a v).heap[c]? = w.heap[c]? := by
  simp only [World.setCell, Array.getElem?_modify]
  rw [if_neg (by omega)]
theorem blk_alloc {w : World} {b : Nat} {x : Obj} (h : w.heap[b]? = some x) (o : Obj) : (w.alloc o).heap[b]? = some x := by
  rw [Below.heap_alloc w o b (blk_lt h)]; exact h
theorem blk_below {B : Nat} {w w' : World} (hb : Below B w w') {b : Nat} {x : Obj} (h : w.heap[b]? = some x) (hlt : b < B) : w'.heap[b]? = some x := by
  rw [hb.block b hlt]; exact h
/-- A callee that writes nothing that was there keeps every block. -/
theorem blk_kept {w w' : World} (hb : Below w.heap.size w w') {b : Nat} {x : Obj} (h : w.heap[b]? = some x) : w'.heap[b]? = some x := blk_below hb h (blk_lt h)
theorem cell_kept {w w' : World} (hb : Below w.heap.size w w') {a : Addr} {v : Value} (h : w.cell? a = some v) : w'.cell? a = some v :=
  (hb.cell (World.block_lt_of_cell? w a h)).trans h
theorem below_step {B : Nat} {w0 w w' : World} (h : Below B w0 w) (hb : Below w.heap.size w w') (hB : B ≤ w.heap.size) : Below B w0 w' := h.trans (hb.mono hB)

/-! ### the later worlds of one world, as a type: for a region that draws its order -/
structure Later (B : Nat) (w : World) where
  val : World
  prop : Below B w val
instance laterNonempty (B : Nat) (w : World) : Nonempty (Later B w) := ⟨⟨w, Below.refl _ _⟩⟩
theorem wp_region_later {P : Program} {id : Nat} {Q : Exit → Act → World → Prop} {a : Act} {w : World} {l : List Oper} (B : Nat) (hm : P.follows .mixedOrders = true) (hB : Region.lexB .any l.toArray = true)
    (h : wpQuiet P l.toArray (fun w' => ∃ x : Later B w, w' = x.val) (fun a' => ∀ w', (∃ x : Later B w, w' = x.val) → Q .normal a' w') l a) : (Code.region id l.toArray true).wp P Q a w :=
  wp_region_quiet (C := fun w' => ∃ x : Later B w, w' = x.val) hm hB ⟨⟨_, (Below.refl B w).drew⟩, rfl⟩ (by simpa using h)
theorem Later.calls {P : Program} {f : FuncId} {args : Array Value} {B : Nat} {w : World} {x : Later B w} {v : Value} (hB : B ≤ w.heap.size)
    (h : Calls P f args x.val fun e w' => e = .returned v ∧ Below x.val.heap.size x.val w') : Calls P f args x.val fun e w'' => e = .returned v ∧ ∃ y : Later B w, w'' = y.val :=
  h.mono fun _ w' ⟨he, hb⟩ => ⟨he, ⟨w', x.prop.trans (hb.mono (Nat.le_trans hB x.prop.size))⟩, rfl⟩
theorem Later.cell {B : Nat} {w : World} {p : Addr} {v : Value} (h : w.cell? p = some v) (hp : p.block < B) (x : Later B w) : x.val.cell? p = some v := (x.prop.cell hp).trans h

/-! ### '[]byte(s)', and back -/
theorem conv_bytes {P : Program} (w : World) (src dst e : TypeId) (s : ByteArray) (hs : P.underlying src = some .string) (hd : P.underlying dst = some (.slice e)) (he : P.underlying e = some (.int .u8)) :
    ∃ cap cur w', (convert src dst (.string s)).run P w = .ok (.slice (some ⟨w.heap.size, 0, none⟩) s.size cap) w' ∧ s.size ≤ cap ∧ cur.size = cap ∧ w'.heap[w.heap.size]? = some (.cells cur e (cap, cap + 1)) ∧
      (∀ j (h : j < s.size), cur[j]? = some (.int .u8 (s[j].toNat : Int))) ∧ Below w.heap.size w w' ∧ w'.heap.size = w.heap.size + 1 := by
  have hge := grownCap_ge w s.size 0 e
  have hz : (bytesRow s (grownCap w s.size 0 e)).size = grownCap w s.size 0 e := by
    simp only [bytesRow, Array.size_append, Array.size_map, Array.size_replicate]
    have h2 : s.data.size = s.size := rfl
    omega
  have hrun := run_bytes_of_string w src dst e s hs hd he
  rw [hz] at hrun
  refine ⟨_, _, _, hrun, hge, hz, heap_alloc_new w.drew _, fun j h => bytesRow_at s _ j h, (Below.refl _ _).drew.alloc (Nat.le_refl _) _, ?_⟩
  show (w.drew.heap.push _).size = _
  rw [Array.size_push]; rfl

/-! ### a whole row stored; what lies below -/
theorem below_row {B : Nat} {a w : World} (h : Below B a w) {g : Nat} (hg : B ≤ g) (cs : Array Value) : Below B a (w.setRow g cs) :=
  h.trans ⟨rfl, rfl, rfl, by simp, fun k hk => setRow_other w g k cs (by omega)⟩
/-! ### bytes in a block -/
def bytesV (bs : List UInt8) : Array Value := (bs.map fun c => Value.int .u8 (c.toNat : Int)).toArray
theorem bytesV_size (bs : List UInt8) : (bytesV bs).size = bs.length := by simp [bytesV]
theorem bytesV_at (bs : List UInt8) (j : Nat) (h : j < bs.length) : (bytesV bs)[j]? = some (.int .u8 ((bs.getD j 0).toNat : Int)) := by
  simp [bytesV, List.getD_eq_getElem?_getD, h]
theorem bytesV_set (bs : List UInt8) (j : Nat) (c : UInt8) : (bytesV bs).setIfInBounds j (.int .u8 (c.toNat : Int)) = bytesV (bs.set j c) := by
  unfold bytesV
  apply Array.ext'
  simp [List.map_set]
theorem bytesV_zero (n : Nat) : madeCells #[.int .u8 0] n = bytesV (List.replicate n 0) := by
  apply Array.ext'
  rw [toList_madeCells_one]
  simp [bytesV]
/-- 'make([]byte, n)': one new block of zeros. -/
theorem run_make_bytes {P : Program} (w : World) (t e : TypeId) (ht : P.underlying t = some (.slice e)) (hinfo : (P.info? e).map (fun i => (i.zero, i.size, i.bytes)) = some (some (.int .u8 0), 1, 1))
    (kl kc : IntKind) (n : Nat) (hn : n ≤ 1099511627776) :
    (Instr.makeSlice t (.int kl n) (.int kc n)).run P w = .ok (.slice (some ⟨w.heap.size, 0, none⟩) n n) (w.alloc (.cells (bytesV (List.replicate n 0)) e)) := by
  obtain ⟨i, hi, hz0, hz1, hz2⟩ := info_parts hinfo
  have h := run_make w t e i _ ht hi hz0 kl kc n n (by omega) (by omega) (by rw [hz2]; omega) (by omega)
  rw [h, hz1]
  simp only [Int.toNat_natCast, Nat.mul_one, Value.cells, bytesV_zero]
/-- 'make([]T, n)' of one-cell elements: one new block of zero values. -/
theorem run_make_one {P : Program} (w : World) (t e : TypeId) (z : Value) (bytes : Nat) (ht : P.underlying t = some (.slice e)) (hinfo : (P.info? e).map (fun i => (i.zero, i.size, i.bytes)) = some (some z, 1, bytes))
    (hz : z.cells = #[z]) (kl kc : IntKind) (n : Nat) (hn : n ≤ 1099511627776) (hby : bytes ≤ 256) :
    (Instr.makeSlice t (.int kl n) (.int kc n)).run P w = .ok (.slice (some ⟨w.heap.size, 0, none⟩) n n) (w.alloc (.cells (List.replicate n z).toArray e)) := by
  obtain ⟨i, hi, hz0, hz1, hz2⟩ := info_parts hinfo
  have hm : (i.bytes : Int) * (n : Int) ≤ 256 * 1099511627776 := Int.mul_le_mul (by omega) (by omega) (by omega) (by omega)
  have h := run_make w t e i _ ht hi hz0 kl kc n n (by omega) (by omega) (by omega) (by omega)
  rw [h, hz1]
  have e : madeCells z.cells n = (List.replicate n z).toArray := by
    rw [hz]; apply Array.ext'; rw [toList_madeCells_one]
  simp only [Int.toNat_natCast, Nat.mul_one, e]
/-- 'string(b)': the bytes as they lie. -/
theorem run_string_of_bytes {P : Program} (w : World) (src dst e : TypeId) (hs : P.underlying src = some (.slice e)) (he : P.underlying e = some (.int .u8)) (hd : P.underlying dst = some .string)
    (b cap : Nat) (bs : List UInt8) (hc : ∀ j, j < bs.length → w.cell? ⟨b, j, none⟩ = some (.int .u8 ((bs.getD j 0).toNat : Int))) :
    (convert src dst (.slice (some ⟨b, 0, none⟩) bs.length cap)).run P w = .ok (.string ⟨bs.toArray⟩) w := by
  refine run_convert_bytes_back w src dst e ⟨b, 0, none⟩ cap bs hs he hd fun j hj => ?_
  have hadd : (⟨b, 0, none⟩ : Addr).add j = ⟨b, j, none⟩ := by unfold Addr.add; split <;> simp_all
  rw [hadd, hc j hj]
  simp [List.getD_eq_getElem?_getD, hj]
/-- A slice of strings that came in, or was made: its length is the list's, and its cells hold the strings. -/
def StrsAt (w : World) (v : Value) (ss : List ByteArray) : Prop :=
  ∃ ao cap, v = .slice ao ss.length cap ∧ (0 < ss.length → ∃ b off, ao = some ⟨b, off, none⟩ ∧ ∀ j (h : j < ss.length), w.cell? ⟨b, off + j, none⟩ = some (.string ss[j]))
theorem StrsAt.kept {w w' : World} {v : Value} {ss : List ByteArray} (h : StrsAt w v ss) (hb : Below w.heap.size w w') : StrsAt w' v ss := by
  obtain ⟨ao, cap, rfl, h⟩ := h
  refine ⟨ao, cap, rfl, fun h0 => ?_⟩
  obtain ⟨b, off, rfl, hc⟩ := h h0
  exact ⟨b, off, rfl, fun j hj => cell_kept hb (hc j hj)⟩

/-! ### what an owned row that is not empty gives -/
theorem owns_shape {w : World} {base : Nat} {e : TypeId} {size : Nat} {v : Value} {n : Nat} {xs : List Value} (h : w.ownsRow base e size v n xs) (hn : 0 < n) :
    ∃ g cap, v = .slice (some ⟨g, 0, none⟩) n cap ∧ base ≤ g ∧ g < w.heap.size ∧ n ≤ cap ∧ (∀ j, j < n * size → w.cell? ⟨g, j, none⟩ = xs[j]?) ∧ (∀ j, w.frozen? ⟨g, j, none⟩ = false) := by
  have hown := h
  obtain ⟨_, h2⟩ := h
  rcases h2 with ⟨_, h0⟩ | ⟨g, cap, cur, rfl, hb, hg, hc, _, _, _⟩
  · omega
  · exact ⟨g, cap, rfl, hb, blk_lt hg, hc, fun j hj => hown.cellAt j hj, fun j => hown.frozenAt j⟩

/-! ### append of one element (a struct's cells, or one cell), laid in a new block right ahead of it -/
theorem below_grown {B : Nat} {w0 w w' : World} {v : Value} {base : Nat} {e : TypeId} {size n : Nat} {xs : List Value} (h : Below B w0 w) (hg : w.grownBy w' v.ownBlock)
    (hown : w.ownsRow base e size v n xs) (hB : B ≤ base) (hBw : B ≤ w.heap.size) : Below B w0 w' :=
  h.grown hg hBw fun k hk => Nat.le_trans hB (hown.lt k hk).1
theorem wpList_append1 {P : Program} {ops : Array Oper} {rest : List Oper} {o : Oper} {a : Act} {W : World} {Q : Exit → Act → World → Prop} (hgd : o.guard = none) (s x : Operand) (t : TypeId)
    (ho : o.op = .call { callee := .builtin .append, args := #[s, x], argTypes := #[t, t] })
    (base : Nat) (e : TypeId) (z : Value) (size bytes : Nat) (ht : P.underlying t = some (.slice e)) (hinfo : (P.info? e).map (fun i => (i.zero, i.size, i.bytes)) = some (some z, size, bytes))
    (hzs : z.cells.size = size) (hsz : 0 < size) (v : Value) (n : Nat) (xs us : List Value) (hs : a.eval s = v) (hown : W.ownsRow base e size v n xs)
    (cells : Array Value) (c : Nat) (hx : a.eval x = .slice (some ⟨W.heap.size, 0, none⟩) 1 c) (hcells : cells.toList = us) (hus : us.length = size) (h1 : ∀ u ∈ us, u.oneCell' = true)
    (h63 : n + 1 ≤ 1099511627776) (hbytes : bytes ≤ 128) (hbase : base ≤ W.heap.size) (B : Nat) (w0 : World) (hb : Below B w0 W) (hB : B ≤ base)
    (h : ∀ v' w', w'.ownsRow base e size v' (n + 1) (xs ++ us) → (W.alloc (.cells cells e)).grownBy w' v.ownBlock → Below B w0 w' → W.heap.size < w'.heap.size → wpList P ops Q rest (a.put o.dst v') w') :
    wpList P ops Q (o :: rest) a (W.alloc (.cells cells e)) := by
  obtain ⟨i, hi, hz0, hz1, hz2⟩ := info_parts hinfo
  have hbl : Below B w0 (W.alloc (.cells cells e)) := hb.alloc (Nat.le_trans hB hbase) _
  have hown' := hown.alloc (.cells cells e)
  have hsize : (W.alloc (.cells cells e)).heap.size = W.heap.size + 1 := by show (W.heap.push _).size = _; rw [Array.size_push]
  refine wpList_append_own _ hgd s x t ho base e i z size bytes ht hi hz0 hz1 hz2 hzs hsz v n xs hs hown' ⟨W.heap.size, 0, none⟩ 1 c us hx (by rw [hus, Nat.one_mul]) ?_ h1 (by unfold maxLen; omega) ?_ (by rw [hsize]; omega) ?_
  · intro j u hj
    have hadd : (⟨W.heap.size, 0, none⟩ : Addr).add j = ⟨W.heap.size, j, none⟩ := by unfold Addr.add; split <;> simp_all
    rw [hadd, blk_cell (heap_alloc_new W _)]
    rw [← hcells] at hj
    simpa using hj
  · exact Nat.le_trans (Nat.mul_le_mul h63 hbytes) (by omega)
  · intro v' w' h2 h3 _
    refine h v' w' h2 h3 (below_grown hbl h3 hown' hB (by rw [hsize]; omega)) ?_
    have := h3.size
    rw [hsize] at this
    omega

end Go.Cph
