/- MA: texts put together: Lib PxA PxB PxC Ox1 Ox2 Ox4 Ox5 Seg CopA Rb1. -/
import Derived.WalkKit
import Derived.WalkLawsBesides
import Derived.WalkSpells
import Derived.Handy
import Derived.Lib.Hide
import Derived.BigQuiet
import Derived.Deep.QuietTactic
import Derived.Outline
import Derived.Lib.BitFns
import Derived.Lib.Replace
import Derived.Lib.ReplaceLaws
import Derived.Lib.CountLaws
import Derived.Lib.IndexLaws
import Derived.Deep.AppendSrc
import Derived.Maps.AppendAt
import Derived.Laws.CopyRow
import Derived.Laws.CopyOwn
import Derived.Lib.AppendZerosOnto
import Derived.Lib.AppendZeros
import Derived.Lib.SliceRun
/- Small laws of our own on worlds, blocks and numbers, used by the walks of this seat. Of whatever program. -/
namespace Go.Cph
open Go.RowKit

/-! ### numbers -/
theorem u64_wrap_nat (n : Nat) : IntKind.u64.wrap (n : Int) = ((n % 18446744073709551616 : Nat) : Int) := by
  rw [IntKind.wrap_u64]; omega
theorem u32_wrap_nat (n : Nat) : IntKind.u32.wrap (n : Int) = ((n % 4294967296 : Nat) : Int) := by
  rw [IntKind.wrap_u32]; omega
@[go_sem] theorem u64_byte (c : UInt8) : IntKind.u64.wrap (c.toNat : Int) = (c.toNat : Int) := IntWalk.u64_in _ (by have := c.toNat_lt; omega)
@[go_sem] theorem i64_byte (c : UInt8) : IntKind.i64.wrap (c.toNat : Int) = (c.toNat : Int) := IntWalk.i64_in _ (by have := c.toNat_lt; omega)
theorem take_snoc (s : ByteArray) (k : Nat) (h : k < s.size) : s.data.toList.take (k + 1) = s.data.toList.take k ++ [s[k]] := by
  rw [List.take_succ_eq_append_getElem (by simpa using h)]; rfl

theorem str_nil (s : ByteArray) (h : s.size = 0) : s.toList = [] := by
  rw [ByteArray.toList_eq]
  exact List.eq_nil_of_length_eq_zero (by rw [Array.length_toList]; exact h)
theorem str_some (s : ByteArray) (h : ¬ s.size = 0) : s.toList.isEmpty = false := by
  rw [ByteArray.toList_eq]
  cases hl : s.data.toList with
  | nil => exact absurd (show s.data.size = 0 by rw [← Array.length_toList, hl]; rfl) h
  | cons a l => rfl

theorem ret_bool {a b : Bool} (h : a = b) : Ending.returned (.bool a) = Ending.returned (.bool b) := by rw [h]
theorem ret_int {k : IntKind} {a b : Int} (h : a = b) : Ending.returned (.int k a) = Ending.returned (.int k b) := by rw [h]
theorem ret_str {a b : ByteArray} (h : a = b) : Ending.returned (.string a) = Ending.returned (.string b) := by rw [h]

/-! ### one block of cells, whole -/
theorem blk_cell {w : World} {b : Nat} {cur : Array Value} {E : TypeId} {fr : Nat × Nat} (h : w.heap[b]? = some (.cells cur E fr)) (j : Nat) :
    w.cell? ⟨b, j, none⟩ = cur[j]? := by simp [World.cell?, h]
theorem blk_frozen {w : World} {b : Nat} {cur : Array Value} {E : TypeId} {fr : Nat × Nat} (h : w.heap[b]? = some (.cells cur E fr)) (j : Nat) :
    w.frozen? ⟨b, j, none⟩ = (decide (fr.1 ≤ j) && decide (j < fr.2)) := by
  obtain ⟨lo, hi⟩ := fr
  simp [World.frozen?, h]
theorem blk_lt {w : World} {b : Nat} {o : Obj} (h : w.heap[b]? = some o) : b < w.heap.size := (Array.getElem?_eq_some_iff.1 h).1
theorem blk_set {w : World} {b : Nat} {cur : Array Value} {E : TypeId} {fr : Nat × Nat} (h : w.heap[b]? = some (.cells cur E fr)) (j : Nat) (v : Value) :
    (w.setCell ⟨b, j, none⟩ v).heap[b]? = some (.cells (cur.setIfInBounds j v) E fr) := by
  simp [World.setCell, Array.getElem?_modify, h]
theorem blk_set_other {w : World} {c : Nat} {a : Addr} {v : Value} (hne : c ≠ a.block) : (w.setCell a v).heap[c]? = w.heap[c]? := by
  simp only [World.setCell, Array.getElem?_modify]
  rw [if_neg (by omega)]
theorem blk_alloc {w : World} {b : Nat} {x : Obj} (h : w.heap[b]? = some x) (o : Obj) : (w.alloc o).heap[b]? = some x := by
  rw [Below.heap_alloc w o b (blk_lt h)]; exact h
theorem blk_below {B : Nat} {w w' : World} (hb : Below B w w') {b : Nat} {x : Obj} (h : w.heap[b]? = some x) (hlt : b < B) : w'.heap[b]? = some x := by
  rw [hb.block b hlt]; exact h
/-- A callee that writes nothing that was there keeps every block. -/
theorem blk_kept {w w' : World} (hb : Below w.heap.size w w') {b : Nat} {x : Obj} (h : w.heap[b]? = some x) : w'.heap[b]? = some x := blk_below hb h (blk_lt h)
theorem cell_kept {w w' : World} (hb : Below w.heap.size w w') {a : Addr} {v : Value} (h : w.cell? a = some v) : w'.cell? a = some v :=
  (hb.cell (World.block_lt_of_cell? w a h)).trans h
theorem below_step {B : Nat} {w0 w w' : World} (h : Below B w0 w) (hb : Below w.heap.size w w') (hB : B ≤ w.heap.size) : Below B w0 w' := h.trans (hb.mono hB)

/-! ### the later worlds of one world, as a type: for a region that draws its order -/
structure Later (B : Nat) (w : World) where
  val : World
  prop : Below B w val
instance laterNonempty (B : Nat) (w : World) : Nonempty (Later B w) := ⟨⟨w, Below.refl _ _⟩⟩
theorem wp_region_later {P : Program} {id : Nat} {Q : Exit → Act → World → Prop} {a : Act} {w : World} {l : List Oper} (B : Nat) (hm : P.follows .mixedOrders = true) (hB : Region.lexB .any l.toArray = true)
    (h : wpQuiet P l.toArray (fun w' => ∃ x : Later B w, w' = x.val) (fun a' => ∀ w', (∃ x : Later B w, w' = x.val) → Q .normal a' w') l a) : (Code.region id l.toArray true).wp P Q a w :=
  wp_region_quiet (C := fun w' => ∃ x : Later B w, w' = x.val) hm hB ⟨⟨_, (Below.refl B w).drew⟩, rfl⟩ (by simpa using h)
theorem Later.calls {P : Program} {f : FuncId} {args : Array Value} {B : Nat} {w : World} {x : Later B w} {v : Value} (hB : B ≤ w.heap.size)
    (h : Calls P f args x.val fun e w' => e = .returned v ∧ Below x.val.heap.size x.val w') : Calls P f args x.val fun e w'' => e = .returned v ∧ ∃ y : Later B w, w'' = y.val :=
  h.mono fun _ w' ⟨he, hb⟩ => ⟨he, ⟨w', x.prop.trans (hb.mono (Nat.le_trans hB x.prop.size))⟩, rfl⟩
theorem Later.cell {B : Nat} {w : World} {p : Addr} {v : Value} (h : w.cell? p = some v) (hp : p.block < B) (x : Later B w) : x.val.cell? p = some v := (x.prop.cell hp).trans h

/-! ### '[]byte(s)', and back -/
theorem conv_bytes {P : Program} (w : World) (src dst e : TypeId) (s : ByteArray) (hs : P.underlying src = some .string) (hd : P.underlying dst = some (.slice e)) (he : P.underlying e = some (.int .u8)) :
    ∃ cap cur w', (convert src dst (.string s)).run P w = .ok (.slice (some ⟨w.heap.size, 0, none⟩) s.size cap) w' ∧ s.size ≤ cap ∧ cur.size = cap ∧ w'.heap[w.heap.size]? = some (.cells cur e (cap, cap + 1)) ∧
      (∀ j (h : j < s.size), cur[j]? = some (.int .u8 (s[j].toNat : Int))) ∧ Below w.heap.size w w' ∧ w'.heap.size = w.heap.size + 1 := by
  have hge := grownCap_ge w s.size 0 e
  have hz : (bytesRow s (grownCap w s.size 0 e)).size = grownCap w s.size 0 e := by
    simp only [bytesRow, Array.size_append, Array.size_map, Array.size_replicate]
    have h2 : s.data.size = s.size := rfl
    omega
  have hrun := run_bytes_of_string w src dst e s hs hd he
  rw [hz] at hrun
  refine ⟨_, _, _, hrun, hge, hz, heap_alloc_new w.drew _, fun j h => bytesRow_at s _ j h, (Below.refl _ _).drew.alloc (Nat.le_refl _) _, ?_⟩
  show (w.drew.heap.push _).size = _
  rw [Array.size_push]; rfl

/-! ### a whole row stored; what lies below -/
theorem below_row {B : Nat} {a w : World} (h : Below B a w) {g : Nat} (hg : B ≤ g) (cs : Array Value) : Below B a (w.setRow g cs) :=
  h.trans ⟨rfl, rfl, rfl, by simp, fun k hk => setRow_other w g k cs (by omega)⟩
/-! ### bytes in a block -/
def bytesV (bs : List UInt8) : Array Value := (bs.map fun c => Value.int .u8 (c.toNat : Int)).toArray
theorem bytesV_size (bs : List UInt8) : (bytesV bs).size = bs.length := by simp [bytesV]
theorem bytesV_at (bs : List UInt8) (j : Nat) (h : j < bs.length) : (bytesV bs)[j]? = some (.int .u8 ((bs.getD j 0).toNat : Int)) := by
  simp [bytesV, List.getD_eq_getElem?_getD, h]
theorem bytesV_set (bs : List UInt8) (j : Nat) (c : UInt8) : (bytesV bs).setIfInBounds j (.int .u8 (c.toNat : Int)) = bytesV (bs.set j c) := by
  unfold bytesV
  apply Array.ext'
  simp [List.map_set]
theorem bytesV_zero (n : Nat) : madeCells #[.int .u8 0] n = bytesV (List.replicate n 0) := by
  apply Array.ext'
  rw [toList_madeCells_one]
  simp [bytesV]
/-- 'make([]byte, n)': one new block of zeros. -/
theorem run_make_bytes {P : Program} (w : World) (t e : TypeId) (ht : P.underlying t = some (.slice e)) (hinfo : (P.info? e).map (fun i => (i.zero, i.size, i.bytes)) = some (some (.int .u8 0), 1, 1))
    (kl kc : IntKind) (n : Nat) (hn : n ≤ 1099511627776) :
    (Instr.makeSlice t (.int kl n) (.int kc n)).run P w = .ok (.slice (some ⟨w.heap.size, 0, none⟩) n n) (w.alloc (.cells (bytesV (List.replicate n 0)) e)) := by
  obtain ⟨i, hi, hz0, hz1, hz2⟩ := info_parts hinfo
  have h := run_make w t e i _ ht hi hz0 kl kc n n (by omega) (by omega) (by rw [hz2]; omega) (by omega)
  rw [h, hz1]
  simp only [Int.toNat_natCast, Nat.mul_one, Value.cells, bytesV_zero]
/-- 'make([]T, n)' of one-cell elements: one new block of zero values. -/
theorem run_make_one {P : Program} (w : World) (t e : TypeId) (z : Value) (bytes : Nat) (ht : P.underlying t = some (.slice e)) (hinfo : (P.info? e).map (fun i => (i.zero, i.size, i.bytes)) = some (some z, 1, bytes))
    (hz : z.cells = #[z]) (kl kc : IntKind) (n : Nat) (hn : n ≤ 1099511627776) (hby : bytes ≤ 256) :
    (Instr.makeSlice t (.int kl n) (.int kc n)).run P w = .ok (.slice (some ⟨w.heap.size, 0, none⟩) n n) (w.alloc (.cells (List.replicate n z).toArray e)) := by
  obtain ⟨i, hi, hz0, hz1, hz2⟩ := info_parts hinfo
  have hm : (i.bytes : Int) * (n : Int) ≤ 256 * 1099511627776 := Int.mul_le_mul (by omega) (by omega) (by omega) (by omega)
  have h := run_make w t e i _ ht hi hz0 kl kc n n (by omega) (by omega) (by omega) (by omega)
  rw [h, hz1]
  have e : madeCells z.cells n = (List.replicate n z).toArray := by
    rw [hz]; apply Array.ext'; rw [toList_madeCells_one]
  simp only [Int.toNat_natCast, Nat.mul_one, e]
/-- 'string(b)': the bytes as they lie. -/
theorem run_string_of_bytes {P : Program} (w : World) (src dst e : TypeId) (hs : P.underlying src = some (.slice e)) (he : P.underlying e = some (.int .u8)) (hd : P.underlying dst = some .string)
    (b cap : Nat) (bs : List UInt8) (hc : ∀ j, j < bs.length → w.cell? ⟨b, j, none⟩ = some (.int .u8 ((bs.getD j 0).toNat : Int))) :
    (convert src dst (.slice (some ⟨b, 0, none⟩) bs.length cap)).run P w = .ok (.string ⟨bs.toArray⟩) w := by
  refine run_convert_bytes_back w src dst e ⟨b, 0, none⟩ cap bs hs he hd fun j hj => ?_
  have hadd : (⟨b, 0, none⟩ : Addr).add j = ⟨b, j, none⟩ := by unfold Addr.add; split <;> simp_all
  rw [hadd, hc j hj]
  simp [List.getD_eq_getElem?_getD, hj]
/-- A slice of strings that came in, or was made: its length is the list's, and its cells hold the strings. -/
def StrsAt (w : World) (v : Value) (ss : List ByteArray) : Prop :=
  ∃ ao cap, v = .slice ao ss.length cap ∧ (0 < ss.length → ∃ b off, ao = some ⟨b, off, none⟩ ∧ ∀ j (h : j < ss.length), w.cell? ⟨b, off + j, none⟩ = some (.string ss[j]))
theorem StrsAt.kept {w w' : World} {v : Value} {ss : List ByteArray} (h : StrsAt w v ss) (hb : Below w.heap.size w w') : StrsAt w' v ss := by
  obtain ⟨ao, cap, rfl, h⟩ := h
  refine ⟨ao, cap, rfl, fun h0 => ?_⟩
  obtain ⟨b, off, rfl, hc⟩ := h h0
  exact ⟨b, off, rfl, fun j hj => cell_kept hb (hc j hj)⟩

/-! ### what an owned row that is not empty gives -/
theorem owns_shape {w : World} {base : Nat} {e : TypeId} {size : Nat} {v : Value} {n : Nat} {xs : List Value} (h : w.ownsRow base e size v n xs) (hn : 0 < n) :
    ∃ g cap, v = .slice (some ⟨g, 0, none⟩) n cap ∧ base ≤ g ∧ g < w.heap.size ∧ n ≤ cap ∧ (∀ j, j < n * size → w.cell? ⟨g, j, none⟩ = xs[j]?) ∧ (∀ j, w.frozen? ⟨g, j, none⟩ = false) := by
  have hown := h
  obtain ⟨_, h2⟩ := h
  rcases h2 with ⟨_, h0⟩ | ⟨g, cap, cur, rfl, hb, hg, hc, _, _, _⟩
  · omega
  · exact ⟨g, cap, rfl, hb, blk_lt hg, hc, fun j hj => hown.cellAt j hj, fun j => hown.frozenAt j⟩

/-! ### append of one element (a struct's cells, or one cell), laid in a new block right ahead of it -/
theorem below_grown {B : Nat} {w0 w w' : World} {v : Value} {base : Nat} {e : TypeId} {size n : Nat} {xs : List Value} (h : Below B w0 w) (hg : w.grownBy w' v.ownBlock)
    (hown : w.ownsRow base e size v n xs) (hB : B ≤ base) (hBw : B ≤ w.heap.size) : Below B w0 w' :=
  h.grown hg hBw fun k hk => Nat.le_trans hB (hown.lt k hk).1
theorem wpList_append1 {P : Program} {ops : Array Oper} {rest : List Oper} {o : Oper} {a : Act} {W : World} {Q : Exit → Act → World → Prop} (hgd : o.guard = none) (s x : Operand) (t : TypeId)
    (ho : o.op = .call { callee := .builtin .append, args := #[s, x], argTypes := #[t, t] })
    (base : Nat) (e : TypeId) (z : Value) (size bytes : Nat) (ht : P.underlying t = some (.slice e)) (hinfo : (P.info? e).map (fun i => (i.zero, i.size, i.bytes)) = some (some z, size, bytes))
    (hzs : z.cells.size = size) (hsz : 0 < size) (v : Value) (n : Nat) (xs us : List Value) (hs : a.eval s = v) (hown : W.ownsRow base e size v n xs)
    (cells : Array Value) (c : Nat) (hx : a.eval x = .slice (some ⟨W.heap.size, 0, none⟩) 1 c) (hcells : cells.toList = us) (hus : us.length = size) (h1 : ∀ u ∈ us, u.oneCell' = true)
    (h63 : n + 1 ≤ 1099511627776) (hbytes : bytes ≤ 128) (hbase : base ≤ W.heap.size) (B : Nat) (w0 : World) (hb : Below B w0 W) (hB : B ≤ base)
    (h : ∀ v' w', w'.ownsRow base e size v' (n + 1) (xs ++ us) → (W.alloc (.cells cells e)).grownBy w' v.ownBlock → Below B w0 w' → W.heap.size < w'.heap.size → wpList P ops Q rest (a.put o.dst v') w') :
    wpList P ops Q (o :: rest) a (W.alloc (.cells cells e)) := by
  obtain ⟨i, hi, hz0, hz1, hz2⟩ := info_parts hinfo
  have hbl : Below B w0 (W.alloc (.cells cells e)) := hb.alloc (Nat.le_trans hB hbase) _
  have hown' := hown.alloc (.cells cells e)
  have hsize : (W.alloc (.cells cells e)).heap.size = W.heap.size + 1 := by show (W.heap.push _).size = _; rw [Array.size_push]
  refine wpList_append_own _ hgd s x t ho base e i z size bytes ht hi hz0 hz1 hz2 hzs hsz v n xs hs hown' ⟨W.heap.size, 0, none⟩ 1 c us hx (by rw [hus, Nat.one_mul]) ?_ h1 (by unfold maxLen; omega) ?_ (by rw [hsize]; omega) ?_
  · intro j u hj
    have hadd : (⟨W.heap.size, 0, none⟩ : Addr).add j = ⟨W.heap.size, j, none⟩ := by unfold Addr.add; split <;> simp_all
    rw [hadd, blk_cell (heap_alloc_new W _)]
    rw [← hcells] at hj
    simpa using hj
  · exact Nat.le_trans (Nat.mul_le_mul h63 hbytes) (by omega)
  · intro v' w' h2 h3 _
    refine h v' w' h2 h3 (below_grown hbl h3 hown' hB (by rw [hsize]; omega)) ?_
    have := h3.size
    rw [hsize] at this
    omega

end Go.Cph

/- Addresses and prefixes, plainly: numbers of bits cut off, what lies within what. No program in sight. -/
namespace Go.Cph.Px

abbrev Ad := UInt8 × UInt64 × UInt64
abbrev Pf := Ad × Int
def zeroA : Ad := (0, 0, 0)
def zeroP : Pf := (zeroA, 0)
def num (a : Ad) : Nat := a.2.1.toNat * 18446744073709551616 + a.2.2.toNat
def rightA (a : Ad) : Bool := a.1 == 6 || (a.1 == 4 && (a.2.1 == 0 && decide (a.2.2.toNat ≤ 4294967295)))
def width (f : UInt8) : Int := if f = 4 then 32 else 128
def lessA (a b : Ad) : Bool := decide (a.1.toNat < b.1.toNat) || (a.1 == b.1 && (decide (a.2.1.toNat < b.2.1.toNat) || (a.2.1 == b.2.1 && decide (a.2.2.toNat < b.2.2.toNat))))
/-- The lowest k bits (at most 64) of a word are cut off. -/
def clear (x : UInt64) (k : Nat) : UInt64 := UInt64.ofNat (x.toNat / 2 ^ k * 2 ^ k)
def cutA (a : Ad) (k : Nat) : Ad := if 64 ≤ k then (a.1, clear a.2.1 (k - 64), 0) else (a.1, a.2.1, clear a.2.2 k)
def fits (a : Ad) (bits : Int) : Bool := rightA a && (decide (0 ≤ bits) && decide (bits ≤ width a.1))
def rest (a : Ad) (bits : Int) : Nat := (width a.1 - bits).toNat
def cutP (a : Ad) (bits : Int) : Pf := if fits a bits then (cutA a (rest a bits), bits) else zeroP
def rightP (p : Pf) : Bool := fits p.1 p.2 && cutA p.1 (rest p.1 p.2) == p.1
def hasP (p : Pf) (a : Ad) : Bool := fits a p.2 && cutA a (rest a p.2) == p.1
def within (p q : Pf) : Bool := rightP p && (decide (q.2 ≤ p.2) && hasP q p.1)
def meets (p q : Pf) : Bool := within p q || within q p
def before (p q : Pf) : Bool := lessA p.1 q.1 || (p.1 == q.1 && decide (p.2 < q.2))

theorem clear_toNat (x : UInt64) (k : Nat) : (clear x k).toNat = x.toNat / 2 ^ k * 2 ^ k := by
  unfold clear
  have h := Nat.div_mul_le_self x.toNat (2 ^ k)
  have := x.toNat_lt
  rw [UInt64.toNat_ofNat', Nat.mod_eq_of_lt (by omega)]
theorem num_lt (a : Ad) : num a < 2 ^ 128 := by
  unfold num
  have := a.2.1.toNat_lt
  have := a.2.2.toNat_lt
  omega
theorem cutA_fam (a : Ad) (k : Nat) : (cutA a k).1 = a.1 := by unfold cutA; split <;> rfl
theorem num_cutA (a : Ad) (k : Nat) (hk : k ≤ 128) : num (cutA a k) = num a / 2 ^ k * 2 ^ k := by
  have h1 := a.2.1.toNat_lt
  have h2 := a.2.2.toNat_lt
  unfold cutA num
  split
  · rename_i h
    obtain ⟨j, rfl⟩ : ∃ j, k = 64 + j := ⟨k - 64, by omega⟩
    simp only [Nat.add_sub_cancel_left, clear_toNat]
    have e : (18446744073709551616 : Nat) = 2 ^ 64 := rfl
    have e2 : (0 : UInt64).toNat = 0 := rfl
    rw [e, e2, Nat.add_zero, Nat.pow_add, ← Nat.div_div_eq_div_mul, Nat.mul_comm (a.2.1.toNat) (2 ^ 64), Nat.mul_add_div (by decide), Nat.div_eq_of_lt h2, Nat.add_zero, Nat.mul_assoc, Nat.mul_comm (2 ^ j)]
  · rename_i h
    simp only [clear_toNat]
    have hp : (18446744073709551616 : Nat) = 2 ^ (64 - k) * 2 ^ k := by rw [← Nat.pow_add, Nat.sub_add_cancel (by omega)]
    have h3 : (a.2.1.toNat * 2 ^ (64 - k) * 2 ^ k + a.2.2.toNat) / 2 ^ k = a.2.1.toNat * 2 ^ (64 - k) + a.2.2.toNat / 2 ^ k := by
      rw [Nat.add_comm, Nat.add_mul_div_right _ _ (Nat.pow_pos (by decide)), Nat.add_comm]
    rw [hp, ← Nat.mul_assoc, h3, Nat.add_mul]
theorem ad_ext {a b : Ad} (h1 : a.1 = b.1) (h2 : num a = num b) : a = b := by
  obtain ⟨f, x, y⟩ := a
  obtain ⟨g, u, v⟩ := b
  simp only [num] at h1 h2
  have := x.toNat_lt
  have := y.toNat_lt
  have := u.toNat_lt
  have := v.toNat_lt
  have hx : x.toNat = u.toNat := by omega
  have hy : y.toNat = v.toNat := by omega
  rw [h1, UInt64.toNat_inj.1 hx, UInt64.toNat_inj.1 hy]
theorem width_pos (f : UInt8) : 0 ≤ width f ∧ width f ≤ 128 := by unfold width; split <;> omega
theorem rest_le (a : Ad) {bits : Int} (h : 0 ≤ bits) : rest a bits ≤ 128 := by have := width_pos a.1; unfold rest; omega
theorem fits_iff {a : Ad} {bits : Int} : fits a bits = true ↔ rightA a = true ∧ 0 ≤ bits ∧ bits ≤ width a.1 := by simp [fits]
/-- Nothing is cut: the number is a multiple. -/
theorem cutA_self {a : Ad} {k : Nat} (hk : k ≤ 128) : cutA a k = a ↔ num a / 2 ^ k * 2 ^ k = num a :=
  ⟨fun h => by rw [← num_cutA a k hk, h], fun h => ad_ext (cutA_fam a k) (by rw [num_cutA a k hk, h])⟩
theorem cutA_eq {a b : Ad} {k : Nat} (hk : k ≤ 128) : cutA a k = b ↔ a.1 = b.1 ∧ num a / 2 ^ k * 2 ^ k = num b :=
  ⟨fun h => ⟨by rw [← h, cutA_fam], by rw [← h, num_cutA a k hk]⟩, fun ⟨h1, h2⟩ => ad_ext ((cutA_fam a k).trans h1) (by rw [num_cutA a k hk, h2])⟩

/-- A prefix that is right, by numbers: so many bits are free, and all of them are 0. -/
structure Rt (p : Pf) : Prop where
  ad : rightA p.1 = true
  lo : 0 ≤ p.2
  hi : p.2 ≤ width p.1.1
  al : num p.1 / 2 ^ rest p.1 p.2 * 2 ^ rest p.1 p.2 = num p.1
theorem rightP_iff {p : Pf} : rightP p = true ↔ Rt p := by
  unfold rightP
  rw [Bool.and_eq_true, fits_iff, beq_iff_eq]
  constructor
  · rintro ⟨⟨h1, h2, h3⟩, h4⟩
    exact ⟨h1, h2, h3, (cutA_self (rest_le _ h2)).1 h4⟩
  · rintro ⟨h1, h2, h3, h4⟩
    exact ⟨⟨h1, h2, h3⟩, (cutA_self (rest_le _ h2)).2 h4⟩
/-- An address in a prefix, by numbers. -/
theorem hasP_iff {p : Pf} {a : Ad} : hasP p a = true ↔ rightA a = true ∧ 0 ≤ p.2 ∧ p.2 ≤ width a.1 ∧ a.1 = p.1.1 ∧ num a / 2 ^ rest a p.2 * 2 ^ rest a p.2 = num p.1 := by
  unfold hasP
  rw [Bool.and_eq_true, fits_iff, beq_iff_eq]
  constructor
  · rintro ⟨⟨h1, h2, h3⟩, h4⟩
    exact ⟨h1, h2, h3, (cutA_eq (rest_le _ h2)).1 h4⟩
  · rintro ⟨h1, h2, h3, h4⟩
    exact ⟨⟨h1, h2, h3⟩, (cutA_eq (rest_le _ h2)).2 h4⟩
theorem rightA_iff {a : Ad} : rightA a = true ↔ a.1 = 6 ∨ (a.1 = 4 ∧ num a < 4294967296) := by
  unfold rightA num
  have := a.2.2.toNat_lt
  simp only [Bool.or_eq_true, Bool.and_eq_true, beq_iff_eq, decide_eq_true_eq]
  refine or_congr Iff.rfl (and_congr Iff.rfl ?_)
  constructor
  · rintro ⟨h, h2⟩
    rw [h]
    have e : (0 : UInt64).toNat = 0 := rfl
    omega
  · intro h
    exact ⟨UInt64.toNat_inj.1 (by have e : (0 : UInt64).toNat = 0 := rfl; omega), by omega⟩
theorem rest_congr {a b : Ad} (h : a.1 = b.1) (bits : Int) : rest a bits = rest b bits := by unfold rest; rw [h]
theorem floor_floor (n : Nat) {k j : Nat} (h : k ≤ j) : n / 2 ^ k * 2 ^ k / 2 ^ j = n / 2 ^ j := by
  obtain ⟨d, rfl⟩ : ∃ d, j = k + d := ⟨j - k, by omega⟩
  rw [Nat.pow_add, ← Nat.div_div_eq_div_mul, Nat.mul_div_cancel _ (Nat.pow_pos (by decide)), Nat.div_div_eq_div_mul]
/-- An address in a prefix, by the prefix's own number of free bits. -/
structure Hs (p : Pf) (a : Ad) : Prop where
  ad : rightA a = true
  lo : 0 ≤ p.2
  hi : p.2 ≤ width p.1.1
  fam : a.1 = p.1.1
  eq : num a / 2 ^ rest p.1 p.2 * 2 ^ rest p.1 p.2 = num p.1
theorem has_iff {p : Pf} {a : Ad} : hasP p a = true ↔ Hs p a := by
  rw [hasP_iff]
  constructor
  · rintro ⟨h1, h2, h3, h4, h5⟩
    exact ⟨h1, h2, by rw [← h4]; exact h3, h4, by rw [← rest_congr h4]; exact h5⟩
  · rintro ⟨h1, h2, h3, h4, h5⟩
    exact ⟨h1, h2, by rw [h4]; exact h3, h4, by rw [rest_congr h4]; exact h5⟩
theorem Hs.right {p : Pf} {a : Ad} (h : Hs p a) : Rt p := by
  refine ⟨?_, h.lo, h.hi, ?_⟩
  · rcases rightA_iff.1 h.ad with h1 | ⟨h1, h2⟩
    · exact rightA_iff.2 (.inl (by rw [← h.fam]; exact h1))
    · refine rightA_iff.2 (.inr ⟨by rw [← h.fam]; exact h1, ?_⟩)
      have := Nat.div_mul_le_self (num a) (2 ^ rest p.1 p.2)
      rw [← h.eq]; omega
  · rw [← h.eq, floor_floor _ (Nat.le_refl _)]
theorem Hs.of_right {p : Pf} (h : Rt p) : Hs p p.1 := ⟨h.ad, h.lo, h.hi, rfl, h.al⟩
theorem within_iff {p q : Pf} : within p q = true ↔ Rt p ∧ q.2 ≤ p.2 ∧ Hs q p.1 := by
  unfold within
  rw [Bool.and_eq_true, Bool.and_eq_true, rightP_iff, has_iff, decide_eq_true_eq]
theorem rest_anti {a : Ad} {m n : Int} (h : m ≤ n) : rest a n ≤ rest a m := by unfold rest; omega
/-- Two that have an address: the smaller one lies within the other one. -/
theorem within_of_has {p q : Pf} {a : Ad} (hp : Hs p a) (hq : Hs q a) (h : q.2 ≤ p.2) : within p q = true := by
  refine within_iff.2 ⟨hp.right, h, hp.right.ad, hq.lo, hq.hi, by rw [← hp.fam, hq.fam], ?_⟩
  have hf : p.1.1 = q.1.1 := by rw [← hp.fam, hq.fam]
  rw [← hq.eq, ← hp.eq, floor_floor _ (by rw [rest_congr hf]; exact rest_anti h)]
theorem within_refl {p : Pf} (h : Rt p) : within p p = true := within_iff.2 ⟨h, by omega, .of_right h⟩
theorem has_of_within {p q : Pf} {a : Ad} (h : within p q = true) (ha : Hs p a) : Hs q a := by
  obtain ⟨h1, h2, h3⟩ := within_iff.1 h
  have hf : p.1.1 = q.1.1 := h3.fam
  refine ⟨ha.ad, h3.lo, h3.hi, by rw [ha.fam, hf], ?_⟩
  rw [← h3.eq, ← ha.eq, floor_floor _ (by rw [rest_congr hf]; exact rest_anti h2)]
theorem within_trans {p q r : Pf} (h : within p q = true) (k : within q r = true) : within p r = true := by
  obtain ⟨h1, h2, h3⟩ := within_iff.1 h
  obtain ⟨k1, k2, k3⟩ := within_iff.1 k
  exact within_iff.2 ⟨h1, by omega, has_of_within k h3⟩
theorem within_eq {p q : Pf} (h : within p q = true) (hb : p.2 = q.2) : p = q := by
  obtain ⟨h1, h2, h3⟩ := within_iff.1 h
  refine Prod.ext (ad_ext h3.fam ?_) hb
  have e := h3.eq
  have hf : p.1.1 = q.1.1 := h3.fam
  rw [← hb, ← rest_congr hf, h1.al] at e
  exact e
theorem within_anti {p q : Pf} (h : within p q = true) (k : within q p = true) : p = q := by
  have h2 := (within_iff.1 h).2.1
  have k2 := (within_iff.1 k).2.1
  exact within_eq h (by omega)
theorem within_nest {x p q : Pf} (h : within x p = true) (k : within x q = true) (hb : q.2 ≤ p.2) : within p q = true :=
  within_of_has (within_iff.1 h).2.2 (within_iff.1 k).2.2 hb
theorem meets_iff {p q : Pf} : meets p q = true ↔ within p q = true ∨ within q p = true := by simp [meets]

/-! ### the order -/
theorem lessA_iff {a b : Ad} : lessA a b = true ↔ a.1.toNat * 2 ^ 128 + num a < b.1.toNat * 2 ^ 128 + num b := by
  obtain ⟨f, x, y⟩ := a
  obtain ⟨g, u, v⟩ := b
  have h1 := x.toNat_lt
  have h2 := y.toNat_lt
  have h3 := u.toNat_lt
  have h4 := v.toNat_lt
  simp only [lessA, num, Bool.or_eq_true, Bool.and_eq_true, decide_eq_true_eq, beq_iff_eq, ← UInt8.toNat_inj, ← UInt64.toNat_inj]
  omega
def rank (a : Ad) : Nat := a.1.toNat * 2 ^ 128 + num a
theorem less_rank {a b : Ad} : lessA a b = true ↔ rank a < rank b := lessA_iff
theorem rank_inj {a b : Ad} (h : rank a = rank b) : a = b := by
  unfold rank at h
  have := num_lt a
  have := num_lt b
  exact ad_ext (UInt8.toNat_inj.1 (by omega)) (by omega)
theorem before_iff {p q : Pf} : before p q = true ↔ rank p.1 < rank q.1 ∨ (rank p.1 = rank q.1 ∧ p.2 < q.2) := by
  unfold before
  rw [Bool.or_eq_true, Bool.and_eq_true, less_rank, beq_iff_eq, decide_eq_true_eq]
  exact or_congr Iff.rfl (and_congr ⟨fun h => by rw [h], rank_inj⟩ Iff.rfl)
theorem before_irrefl (p : Pf) : before p p = false := by
  rw [Bool.eq_false_iff]; intro h
  have := before_iff.1 h
  omega
theorem before_trans {p q r : Pf} (h : before p q = true) (k : before q r = true) : before p r = true := by
  have := before_iff.1 h
  have := before_iff.1 k
  exact before_iff.2 (by omega)
theorem before_total {p q : Pf} (h : before p q = false) (k : before q p = false) : p = q := by
  have h1 : ¬ _ := fun h' => (Bool.eq_false_iff.1 h) (before_iff.2 h')
  have k1 : ¬ _ := fun h' => (Bool.eq_false_iff.1 k) (before_iff.2 h')
  exact Prod.ext (rank_inj (by omega)) (by omega)
theorem before_asymm {p q : Pf} (h : before p q = true) : before q p = false := by
  rw [Bool.eq_false_iff]; intro k
  have := before_iff.1 h
  have := before_iff.1 k
  omega
end Go.Cph.Px

/- Lists of prefixes: the innermost one, those within one, lists that rise. No program in sight. -/
namespace Go.Cph.Px

/-! ### the one with the most bits of those that are such -/
def better (b : Option Pf) (p : Pf) : Bool := match b with
  | none => true
  | some x => decide (x.2 < p.2)
def stepM (such : Pf → Bool) (b : Option Pf) (p : Pf) : Option Pf := if such p && better b p then some p else b
def mostL (such : Pf → Bool) (l : List Pf) : Option Pf := l.foldl (stepM such) none
theorem mostL_snoc (such : Pf → Bool) (l : List Pf) (p : Pf) : mostL such (l ++ [p]) = stepM such (mostL such l) p := by unfold mostL; rw [List.foldl_append]; rfl
/-- What it is. -/
structure IsMost (such : Pf → Bool) (l : List Pf) (b : Option Pf) : Prop where
  mem : ∀ x, b = some x → x ∈ l ∧ such x = true
  most : ∀ p ∈ l, such p = true → ∃ x, b = some x ∧ p.2 ≤ x.2
theorem mostL_is (such : Pf → Bool) (l : List Pf) : IsMost such l (mostL such l) := by
  suffices h : ∀ r : List Pf, IsMost such r.reverse (mostL such r.reverse) by simpa using h l.reverse
  intro r
  induction r with
  | nil => exact ⟨fun x h => by simp [mostL] at h, fun p h => by simp at h⟩
  | cons q r ih =>
    rw [List.reverse_cons, mostL_snoc]
    obtain ⟨h1, h2⟩ := ih
    unfold stepM
    by_cases hc : (such q && better (mostL such r.reverse) q) = true
    · rw [if_pos hc]
      rw [Bool.and_eq_true] at hc
      refine ⟨fun x hx => ?_, fun p hp hs => ⟨q, rfl, ?_⟩⟩
      · cases hx; exact ⟨by simp, hc.1⟩
      · rcases List.mem_append.1 hp with hp | hp
        · obtain ⟨x, hx, hle⟩ := h2 p hp hs
          have := hc.2
          rw [hx] at this
          simp only [better, decide_eq_true_eq] at this
          omega
        · simp at hp; subst hp; exact Int.le_refl _
    · rw [if_neg hc]
      refine ⟨fun x hx => ⟨List.mem_append_left _ (h1 x hx).1, (h1 x hx).2⟩, fun p hp hs => ?_⟩
      rcases List.mem_append.1 hp with hp | hp
      · exact h2 p hp hs
      · simp at hp; subst hp
        rw [Bool.and_eq_true, not_and] at hc
        have := hc hs
        cases hm : mostL such r.reverse with
        | none => rw [hm] at this; simp [better] at this
        | some x => rw [hm] at this; simp [better] at this; exact ⟨x, rfl, this⟩
theorem mostL_congr {s t : Pf → Bool} (h : ∀ p, s p = t p) (l : List Pf) : mostL s l = mostL t l := by
  have : s = t := funext h
  rw [this]

/-! ### lists that rise -/
structure Rises (l : List Pf) : Prop where
  ord : l.Pairwise (fun p q => before p q = true)
  rt : ∀ p ∈ l, rightP p = true
theorem Rises.nil : Rises [] := ⟨List.Pairwise.nil, by simp⟩
theorem Rises.inj {l : List Pf} (h : Rises l) {i j : Nat} (hi : i < l.length) (hj : j < l.length) (e : l[i] = l[j]) : i = j := by
  have hp := List.pairwise_iff_getElem.1 h.ord
  rcases Nat.lt_trichotomy i j with hlt | rfl | hlt
  · have := hp i j hi hj hlt
    rw [e, before_irrefl] at this; cases this
  · rfl
  · have := hp j i hj hi hlt
    rw [e, before_irrefl] at this; cases this
/-- Two that rise and have the same are the same. -/
theorem rises_ext : ∀ {l m : List Pf}, l.Pairwise (fun p q => before p q = true) → m.Pairwise (fun p q => before p q = true) → (∀ x, x ∈ l ↔ x ∈ m) → l = m
  | [], m, _, _, h => by
    cases m with
    | nil => rfl
    | cons a m => exact absurd ((h a).2 (by simp)) (by simp)
  | a :: l, [], _, _, h => absurd ((h a).1 (by simp)) (by simp)
  | a :: l, b :: m, hl, hm, h => by
    rw [List.pairwise_cons] at hl hm
    have hab : a = b := by
      have h1 := (h a).1 (by simp)
      have h2 := (h b).2 (by simp)
      rcases List.mem_cons.1 h1 with h1 | h1
      · exact h1
      · rcases List.mem_cons.1 h2 with h2 | h2
        · exact h2.symm
        · have := before_asymm (hl.1 b h2)
          rw [hm.1 a h1] at this; cases this
    subst hab
    congr 1
    refine rises_ext hl.2 hm.2 fun x => ?_
    constructor
    · intro hx
      rcases List.mem_cons.1 ((h x).1 (by simp [hx])) with h1 | h1
      · subst h1; have := hl.1 x hx; rw [before_irrefl] at this; cases this
      · exact h1
    · intro hx
      rcases List.mem_cons.1 ((h x).2 (by simp [hx])) with h1 | h1
      · subst h1; have := hm.1 x hx; rw [before_irrefl] at this; cases this
      · exact h1

/-! ### those within one, with none of the list between -/
def inside (q p : Pf) : Bool := !(q == p) && within q p
def childB (l : List Pf) (p q : Pf) : Bool := inside q p && !(l.any fun r => inside r p && inside q r)
def childrenL (l : List Pf) (p : Pf) : List Pf := l.filter (childB l p)
theorem inside_iff {q p : Pf} : inside q p = true ↔ q ≠ p ∧ within q p = true := by simp [inside]
theorem child_iff {l : List Pf} {p q : Pf} : childB l p q = true ↔ inside q p = true ∧ ∀ r ∈ l, inside r p = true → inside q r = false := by
  simp only [childB, Bool.and_eq_true, Bool.not_eq_true', List.any_eq_false]
  refine and_congr Iff.rfl (forall_congr' fun r => forall_congr' fun _ => ?_)
  cases inside r p <;> cases inside q r <;> simp
/-- No two children have anything in common. -/
theorem children_apart {l : List Pf} {p c d : Pf} (hc : c ∈ childrenL l p) (hd : d ∈ childrenL l p) (hne : c ≠ d) : meets c d = false := by
  obtain ⟨mc, kc⟩ := List.mem_filter.1 hc
  obtain ⟨md, kd⟩ := List.mem_filter.1 hd
  obtain ⟨c1, c2⟩ := child_iff.1 kc
  obtain ⟨d1, d2⟩ := child_iff.1 kd
  rw [Bool.eq_false_iff]
  intro hm
  rcases meets_iff.1 hm with h | h
  · have := c2 d md d1
    rw [inside_iff.2 ⟨hne, h⟩] at this; cases this
  · have := d2 c mc c1
    rw [inside_iff.2 ⟨hne.symm, h⟩] at this; cases this
/-- What lies within it, but is not the prefix, lies within one child. -/
theorem child_of {l : List Pf} {p : Pf} (n : Nat) : ∀ {q x : Pf}, q.2.toNat ≤ n → q ∈ l → inside q p = true → within x q = true → ∃ c ∈ childrenL l p, within x c = true := by
  induction n with
  | zero =>
    intro q x hn hq hi hx
    refine ⟨q, List.mem_filter.2 ⟨hq, child_iff.2 ⟨hi, fun r hr hri => ?_⟩⟩, hx⟩
    rw [Bool.eq_false_iff]; intro h
    obtain ⟨h1, h2⟩ := inside_iff.1 h
    obtain ⟨k1, k2, k3⟩ := within_iff.1 h2
    have := k1.lo
    have := k3.lo
    exact h1 (within_eq h2 (by omega))
  | succ n ih =>
    intro q x hn hq hi hx
    by_cases hc : childB l p q = true
    · exact ⟨q, List.mem_filter.2 ⟨hq, hc⟩, hx⟩
    · have : ∃ r ∈ l, inside r p = true ∧ inside q r = true := by
        false_or_by_contra
        rename_i hno
        exact hc (child_iff.2 ⟨hi, fun r hr hri => by rw [Bool.eq_false_iff]; intro h; exact hno ⟨r, hr, hri, h⟩⟩)
      obtain ⟨r, hr, hri, hqr⟩ := this
      obtain ⟨h1, h2⟩ := inside_iff.1 hqr
      obtain ⟨k1, k2, k3⟩ := within_iff.1 h2
      have := k1.lo
      have := k3.lo
      have hne : q.2 ≠ r.2 := fun e => h1 (within_eq h2 e)
      exact ih (by omega) hr hri (within_trans hx h2)
/-- One that lies within a child lies within p and is not p. -/
theorem inside_of_child {l : List Pf} {p c x : Pf} (hc : c ∈ childrenL l p) (hx : within x c = true) : inside x p = true := by
  obtain ⟨_, kc⟩ := List.mem_filter.1 hc
  obtain ⟨h1, h2⟩ := inside_iff.1 (child_iff.1 kc).1
  refine inside_iff.2 ⟨?_, within_trans hx h2⟩
  rintro rfl
  exact h1 (within_anti h2 hx)
/-- A count over a list that rises. -/
theorem countP_one {α : Type} {l : List α} {f : α → Bool} (hd : l.Pairwise (fun a b => ¬ (f a = true ∧ f b = true))) {x : α} (hx : x ∈ l) (hf : f x = true) : l.countP f = 1 := by
  induction l with
  | nil => cases hx
  | cons a l ih =>
    rw [List.pairwise_cons] at hd
    by_cases ha : f a = true
    · rw [List.countP_cons_of_pos ha]
      have : l.countP f = 0 := List.countP_eq_zero.2 fun b hb hfb => hd.1 b hb ⟨ha, hfb⟩
      omega
    · rw [List.countP_cons_of_neg ha]
      rcases List.mem_cons.1 hx with rfl | hx
      · exact absurd hf ha
      · exact ih hd.2 hx
end Go.Cph.Px

/- Lists of prefixes that rise: one put in, one taken out; a list made of any. No program in sight. -/
namespace Go.Cph.Px

def rightAt (l : List Pf) (i : Nat) : Bool := rightP (l.getD i zeroP) && (i == 0 || before (l.getD (i - 1) zeroP) (l.getD i zeroP))
def rightL (l : List Pf) : Bool := (List.range l.length).all (rightAt l)
theorem getD_of {l : List Pf} {i : Nat} (h : i < l.length) : l.getD i zeroP = l[i] := by simp [List.getD_eq_getElem?_getD, h]
theorem rightAt_iff {l : List Pf} {i : Nat} (h : i < l.length) : rightAt l i = true ↔ rightP l[i] = true ∧ (i = 0 ∨ before (l[i - 1]'(by omega)) l[i] = true) := by
  unfold rightAt
  rw [getD_of h, getD_of (show i - 1 < l.length by omega), Bool.and_eq_true, Bool.or_eq_true, beq_iff_eq]
theorem rightL_at {l : List Pf} : rightL l = true ↔ ∀ i, i < l.length → rightAt l i = true := by simp [rightL]
theorem rightL_iff {l : List Pf} : rightL l = true ↔ Rises l := by
  rw [rightL_at]
  constructor
  · intro h
    have hc : ∀ (d i : Nat) (hj : i + 1 + d < l.length), before (l[i]'(by omega)) l[i + 1 + d] = true := by
      intro d
      induction d with
      | zero =>
        intro i hj
        have := ((rightAt_iff hj).1 (h _ hj)).2
        rcases this with h0 | h0
        · omega
        · simpa using h0
      | succ d ih =>
        intro i hj
        have h1 := ih i (by omega)
        have := ((rightAt_iff hj).1 (h _ hj)).2
        rcases this with h0 | h0
        · omega
        · have e : i + 1 + (d + 1) - 1 = i + 1 + d := by omega
          simp only [e] at h0
          exact before_trans h1 h0
    refine ⟨List.pairwise_iff_getElem.2 fun i j hi hj hlt => ?_, fun p hp => ?_⟩
    · obtain ⟨d, rfl⟩ : ∃ d, j = i + 1 + d := ⟨j - (i + 1), by omega⟩
      exact hc d i hj
    · obtain ⟨i, hi, rfl⟩ := List.getElem_of_mem hp
      exact ((rightAt_iff hi).1 (h i hi)).1
  · intro h i hi
    refine (rightAt_iff hi).2 ⟨h.rt _ (List.getElem_mem hi), ?_⟩
    rcases Nat.eq_zero_or_pos i with h0 | h0
    · exact .inl h0
    · exact .inr (List.pairwise_iff_getElem.1 h.ord (i - 1) i (by omega) hi (by omega))

/-! ### where one stands, or would -/
structure IsPlace (l : List Pf) (p : Pf) (i : Nat) : Prop where
  le : i ≤ l.length
  lo : ∀ a (h : a < l.length), a < i → before l[a] p = true
  hi : ∀ a (h : a < l.length), i ≤ a → before l[a] p = false
def pos (l : List Pf) (p : Pf) : Nat := l.countP (fun q => before q p)
theorem place_pos {l : List Pf} {p : Pf} {i : Nat} (h : IsPlace l p i) : pos l p = i := by
  unfold pos
  rw [← List.take_append_drop i l, List.countP_append]
  have h1 : (l.take i).countP (fun q => before q p) = (l.take i).length := List.countP_eq_length.2 fun q hq => by
    obtain ⟨a, ha, rfl⟩ := List.getElem_of_mem hq
    rw [List.length_take] at ha
    rw [List.getElem_take]
    exact h.lo a (by omega) (by omega)
  have h2 : (l.drop i).countP (fun q => before q p) = 0 := List.countP_eq_zero.2 fun q hq => by
    obtain ⟨a, ha, rfl⟩ := List.getElem_of_mem hq
    rw [List.length_drop] at ha
    rw [List.getElem_drop]
    simp [h.hi (i + a) (by omega) (by omega)]
  rw [h1, h2, List.length_take]
  have := h.le
  omega
theorem place_ex : ∀ {l : List Pf} (p : Pf), l.Pairwise (fun p q => before p q = true) → ∃ i, IsPlace l p i
  | [], p, _ => ⟨0, by simp, fun a h => by simp at h, fun a h => by simp at h⟩
  | b :: l, p, h => by
    rw [List.pairwise_cons] at h
    by_cases hb : before b p = true
    · obtain ⟨i, h1, h2, h3⟩ := place_ex p h.2
      refine ⟨i + 1, by simp; omega, fun a ha hlt => ?_, fun a ha hle => ?_⟩
      · cases a with
        | zero => exact hb
        | succ a => exact h2 a (by simpa using ha) (by omega)
      · cases a with
        | zero => omega
        | succ a => exact h3 a (by simpa using ha) (by omega)
    · refine ⟨0, by simp, fun a ha hlt => by omega, fun a ha _ => ?_⟩
      cases a with
      | zero => simpa using hb
      | succ a =>
        rw [Bool.eq_false_iff]; intro hc
        exact hb (before_trans (h.1 _ (List.getElem_mem (show a < l.length by simpa using ha))) hc)
theorem Rises.place {l : List Pf} (h : Rises l) (p : Pf) : IsPlace l p (pos l p) := by
  obtain ⟨i, hi⟩ := place_ex p h.ord
  rw [place_pos hi]; exact hi
/-- There: what stands at the place is it. -/
theorem Rises.there {l : List Pf} (h : Rises l) (p : Pf) : p ∈ l ↔ ∃ hi : pos l p < l.length, l[pos l p] = p := by
  have hp := h.place p
  constructor
  · intro hm
    obtain ⟨a, ha, e⟩ := List.getElem_of_mem hm
    have h1 : ¬ a < pos l p := fun hlt => by have := hp.lo a ha hlt; rw [e, before_irrefl] at this; cases this
    have h2 : pos l p < l.length := by omega
    refine ⟨h2, ?_⟩
    rcases Nat.lt_or_ge (pos l p) a with hlt | hge
    · have := List.pairwise_iff_getElem.1 h.ord _ _ h2 ha hlt
      rw [e, hp.hi _ h2 (Nat.le_refl _)] at this; cases this
    · have : a = pos l p := by omega
      subst this; exact e
  · rintro ⟨hi, e⟩
    rw [← e]; exact List.getElem_mem hi

def putL (l : List Pf) (p : Pf) : List Pf := l.take (pos l p) ++ p :: l.drop (pos l p)
def dropL (l : List Pf) (p : Pf) : List Pf := l.take (pos l p) ++ l.drop (pos l p + 1)
theorem mem_putL {l : List Pf} {p x : Pf} : x ∈ putL l p ↔ x = p ∨ x ∈ l := by
  unfold putL
  conv => rhs; rw [← List.take_append_drop (pos l p) l]
  simp only [List.mem_append, List.mem_cons]
  constructor
  · rintro (h | h | h)
    · exact .inr (.inl h)
    · exact .inl h
    · exact .inr (.inr h)
  · rintro (h | h | h)
    · exact .inr (.inl h)
    · exact .inl h
    · exact .inr (.inr h)
theorem putL_length (l : List Pf) (p : Pf) : (putL l p).length = l.length + 1 := by
  unfold putL
  have : pos l p ≤ l.length := List.countP_le_length
  simp; omega
theorem Rises.put {l : List Pf} (h : Rises l) {p : Pf} (hr : rightP p = true) (hn : p ∉ l) : Rises (putL l p) := by
  have hp := h.place p
  have hw := List.pairwise_iff_getElem.1 h.ord
  have hlo : ∀ x ∈ l.take (pos l p), before x p = true := fun x hx => by
    obtain ⟨a, ha, rfl⟩ := List.getElem_of_mem hx
    rw [List.length_take] at ha
    rw [List.getElem_take]
    exact hp.lo a (by omega) (by omega)
  have hhi : ∀ x ∈ l.drop (pos l p), before p x = true := fun x hx => by
    obtain ⟨a, ha, rfl⟩ := List.getElem_of_mem hx
    have hm := List.mem_of_mem_drop hx
    rw [List.length_drop] at ha
    rw [List.getElem_drop] at hm ⊢
    have h1 := hp.hi (pos l p + a) (by omega) (by omega)
    rcases hb : before p (l[pos l p + a]'(by omega)) with _ | _
    · rw [before_total h1 hb] at hm; exact absurd hm hn
    · rfl
  refine ⟨?_, fun x hx => ?_⟩
  · unfold putL
    rw [List.pairwise_append, List.pairwise_cons]
    refine ⟨h.ord.sublist (List.take_sublist _ _), ⟨hhi, h.ord.sublist (List.drop_sublist _ _)⟩, fun a ha b hb => ?_⟩
    rcases List.mem_cons.1 hb with rfl | hb
    · exact hlo a ha
    · exact before_trans (hlo a ha) (hhi b hb)
  · rcases mem_putL.1 hx with rfl | hx
    · exact hr
    · exact h.rt x hx
theorem dropL_sub (l : List Pf) (p : Pf) : (dropL l p).Sublist l := by
  unfold dropL
  conv => rhs; rw [← List.take_append_drop (pos l p) l]
  refine List.Sublist.append (List.Sublist.refl _) ?_
  rw [← List.drop_drop]
  exact List.drop_sublist _ _
theorem Rises.drop {l : List Pf} (h : Rises l) (p : Pf) : Rises (dropL l p) :=
  ⟨h.ord.sublist (dropL_sub l p), fun x hx => h.rt x ((dropL_sub l p).subset hx)⟩
theorem mem_dropL {l : List Pf} (h : Rises l) {p x : Pf} (hm : p ∈ l) : x ∈ dropL l p ↔ x ∈ l ∧ x ≠ p := by
  obtain ⟨hi, he⟩ := (h.there p).1 hm
  have hs : l = l.take (pos l p) ++ p :: l.drop (pos l p + 1) := by
    conv => lhs; rw [← List.take_append_drop (pos l p) l, List.drop_eq_getElem_cons hi, he]
  have hw := h.ord
  rw [hs, List.pairwise_append, List.pairwise_cons] at hw
  obtain ⟨_, ⟨w2, _⟩, w3⟩ := hw
  constructor
  · intro hx
    refine ⟨(dropL_sub l p).subset hx, ?_⟩
    rintro rfl
    unfold dropL at hx
    rcases List.mem_append.1 hx with hx | hx
    · have := w3 x hx x (by simp); rw [before_irrefl] at this; cases this
    · have := w2 x hx; rw [before_irrefl] at this; cases this
  · rintro ⟨hx, hne⟩
    rw [hs] at hx
    unfold dropL
    rcases List.mem_append.1 hx with hx | hx
    · exact List.mem_append_left _ hx
    · rcases List.mem_cons.1 hx with hx | hx
      · exact absurd hx hne
      · exact List.mem_append_right _ hx
theorem dropL_length {l : List Pf} (h : Rises l) {p : Pf} (hm : p ∈ l) : (dropL l p).length + 1 = l.length := by
  obtain ⟨hi, _⟩ := (h.there p).1 hm
  unfold dropL
  simp; omega

/-! ### what Put and Drop say; a list made of any -/
def putE (l : List Pf) (p : Pf) : Nat := if rightL l && rightP p then (if p ∈ l then 5 else 0) else 1
def dropE (l : List Pf) (p : Pf) : Nat := if rightL l && rightP p then (if p ∈ l then 0 else 4) else 1
def stepMade (out : List Pf) (p : Pf) : List Pf := if putE out p = 0 then putL out p else out
def madeL (l : List Pf) : List Pf := l.foldl stepMade []
theorem madeL_snoc (l : List Pf) (p : Pf) : madeL (l ++ [p]) = stepMade (madeL l) p := by unfold madeL; rw [List.foldl_append]; rfl
theorem putE_rises {l : List Pf} (h : Rises l) (p : Pf) : putE l p = if rightP p then (if p ∈ l then 5 else 0) else 1 := by
  unfold putE; rw [rightL_iff.2 h]; simp
theorem dropE_rises {l : List Pf} (h : Rises l) (p : Pf) : dropE l p = if rightP p then (if p ∈ l then 0 else 4) else 1 := by
  unfold dropE; rw [rightL_iff.2 h]; simp
theorem madeL_is (l : List Pf) : Rises (madeL l) ∧ (∀ x, x ∈ madeL l ↔ x ∈ l ∧ rightP x = true) ∧ (madeL l).length ≤ l.length := by
  suffices h : ∀ r : List Pf, Rises (madeL r.reverse) ∧ (∀ x, x ∈ madeL r.reverse ↔ x ∈ r.reverse ∧ rightP x = true) ∧ (madeL r.reverse).length ≤ r.reverse.length by simpa using h l.reverse
  intro r
  induction r with
  | nil => exact ⟨.nil, by simp [madeL], by simp [madeL]⟩
  | cons p r ih =>
    obtain ⟨h1, h2, h3⟩ := ih
    rw [List.reverse_cons, madeL_snoc]
    unfold stepMade
    rw [putE_rises h1]
    by_cases hr : rightP p = true
    · by_cases hm : p ∈ madeL r.reverse
      · rw [if_pos hr, if_pos hm, if_neg (by decide)]
        refine ⟨h1, fun x => ?_, by simp at h3 ⊢; omega⟩
        rw [h2]
        have := (h2 p).1 hm
        constructor
        · rintro ⟨a, b⟩; exact ⟨List.mem_append_left _ a, b⟩
        · rintro ⟨a, b⟩
          rcases List.mem_append.1 a with a | a
          · exact ⟨a, b⟩
          · simp at a; subst a; exact ⟨this.1, b⟩
      · rw [if_pos hr, if_neg hm, if_pos rfl]
        refine ⟨h1.put hr hm, fun x => ?_, by rw [putL_length]; simp at h3 ⊢; omega⟩
        rw [mem_putL, h2]
        constructor
        · rintro (rfl | ⟨a, b⟩)
          · exact ⟨by simp, hr⟩
          · exact ⟨List.mem_append_left _ a, b⟩
        · rintro ⟨a, b⟩
          rcases List.mem_append.1 a with a | a
          · exact .inr ⟨a, b⟩
          · simp at a; exact .inl a
    · rw [if_neg hr, if_neg (by decide)]
      refine ⟨h1, fun x => ?_, by simp at h3 ⊢; omega⟩
      rw [h2]
      constructor
      · rintro ⟨a, b⟩; exact ⟨List.mem_append_left _ a, b⟩
      · rintro ⟨a, b⟩
        rcases List.mem_append.1 a with a | a
        · exact ⟨a, b⟩
        · simp at a; subst a; exact absurd b hr
theorem madeL_eq {l m : List Pf} (h : ∀ x, x ∈ l ↔ x ∈ m) : madeL l = madeL m :=
  rises_ext (madeL_is l).1.ord (madeL_is m).1.ord fun x => by rw [(madeL_is l).2.1, (madeL_is m).2.1, h]
theorem put_drop {l : List Pf} (h : Rises l) {p : Pf} (hr : rightP p = true) (hn : p ∉ l) : dropL (putL l p) p = l := by
  have h1 := h.put hr hn
  refine rises_ext (h1.drop p).ord h.ord fun x => ?_
  rw [mem_dropL h1 (mem_putL.2 (.inl rfl)), mem_putL]
  constructor
  · rintro ⟨a | a, b⟩
    · exact absurd a b
    · exact a
  · intro a; exact ⟨.inr a, by rintro rfl; exact hn a⟩
theorem drop_put {l : List Pf} (h : Rises l) {p : Pf} (hm : p ∈ l) : putL (dropL l p) p = l := by
  have hn : p ∉ dropL l p := fun hx => ((mem_dropL h hm).1 hx).2 rfl
  refine rises_ext ((h.drop p).put (h.rt p hm) hn).ord h.ord fun x => ?_
  rw [mem_putL, mem_dropL h hm]
  constructor
  · rintro (rfl | ⟨a, _⟩)
    · exact hm
    · exact a
  · intro a
    by_cases e : x = p
    · exact .inl e
    · exact .inr ⟨a, e⟩
end Go.Cph.Px

/- Keys of numbers and texts: their bytes, plainly: rows of numbers. No program here. -/
set_option linter.unusedVariables false
namespace Go.Cph.Ok
open Go Go.RowKit Go.Cph

abbrev Bs := List UInt8
/-- A number's last bytes, the greatest first. -/
def be : Nat → Nat → Bs
  | 0, _ => []
  | k + 1, n => UInt8.ofNat (n / 256 ^ k) :: be k n
/-- How many bytes a number needs. -/
def blen (n : Nat) : Nat := if h : n = 0 then 0 else blen (n / 256) + 1
termination_by n
decreasing_by omega
def row (n : Nat) : Bs := if n < 248 then [UInt8.ofNat n] else UInt8.ofNat (247 + blen n) :: be (blen n) n
def val (l : Bs) : Nat := l.foldl (fun n c => 256 * n + c.toNat) 0

theorem p8 : (256 : Nat) ^ 8 = 18446744073709551616 := by decide
theorem p64 : (2 : Nat) ^ 64 = 18446744073709551616 := by decide
theorem snoc_ind {α : Type} {P : List α → Prop} (h0 : P []) (hs : ∀ l c, P l → P (l ++ [c])) (l : List α) : P l := by
  have h : ∀ m : List α, P m.reverse := by
    intro m
    induction m with
    | nil => exact h0
    | cons c m ih => rw [List.reverse_cons]; exact hs _ _ ih
  have := h l.reverse
  rwa [List.reverse_reverse] at this
theorem be_len : ∀ k n, (be k n).length = k
  | 0, _ => rfl
  | k + 1, n => by rw [be, List.length_cons, be_len k n]
theorem blen_zero : blen 0 = 0 := by rw [blen]; rfl
theorem blen_pos {n : Nat} (h : n ≠ 0) : blen n = blen (n / 256) + 1 := by rw [blen, dif_neg h]
theorem blen_lt (n : Nat) : n < 256 ^ blen n := by
  induction n using Nat.strongRecOn with
  | _ n ih =>
    by_cases h : n = 0
    · subst h; rw [blen_zero]; decide
    · rw [blen_pos h, Nat.pow_succ]
      have := ih (n / 256) (by omega)
      omega
theorem blen_ge {n k : Nat} (h : blen n = k + 1) : 256 ^ k ≤ n := by
  induction n using Nat.strongRecOn generalizing k with
  | _ n ih =>
    by_cases h0 : n = 0
    · subst h0; rw [blen_zero] at h; cases h
    · rw [blen_pos h0] at h
      have h1 : blen (n / 256) = k := by omega
      cases k with
      | zero => show 1 ≤ n; omega
      | succ k =>
        have := ih (n / 256) (by omega) h1
        rw [Nat.pow_succ]
        omega
theorem blen_of {n k : Nat} (h1 : 256 ^ k ≤ n) (h2 : n < 256 ^ (k + 1)) : blen n = k + 1 := by
  have hl := blen_lt n
  cases hb : blen n with
  | zero => rw [hb] at hl; have : 0 < 256 ^ k := Nat.pow_pos (by omega); simp at hl; omega
  | succ j =>
    have hg := blen_ge hb
    rw [hb] at hl
    have a1 : ¬ j + 1 ≤ k := fun hc => by
      have := Nat.pow_le_pow_right (show 0 < 256 by omega) hc; omega
    have a2 : ¬ k + 1 ≤ j := fun hc => by
      have := Nat.pow_le_pow_right (show 0 < 256 by omega) hc; omega
    omega
theorem blen_le {n k : Nat} (h : n < 256 ^ k) : blen n ≤ k := by
  cases hb : blen n with
  | zero => omega
  | succ j =>
    have hg := blen_ge hb
    have : ¬ k ≤ j := fun hc => by
      have := Nat.pow_le_pow_right (show 0 < 256 by omega) hc; omega
    omega
theorem blen_8 {n : Nat} (h : n < 18446744073709551616) : blen n ≤ 8 := blen_le (by rw [p8]; exact h)
theorem blen_1 {n : Nat} (h : 0 < n) : 1 ≤ blen n := by rw [blen_pos (by omega)]; omega
/-- The bytes one by one, from the end on. -/
theorem be_snoc : ∀ k n, be (k + 1) n = be k (n / 256) ++ [UInt8.ofNat n]
  | 0, n => by simp [be]
  | k + 1, n => by
    have ih := be_snoc k n
    show UInt8.ofNat (n / 256 ^ (k + 1)) :: be (k + 1) n = _
    rw [ih]
    show _ = (UInt8.ofNat (n / 256 / 256 ^ k) :: be k (n / 256)) ++ _
    rw [Nat.div_div_eq_div_mul, Nat.pow_succ, Nat.mul_comm 256]
    rfl
theorem val_snoc (l : Bs) (c : UInt8) : val (l ++ [c]) = 256 * val l + c.toNat := by unfold val; rw [List.foldl_append]; rfl
theorem ofNat_toNat (n : Nat) : (UInt8.ofNat n).toNat = n % 256 := UInt8.toNat_ofNat'
theorem val_be : ∀ k n, n < 256 ^ k → val (be k n) = n
  | 0, n, h => by have : n = 0 := by simpa using h
                  subst this; rfl
  | k + 1, n, h => by
    rw [be_snoc, val_snoc, val_be k (n / 256) (by rw [Nat.pow_succ] at h; omega), ofNat_toNat]
    omega
theorem val_lt (l : Bs) : val l < 256 ^ l.length := by
  refine snoc_ind (P := fun l => val l < 256 ^ l.length) (by decide) (fun l c ih => ?_) l
  rw [val_snoc, List.length_append, List.length_singleton, Nat.pow_succ]
  have := c.toNat_lt
  omega
theorem be_val (l : Bs) : be l.length (val l) = l := by
  refine snoc_ind (P := fun l => be l.length (val l) = l) rfl (fun l c ih => ?_) l
  have hc : c.toNat < 256 := c.toNat_lt
  rw [List.length_append, List.length_singleton, be_snoc, val_snoc, show (256 * val l + c.toNat) / 256 = val l by omega, ih]
  congr 2
  apply UInt8.toNat_inj.1
  rw [ofNat_toNat]; omega
/-- What is read of a row. -/
def readRow : Bs → Option (Nat × Nat)
  | [] => none
  | c :: t => if c.toNat < 248 then some (c.toNat, 1) else if t.length < c.toNat - 247 then none else
    if row (val (t.take (c.toNat - 247))) = c :: t.take (c.toNat - 247) then some (val (t.take (c.toNat - 247)), c.toNat - 247 + 1) else none
theorem readRow_cons (c : UInt8) (t : Bs) : readRow (c :: t) = if c.toNat < 248 then some (c.toNat, 1) else if t.length < c.toNat - 247 then none else
    if row (val (t.take (c.toNat - 247))) = c :: t.take (c.toNat - 247) then some (val (t.take (c.toNat - 247)), c.toNat - 247 + 1) else none := rfl
theorem row_len {n : Nat} : (row n).length = if n < 248 then 1 else blen n + 1 := by
  unfold row
  split
  · rfl
  · rw [List.length_cons, be_len]
theorem row_pos (n : Nat) : 0 < (row n).length := by rw [row_len]; split <;> omega
theorem row_le {n : Nat} (h : n < 18446744073709551616) : (row n).length ≤ 9 := by
  rw [row_len]; have := blen_8 h; split <;> omega
theorem read_row {n : Nat} (h : n < 18446744073709551616) (x : Bs) : readRow (row n ++ x) = some (n, (row n).length) := by
  have h8 := blen_8 h
  by_cases hs : n < 248
  · have e : row n = [UInt8.ofNat n] := by unfold row; rw [if_pos hs]
    have e2 : (UInt8.ofNat n).toNat = n := by rw [ofNat_toNat]; omega
    rw [e, List.cons_append, readRow_cons, e2, if_pos hs]; rfl
  · have e : row n = UInt8.ofNat (247 + blen n) :: be (blen n) n := by unfold row; rw [if_neg hs]
    have h1 := blen_1 (n := n) (by omega)
    have e2 : (UInt8.ofNat (247 + blen n)).toNat = 247 + blen n := by rw [ofNat_toNat]; omega
    have e3 : 247 + blen n - 247 = blen n := by omega
    have e4 : (be (blen n) n ++ x).take (blen n) = be (blen n) n := List.take_left' (be_len _ _)
    have e5 : val (be (blen n) n) = n := val_be _ _ (blen_lt n)
    rw [e, List.cons_append, readRow_cons, e2, if_neg (by omega), e3, if_neg (by rw [List.length_append, be_len]; omega), e4, e5, if_pos e, List.length_cons, be_len]
theorem row_read {s : Bs} {n k : Nat} (h : readRow s = some (n, k)) : 0 < k ∧ k ≤ s.length ∧ s.take k = row n ∧ n < 18446744073709551616 := by
  cases s with
  | nil => cases h
  | cons c t =>
    rw [readRow_cons] at h
    have hc : c.toNat < 256 := c.toNat_lt
    split at h
    · rename_i hs
      injection h with h
      injection h with h1 h2
      subst h1 h2
      refine ⟨by omega, by simp, ?_, by omega⟩
      unfold row
      rw [if_pos hs]
      show [c] = [UInt8.ofNat c.toNat]
      congr 1
      apply UInt8.toNat_inj.1
      rw [ofNat_toNat]; omega
    · rename_i hs
      split at h
      · cases h
      · rename_i hl
        split at h
        · rename_i hr
          injection h with h
          injection h with h1 h2
          subst h1 h2
          refine ⟨by omega, by simp; omega, by rw [hr]; rfl, ?_⟩
          have hv := val_lt (t.take (c.toNat - 247))
          have hlen : (t.take (c.toNat - 247)).length ≤ 8 := by rw [List.length_take]; omega
          exact Nat.lt_of_lt_of_le hv (by rw [← p8]; exact Nat.pow_le_pow_right (show 0 < 256 by omega) hlen)
        · cases h
/-- The program asks instead how many bytes the number needs. -/
def behind (n : Nat) : Nat := if n < 248 then 0 else blen n
theorem row_behind {c : UInt8} {t : Bs} (hc : 248 ≤ c.toNat) (hl : t.length = c.toNat - 247) : (row (val t) = c :: t) ↔ behind (val t) = t.length := by
  have hc2 : c.toNat < 256 := c.toNat_lt
  unfold row behind
  by_cases hs : val t < 248
  · rw [if_pos hs, if_pos hs]
    constructor
    · intro h
      have := congrArg List.length h
      simp only [List.length_cons, List.length_nil] at this
      omega
    · intro h; omega
  · rw [if_neg hs, if_neg hs]
    constructor
    · intro h
      have := congrArg List.length h
      simp only [List.length_cons, be_len] at this
      omega
    · intro h
      have h8 : t.length ≤ 8 := by omega
      rw [h, be_val]
      congr 1
      apply UInt8.toNat_inj.1
      rw [ofNat_toNat]; omega
/-- bits.Len64's bytes. -/
theorem bitLen_zero : Lib.bitLen 0 = 0 := rfl
theorem bitLen_step {n : Nat} (h0 : 0 < n) (h : n < 18446744073709551616) : Lib.bitLen n = 1 + Lib.bitLen (n / 2) := Lib.bitLen_half n (by omega) (by rw [p64]; exact h)
theorem bitLen_small {n : Nat} (h : n < 256) (h0 : 0 < n) : 1 ≤ Lib.bitLen n ∧ Lib.bitLen n ≤ 8 := by
  have := Lib.bitLen_le8 ⟨n, h⟩
  refine ⟨?_, this⟩
  rw [bitLen_step h0 (by omega)]; omega
theorem bitLen_blen {n : Nat} (h : n < 18446744073709551616) : (Lib.bitLen n + 7) / 8 = blen n := by
  induction n using Nat.strongRecOn with
  | _ n ih =>
    by_cases h0 : n = 0
    · subst h0; rw [blen_zero]; rfl
    · rw [blen_pos h0]
      by_cases hs : n < 256
      · have := bitLen_small hs (by omega)
        rw [show n / 256 = 0 by omega, blen_zero]
        omega
      · have h1 := ih (n / 256) (by omega) (by omega)
        have p256 : (2 : Nat) ^ 8 = 256 := by decide
        have h2 := Lib.bitLen_shift 8 n (by rw [p256]; omega) (by rw [p64]; exact h)
        rw [p256] at h2
        rw [h2]
        omega
end Go.Cph.Ok

/- Keys of numbers and texts: parts, and what is read of a key, plainly. No program here. -/
set_option linter.unusedVariables false
namespace Go.Cph.Ok
open Go Go.RowKit Go.Cph

/-- A part: a number, or a text. -/
structure Pt where
  text : Bool
  s : ByteArray
  n : UInt64
def esc (s : Bs) : Bs := s.flatMap fun b => if b = 0 then [0, 255] else [b]
def bytes (p : Pt) : Bs := if p.text then 2 :: (esc p.s.data.toList ++ [0, 1]) else 1 :: row p.n.toNat
def key (l : List Pt) : Bs := l.flatMap bytes
def ofBs (l : Bs) : ByteArray := ⟨l.toArray⟩
theorem ofBs_list (l : Bs) : (ofBs l).data.toList = l := rfl
theorem ofBs_data (s : ByteArray) : ofBs s.data.toList = s := by cases s; rfl
/-- A part without what is no matter. -/
def plainP (p : Pt) : Pt := if p.text then ⟨true, p.s, 0⟩ else ⟨false, ByteArray.empty, p.n⟩
theorem bytes_plain (p : Pt) : bytes (plainP p) = bytes p := by
  obtain ⟨t, s, n⟩ := p
  cases t <;> rfl
theorem plain_plain (p : Pt) : plainP (plainP p) = plainP p := by
  obtain ⟨t, s, n⟩ := p
  cases t <;> rfl
theorem key_plain (l : List Pt) : key (l.map plainP) = key l := by
  induction l with
  | nil => rfl
  | cons p l ih =>
    show bytes (plainP p) ++ key (l.map plainP) = bytes p ++ key l
    rw [ih, bytes_plain]
theorem key_cons (p : Pt) (l : List Pt) : key (p :: l) = bytes p ++ key l := rfl
theorem key_append (l m : List Pt) : key (l ++ m) = key l ++ key m := List.flatMap_append
theorem esc_cons (b : UInt8) (s : Bs) : esc (b :: s) = (if b = 0 then [0, 255] else [b]) ++ esc s := rfl
theorem esc_append (s t : Bs) : esc (s ++ t) = esc s ++ esc t := List.flatMap_append
theorem bytes_pos (p : Pt) : 0 < (bytes p).length := by unfold bytes; split <;> simp

/-- A text, read behind its first byte: it, and what is behind it. -/
def readText : Bs → Option (Bs × Bs)
  | [] => none
  | [c] => none
  | c :: d :: r => if c = 0 then (if d = 1 then some ([], r) else if d = 255 then (readText r).map fun x => (0 :: x.1, x.2) else none)
    else (readText (d :: r)).map fun x => (c :: x.1, x.2)
theorem read_text : ∀ (s x : Bs), readText (esc s ++ 0 :: 1 :: x) = some (s, x)
  | [], x => rfl
  | b :: s, x => by
    have ih := read_text s x
    rw [esc_cons]
    by_cases hb : b = 0
    · subst hb
      show readText (0 :: 255 :: (esc s ++ 0 :: 1 :: x)) = _
      rw [readText, if_pos rfl, if_neg (by decide), if_pos rfl, ih]; rfl
    · rw [if_neg hb]
      show readText (b :: (esc s ++ 0 :: 1 :: x)) = _
      cases hs : esc s ++ 0 :: 1 :: x with
      | nil => simp at hs
      | cons d r => rw [readText, if_neg hb, ← hs, ih]; rfl
theorem text_read : ∀ (k : Nat) (s t r : Bs), s.length ≤ k → readText s = some (t, r) → s = esc t ++ 0 :: 1 :: r
  | _, [], t, r, _, h => by cases h
  | _, [c], t, r, _, h => by cases h
  | 0, c :: d :: r', t, r, hk, h => by simp at hk
  | k + 1, c :: d :: r', t, r, hk, h => by
    rw [readText] at h
    split at h
    · rename_i hc
      split at h
      · rename_i hd
        injection h with h
        injection h with h1 h2
        subst h1 h2 hc hd
        rfl
      · split at h
        · rename_i hd
          cases hr : readText r' with
          | none => rw [hr] at h; cases h
          | some x =>
            rw [hr] at h
            injection h with h
            injection h with h1 h2
            have ih := text_read k r' x.1 x.2 (by simp at hk; omega) hr
            subst h1 h2 hc hd
            show _ = esc (0 :: x.1) ++ _
            rw [esc_cons, if_pos rfl]
            show (0 : UInt8) :: 255 :: r' = 0 :: 255 :: (esc x.1 ++ 0 :: 1 :: x.2)
            rw [← ih]
        · cases h
    · rename_i hc
      cases hr : readText (d :: r') with
      | none => rw [hr] at h; cases h
      | some x =>
        rw [hr] at h
        injection h with h
        injection h with h1 h2
        have ih := text_read k (d :: r') x.1 x.2 (by simp at hk ⊢; omega) hr
        subst h1 h2
        show _ = esc (c :: x.1) ++ _
        rw [esc_cons, if_neg hc]
        show c :: d :: r' = c :: (esc x.1 ++ 0 :: 1 :: x.2)
        rw [← ih]
/-- A part, and what is behind it. -/
def readPart : Bs → Option (Pt × Bs)
  | [] => none
  | c :: t => if c = 1 then (readRow t).map fun x => (⟨false, ByteArray.empty, UInt64.ofNat x.1⟩, t.drop x.2)
    else if c = 2 then (readText t).map fun x => (⟨true, ofBs x.1, 0⟩, x.2) else none
theorem readPart_cons (c : UInt8) (t : Bs) : readPart (c :: t) = if c = 1 then (readRow t).map fun x => (⟨false, ByteArray.empty, UInt64.ofNat x.1⟩, t.drop x.2)
    else if c = 2 then (readText t).map fun x => (⟨true, ofBs x.1, 0⟩, x.2) else none := rfl
theorem read_part (p : Pt) (x : Bs) : readPart (bytes p ++ x) = some (plainP p, x) := by
  obtain ⟨t, s, n⟩ := p
  cases t with
  | false =>
    show readPart (1 :: (row n.toNat ++ x)) = _
    rw [readPart, if_pos rfl, read_row n.toNat_lt]
    show some (_, List.drop (row n.toNat).length (row n.toNat ++ x)) = _
    rw [List.drop_left]
    show some ((⟨false, ByteArray.empty, UInt64.ofNat n.toNat⟩ : Pt), x) = some ((⟨false, ByteArray.empty, n⟩ : Pt), x)
    rw [UInt64.ofNat_toNat]
  | true =>
    show readPart (2 :: ((esc s.data.toList ++ [0, 1]) ++ x)) = _
    rw [readPart, if_neg (by decide), if_pos rfl, List.append_assoc]
    show (readText (esc s.data.toList ++ 0 :: 1 :: x)).map _ = _
    rw [read_text]
    show some ((⟨true, ofBs s.data.toList, 0⟩ : Pt), x) = _
    rw [ofBs_data]; rfl
theorem part_read {s r : Bs} {p : Pt} (h : readPart s = some (p, r)) : s = bytes p ++ r ∧ plainP p = p := by
  cases s with
  | nil => cases h
  | cons c t =>
    rw [readPart_cons] at h
    split at h
    · rename_i hc
      cases hr : readRow t with
      | none => rw [hr] at h; cases h
      | some x =>
        obtain ⟨n, k⟩ := x
        rw [hr] at h
        injection h with h
        injection h with h1 h2
        obtain ⟨h3, h4, h5, h6⟩ := row_read hr
        subst h1 h2 hc
        refine ⟨?_, rfl⟩
        show (1 : UInt8) :: t = 1 :: (row (UInt64.ofNat n).toNat ++ t.drop k)
        rw [UInt64.toNat_ofNat', Nat.mod_eq_of_lt h6, ← h5, List.take_append_drop]
    · split at h
      · rename_i hc
        cases hr : readText t with
        | none => rw [hr] at h; cases h
        | some x =>
          rw [hr] at h
          injection h with h
          injection h with h1 h2
          have h3 := text_read t.length t x.1 x.2 (Nat.le_refl _) hr
          subst h1 h2 hc
          refine ⟨?_, rfl⟩
          show (2 : UInt8) :: t = 2 :: ((esc x.1 ++ [0, 1]) ++ x.2)
          rw [List.append_assoc]
          show _ = 2 :: (esc x.1 ++ 0 :: 1 :: x.2)
          rw [← h3]
      · cases h
theorem part_less {s r : Bs} {p : Pt} (h : readPart s = some (p, r)) : r.length < s.length := by
  rw [(part_read h).1, List.length_append]
  have := bytes_pos p
  omega
/-- What is read of a key. -/
def parts (s : Bs) : Option (List Pt) :=
  if s = [] then some [] else
  match h : readPart s with
  | none => none
  | some (p, r) => (parts r).map (p :: ·)
termination_by s.length
decreasing_by exact part_less h
theorem parts_nil : parts [] = some [] := by rw [parts, if_pos rfl]
theorem parts_none {s : Bs} (h0 : s ≠ []) (h : readPart s = none) : parts s = none := by
  rw [parts, if_neg h0]
  split
  · rfl
  · rename_i p r h2; rw [h] at h2; cases h2
theorem parts_some {s r : Bs} {p : Pt} (h0 : s ≠ []) (h : readPart s = some (p, r)) : parts s = (parts r).map (p :: ·) := by
  rw [parts, if_neg h0]
  split
  · rename_i h2; rw [h] at h2; cases h2
  · rename_i p' r' h2
    rw [h] at h2
    injection h2 with h2
    injection h2 with h3 h4
    subst h3 h4
    rfl
theorem parts_key (l : List Pt) : parts (key l) = some (l.map plainP) := by
  induction l with
  | nil => exact parts_nil
  | cons p l ih =>
    have hp := read_part p (key l)
    rw [key_cons]
    rw [parts_some (fun e => by have h1 := bytes_pos p; have h2 := congrArg List.length e; rw [List.length_append, List.length_nil] at h2; omega) hp, ih]
    rfl
theorem key_parts : ∀ (k : Nat) (s : Bs) (l : List Pt), s.length ≤ k → parts s = some l → key l = s ∧ l.map plainP = l
  | _, [], l, _, h => by
    rw [parts_nil] at h
    injection h with h
    subst h
    exact ⟨rfl, rfl⟩
  | 0, c :: t, l, hk, h => by simp at hk
  | k + 1, c :: t, l, hk, h => by
    cases hr : readPart (c :: t) with
    | none => rw [parts_none (by simp) hr] at h; cases h
    | some x =>
      obtain ⟨p, r⟩ := x
      rw [parts_some (by simp) hr] at h
      cases hp : parts r with
      | none => rw [hp] at h; cases h
      | some m =>
        rw [hp] at h
        injection h with h
        subst h
        have h1 := part_read hr
        have h2 := part_less hr
        obtain ⟨h3, h4⟩ := key_parts k r m (by omega) hp
        refine ⟨?_, ?_⟩
        · rw [key_cons, h3, ← h1.1]
        · rw [List.map_cons, h1.2, h4]
end Go.Cph.Ok

/- Each nought of a text followed by a byte 255: what strings.ReplaceAll makes; what strings.IndexByte finds. No program here. -/
set_option linter.unusedVariables false
namespace Go.Cph.Ok
open Go Go.RowKit Go.Cph
theorem esc_none {s : Bs} (h : ∀ b ∈ s, b ≠ 0) : esc s = s := by
  induction s with
  | nil => rfl
  | cons b s ih =>
    rw [esc_cons, if_neg (h b (by simp)), ih fun c hc => h c (List.mem_cons_of_mem _ hc)]
    rfl
theorem occ_zero (s : Bs) (j : Nat) : Lib.occAt s [0] j = true ↔ s[j]? = some 0 := by
  unfold Lib.occAt
  rw [List.isPrefixOf_iff_prefix, ← List.getElem?_drop_zero s j]
  cases s.drop j with
  | nil => simp
  | cons c r => simp [List.cons_prefix_cons, eq_comm]
where
  List.getElem?_drop_zero (s : Bs) (j : Nat) : (s.drop j)[0]? = s[j]? := by rw [List.getElem?_drop]; rfl
theorem rep_esc : ∀ (k : Nat) (s : Bs), s.length ≤ k → Lib.replaceK [0] [0, 255] (Lib.count s [0]) s = esc s := by
  intro k
  induction k with
  | zero =>
    intro s hs
    have : s = [] := List.eq_nil_of_length_eq_zero (by omega)
    subst this
    rfl
  | succ k ih =>
    intro s hs
    rcases Lib.index_spec s [0] with ⟨h1, h2⟩ | ⟨i, h1, h2, h3, h4⟩
    · rw [Lib.count_miss h1]
      show s = esc s
      refine (esc_none fun b hb e => ?_).symm
      obtain ⟨j, hj, hbj⟩ := List.mem_iff_getElem.1 hb
      have h5 := h2 j (by omega)
      rw [Bool.eq_false_iff] at h5
      exact h5 ((occ_zero s j).2 (by rw [List.getElem?_eq_getElem hj, hbj, e]))
    · have h5 := (occ_zero s i).1 h3
      obtain ⟨hi, hsi⟩ := List.getElem?_eq_some_iff.1 h5
      have hsplit : s = s.take i ++ 0 :: s.drop (i + 1) := by
        rw [← hsi, List.getElem_cons_drop, List.take_append_drop]
      have hnone : ∀ b ∈ s.take i, b ≠ 0 := fun b hb e => by
        obtain ⟨j, hj, hbj⟩ := List.mem_iff_getElem.1 hb
        have hji : j < i := by rw [List.length_take] at hj; omega
        have h6 := h4 j hji
        rw [Bool.eq_false_iff] at h6
        refine h6 ((occ_zero s j).2 ?_)
        rw [List.getElem_take] at hbj
        rw [List.getElem?_eq_getElem (by omega), hbj, e]
      rw [Lib.count_hit (by simp) h1, Nat.add_comm, Lib.replaceK_hit _ _ _ _ _ h1]
      rw [show i + ([0] : Bs).length = i + 1 from rfl, ih _ (by rw [List.length_drop]; omega)]
      conv => rhs; rw [hsplit, esc_append, esc_none hnone, esc_cons, if_pos rfl]
      rw [List.append_assoc]
theorem replace_esc (s : Bs) : Lib.replaceAll s [0] [0, 255] = esc s := by
  unfold Lib.replaceAll Lib.replace
  rw [if_neg (by decide)]
  unfold Lib.replaceNum
  rw [if_pos (Or.inl (by omega))]
  exact rep_esc s.length s (Nat.le_refl _)
theorem count_zero_le (s : ByteArray) : Lib.countB s ⟨#[0]⟩ ≤ s.size := by
  have := Lib.countB_mul_le ⟨#[0]⟩ (by decide) s.size s (Nat.le_refl _)
  have e : (⟨#[0]⟩ : ByteArray).size = 1 := rfl
  rw [e] at this
  omega
theorem esc_len (s : Bs) : s.length ≤ (esc s).length ∧ (esc s).length ≤ 2 * s.length := by
  induction s with
  | nil => exact ⟨Nat.le_refl _, Nat.le_refl _⟩
  | cons b s ih =>
    rw [esc_cons, List.length_append, List.length_cons]
    split <;> simp <;> omega
end Go.Cph.Ok

/- What is read of a text: nought by nought. No program here. -/
set_option linter.unusedVariables false
namespace Go.Cph.Ok
open Go Go.RowKit Go.Cph
theorem text_none : ∀ {l : Bs}, (∀ b ∈ l, b ≠ 0) → readText l = none
  | [], _ => rfl
  | [c], _ => rfl
  | c :: d :: r, h => by
    rw [readText, if_neg (h c (by simp)), text_none (l := d :: r) fun b hb => h b (List.mem_cons_of_mem _ hb)]
    rfl
theorem text_pre : ∀ {p r : Bs}, (∀ b ∈ p, b ≠ 0) → r ≠ [] → readText (p ++ r) = (readText r).map fun x => (p ++ x.1, x.2)
  | [], r, _, _ => by
    rw [List.nil_append]
    cases readText r <;> rfl
  | c :: p, r, h, hr => by
    have ih := text_pre (p := p) (r := r) (fun b hb => h b (List.mem_cons_of_mem _ hb)) hr
    rw [List.cons_append]
    cases hs : p ++ r with
    | nil => simp at hs; exact absurd hs.2 hr
    | cons d t =>
      rw [readText, if_neg (h c (by simp)), ← hs, ih]
      cases readText r <;> rfl
theorem byte_split {l : Bs} {i : Nat} (h : Lib.indexByte l 0 = i) : i < l.length ∧ l = l.take i ++ 0 :: l.drop (i + 1) ∧ ∀ b ∈ l.take i, b ≠ 0 := by
  obtain ⟨h1, h2⟩ := Lib.indexByte_some h
  obtain ⟨hi, hsi⟩ := List.getElem?_eq_some_iff.1 h1
  refine ⟨hi, ?_, fun b hb e => ?_⟩
  · rw [← hsi, List.getElem_cons_drop, List.take_append_drop]
  · obtain ⟨j, hj, hbj⟩ := List.mem_iff_getElem.1 hb
    have hji : j < i := by rw [List.length_take] at hj; omega
    rw [List.getElem_take] at hbj
    exact h2 j hji (by rw [List.getElem?_eq_getElem (by omega), hbj, e])
theorem byte_none {l : Bs} (h : Lib.indexByte l 0 = -1) : ∀ b ∈ l, b ≠ 0 := fun b hb e => by
  obtain ⟨j, hj, hbj⟩ := List.mem_iff_getElem.1 hb
  exact Lib.indexByte_none h j (by rw [List.getElem?_eq_getElem hj, hbj, e])
/-- What the loop of readText goes by. -/
theorem text_case {l : Bs} {i : Nat} (h : Lib.indexByte l 0 = i) :
    (i + 1 = l.length ∧ readText l = none) ∨ (∃ d, i + 1 < l.length ∧ l[i + 1]? = some d ∧
      readText l = if d = 1 then some (l.take i, l.drop (i + 2)) else if d = 255 then (readText (l.drop (i + 2))).map (fun x => (l.take i ++ 0 :: x.1, x.2)) else none) := by
  obtain ⟨hi, hs, hn⟩ := byte_split h
  have hp := text_pre (p := l.take i) (r := 0 :: l.drop (i + 1)) hn (by simp)
  rw [← hs] at hp
  cases hd : l.drop (i + 1) with
  | nil =>
    left
    have := congrArg List.length hd
    rw [List.length_drop, List.length_nil] at this
    refine ⟨by omega, ?_⟩
    rw [hp, hd]; rfl
  | cons d r =>
    right
    have hlen : i + 1 < l.length := by
      have := congrArg List.length hd
      rw [List.length_drop, List.length_cons] at this
      omega
    have hr : l.drop (i + 2) = r := by rw [show i + 2 = (i + 1) + 1 from rfl, ← List.drop_drop, hd]; rfl
    refine ⟨d, hlen, ?_, ?_⟩
    · have : (l.drop (i + 1))[0]? = some d := by rw [hd]; rfl
      rw [List.getElem?_drop] at this
      exact this
    · rw [hp, hd, readText, if_pos rfl, hr]
      by_cases h1 : d = 1
      · rw [if_pos h1, if_pos h1]; simp
      · rw [if_neg h1, if_neg h1]
        by_cases h2 : d = 255
        · rw [if_pos h2, if_pos h2]
          cases readText r <;> rfl
        · rw [if_neg h2, if_neg h2]; rfl
end Go.Cph.Ok

/- Slices whose elements have several cells, as lists: where they lie; appended to a slice without elements. Of whatever program. -/
set_option linter.unusedVariables false
set_option linter.unusedSimpArgs false
namespace Go.Cph
open Go.RowKit

theorem flat_length {α : Type} {enc : α → List Value} {size : Nat} (hs : ∀ x, (enc x).length = size) : ∀ l : List α, (l.flatMap enc).length = l.length * size
  | [] => by simp
  | x :: l => by rw [List.flatMap_cons, List.length_append, hs, flat_length hs l, List.length_cons, Nat.succ_mul]; omega
theorem flat_at {α : Type} {enc : α → List Value} {size : Nat} (hs : ∀ x, (enc x).length = size) : ∀ (l : List α) (i : Nat) (h : i < l.length) (j : Nat), j < size → (l.flatMap enc)[i * size + j]? = (enc l[i])[j]?
  | [], i, h, _, _ => absurd h (by simp)
  | x :: l, 0, h, j, hj => by
    rw [List.flatMap_cons, List.getElem?_append_left (by rw [hs]; omega)]
    simp
  | x :: l, i + 1, h, j, hj => by
    have ih := flat_at hs l i (by simpa using h) j hj
    rw [List.flatMap_cons, List.getElem?_append_right (by rw [hs, Nat.succ_mul]; omega), hs]
    rw [List.getElem_cons_succ, ← ih]
    congr 1
    rw [Nat.succ_mul]; omega

theorem flat_set {α : Type} {enc : α → List Value} {size : Nat} (hs : ∀ x, (enc x).length = size) : ∀ (l : List α) (i : Nat) (h : i < l.length) (j : Nat), j < size → ∀ (y : α) (u : Value), enc y = (enc l[i]).set j u →
    (l.flatMap enc).set (i * size + j) u = (l.set i y).flatMap enc
  | [], i, h, _, _, _, _, _ => absurd h (by simp)
  | x :: l, 0, h, j, hj, y, u, hy => by
    rw [List.flatMap_cons, List.set_append_left _ _ (by rw [hs]; omega)]
    simp only [List.set_cons_zero, List.flatMap_cons, hy, List.getElem_cons_zero, Nat.zero_mul, Nat.zero_add]
  | x :: l, i + 1, h, j, hj, y, u, hy => by
    have ih := flat_set hs l i (by simpa using h) j hj y u (by simpa using hy)
    rw [List.flatMap_cons, List.set_append_right _ _ (by rw [hs, Nat.succ_mul]; omega), hs, List.set_cons_succ, List.flatMap_cons, ← ih]
    congr 2
    rw [Nat.succ_mul]; omega

/-- A slice of n elements of so many cells, whose cells are xs. -/
structure Seg (w : World) (size : Nat) (v : Value) (n : Nat) (xs : List Value) : Prop where
  out : ∃ ao cap, v = .slice ao n cap ∧ (0 < n → ∃ b off, ao = some ⟨b, off, none⟩ ∧ ∀ j, j < n * size → w.cell? ⟨b, off + j, none⟩ = xs[j]?)
  len : xs.length = n * size
theorem Seg.kept {w w' : World} {size : Nat} {v : Value} {n : Nat} {xs : List Value} (h : Seg w size v n xs) (hb : Below w.heap.size w w') : Seg w' size v n xs := by
  obtain ⟨⟨ao, cap, rfl, h⟩, hl⟩ := h
  refine ⟨⟨ao, cap, rfl, fun h0 => ?_⟩, hl⟩
  obtain ⟨b, off, rfl, hc⟩ := h h0
  refine ⟨b, off, rfl, fun j hj => ?_⟩
  have hj' : j < xs.length := by omega
  have := hc j hj
  rw [List.getElem?_eq_getElem hj'] at this ⊢
  exact cell_kept hb this
theorem Seg.of_owns {w : World} {base : Nat} {e : TypeId} {size : Nat} {v : Value} {n : Nat} {xs : List Value} (h : w.ownsRow base e size v n xs) : Seg w size v n xs := by
  have hown := h
  obtain ⟨hl, h2⟩ := h
  refine ⟨?_, hl⟩
  rcases h2 with ⟨h2, h3⟩ | ⟨g, cap, cur, rfl, hb, hg, hc, _, _, _⟩
  · exact ⟨none, 0, by rw [h2, h3], fun h => by omega⟩
  · exact ⟨_, _, rfl, fun _ => ⟨g, 0, rfl, fun j hj => by rw [Nat.zero_add]; exact hown.cellAt j hj⟩⟩
theorem Seg.nil (w : World) (size : Nat) : Seg w size (.slice none 0 0) 0 [] := ⟨⟨_, _, rfl, fun h => by omega⟩, by simp⟩

/-- A slice that reads as a list. -/
abbrev Elems {α : Type} (enc : α → List Value) (size : Nat) (w : World) (v : Value) (l : List α) : Prop := Seg w size v l.length (l.flatMap enc)
section
variable {α : Type} {enc : α → List Value} {size : Nat} {w : World} {v : Value} {l : List α}
theorem elems_slice (h : Elems enc size w v l) : ∃ ao cap, v = .slice ao l.length cap := by
  obtain ⟨⟨ao, cap, hv, _⟩, _⟩ := h
  exact ⟨ao, cap, hv⟩
theorem elems_shape (hs : ∀ x, (enc x).length = size) (h : Elems enc size w v l) (h0 : 0 < l.length) :
    ∃ b off cap, v = .slice (some ⟨b, off, none⟩) l.length cap ∧ ∀ i (hi : i < l.length), ∀ j, j < size → w.cell? ⟨b, off + i * size + j, none⟩ = (enc l[i])[j]? := by
  obtain ⟨⟨ao, cap, rfl, h⟩, hl⟩ := h
  obtain ⟨b, off, rfl, hc⟩ := h h0
  refine ⟨b, off, cap, rfl, fun i hi j hj => ?_⟩
  have hlt : i * size + j < l.length * size := by
    have : (i + 1) * size ≤ l.length * size := Nat.mul_le_mul_right _ hi
    rw [Nat.succ_mul] at this
    omega
  rw [Nat.add_assoc, hc _ hlt, flat_at hs l i hi j hj]
theorem owns_len {w : World} {base : Nat} {e : TypeId} {v : Value} {n : Nat} {xs : List Value} (h : w.ownsRow base e size v n xs) : n ≤ maxLen := by
  obtain ⟨_, h2⟩ := h
  rcases h2 with ⟨_, h2⟩ | ⟨g, cap, cur, _, _, _, h3, h4, _⟩
  · omega
  · exact Nat.le_trans h3 h4
end

theorem owns_slice_cap {w : World} {base : Nat} {e : TypeId} {size g n cp : Nat} {xs : List Value} (h : w.ownsRow base e size (.slice (some ⟨g, 0, none⟩) n cp) n xs) :
    ∃ g' cap', (Value.slice (some ⟨g, 0, none⟩) n cp = .slice (some ⟨g', 0, none⟩) n cap') ∧ base ≤ g' ∧ g' < w.heap.size ∧ n ≤ cap' ∧ True := by
  obtain ⟨_, h2⟩ := h
  rcases h2 with ⟨h2, _⟩ | ⟨g', cap', cur, h2, hb, hg, hc, _⟩
  · cases h2
  · exact ⟨g', cap', h2, hb, blk_lt hg, hc, trivial⟩
theorem run_append_seg {P : Program} (w : World) (t ty e : TypeId) (z : Value) (size bytes : Nat) (ht : P.underlying t = some (.slice e)) (hinfo : (P.info? e).map (fun i => (i.zero, i.size, i.bytes)) = some (some z, size, bytes))
    (hzs : z.cells.size = size) (hsz : 0 < size) {base : Nat} {v : Value} {n : Nat} {xs : List Value} (hown : w.ownsRow base e size v n xs) {src : Value} {m : Nat} {news : List Value} (hsrc : Seg w size src m news) (h1 : ∀ u ∈ news, u.oneCell' = true)
    (h63 : n + m ≤ 1099511627776) (hbytes : bytes ≤ 128) (hbase : base ≤ w.heap.size) :
    ∃ v' w', (Builtin.append_ #[t, t] ty #[v, src]).run P w = .ok v' w' ∧ w'.ownsRow base e size v' (n + m) (xs ++ news) ∧ w.grownBy w' v.ownBlock ∧ (v'.ownBlock = v.ownBlock ∨ v'.ownBlock = some w.heap.size) := by
  obtain ⟨i, hi, hz0, hz1, hz2⟩ := info_parts hinfo
  have hb : (n + m) * bytes ≤ 140737488355328 := Nat.le_trans (Nat.mul_le_mul h63 hbytes) (by omega)
  obtain ⟨⟨ao, cap, rfl, hc⟩, hl⟩ := hsrc
  have hsome : ∀ a c, ao = some a → (∀ j u, news[j]? = some u → w.cell? (a.add j) = some u) → _ := fun a c (_ : ao = some a) hn =>
    run_append_own_at (P := P) w base t ty e i z size bytes ht hi hz0 hz1 hz2 hzs hsz v n xs hown a m c news hl hn h1 (by unfold maxLen; omega) hb hbase
  rcases Nat.eq_zero_or_pos m with rfl | h0
  · obtain rfl : news = [] := List.eq_nil_of_length_eq_zero (by simpa using hl)
    cases ao with
    | some a =>
      obtain ⟨v', w', r1, r2, r3, _, r5⟩ := hsome a cap rfl (by simp)
      exact ⟨v', w', r1, r2, r3, r5⟩
    | none =>
      have hown' := hown
      obtain ⟨hx, h2⟩ := hown'
      rcases h2 with ⟨rfl, rfl⟩ | ⟨g, cp, cur, rfl, _⟩
      · refine ⟨.slice none 0 0, w, ?_, by simpa using hown, ⟨rfl, rfl, rfl, Nat.le_refl _, fun _ _ _ => rfl⟩, .inl rfl⟩
        simp [Builtin.append_, run_underlying ht, sizeOf, typeInfo, hi, Builtin.lenOf, Builtin.firstCells, loadCells, loadCellsFrom]
      · have hle : n ≤ cp := by
          obtain ⟨_, _, h3, _, _, h4, _⟩ := owns_slice_cap hown
          cases h3; exact h4
        have h := run_append_room_src (P := P) w t t ty e i ht hi g 0 n cp (.slice none 0 cap) 0 [] (Src.ofNil (size := i.size) w ht cap) (by omega) (by simp) (by simp)
        refine ⟨_, _, h, ?_, ?_, .inl rfl⟩
        · simpa [World.setCells] using hown
        · simpa [World.setCells] using (⟨rfl, rfl, rfl, Nat.le_refl _, fun _ _ _ => rfl⟩ : w.grownBy w _)
  · obtain ⟨b, off, rfl, hcc⟩ := hc h0
    obtain ⟨v', w', r1, r2, r3, _, r5⟩ := hsome ⟨b, off, none⟩ cap rfl (fun j u hu => by
      have hj : j < news.length := (List.getElem?_eq_some_iff.1 hu).1
      have hadd : (⟨b, off, none⟩ : Addr).add j = ⟨b, off + j, none⟩ := by unfold Addr.add; split <;> simp_all
      rw [hadd, hcc j (by omega), hu])
    exact ⟨v', w', r1, r2, r3, r5⟩
theorem wpList_append_seg {P : Program} {ops : Array Oper} {rest : List Oper} {o : Oper} {a : Act} {w : World} {Q : Exit → Act → World → Prop} (hgd : o.guard = none) (s x : Operand) (t : TypeId)
    (ho : o.op = .call { callee := .builtin .append, args := #[s, x], argTypes := #[t, t] })
    (base : Nat) (e : TypeId) (z : Value) (size bytes : Nat) (ht : P.underlying t = some (.slice e)) (hinfo : (P.info? e).map (fun i => (i.zero, i.size, i.bytes)) = some (some z, size, bytes))
    (hzs : z.cells.size = size) (hsz : 0 < size) (v : Value) (n : Nat) (xs : List Value) (hs : a.eval s = v) (hown : w.ownsRow base e size v n xs)
    (src : Value) (m : Nat) (news : List Value) (hx : a.eval x = src) (hsrc : Seg w size src m news) (h1 : ∀ u ∈ news, u.oneCell' = true)
    (h63 : n + m ≤ 1099511627776) (hbytes : bytes ≤ 128) (hbase : base ≤ w.heap.size)
    (h : ∀ v' w', w'.ownsRow base e size v' (n + m) (xs ++ news) → w.grownBy w' v.ownBlock → (v'.ownBlock = v.ownBlock ∨ v'.ownBlock = some w.heap.size) → wpList P ops Q rest (a.put o.dst v') w') :
    wpList P ops Q (o :: rest) a w := by
  refine wpList_plain hgd fun K hK => ?_
  obtain ⟨v', w', hr, h2, h3, h5⟩ := run_append_seg (P := P) w t o.type e z size bytes ht hinfo hzs hsz hown hsrc h1 h63 hbytes hbase
  unfold Oper.wp execOp
  simp only [ho, resolve, invoke, builtin, Sem.run_bind, Sem.run_pure, Result.andThen_ok, List.map_toArray, List.map_cons, List.map_nil, hs, hx, hr]
  exact hK _ _ (h v' w' h2 h3 h5)
/-- An empty slice that is not nil owns its block. -/
theorem owns_empty {w : World} {g : Nat} {e : TypeId} (hg : w.heap[g]? = some (.cells #[] e (0, 0))) {base : Nat} (hb : base ≤ g) (size : Nat) : w.ownsRow base e size (.slice (some ⟨g, 0, none⟩) 0 0) 0 [] :=
  ⟨by simp, .inr ⟨g, 0, #[], rfl, hb, hg, Nat.le_refl _, by unfold maxLen; omega, by simp, by simp⟩⟩
theorem owns_slice1 {w : World} {base : Nat} {e : TypeId} {size : Nat} {v : Value} {n : Nat} {xs : List Value} (h : w.ownsRow base e size v n xs) : ∃ ao cap, v = .slice ao n cap := by
  obtain ⟨_, h2⟩ := h
  rcases h2 with ⟨h2, h3⟩ | ⟨g, cap, cur, h2, _⟩
  · exact ⟨_, _, by rw [h2, h3]⟩
  · exact ⟨_, _, h2⟩
theorem owns_drewN {w : World} {base : Nat} {e : TypeId} {size : Nat} {v : Value} {n : Nat} {xs : List Value} (h : w.ownsRow base e size v n xs) (k : Nat) : (w.drewN k).ownsRow base e size v n xs := h
theorem owns_mono {w : World} {base base' : Nat} {e : TypeId} {size : Nat} {v : Value} {n : Nat} {xs : List Value} (h : w.ownsRow base e size v n xs) (hb : base' ≤ base) : w.ownsRow base' e size v n xs := by
  obtain ⟨h1, h2⟩ := h
  refine ⟨h1, ?_⟩
  rcases h2 with h2 | ⟨g, cap, cur, h3, h4, r⟩
  · exact .inl h2
  · exact .inr ⟨g, cap, cur, h3, Nat.le_trans hb h4, r⟩
end Go.Cph

/- copy, clear, and append of a make, at rows whose elements have several cells. Of whatever program. -/
set_option linter.unusedVariables false
set_option linter.unusedSimpArgs false
namespace Go.Cph
open Go.RowKit

theorem run_copy_rowK {P : Program} (w : World) (dT sT ty elem : TypeId) (size g o dLen dCap : Nat) (a : Addr) (sLen sCap : Nat) (cur : Array Value) (t : TypeId) (cs : List Value)
    (hu : P.underlying dT = some (.slice elem)) (hs : (P.info? elem).map (·.size) = some size)
    (hg : w.heap[g]? = some (.cells cur t (0, 0))) (hn : cs.length = Nat.min sLen dLen * size)
    (hsrc : ∀ j v, cs[j]? = some v → w.cell? (a.add j) = some v) (hfit : o + cs.length ≤ cur.size) (h1 : ∀ v ∈ cs, v.oneCell' = true) :
    (Builtin.copy_ #[dT, sT] ty #[.slice (some ⟨g, o, none⟩) dLen dCap, .slice (some a) sLen sCap]).run P w =
      .ok (goInt (Nat.min sLen dLen)) (w.setRow g (cur.toList.take o ++ cs ++ cur.toList.drop (o + cs.length)).toArray) := by
  have hl := run_loadCells_list (P := P) w a cs hsrc
  have hst := run_storeCells_at P g o t cs 0 cur w hg (by simpa using hfit) h1
  cases hq : P.info? elem with
  | none => simp [hq] at hs
  | some i =>
    have hi : i.size = size := by simpa [hq] using hs
    simp [Builtin.copy_, run_underlying hu, Builtin.lenOf, Builtin.firstCells, sizeOf, typeInfo, hq, hi, ← hn, hl, hst]

theorem owns_block {w : World} {base : Nat} {e : TypeId} {size g n cap : Nat} {xs : List Value} (h : w.ownsRow base e size (.slice (some ⟨g, 0, none⟩) n cap) n xs) :
    ∃ cur, base ≤ g ∧ w.heap[g]? = some (.cells cur e (0, 0)) ∧ n ≤ cap ∧ cap ≤ maxLen ∧ cur.size = cap * size ∧ cur.toList.take (n * size) = xs := by
  obtain ⟨_, h2⟩ := h
  rcases h2 with ⟨h2, _⟩ | ⟨g', cap', cur, h2, h3, h4, h5, h6, h7, h8⟩
  · cases h2
  · cases h2
    exact ⟨cur, h3, h4, h5, h6, h7, h8⟩
theorem grown_setRow (w : World) (g : Nat) (cs : Array Value) : w.grownBy (w.setRow g cs) (some g) :=
  ⟨rfl, rfl, rfl, by simp, fun k _ hk => setRow_other w g k cs (by intro e; exact hk (by rw [e]))⟩
/-- copy into a part of a row of the call's own. -/
theorem run_copy_own {P : Program} (w : World) (dT sT elem : TypeId) (size : Nat) (hu : P.underlying dT = some (.slice elem)) (hs : (P.info? elem).map (·.size) = some size)
    {base g n cap : Nat} {xs : List Value} (hown : w.ownsRow base elem size (.slice (some ⟨g, 0, none⟩) n cap) n xs) (i dLen : Nat) (a : Addr) (sLen : Nat) (cs : List Value)
    (hil : i + dLen ≤ n) (hn : cs.length = Nat.min sLen dLen * size) (hsrc : ∀ j v, cs[j]? = some v → w.cell? (a.add j) = some v) (h1 : ∀ v ∈ cs, v.oneCell' = true) :
    ∃ w', (∀ ty dCap sCap, (Builtin.copy_ #[dT, sT] ty #[.slice (some ⟨g, i * size, none⟩) dLen dCap, .slice (some a) sLen sCap]).run P w = .ok (goInt (Nat.min sLen dLen)) w') ∧
      w'.ownsRow base elem size (.slice (some ⟨g, 0, none⟩) n cap) n (splice xs (i * size) cs) ∧ w.grownBy w' (some g) ∧ w'.heap.size = w.heap.size := by
  obtain ⟨cur, hb, hg, hnc, hcm, hcs, hx⟩ := owns_block hown
  have hmin : Nat.min sLen dLen ≤ dLen := Nat.min_le_right _ _
  have hfit1 : i * size + cs.length ≤ n * size := by
    rw [hn, ← Nat.add_mul]
    exact Nat.mul_le_mul_right _ (by omega)
  have hnc' : n * size ≤ cap * size := Nat.mul_le_mul_right _ hnc
  refine ⟨_, fun ty dCap sCap => run_copy_rowK w dT sT ty elem size g (i * size) dLen dCap a sLen sCap cur elem cs hu hs hg hn hsrc (by omega) h1, ?_, grown_setRow _ _ _, by simp⟩
  have hlx : xs.length = n * size := hown.1
  have hcl : cur.toList.length = cap * size := by simpa using hcs
  refine ⟨by rw [length_splice _ _ _ (by omega)]; exact hlx, .inr ⟨g, cap, _, rfl, hb, setRow_heap w g cur _ elem _ hg, hnc, hcm, ?_, ?_⟩⟩
  · simp; omega
  · show List.take (n * size) (cur.toList.take (i * size) ++ cs ++ cur.toList.drop (i * size + cs.length)) = _
    unfold splice
    rw [← hx, List.take_append, List.take_of_length_le (by simp; omega), List.append_assoc]
    congr 1
    · rw [List.take_take, Nat.min_eq_left (by omega)]
    · congr 1
      rw [List.length_append, List.length_take, hcl, Nat.min_eq_left (by omega), List.drop_take]
theorem wpList_copyK {P : Program} {w : World} {ops : Array Oper} {rest : List Oper} {o : Oper} {a : Act} {Q : Exit → Act → World → Prop} (hgd : o.guard = none) (d s : Operand) (dT sT : TypeId)
    (ho : o.op = .call { callee := .builtin .copy, args := #[d, s], argTypes := #[dT, sT] }) (v u : Value) (hd : a.eval d = v) (hs : a.eval s = u) {v' : Value} {w' : World}
    (hr : (Builtin.copy_ #[dT, sT] o.type #[v, u]).run P w = .ok v' w') (h : wpList P ops Q rest (a.put o.dst v') w') : wpList P ops Q (o :: rest) a w := by
  refine wpList_plain hgd fun K hK => ?_
  unfold Oper.wp execOp
  simp only [ho, resolve, invoke, builtin, Sem.run_bind, Sem.run_pure, Result.andThen_ok, List.map_toArray, List.map_cons, List.map_nil, hd, hs, hr]
  exact hK _ _ h
theorem step_copyK {P : Program} {ops : Array Oper} {o : Oper} {a : Act} {w : World} {K : Act → World → Prop} {Q : Exit → Act → World → Prop} {E : Prop}
    (hg : o.guard = none) (d x : Operand) (dT sT : TypeId) (hop : o.op = Op.call { callee := Callee.builtin Builtin.copy, args := #[d, x], argTypes := #[dT, sT] })
    (v u : Value) (hd : a.eval d = v) (hx : a.eval x = u) {v' : Value} {w' : World} (hr : (Builtin.copy_ #[dT, sT] o.type #[v, u]).run P w = .ok v' w') (hK : K (a.put o.dst v') w') :
    if Region.wanted o (yielded ops a.tmps) = true then Oper.wp P o a w K Q else E := by
  have hw : Region.wanted o (yielded ops a.tmps) = true := by simp [Region.wanted, hg]
  rw [if_pos hw]
  unfold Oper.wp
  simp [execOp, hop, resolve, invoke, builtin, hd, hx, hr, Result.andThen]
  exact hK

/-- A row that has room, with more of its elements. -/
theorem owns_reslice {w : World} {base : Nat} {e : TypeId} {size g n cap : Nat} {xs : List Value} (h : w.ownsRow base e size (.slice (some ⟨g, 0, none⟩) n cap) n xs) {m : Nat} (hn : n ≤ m) (hm : m ≤ cap) :
    ∃ ys, ys.length = (m - n) * size ∧ w.ownsRow base e size (.slice (some ⟨g, 0, none⟩) m cap) m (xs ++ ys) := by
  obtain ⟨cur, hb, hg, hnc, hcm, hcs, hx⟩ := owns_block h
  have hcl : cur.toList.length = cap * size := by simpa using hcs
  have h1 : n * size ≤ m * size := Nat.mul_le_mul_right _ hn
  have h2 : m * size ≤ cap * size := Nat.mul_le_mul_right _ hm
  have hsub : (m - n) * size = m * size - n * size := Nat.sub_mul _ _ _
  refine ⟨(cur.toList.take (m * size)).drop (n * size), by rw [List.length_drop, List.length_take, hcl]; omega, ?_, .inr ⟨g, cap, cur, rfl, hb, hg, hm, hcm, hcs, ?_⟩⟩
  · rw [List.length_append, h.1, List.length_drop, List.length_take, hcl]; omega
  · rw [← hx]
    conv => lhs; rw [← List.take_append_drop (n * size) (cur.toList.take (m * size))]
    rw [List.take_take, Nat.min_eq_left h1]
/-- A row's first elements alone. -/
theorem owns_less {w : World} {base : Nat} {e : TypeId} {size g n cap : Nat} {xs : List Value} (h : w.ownsRow base e size (.slice (some ⟨g, 0, none⟩) n cap) n xs) {m : Nat} (hm : m ≤ n) :
    w.ownsRow base e size (.slice (some ⟨g, 0, none⟩) m cap) m (xs.take (m * size)) := by
  obtain ⟨cur, hb, hg, hnc, hcm, hcs, hx⟩ := owns_block h
  have h1 : m * size ≤ n * size := Nat.mul_le_mul_right _ hm
  refine ⟨by rw [List.length_take, h.1]; omega, .inr ⟨g, cap, cur, rfl, hb, hg, by omega, hcm, hcs, ?_⟩⟩
  rw [← hx, List.take_take, Nat.min_eq_left h1]
theorem zeroCells_length {z : Array Value} (n : Nat) : (Builtin.zeroCells z n).toList.length = n * z.size := by simp [Builtin.zeroCells]
/-- append of a make, where it must grow: a new row. -/
theorem run_append_make {P : Program} (w : World) (t tn e : TypeId) (z : Value) (size bytes : Nat) (kq kn : IntKind) (ht : P.underlying t = some (.slice e)) (htn : P.underlying tn = some (.int kn))
    (hinfo : (P.info? e).map (fun i => (i.zero, i.size, i.bytes)) = some (some z, size, bytes)) (hzs : z.cells.size = size) (hsz : 0 < size)
    {base g n cap : Nat} {xs : List Value} (hown : w.ownsRow base e size (.slice (some ⟨g, 0, none⟩) n cap) n xs) (i k : Nat) (hi : i ≤ n) (h0 : 0 < k) (hg : cap < i + k) (h63 : i + k ≤ 1099511627776) (hbytes : bytes ≤ 128) :
    ∃ G zs w', (∀ ty, (Builtin.append_ #[t, tn] ty #[.slice (some ⟨g, 0, none⟩) i cap, .int kq k]).run P w = .ok (.slice (some ⟨w.heap.size, 0, none⟩) (i + k) G) w') ∧
      w'.ownsRow w.heap.size e size (.slice (some ⟨w.heap.size, 0, none⟩) (i + k) G) (i + k) (xs.take (i * size) ++ zs) ∧ zs.length = k * size ∧ Below w.heap.size w w' ∧ w'.heap.size = w.heap.size + 1 ∧ i + k ≤ G ∧ G ≤ maxLen := by
  obtain ⟨ti, hti, hz0, hz1, hz2⟩ := info_parts hinfo
  have hless := owns_less hown hi
  have hb : (i + k) * bytes ≤ 140737488355328 := Nat.le_trans (Nat.mul_le_mul h63 hbytes) (by omega)
  have hkb : k * bytes ≤ 140737488355328 := Nat.le_trans (Nat.mul_le_mul (by omega) hbytes) (by omega : 1099511627776 * 128 ≤ 140737488355328)
  have hold : (Builtin.firstCells ti.size i (.slice (some ⟨g, 0, none⟩) i cap)).run P w.drew = .ok (xs.take (i * size)).toArray w.drew := by
    rw [hz1]
    exact run_firstCells_some w.drew size i ⟨g, 0, none⟩ i cap (xs.take (i * size)) hless.1 (fun j v hj => by
      have hadd : (⟨g, 0, none⟩ : Addr).add j = ⟨g, j, none⟩ := by unfold Addr.add; split <;> simp_all
      have hlt : j < i * size := by rw [← hless.1]; exact (List.getElem?_eq_some_iff.1 hj).1
      rw [hadd]
      exact (hless.cellAt j hlt).trans hj)
  have h := fun ty => Lib.run_append_grow_zeros w t tn ty e ti z kq kn ht htn hti hz0 (some ⟨g, 0, none⟩) i cap (xs.take (i * size)) hold k h0 (by rw [hz1]; exact hsz) hg (by omega) (by rw [hz2]; omega) (by rw [hz2]; exact growslice_fits hg hb)
  have hG := grownCap_ge w (i + k) cap e
  have hGm := grownCap_le_maxLen w (i + k) cap e (by unfold maxLen; omega)
  generalize grownCap w (i + k) cap e = G at *
  refine ⟨G, (Builtin.zeroCells z.cells k).toList, _, h, ⟨?_, .inr ⟨w.heap.size, G, _, rfl, Nat.le_refl _, heap_alloc_new w.drew _, hG, hGm, ?_, ?_⟩⟩, by rw [zeroCells_length, hzs], (Below.refl _ _).drew.alloc (Nat.le_refl _) _, ?_, hG, hGm⟩
  · rw [List.length_append, hless.1, zeroCells_length, hzs, ← Nat.add_mul]
  · have e1 := hless.1
    have e2 : (Builtin.zeroCells z.cells k).size = k * size := by have := zeroCells_length (z := z.cells) k; rw [hzs] at this; simpa using this
    have e3 : (Builtin.zeroCells z.cells (G - (i + k))).size = (G - (i + k)) * size := by have := zeroCells_length (z := z.cells) (G - (i + k)); rw [hzs] at this; simpa using this
    rw [Array.size_append, Array.size_append, e2, e3, List.size_toArray, e1, ← Nat.add_mul, ← Nat.add_mul]
    congr 1; omega
  · have e1 := hless.1
    have e2 := zeroCells_length (z := z.cells) k
    rw [hzs] at e2
    rw [Array.toList_append, Array.toList_append, List.take_append_of_le_length (by rw [List.length_append, e2]; simp only [e1]; rw [← Nat.add_mul]; exact Nat.le_refl _), List.take_of_length_le (by rw [List.length_append, e2]; simp only [e1]; rw [← Nat.add_mul]; exact Nat.le_refl _)]
  · show (w.drew.heap.push _).size = _
    rw [Array.size_push]; rfl
/-- Two splices: room made, and filled. -/
theorem splice_shift (xs ys us : List Value) (p q : Nat) (hp : p ≤ xs.length) (hu : us.length = q) (hy : ys.length = q) :
    splice (splice (xs ++ ys) (p + q) (xs.drop p)) p us = xs.take p ++ (us ++ xs.drop p) := by
  unfold splice
  have e1 : (xs ++ ys).take (p + q) ++ (xs.drop p ++ (xs ++ ys).drop (p + q + (xs.drop p).length)) = (xs ++ ys).take (p + q) ++ xs.drop p := by
    have : (xs ++ ys).drop (p + q + (xs.drop p).length) = [] := List.drop_eq_nil_of_le (by simp; omega)
    rw [this, List.append_nil]
  rw [e1]
  have hl : ((xs ++ ys).take (p + q)).length = p + q := by simp; omega
  have e2 : (List.take (p + q) (xs ++ ys) ++ List.drop p xs).take p = xs.take p := by
    rw [List.take_append_of_le_length (by omega), List.take_take, Nat.min_eq_left (by omega), List.take_append_of_le_length hp]
  have e3 : (List.take (p + q) (xs ++ ys) ++ List.drop p xs).drop (p + us.length) = xs.drop p := by
    rw [hu, List.drop_append, hl, Nat.sub_self, List.drop_zero, List.drop_eq_nil_of_le (by omega), List.nil_append]
  rw [e2, e3]
theorem splice_fill (xs zs us vs : List Value) (p q : Nat) (hp : p = xs.length) (hu : us.length = q) (hz : zs.length = q + vs.length) :
    splice (splice (xs ++ zs) p us) (p + q) vs = xs ++ (us ++ vs) := by
  unfold splice
  subst hp
  have e1 : (xs ++ zs).take xs.length = xs := by simp
  have e2 : (xs ++ zs).drop (xs.length + us.length) = zs.drop q := by rw [List.drop_append, List.drop_eq_nil_of_le (by omega), List.nil_append, hu]; congr 1; omega
  rw [e1, e2]
  have e3 : (xs ++ (us ++ zs.drop q)).take (xs.length + q) = xs ++ us := by
    rw [← List.append_assoc, List.take_append_of_le_length (by simp; omega), List.take_of_length_le (by simp; omega)]
  have e4 : (xs ++ (us ++ zs.drop q)).drop (xs.length + q + vs.length) = [] := List.drop_eq_nil_of_le (by simp; omega)
  rw [e3, e4]
  simp
end Go.Cph

namespace Go.Cph
open Go.RowKit

theorem owns_setRow {w : World} {base : Nat} {e : TypeId} {size g n cap : Nat} {xs : List Value} (h : w.ownsRow base e size (.slice (some ⟨g, 0, none⟩) n cap) n xs) {cur : Array Value} (hg : w.heap[g]? = some (.cells cur e (0, 0)))
    (o : Nat) (cs : List Value) (hfit : o + cs.length ≤ n * size) :
    (w.setRow g (cur.toList.take o ++ cs ++ cur.toList.drop (o + cs.length)).toArray).ownsRow base e size (.slice (some ⟨g, 0, none⟩) n cap) n (splice xs o cs) := by
  obtain ⟨cur', hb, hg', hnc, hcm, hcs, hx⟩ := owns_block h
  rw [hg] at hg'
  simp only [Option.some.injEq, Obj.cells.injEq] at hg'
  obtain ⟨rfl, _⟩ := hg'
  have hnc' : n * size ≤ cap * size := Nat.mul_le_mul_right _ hnc
  have hlx : xs.length = n * size := h.1
  have hcl : cur.toList.length = cap * size := by simpa using hcs
  refine ⟨by rw [length_splice _ _ _ (by omega)]; exact hlx, .inr ⟨g, cap, _, rfl, hb, setRow_heap w g cur _ e _ hg, hnc, hcm, ?_, ?_⟩⟩
  · simp; omega
  · show List.take (n * size) (cur.toList.take o ++ cs ++ cur.toList.drop (o + cs.length)) = _
    unfold splice
    rw [← hx, List.take_append, List.take_of_length_le (by simp; omega), List.append_assoc]
    congr 1
    · rw [List.take_take, Nat.min_eq_left (by omega)]
    · congr 1
      rw [List.length_append, List.length_take, hcl, Nat.min_eq_left (by omega), List.drop_take]
/-- append(s[:i], x...) where there is room in the row. -/
theorem run_append_in {P : Program} (w : World) (t tx e : TypeId) (z : Value) (size bytes : Nat) (ht : P.underlying t = some (.slice e)) (hinfo : (P.info? e).map (fun i => (i.zero, i.size, i.bytes)) = some (some z, size, bytes))
    {base g n cap : Nat} {xs : List Value} (hown : w.ownsRow base e size (.slice (some ⟨g, 0, none⟩) n cap) n xs) (i m : Nat) (x : Value) (news : List Value) (hs : Src P size tx x m news w) (him : i + m ≤ n) :
    ∃ w', (∀ ty, (Builtin.append_ #[t, tx] ty #[.slice (some ⟨g, 0, none⟩) i cap, x]).run P w = .ok (.slice (some ⟨g, 0, none⟩) (i + m) cap) w') ∧
      w'.ownsRow base e size (.slice (some ⟨g, 0, none⟩) n cap) n (splice xs (i * size) news) ∧ w.grownBy w' (some g) ∧ w'.heap.size = w.heap.size := by
  obtain ⟨ti, hti, hz0, hz1, hz2⟩ := info_parts hinfo
  obtain ⟨cur, hb, hg, hnc, hcm, hcs, hx⟩ := owns_block hown
  have hfit : i * size + news.length ≤ n * size := by rw [hs.newsLen, ← Nat.add_mul]; exact Nat.mul_le_mul_right _ him
  have hnc' : n * size ≤ cap * size := Nat.mul_le_mul_right _ hnc
  have hst := run_storeCells_at P g (i * size) e news 0 cur w hg (by simp; omega) hs.one
  simp only [Nat.add_zero] at hst
  have hroom : i + m ≤ cap := by omega
  have hadd : (⟨g, 0, none⟩ : Addr).add (i * size) = ⟨g, i * size, none⟩ := by unfold Addr.add; split <;> simp_all
  refine ⟨_, fun ty => ?_, owns_setRow hown hg (i * size) news hfit, grown_setRow _ _ _, by simp⟩
  rcases hs.kind with ⟨e', hk⟩ | hk <;> simp [Builtin.append_, run_underlying ht, run_underlying hk, sizeOf, typeInfo, hti, hz1, hs.len, hroom, hs.cells, hadd, hst]
/-- clear of a part of a row. -/
theorem run_clear_in {P : Program} (w : World) (t e : TypeId) (z : Value) (size : Nat) (ht : P.underlying t = some (.slice e)) (hv : ∀ w, (zeroValue e).run P w = .ok z w) (hzs : z.cells.size = size)
    (h1 : ∀ n, ∀ v ∈ (Builtin.zeroCells z.cells n).toList, v.oneCell' = true)
    {base g n cap : Nat} {xs : List Value} (hown : w.ownsRow base e size (.slice (some ⟨g, 0, none⟩) n cap) n xs) (i m : Nat) (hm : 0 < m) (him : i + m ≤ n) :
    ∃ zs w', (∀ ty c, (Builtin.clear_ #[t] ty #[.slice (some ⟨g, i * size, none⟩) m c]).run P w = .ok (.tuple #[]) w') ∧ zs.length = m * size ∧
      w'.ownsRow base e size (.slice (some ⟨g, 0, none⟩) n cap) n (splice xs (i * size) zs) ∧ w.grownBy w' (some g) ∧ w'.heap.size = w.heap.size := by
  obtain ⟨cur, hb, hg, hnc, hcm, hcs, hx⟩ := owns_block hown
  have hzl : (Builtin.zeroCells z.cells m).toList.length = m * size := by rw [zeroCells_length, hzs]
  have hfit : i * size + (Builtin.zeroCells z.cells m).toList.length ≤ n * size := by rw [hzl, ← Nat.add_mul]; exact Nat.mul_le_mul_right _ him
  have hnc' : n * size ≤ cap * size := Nat.mul_le_mul_right _ hnc
  have hst := run_storeCells_at P g (i * size) e (Builtin.zeroCells z.cells m).toList 0 cur w hg (by simp only [Nat.add_zero]; omega) (h1 m)
  simp only [Nat.add_zero] at hst
  obtain ⟨k, rfl⟩ : ∃ k, m = k + 1 := ⟨m - 1, by omega⟩
  refine ⟨_, _, fun ty c => ?_, hzl, owns_setRow hown hg (i * size) _ hfit, grown_setRow _ _ _, by simp⟩
  simp [Builtin.clear_, run_underlying ht, hv, hst]
/-- The tail moved down, and what was behind it overlaid: the first elements. -/
theorem splice_less (xs zs : List Value) (p q : Nat) (hp : p + q ≤ xs.length) :
    (splice (splice xs p (xs.drop (p + q))) (xs.length - q) zs).take (xs.length - q) = xs.take p ++ xs.drop (p + q) := by
  unfold splice
  have hl : (xs.drop (p + q)).length = xs.length - (p + q) := by simp
  have e0 : (List.take p xs ++ (List.drop (p + q) xs ++ List.drop (p + (List.drop (p + q) xs).length) xs)).take (xs.length - q) = xs.take p ++ xs.drop (p + q) := by
    rw [← List.append_assoc, List.take_append_of_le_length (by simp; omega), List.take_of_length_le (by simp; omega)]
  rw [List.take_append_of_le_length (by simp; omega), List.take_take, Nat.min_self, e0]
end Go.Cph

namespace Go.Cph
open Go.RowKit

/-- append of a make to nil: a new row, of which nothing is used yet. -/
theorem run_append_make_nil {P : Program} (w : World) (t tn e : TypeId) (z : Value) (size bytes : Nat) (kq kn : IntKind) (ht : P.underlying t = some (.slice e)) (htn : P.underlying tn = some (.int kn))
    (hinfo : (P.info? e).map (fun i => (i.zero, i.size, i.bytes)) = some (some z, size, bytes)) (hzs : z.cells.size = size) (hsz : 0 < size) (k : Nat) (h0 : 0 < k) (h63 : k ≤ 1099511627776) (hbytes : bytes ≤ 128) :
    ∃ G w', (∀ ty, (Builtin.append_ #[t, tn] ty #[.slice none 0 0, .int kq k]).run P w = .ok (.slice (some ⟨w.heap.size, 0, none⟩) k G) w') ∧
      w'.ownsRow w.heap.size e size (.slice (some ⟨w.heap.size, 0, none⟩) 0 G) 0 [] ∧ Below w.heap.size w w' ∧ k ≤ G ∧ G ≤ maxLen := by
  obtain ⟨ti, hti, hz0, hz1, hz2⟩ := info_parts hinfo
  have hb : (0 + k) * bytes ≤ 140737488355328 := Nat.le_trans (Nat.mul_le_mul (by omega : 0 + k ≤ 1099511627776) hbytes) (by omega)
  have hkb : k * bytes ≤ 140737488355328 := Nat.le_trans (Nat.mul_le_mul (by omega) hbytes) (by omega : 1099511627776 * 128 ≤ 140737488355328)
  have hold : (Builtin.firstCells ti.size 0 (.slice none 0 0)).run P w.drew = .ok ([] : List Value).toArray w.drew := run_firstCells_none _ _ _ _ _
  have hg : 0 < 0 + k := by omega
  have h := fun ty => Lib.run_append_grow_zeros w t tn ty e ti z kq kn ht htn hti hz0 none 0 0 [] hold k h0 (by rw [hz1]; exact hsz) hg (by omega) (by rw [hz2]; omega) (by rw [hz2]; exact growslice_fits hg hb)
  have hG := grownCap_ge w (0 + k) 0 e
  have hGm := grownCap_le_maxLen w (0 + k) 0 e (by unfold maxLen; omega)
  generalize grownCap w (0 + k) 0 e = G at *
  simp only [Nat.zero_add] at h hG
  refine ⟨G, _, h, ⟨by simp, .inr ⟨w.heap.size, G, _, rfl, Nat.le_refl _, heap_alloc_new w.drew _, Nat.zero_le _, hGm, ?_, by simp⟩⟩, (Below.refl _ _).drew.alloc (Nat.le_refl _) _, hG, hGm⟩
  have e2 : (Builtin.zeroCells z.cells k).size = k * size := by have := zeroCells_length (z := z.cells) k; rw [hzs] at this; simpa using this
  have e3 : (Builtin.zeroCells z.cells (G - k)).size = (G - k) * size := by have := zeroCells_length (z := z.cells) (G - k); rw [hzs] at this; simpa using this
  rw [Array.size_append, Array.size_append, e2, e3, List.size_toArray, List.length_nil, Nat.zero_add, ← Nat.add_mul]
  congr 1; omega

theorem step_append {P : Program} {ops : Array Oper} {o : Oper} {a : Act} {w : World} {K : Act → World → Prop} {Q : Exit → Act → World → Prop} {E : Prop}
    (hg : o.guard = none) (d x : Operand) (dT sT : TypeId) (hop : o.op = Op.call { callee := Callee.builtin Builtin.append, args := #[d, x], argTypes := #[dT, sT] })
    (v u : Value) (hd : a.eval d = v) (hx : a.eval x = u) {v' : Value} {w' : World} (hr : (Builtin.append_ #[dT, sT] o.type #[v, u]).run P w = .ok v' w') (hK : K (a.put o.dst v') w') :
    if Region.wanted o (yielded ops a.tmps) = true then Oper.wp P o a w K Q else E := by
  have hw : Region.wanted o (yielded ops a.tmps) = true := by simp [Region.wanted, hg]
  rw [if_pos hw]
  unfold Oper.wp execOp
  simp only [hop, resolve, invoke, builtin, Sem.run_bind, Sem.run_pure, Result.andThen_ok, List.map_toArray, List.map_cons, List.map_nil, hd, hx, hr]
  exact hK
/-- append of one element that was laid in a new block in the same region (which draws its order). -/
theorem run_append1 {P : Program} (w w0 : World) (t ty e : TypeId) (z : Value) (size bytes : Nat) (ht : P.underlying t = some (.slice e)) (hinfo : (P.info? e).map (fun i => (i.zero, i.size, i.bytes)) = some (some z, size, bytes))
    (hzs : z.cells.size = size) (hsz : 0 < size) {base : Nat} {v : Value} {n : Nat} {xs : List Value} (hown : w.ownsRow base e size v n xs) (us : List Value) (hus : us.length = size) (h1 : ∀ u ∈ us, u.oneCell' = true)
    (h63 : n + 1 ≤ 1099511627776) (hbytes : bytes ≤ 128) {B : Nat} (hb : Below B w0 w) (hB : B ≤ base) (hbase : base ≤ w.heap.size) :
    ∃ v' w', (Builtin.append_ #[t, t] ty #[v, .slice (some ⟨w.heap.size, 0, none⟩) 1 1]).run P ((w.alloc (.cells us.toArray e)).drew) = .ok v' w' ∧ w'.ownsRow base e size v' (n + 1) (xs ++ us) ∧ Below B w0 w' := by
  have hB' : B ≤ w.heap.size := Nat.le_trans hB hbase
  have hbl : Below B w0 ((w.alloc (.cells us.toArray e)).drew) := (hb.alloc hB' _).drew
  have hown' : (w.alloc (.cells us.toArray e)).drew.ownsRow base e size v n xs := hown.alloc _
  have hsz' : ((w.alloc (.cells us.toArray e)).drew).heap.size = w.heap.size + 1 := by show (w.heap.push _).size = _; rw [Array.size_push]
  have hseg : Seg ((w.alloc (.cells us.toArray e)).drew) size (.slice (some ⟨w.heap.size, 0, none⟩) 1 1) 1 us :=
    ⟨⟨_, _, rfl, fun _ => ⟨w.heap.size, 0, rfl, fun j hj => by rw [Nat.zero_add]; show (w.alloc (.cells us.toArray e)).cell? _ = _; rw [blk_cell (heap_alloc_new w _)]; simp⟩⟩, by rw [hus, Nat.one_mul]⟩
  obtain ⟨v', w', hr, ho, hg, -⟩ := run_append_seg (P := P) ((w.alloc (.cells us.toArray e)).drew) t ty e z size bytes ht hinfo hzs hsz hown' hseg h1 h63 hbytes (by rw [hsz']; omega)
  exact ⟨v', w', hr, ho, below_grown hbl hg hown' hB (by rw [hsz']; omega)⟩
/-- A slice of slices that reads as a list of lists. -/
structure Lists {α : Type} (enc : α → List Value) (size : Nat) (w : World) (v : Value) (ls : List (List α)) : Prop where
  out : ∃ vs : List Value, vs.length = ls.length ∧ Seg w 1 v ls.length vs ∧ ∀ j (h : j < vs.length) (k : j < ls.length), Elems enc size w vs[j] ls[j]
section
variable {α : Type} {enc : α → List Value} {size : Nat} {w : World} {v : Value} {ls : List (List α)}
theorem Lists.kept {w' : World} (h : Lists enc size w v ls) (hb : Below w.heap.size w w') : Lists enc size w' v ls := by
  obtain ⟨vs, h1, h2, h3⟩ := h.out
  exact ⟨vs, h1, h2.kept hb, fun j hj hk => (h3 j hj hk).kept hb⟩
theorem Lists.slice (h : Lists enc size w v ls) : ∃ ao cap, v = .slice ao ls.length cap := by
  obtain ⟨vs, h1, ⟨⟨ao, cap, hv, _⟩, _⟩, h3⟩ := h.out
  exact ⟨ao, cap, hv⟩
theorem Lists.cell (h : Lists enc size w v ls) (h0 : 0 < ls.length) : ∃ b off cap, v = .slice (some ⟨b, off, none⟩) ls.length cap ∧
    ∀ i (hi : i < ls.length), ∃ u, w.cell? ⟨b, off + i, none⟩ = some u ∧ Elems enc size w u ls[i] := by
  obtain ⟨vs, h1, ⟨⟨ao, cap, rfl, hc⟩, hl⟩, h3⟩ := h.out
  obtain ⟨b, off, rfl, hcc⟩ := hc h0
  refine ⟨b, off, cap, rfl, fun i hi => ⟨vs[i]'(by omega), ?_, h3 i (by omega) hi⟩⟩
  rw [hcc i (by omega)]
  exact List.getElem?_eq_getElem _
theorem Lists.nil (w : World) : Lists enc size w (.slice none 0 0) [] := ⟨[], rfl, Seg.nil w 1, fun j h => by simp at h⟩
theorem Lists.one {b c : Nat} {u : Value} {l : List α} {E : TypeId} {fr : Nat × Nat} (hb : w.heap[b]? = some (.cells #[u] E fr)) (h : Elems enc size w u l) : Lists enc size w (.slice (some ⟨b, 0, none⟩) 1 c) [l] := by
  refine ⟨[u], rfl, ⟨⟨_, _, rfl, fun _ => ⟨b, 0, rfl, fun j hj => ?_⟩⟩, rfl⟩, fun j hj hk => ?_⟩
  · obtain rfl : j = 0 := by simp at hj; omega
    rw [Nat.zero_add, blk_cell hb]; rfl
  · obtain rfl : j = 0 := by simp at hj; omega
    exact h
end
theorem flatten_take {α : Type} (ls : List (List α)) {k : Nat} (h : k < ls.length) : (ls.take (k + 1)).flatten = (ls.take k).flatten ++ ls[k] := by
  rw [List.take_succ_eq_append_getElem h, List.flatten_append]; simp
theorem flatten_le {α : Type} (ls : List (List α)) (k : Nat) : (ls.take k).flatten.length ≤ ls.flatten.length := by
  conv => rhs; rw [← List.take_append_drop k ls, List.flatten_append, List.length_append]
  omega
end Go.Cph

/- An address as a row of bytes, and of bits; what the document asks of those. No program in sight. -/
namespace Go.Cph.Px

def bitsN (x n : Nat) : List UInt8 := (List.range n).map fun i => if x.testBit (n - 1 - i) then 1 else 0
def bytesN (x n : Nat) : List UInt8 := (List.range n).map fun i => UInt8.ofNat (x / 256 ^ (n - 1 - i))
def valB (l : List UInt8) : Nat := l.foldl (fun n b => 2 * n + b.toNat) 0
def val (l : List UInt8) : Nat := l.foldl (fun n b => 256 * n + b.toNat) 0
def wid (a : Ad) : Nat := if a.1 = 4 then 32 else 128
def sizeB (a : Ad) : Nat := if a.1 = 4 then 4 else 16
def bytesA (a : Ad) : List UInt8 := if rightA a then bytesN (num a) (sizeB a) else []
def rowA (a : Ad) : List UInt8 := if rightA a then bitsN (num a) (wid a) else []

theorem bitsN_length (x n : Nat) : (bitsN x n).length = n := by simp [bitsN]
theorem bytesN_length (x n : Nat) : (bytesN x n).length = n := by simp [bytesN]
theorem bitsN_at (x n i : Nat) (h : i < n) : (bitsN x n)[i]? = some (if x.testBit (n - 1 - i) then 1 else 0) := by simp [bitsN, h]
theorem bytesN_at (x n i : Nat) (h : i < n) : (bytesN x n)[i]? = some (UInt8.ofNat (x / 256 ^ (n - 1 - i))) := by simp [bytesN, h]
theorem bitsN_succ (x n : Nat) : bitsN x (n + 1) = bitsN (x / 2) n ++ [if x.testBit 0 then 1 else 0] := by
  unfold bitsN
  rw [List.range_succ, List.map_append]
  congr 1
  · refine List.map_congr_left fun i hi => ?_
    rw [List.mem_range] at hi
    rw [Nat.testBit_div_two]
    have : n - 1 - i + 1 = n + 1 - 1 - i := by omega
    rw [this]
  · simp
theorem bytesN_succ (x n : Nat) : bytesN x (n + 1) = bytesN (x / 256) n ++ [UInt8.ofNat x] := by
  unfold bytesN
  rw [List.range_succ, List.map_append]
  congr 1
  · refine List.map_congr_left fun i hi => ?_
    rw [List.mem_range] at hi
    have : n + 1 - 1 - i = n - 1 - i + 1 := by omega
    rw [this, Nat.pow_succ', Nat.div_div_eq_div_mul]
  · simp
theorem valB_snoc (l : List UInt8) (b : UInt8) : valB (l ++ [b]) = 2 * valB l + b.toNat := by unfold valB; rw [List.foldl_append]; rfl
theorem val_snoc (l : List UInt8) (b : UInt8) : val (l ++ [b]) = 256 * val l + b.toNat := by unfold val; rw [List.foldl_append]; rfl
theorem valB_bitsN (n : Nat) : ∀ x, valB (bitsN x n) = x % 2 ^ n := by
  induction n with
  | zero => intro x; simp [bitsN, valB, Nat.mod_one]
  | succ n ih =>
    intro x
    rw [bitsN_succ, valB_snoc, ih, Nat.testBit_zero]
    have h := Nat.mod_mul (x := x) (a := 2) (b := 2 ^ n)
    rw [Nat.pow_succ', h]
    have h2 : x % 2 = 0 ∨ x % 2 = 1 := by omega
    rcases h2 with h2 | h2
    · rw [h2]; simp
    · rw [h2]; simp; omega
theorem val_bytesN (n : Nat) : ∀ x, val (bytesN x n) = x % 256 ^ n := by
  induction n with
  | zero => intro x; simp [bytesN, val, Nat.mod_one]
  | succ n ih =>
    intro x
    rw [bytesN_succ, val_snoc, ih]
    have h := Nat.mod_mul (x := x) (a := 256) (b := 256 ^ n)
    have h3 : (UInt8.ofNat x).toNat = x % 256 := by simp [UInt8.toNat_ofNat']
    rw [Nat.pow_succ', h, h3]; omega
theorem take_bitsN (x n k : Nat) (h : k ≤ n) : (bitsN x n).take k = bitsN (x / 2 ^ (n - k)) k := by
  refine List.ext_getElem (by simp [bitsN_length, h]) fun i h1 h2 => ?_
  rw [bitsN_length] at h2
  simp only [bitsN, List.getElem_take, List.getElem_map, List.getElem_range, Nat.testBit_div_two_pow]
  have : k - 1 - i + (n - k) = n - 1 - i := by omega
  first | rw [this] | (rw [Nat.add_comm, this])
theorem drop_bitsN (x n k : Nat) : (bitsN x n).drop k = bitsN x (n - k) := by
  refine List.ext_getElem (by simp [bitsN_length]) fun i h1 h2 => ?_
  rw [bitsN_length] at h2
  simp only [bitsN, List.getElem_drop, List.getElem_map, List.getElem_range]
  have : n - 1 - (k + i) = n - k - 1 - i := by omega
  rw [this]
theorem bitsN_mod (x n : Nat) : bitsN (x % 2 ^ n) n = bitsN x n := by
  unfold bitsN
  refine List.map_congr_left fun i hi => ?_
  rw [List.mem_range] at hi
  rw [Nat.testBit_mod_two_pow]
  simp [show n - 1 - i < n by omega]
theorem valB_foldl (l : List UInt8) : ∀ n, l.foldl (fun n b => 2 * n + b.toNat) n = n * 2 ^ l.length + valB l := by
  induction l with
  | nil => intro n; simp [valB]
  | cons b l ih =>
    intro n
    have e : valB (b :: l) = l.foldl (fun n b => 2 * n + b.toNat) (2 * 0 + b.toNat) := rfl
    rw [List.foldl_cons, ih, e, ih, List.length_cons, Nat.pow_succ', Nat.add_mul, Nat.mul_comm 2 n, Nat.mul_assoc, Nat.mul_zero, Nat.zero_add]
    omega
theorem valB_append (x y : List UInt8) : valB (x ++ y) = valB x * 2 ^ y.length + valB y := by
  unfold valB
  rw [List.foldl_append]
  exact valB_foldl y _
theorem valB_zeros (n : Nat) : valB (List.replicate n 0) = 0 := by
  induction n with
  | zero => rfl
  | succ n ih => rw [List.replicate_succ', valB_snoc, ih]; rfl
theorem valB_ones (n : Nat) : valB (List.replicate n 1) = 2 ^ n - 1 := by
  induction n with
  | zero => rfl
  | succ n ih =>
    rw [List.replicate_succ', valB_snoc, ih, Nat.pow_succ']
    have : 0 < 2 ^ n := Nat.pow_pos (by decide)
    have e : (1 : UInt8).toNat = 1 := rfl
    omega
theorem bitsN_inj {x y n : Nat} (h : bitsN x n = bitsN y n) (hx : x < 2 ^ n) (hy : y < 2 ^ n) : x = y := by
  have := congrArg valB h
  rwa [valB_bitsN, valB_bitsN, Nat.mod_eq_of_lt hx, Nat.mod_eq_of_lt hy] at this
/-- A byte's bits; a number's. -/
theorem bits_bytes (n : Nat) : ∀ x, (bytesN x n).flatMap (fun c => bitsN c.toNat 8) = bitsN x (8 * n) := by
  induction n with
  | zero => intro x; simp [bytesN, bitsN]
  | succ n ih =>
    intro x
    rw [bytesN_succ, List.flatMap_append, ih]
    have h1 := take_bitsN x (8 * (n + 1)) (8 * n) (by omega)
    have h2 := drop_bitsN x (8 * (n + 1)) (8 * n)
    have e1 : 8 * (n + 1) - 8 * n = 8 := by omega
    rw [e1] at h1 h2
    have h3 : (UInt8.ofNat x).toNat = x % 2 ^ 8 := by simp [UInt8.toNat_ofNat']
    rw [← List.take_append_drop (8 * n) (bitsN x (8 * (n + 1))), h1, h2]
    simp only [List.flatMap_cons, List.flatMap_nil, List.append_nil, h3, bitsN_mod]
/-- Bits to bytes. -/
def byteAt (row : List UInt8) (m : Nat) : UInt8 := UInt8.ofNat (valB ((row.drop (8 * m)).take 8))
def bytesR (row : List UInt8) : List UInt8 := (List.range (row.length / 8)).map (byteAt row)
theorem valB_lt (l : List UInt8) (h : ∀ b ∈ l, b.toNat ≤ 1) : valB l < 2 ^ l.length := by
  suffices k : ∀ r : List UInt8, (∀ b ∈ r.reverse, b.toNat ≤ 1) → valB r.reverse < 2 ^ r.reverse.length by simpa using k l.reverse (by simpa using h)
  intro r
  induction r with
  | nil => intro _; simp [valB]
  | cons b r ih =>
    intro h
    rw [List.reverse_cons] at h ⊢
    have h1 := ih fun c hc => h c (List.mem_append_left _ hc)
    have h2 := h b (by simp)
    rw [valB_snoc, List.length_append, List.length_singleton, Nat.pow_succ']
    omega
theorem val_bytesR (n : Nat) : ∀ row : List UInt8, row.length = 8 * n → (∀ b ∈ row, b.toNat ≤ 1) → val (bytesR row) = valB row := by
  induction n with
  | zero =>
    intro row h _
    obtain rfl : row = [] := List.eq_nil_of_length_eq_zero (by omega)
    rfl
  | succ n ih =>
    intro row h hb
    have hl : (row.take (8 * n)).length = 8 * n := by simp; omega
    have h1 := ih (row.take (8 * n)) hl fun b hm => hb b (List.mem_of_mem_take hm)
    have e : bytesR row = bytesR (row.take (8 * n)) ++ [byteAt row n] := by
      unfold bytesR
      have e1 : row.length / 8 = n + 1 := by omega
      have e2 : (row.take (8 * n)).length / 8 = n := by omega
      rw [e1, e2, List.range_succ, List.map_append]
      congr 1
      refine List.map_congr_left fun m hm => ?_
      rw [List.mem_range] at hm
      unfold byteAt
      rw [List.drop_take, List.take_take, Nat.min_eq_left (by omega)]
    have e3 : (row.drop (8 * n)).take 8 = row.drop (8 * n) := List.take_of_length_le (by simp; omega)
    have h4 : valB (row.drop (8 * n)) < 2 ^ 8 := by
      have := valB_lt (row.drop (8 * n)) fun b hm => hb b (List.mem_of_mem_drop hm)
      have hl2 : (row.drop (8 * n)).length = 8 := by simp; omega
      rwa [hl2] at this
    have h5 : (byteAt row n).toNat = valB (row.drop (8 * n)) := by
      unfold byteAt
      rw [e3, UInt8.toNat_ofNat', Nat.mod_eq_of_lt h4]
    rw [e, val_snoc, h1, h5]
    conv => rhs; rw [← List.take_append_drop (8 * n) row, valB_append]
    have hl2 : (row.drop (8 * n)).length = 8 := by simp; omega
    rw [hl2]; omega
def ofNum (fam : UInt8) (n : Nat) : Ad := (fam, UInt64.ofNat (n / 18446744073709551616), UInt64.ofNat n)
theorem num_ofNum (fam : UInt8) (n : Nat) (h : n < 2 ^ 128) : num (ofNum fam n) = n := by
  unfold num ofNum
  simp only [UInt64.toNat_ofNat']
  omega
def fromOk (fam : UInt8) (k : Nat) : Bool := (fam == 4 && k == 4) || (fam == 6 && k == 16)
def fromB (fam : UInt8) (l : List UInt8) : Ad := if fromOk fam l.length then ofNum fam (val l) else zeroA
/-- An address's first bits, and behind them all as one. -/
def fillA (a : Ad) (k : Nat) (b : UInt8) : Ad := fromB a.1 (bytesR ((rowA a).take k ++ List.replicate ((rowA a).length - k) b))
theorem right_fam {a : Ad} (h : rightA a = true) : a.1 = 4 ∨ a.1 = 6 := by
  rcases rightA_iff.1 h with h | ⟨h, _⟩
  · exact .inr h
  · exact .inl h
theorem num_wid {a : Ad} (h : rightA a = true) : num a < 2 ^ wid a := by
  unfold wid
  rcases rightA_iff.1 h with h | ⟨h, k⟩
  · rw [if_neg (by rw [h]; decide)]; exact num_lt a
  · rw [if_pos h]; exact k
theorem width_wid (a : Ad) : width a.1 = (wid a : Int) := by unfold width wid; split <;> rfl
theorem wid_size (a : Ad) : wid a = 8 * sizeB a := by unfold wid sizeB; split <;> rfl
theorem fillA_num {a : Ad} (h : rightA a = true) {k : Nat} (hk : k ≤ wid a) (b : UInt8) (hb : b = 0 ∨ b = 1) :
    (fillA a k b).1 = a.1 ∧ num (fillA a k b) = num a / 2 ^ (wid a - k) * 2 ^ (wid a - k) + (if b = 1 then 2 ^ (wid a - k) - 1 else 0) := by
  have hr : rowA a = bitsN (num a) (wid a) := by unfold rowA; rw [if_pos h]
  obtain ⟨row, hrow⟩ : ∃ row, row = (rowA a).take k ++ List.replicate ((rowA a).length - k) b := ⟨_, rfl⟩
  have hlen : row.length = 8 * sizeB a := by rw [hrow, hr, ← wid_size]; simp [bitsN_length]; omega
  have hbit : ∀ c ∈ row, c.toNat ≤ 1 := by
    intro c hc
    rw [hrow, List.mem_append] at hc
    rcases hc with hc | hc
    · have := List.mem_of_mem_take hc
      rw [hr] at this
      simp only [bitsN, List.mem_map] at this
      obtain ⟨i, _, rfl⟩ := this
      split <;> decide
    · rw [List.mem_replicate] at hc
      rcases hb with rfl | rfl <;> rw [hc.2] <;> decide
  have hv : val (bytesR row) = num a / 2 ^ (wid a - k) * 2 ^ (wid a - k) + (if b = 1 then 2 ^ (wid a - k) - 1 else 0) := by
    have hlt : num a / 2 ^ (wid a - k) < 2 ^ k := by
      rw [Nat.div_lt_iff_lt_mul (Nat.pow_pos (by decide)), ← Nat.pow_add]
      have e : k + (wid a - k) = wid a := by omega
      rw [e]; exact num_wid h
    rw [val_bytesR (sizeB a) row hlen hbit, hrow, valB_append, hr, take_bitsN _ _ _ hk, valB_bitsN, Nat.mod_eq_of_lt hlt, bitsN_length, List.length_replicate]
    congr 1
    rcases hb with rfl | rfl
    · rw [valB_zeros]; rfl
    · rw [valB_ones]; rfl
  have hok : fromOk a.1 (bytesR row).length = true := by
    have e : (bytesR row).length = sizeB a := by unfold bytesR; simp; omega
    rw [e]
    unfold fromOk sizeB
    rcases right_fam h with h4 | h6
    · rw [h4]; rfl
    · rw [h6]; rfl
  have hlt2 : val (bytesR row) < 2 ^ 128 := by
    rw [val_bytesR (sizeB a) row hlen hbit]
    have := valB_lt row hbit
    rw [hlen, ← wid_size] at this
    refine Nat.lt_of_lt_of_le this (Nat.pow_le_pow_right (by decide) ?_)
    unfold wid; split <;> omega
  unfold fillA
  rw [← hrow]
  unfold fromB
  rw [if_pos hok]
  exact ⟨rfl, by rw [num_ofNum _ _ hlt2, hv]⟩

/-! ### the document's Right, Has, Last, Within -/
theorem rest_wid (a : Ad) {k : Int} (h0 : 0 ≤ k) : rest a k = wid a - k.toNat := by unfold rest; rw [width_wid]; omega
theorem row_length {a : Ad} (h : rightA a = true) : (rowA a).length = wid a := by unfold rowA; rw [if_pos h, bitsN_length]
theorem row_none {a : Ad} (h : rightA a = false) : rowA a = [] := by unfold rowA; rw [h]; rfl
theorem wid_pos (a : Ad) : 0 < wid a := by unfold wid; split <;> omega
theorem low_zero {x m : Nat} : (∀ b ∈ bitsN x m, b ≠ 1) ↔ x % 2 ^ m = 0 := by
  constructor
  · intro h
    have e : bitsN x m = List.replicate m 0 := by
      refine List.eq_replicate_iff.2 ⟨bitsN_length x m, fun b hb => ?_⟩
      have h1 := h b hb
      simp only [bitsN, List.mem_map] at hb
      obtain ⟨i, _, rfl⟩ := hb
      split
      · rename_i h2; rw [if_pos h2] at h1; exact absurd rfl h1
      · rfl
    rw [← valB_bitsN, e, valB_zeros]
  · intro h b hb he
    subst he
    simp only [bitsN, List.mem_map, List.mem_range] at hb
    obtain ⟨i, hi, h1⟩ := hb
    have hbit : x.testBit (m - 1 - i) = true := by
      cases hc : x.testBit (m - 1 - i) with
      | true => rfl
      | false => rw [hc] at h1; exact absurd h1 (by decide)
    have := Nat.testBit_mod_two_pow x m (m - 1 - i)
    rw [h, hbit] at this
    simp at this
    omega
def rightR (p : Pf) : Bool := decide ((rowA p.1).length ≠ 0) && (decide (0 ≤ p.2) && (decide (p.2 ≤ ((rowA p.1).length : Int)) && ((rowA p.1).drop p.2.toNat).all (fun b => b != 1)))
theorem rightR_eq (p : Pf) : rightR p = rightP p := by
  rw [Bool.eq_iff_iff, rightP_iff]
  cases hr : rightA p.1 with
  | false =>
    have : (rowA p.1).length = 0 := by rw [row_none hr]; rfl
    unfold rightR
    constructor
    · intro h; simp [this] at h
    · intro h; rw [h.ad] at hr; cases hr
  | true =>
    have hl := row_length hr
    have hw := wid_pos p.1
    unfold rightR
    rw [hl]
    simp only [Bool.and_eq_true, decide_eq_true_eq]
    have hb : 0 ≤ p.2 → p.2 ≤ (wid p.1 : Int) → ((((rowA p.1).drop p.2.toNat).all (fun b => b != 1)) = true ↔ num p.1 / 2 ^ rest p.1 p.2 * 2 ^ rest p.1 p.2 = num p.1) := by
      intro h0 h1
      have e : rowA p.1 = bitsN (num p.1) (wid p.1) := by unfold rowA; rw [if_pos hr]
      rw [e, drop_bitsN, List.all_eq_true, rest_wid _ h0]
      have hz := low_zero (x := num p.1) (m := wid p.1 - p.2.toNat)
      have hd := Nat.div_add_mod (num p.1) (2 ^ (wid p.1 - p.2.toNat))
      rw [Nat.mul_comm] at hd
      constructor
      · intro h
        have := hz.1 fun b hb => by simpa using h b hb
        omega
      · intro h
        have := hz.2 (by omega)
        intro b hb
        simpa using this b hb
    constructor
    · rintro ⟨_, h0, h1, h2⟩
      exact ⟨hr, h0, by rw [width_wid]; exact h1, (hb h0 h1).1 h2⟩
    · intro h
      have h1 := h.hi
      rw [width_wid] at h1
      exact ⟨by omega, h.lo, h1, (hb h.lo h1).2 h.al⟩
def hasR (p : Pf) (a : Ad) : Bool := rightP p && (decide ((rowA a).length = (rowA p.1).length) && decide ((rowA p.1).take p.2.toNat = (rowA a).take p.2.toNat))
theorem wid_fam {a b : Ad} (ha : rightA a = true) (hb : rightA b = true) (h : wid a = wid b) : a.1 = b.1 := by
  unfold wid at h
  rcases right_fam ha with h1 | h1 <;> rcases right_fam hb with h2 | h2 <;> rw [h1, h2] at h ⊢ <;> simp at h
theorem hasR_eq (p : Pf) (a : Ad) : hasR p a = hasP p a := by
  rw [Bool.eq_iff_iff, has_iff]
  unfold hasR
  simp only [Bool.and_eq_true, decide_eq_true_eq]
  constructor
  · rintro ⟨hp, hl, ht⟩
    have hp := rightP_iff.1 hp
    have hra : rightA a = true := by
      cases h : rightA a with
      | true => rfl
      | false => rw [row_none h, row_length hp.ad] at hl; have := wid_pos p.1; simp at hl; omega
    rw [row_length hra, row_length hp.ad] at hl
    have hf := wid_fam hra hp.ad hl
    have hi := hp.hi
    rw [width_wid] at hi
    have h0 := hp.lo
    unfold rowA at ht
    rw [if_pos hra, if_pos hp.ad, hl, take_bitsN _ _ _ (by omega), take_bitsN _ _ _ (by omega)] at ht
    have hlt : ∀ x, x < 2 ^ wid p.1 → x / 2 ^ (wid p.1 - p.2.toNat) < 2 ^ p.2.toNat := fun x hx => by
      rw [Nat.div_lt_iff_lt_mul (Nat.pow_pos (by decide)), ← Nat.pow_add]
      have e : p.2.toNat + (wid p.1 - p.2.toNat) = wid p.1 := by omega
      rw [e]; exact hx
    have h2 := bitsN_inj ht (hlt _ (num_wid hp.ad)) (hlt _ (by rw [← hl]; exact num_wid hra))
    refine ⟨hra, h0, hp.hi, hf, ?_⟩
    rw [rest_wid _ h0, ← h2, ← rest_wid _ h0]
    exact hp.al
  · intro h
    have hp := h.right
    have hl : wid a = wid p.1 := by unfold wid; rw [h.fam]
    have hi := hp.hi
    rw [width_wid] at hi
    have h0 := hp.lo
    refine ⟨rightP_iff.2 hp, by rw [row_length h.ad, row_length hp.ad, hl], ?_⟩
    unfold rowA
    rw [if_pos h.ad, if_pos hp.ad, hl, take_bitsN _ _ _ (by omega), take_bitsN _ _ _ (by omega)]
    refine congrArg (fun x => bitsN x p.2.toNat) ?_
    have e := h.eq
    rw [rest_wid _ h0] at e
    rw [← e, floor_floor _ (Nat.le_refl _)]
def lastR (p : Pf) : Ad := if rightP p then fillA p.1 p.2.toNat 1 else zeroA
theorem lastR_num {p : Pf} (h : Rt p) : (lastR p).1 = p.1.1 ∧ num (lastR p) = num p.1 + (2 ^ rest p.1 p.2 - 1) ∧ rightA (lastR p) = true := by
  have hi := h.hi
  rw [width_wid] at hi
  have h0 := h.lo
  obtain ⟨h1, h2⟩ := fillA_num h.ad (k := p.2.toNat) (by omega) 1 (.inr rfl)
  have e : lastR p = fillA p.1 p.2.toNat 1 := by unfold lastR; rw [if_pos (rightP_iff.2 h)]
  rw [if_pos rfl, ← rest_wid _ h0, h.al] at h2
  rw [e]
  refine ⟨h1, h2, rightA_iff.2 ?_⟩
  rcases rightA_iff.1 h.ad with h6 | ⟨h4, hn⟩
  · exact .inl (by rw [h1, h6])
  · refine .inr ⟨by rw [h1, h4], ?_⟩
    rw [h2]
    have hr : rest p.1 p.2 ≤ 32 := by unfold rest width; rw [if_pos h4]; omega
    have e2 : (4294967296 : Nat) = 2 ^ (32 - rest p.1 p.2) * 2 ^ rest p.1 p.2 := by rw [← Nat.pow_add, Nat.sub_add_cancel hr]
    have h3 : num p.1 / 2 ^ rest p.1 p.2 < 2 ^ (32 - rest p.1 p.2) := by
      rw [Nat.div_lt_iff_lt_mul (Nat.pow_pos (by decide)), ← e2]; exact hn
    have h5 := Nat.mul_le_mul_right (2 ^ rest p.1 p.2) (Nat.succ_le_of_lt h3)
    rw [← e2, Nat.succ_mul, h.al] at h5
    have : 0 < 2 ^ rest p.1 p.2 := Nat.pow_pos (by decide)
    omega
def withinR (p q : Pf) : Bool := rightP p && (hasP q p.1 && hasP q (lastR p))
theorem withinR_eq (p q : Pf) : withinR p q = within p q := by
  rw [Bool.eq_iff_iff, within_iff]
  unfold withinR
  simp only [Bool.and_eq_true, rightP_iff, has_iff]
  constructor
  · rintro ⟨hp, hq, hl⟩
    refine ⟨hp, ?_, hq⟩
    obtain ⟨l1, l2, l3⟩ := lastR_num hp
    have e1 := hq.eq
    have e2 := hl.eq
    have hf : p.1.1 = q.1.1 := hq.fam
    rw [l2] at e2
    false_or_by_contra
    rename_i hgt
    have hlt : p.2 < q.2 := by omega
    have hqh := hq.hi
    have hpl := hp.lo
    have hrr : rest q.1 q.2 < rest p.1 p.2 := by rw [rest_congr hf]; unfold rest; omega
    obtain ⟨d, hd⟩ : ∃ d, rest p.1 p.2 = rest q.1 q.2 + (d + 1) := ⟨rest p.1 p.2 - rest q.1 q.2 - 1, by omega⟩
    have hpos : 0 < 2 ^ rest q.1 q.2 := Nat.pow_pos (by decide)
    have hge : 2 ^ rest p.1 p.2 = 2 * (2 ^ d * 2 ^ rest q.1 q.2) := by rw [hd, Nat.pow_add, Nat.pow_succ', ← Nat.mul_assoc, ← Nat.mul_assoc, Nat.mul_comm _ 2, Nat.mul_assoc, Nat.mul_assoc, Nat.mul_comm (2 ^ rest q.1 q.2)]
    have hd1 : 1 ≤ 2 ^ d := Nat.pow_pos (by decide)
    have hm := Nat.mul_le_mul_right (2 ^ rest q.1 q.2) hd1
    have h1 : num p.1 + 2 ^ rest q.1 q.2 ≤ num p.1 + (2 ^ rest p.1 p.2 - 1) := by omega
    have h2 := Nat.div_le_div_right (c := 2 ^ rest q.1 q.2) h1
    rw [Nat.add_div_right _ hpos] at h2
    have h3 := Nat.mul_le_mul_right (2 ^ rest q.1 q.2) h2
    rw [e2, Nat.succ_mul, e1] at h3
    have h4 := Nat.div_mul_le_self (num p.1) (2 ^ rest q.1 q.2)
    omega
  · rintro ⟨hp, hle, hq⟩
    obtain ⟨l1, l2, l3⟩ := lastR_num hp
    refine ⟨hp, hq, l3, hq.lo, hq.hi, by rw [l1]; exact hq.fam, ?_⟩
    have hf : p.1.1 = q.1.1 := hq.fam
    rw [l2]
    have hrr : rest p.1 p.2 ≤ rest q.1 q.2 := by rw [rest_congr hf]; exact rest_anti hle
    have hpos : 0 < 2 ^ rest p.1 p.2 := Nat.pow_pos (by decide)
    have e : (num p.1 + (2 ^ rest p.1 p.2 - 1)) / 2 ^ rest q.1 q.2 = num p.1 / 2 ^ rest q.1 q.2 := by
      rw [← floor_floor (num p.1 + (2 ^ rest p.1 p.2 - 1)) hrr]
      congr 1
      have h1 : (num p.1 + (2 ^ rest p.1 p.2 - 1)) / 2 ^ rest p.1 p.2 = num p.1 / 2 ^ rest p.1 p.2 := by
        conv => lhs; rw [← hp.al]
        rw [Nat.add_comm, Nat.add_mul_div_right _ _ hpos, Nat.div_eq_of_lt (by omega), Nat.zero_add]
      rw [h1, hp.al]
    rw [e]; exact hq.eq
end Go.Cph.Px
