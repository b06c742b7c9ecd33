/- MO: texts put together: SkA SkO Ox3. -/
import Derived.Test.YtccopljpceolcabDoorMA
import Derived.OneCell
import Derived.Laws.OwnMore
/- A skip list in memory: what its blocks hold. Of whatever program: TL, TN, TI: the types of a list, a node, an int. -/
set_option linter.unusedVariables false
set_option linter.unusedSimpArgs false
namespace Go.Cph.Skip
open Go.RowKit Go.Cph

/-- A node: its key, its value, its height, the block of its tower, that block's capacity. -/
structure Nd (α : Type) where
  key : ByteArray
  val : α
  ht : Nat
  tb : Nat
  tc : Nat

def Nd.tower {α} (x : Nd α) : Value := .slice (some ⟨x.tb, 0, none⟩) x.ht x.tc
def Nd.cells {α} (enc : α → Value) (x : Nd α) : List Value := [.string x.key, enc x.val, x.tower]
def nodeCells {α} (enc : α → Value) (nodes : List (Nd α)) : List Value := nodes.flatMap (Nd.cells enc)
def headCells (nx : Nat → Nat → Nat) (v : Value) : Array Value := (((List.range 12).map fun l => Value.int .i64 (nx 0 l)) ++ [v]).toArray
def towerCells (nx : Nat → Nat → Nat) (n ht : Nat) : List Value := (List.range ht).map fun l => Value.int .i64 (nx n l)

theorem nodeCells_length {α} (enc : α → Value) (nodes : List (Nd α)) : (nodeCells enc nodes).length = nodes.length * 3 := by
  induction nodes with
  | nil => rfl
  | cons x l ih => simp only [nodeCells, List.flatMap_cons, List.length_append, List.length_cons] at ih ⊢; rw [ih]; simp [Nd.cells]; omega
theorem nodeCells_at {α} (enc : α → Value) : ∀ (nodes : List (Nd α)) (i : Nat) (h : i < nodes.length) (j : Nat), j < 3 → (nodeCells enc nodes)[i * 3 + j]? = (Nd.cells enc nodes[i])[j]?
  | [], i, h, _, _ => absurd h (by simp)
  | x :: l, 0, h, j, hj => by
    simp only [nodeCells, List.flatMap_cons]
    rw [List.getElem?_append_left (by simp [Nd.cells]; omega)]
    simp
  | x :: l, i + 1, h, j, hj => by
    have ih := nodeCells_at enc l i (by simpa using h) j hj
    simp only [nodeCells, List.flatMap_cons] at ih ⊢
    rw [List.getElem?_append_right (by simp [Nd.cells]; omega)]
    simp only [List.getElem_cons_succ]
    rw [← ih]
    congr 1
    simp [Nd.cells]; omega
theorem nodeCells_snoc {α} (enc : α → Value) (nodes : List (Nd α)) (x : Nd α) : nodeCells enc (nodes ++ [x]) = nodeCells enc nodes ++ Nd.cells enc x := by
  simp [nodeCells]

theorem headCells_at (nx : Nat → Nat → Nat) (v : Value) (l : Nat) (h : l < 12) : (headCells nx v)[l]? = some (.int .i64 (nx 0 l)) := by
  simp only [headCells, List.getElem?_toArray]
  rw [List.getElem?_append_left (by simpa using h)]
  simp [h]
theorem headCells_v (nx : Nat → Nat → Nat) (v : Value) : (headCells nx v)[12]? = some v := by
  simp [headCells]
theorem headCells_set (nx : Nat → Nat → Nat) (v : Value) (l to : Nat) (h : l < 12) :
    (headCells nx v).setIfInBounds l (.int .i64 to) = headCells (fun n k => if n = 0 ∧ k = l then to else nx n k) v := by
  apply Array.ext'
  simp only [headCells, List.setIfInBounds_toArray]
  apply List.ext_getElem?
  intro i
  rw [List.getElem?_set]
  by_cases hi : i < 12
  · rw [List.getElem?_append_left (by simpa using hi), List.getElem?_append_left (by simpa using hi)]
    by_cases hil : l = i
    · subst hil; simp [h]; omega
    · rw [if_neg hil]; simp [hi, Ne.symm hil]
  · rw [if_neg (by omega), List.getElem?_append_right (by simp; omega), List.getElem?_append_right (by simp; omega)]
    simp
theorem headCells_setv (nx : Nat → Nat → Nat) (v v' : Value) : (headCells nx v).setIfInBounds 12 v' = headCells nx v' := by
  apply Array.ext'
  simp only [headCells, List.setIfInBounds_toArray]
  rw [List.set_append_right _ _ (by simp)]
  simp
theorem towerCells_set (nx : Nat → Nat → Nat) (n ht l to : Nat) (h : l < ht) :
    (towerCells nx n ht).set l (.int .i64 to) = towerCells (fun m k => if m = n ∧ k = l then to else nx m k) n ht := by
  apply List.ext_getElem?
  intro i
  rw [List.getElem?_set]
  simp only [towerCells, List.getElem?_map, List.length_map, List.length_range]
  by_cases hil : l = i
  · subst hil; simp [h]
  · rw [if_neg hil]
    by_cases hi : i < ht
    · simp [hi, Ne.symm hil]
    · simp [hi]

/-- What a list's blocks hold: nx n l: the node behind node n (0: the head) on level l. -/
structure At {α} (TL TN TI : TypeId) (enc : α → Value) (w : World) (p : Nat) (nx : Nat → Nat → Nat) (nodes : List (Nd α)) (v : Value) : Prop where
  head : w.heap[p]? = some (.cells (headCells nx v) TL (0, 0))
  row : w.ownsRow 0 TN 3 v nodes.length (nodeCells enc nodes)
  towers : ∀ i (h : i < nodes.length), w.ownsRow 0 TI 1 nodes[i].tower nodes[i].ht (towerCells nx (i + 1) nodes[i].ht)
  apart : ∀ i j (hi : i < nodes.length) (hj : j < nodes.length), nodes[i].tb = nodes[j].tb → i = j

section
variable {α : Type} {TL TN TI : TypeId} {enc : α → Value} {w : World} {p : Nat} {nx : Nat → Nat → Nat} {nodes : List (Nd α)} {v : Value}

/-- The list's blocks. -/
def foot (p : Nat) (v : Value) (nodes : List (Nd α)) (k : Nat) : Prop := k = p ∨ v.ownBlock = some k ∨ ∃ x ∈ nodes, x.tb = k

theorem cellAt' {w : World} {base : Nat} {e : TypeId} {size g m cap n : Nat} {xs : List Value} (h : w.ownsRow base e size (.slice (some ⟨g, 0, none⟩) m cap) n xs) (j : Nat) (hj : j < n * size) : w.cell? ⟨g, j, none⟩ = xs[j]? := by
  obtain ⟨g', cap', hv, _, _, _, hc, _⟩ := owns_shape h (by rcases Nat.eq_zero_or_pos n with rfl | h0 <;> omega)
  cases hv
  exact hc j hj
theorem row_kept {w w' : World} {base : Nat} {e : TypeId} {size : Nat} {v : Value} {n : Nat} {xs : List Value} (h : w.ownsRow base e size v n xs)
    (hk : ∀ k, v.ownBlock = some k → w'.heap[k]? = w.heap[k]?) : w'.ownsRow base e size v n xs := by
  obtain ⟨h1, h2⟩ := h
  refine ⟨h1, ?_⟩
  rcases h2 with h2 | ⟨g, cap, cur, rfl, hb, hg, r⟩
  · exact .inl h2
  · exact .inr ⟨g, cap, cur, rfl, hb, by rw [hk g rfl]; exact hg, r⟩

theorem At.same (h : At TL TN TI enc w p nx nodes v) {w' : World} (hk : ∀ k, foot p v nodes k → w'.heap[k]? = w.heap[k]?) : At TL TN TI enc w' p nx nodes v :=
  ⟨by rw [hk p (.inl rfl)]; exact h.head, row_kept h.row fun k e => hk k (.inr (.inl e)),
    fun i hi => row_kept (h.towers i hi) fun k e => hk k (.inr (.inr ⟨_, List.getElem_mem hi, by simpa [Nd.tower, Value.ownBlock] using e⟩)), h.apart⟩
theorem At.foot_lt (h : At TL TN TI enc w p nx nodes v) {k : Nat} (hk : foot p v nodes k) : k < w.heap.size := by
  rcases hk with rfl | hk | ⟨x, hx, rfl⟩
  · exact blk_lt h.head
  · exact (h.row.lt k hk).2
  · obtain ⟨i, hi, rfl⟩ := List.getElem_of_mem hx
    exact ((h.towers i hi).lt _ rfl).2
theorem At.kept (h : At TL TN TI enc w p nx nodes v) {w' : World} (hb : Below w.heap.size w w') : At TL TN TI enc w' p nx nodes v :=
  h.same fun k hk => hb.block k (h.foot_lt hk)
/-- Links that the list has not may be any. -/
theorem At.congr (h : At TL TN TI enc w p nx nodes v) {nx' : Nat → Nat → Nat} (h0 : ∀ l, l < 12 → nx' 0 l = nx 0 l) (h1 : ∀ i (hi : i < nodes.length) l, l < nodes[i].ht → nx' (i + 1) l = nx (i + 1) l) :
    At TL TN TI enc w p nx' nodes v := by
  refine ⟨?_, h.row, fun i hi => ?_, h.apart⟩
  · have e : headCells nx' v = headCells nx v := by
      unfold headCells
      congr 2
      exact List.map_congr_left fun l hl => by rw [h0 l (List.mem_range.1 hl)]
    rw [e]; exact h.head
  · have e : towerCells nx' (i + 1) nodes[i].ht = towerCells nx (i + 1) nodes[i].ht := by
      unfold towerCells
      exact List.map_congr_left fun l hl => by rw [h1 i hi l (List.mem_range.1 hl)]
    rw [e]; exact h.towers i hi

/-! ### what the walk reads -/
theorem At.headCell (h : At TL TN TI enc w p nx nodes v) (l : Nat) (hl : l < 12) : w.cell? ⟨p, l, none⟩ = some (.int .i64 (nx 0 l)) := by
  rw [blk_cell h.head, headCells_at _ _ _ hl]
theorem At.rowCell (h : At TL TN TI enc w p nx nodes v) : w.cell? ⟨p, 12, none⟩ = some v := by
  rw [blk_cell h.head, headCells_v]
theorem At.free (h : At TL TN TI enc w p nx nodes v) (j : Nat) : w.frozen? ⟨p, j, none⟩ = false := by
  rw [blk_frozen h.head]; simp
theorem At.shape (h : At TL TN TI enc w p nx nodes v) (h0 : 0 < nodes.length) : ∃ g cap, v = .slice (some ⟨g, 0, none⟩) nodes.length cap ∧ nodes.length ≤ cap := by
  obtain ⟨g, cap, hv, _, _, hc, _⟩ := owns_shape h.row h0
  exact ⟨g, cap, hv, hc⟩
theorem At.len (h : At TL TN TI enc w p nx nodes v) : nodes.length ≤ maxLen := by
  obtain ⟨_, h2⟩ := h.row
  rcases h2 with ⟨_, h2⟩ | ⟨g, cap, cur, _, _, _, h3, h4, _⟩
  · omega
  · exact Nat.le_trans h3 h4
theorem At.htle (h : At TL TN TI enc w p nx nodes v) (i : Nat) (hi : i < nodes.length) : nodes[i].ht ≤ nodes[i].tc := by
  obtain ⟨_, h2⟩ := h.towers i hi
  rcases h2 with ⟨h2, _⟩ | ⟨g, cap, cur, h2, _, _, h3, h4, _⟩
  · simp [Nd.tower] at h2
  · simp [Nd.tower] at h2; omega
theorem At.nil (h : At TL TN TI enc w p nx [] v) : ∃ ao cap, v = .slice ao 0 cap := by
  obtain ⟨_, h2⟩ := h.row
  rcases h2 with ⟨h2, _⟩ | ⟨g, cap, cur, h2, _⟩
  · exact ⟨_, _, h2⟩
  · exact ⟨_, _, h2⟩
theorem At.slice (h : At TL TN TI enc w p nx nodes v) : ∃ ao cap, v = .slice ao nodes.length cap := by
  obtain ⟨_, h2⟩ := h.row
  rcases h2 with ⟨h2, h3⟩ | ⟨g, cap, cur, h2, _⟩
  · exact ⟨_, _, by rw [h2, h3]⟩
  · exact ⟨_, _, h2⟩
theorem At.nodeCell {g cap n : Nat} (h : At TL TN TI enc w p nx nodes (.slice (some ⟨g, 0, none⟩) n cap)) (i : Nat) (hi : i < nodes.length) :
    w.cell? ⟨g, i * 3, none⟩ = some (.string nodes[i].key) ∧ w.cell? ⟨g, i * 3 + 1, none⟩ = some (enc nodes[i].val) ∧ w.cell? ⟨g, i * 3 + 2, none⟩ = some nodes[i].tower := by
  have hc : ∀ j, j < 3 → w.cell? ⟨g, i * 3 + j, none⟩ = (Nd.cells enc nodes[i])[j]? := fun j hj => by
    have h1 : w.cell? ⟨g, i * 3 + j, none⟩ = (nodeCells enc nodes)[i * 3 + j]? := cellAt' h.row (i * 3 + j) (by omega)
    rw [h1, nodeCells_at enc nodes i hi j hj]
  exact ⟨by simpa [Nd.cells] using hc 0 (by omega), by simpa [Nd.cells] using hc 1 (by omega), by simpa [Nd.cells] using hc 2 (by omega)⟩
theorem At.towerCell (h : At TL TN TI enc w p nx nodes v) (i : Nat) (hi : i < nodes.length) (l : Nat) (hl : l < nodes[i].ht) : w.cell? ⟨nodes[i].tb, l, none⟩ = some (.int .i64 (nx (i + 1) l)) := by
  have h1 := (h.towers i hi).cellAt l (by simpa using hl)
  rw [h1]
  simp [towerCells, hl]
theorem At.towerFree (h : At TL TN TI enc w p nx nodes v) (i : Nat) (hi : i < nodes.length) (l : Nat) : w.frozen? ⟨nodes[i].tb, l, none⟩ = false := (h.towers i hi).frozenAt l
end
end Go.Cph.Skip

/- The order of texts; the links of a skip list, as what they say. No program here. -/
set_option linter.unusedVariables false
set_option linter.unusedSimpArgs false
namespace Go.Cph.Skip
open Go.RowKit Go.Cph

/-! ### the order of texts -/
theorem bl_irrefl : ∀ x : List UInt8, Op.bytesLess x x = false
  | [] => rfl
  | a :: x => by simp [Op.bytesLess, bl_irrefl x]
theorem bl_trans : ∀ x y z : List UInt8, Op.bytesLess x y = true → Op.bytesLess y z = true → Op.bytesLess x z = true
  | _, [], z, h, _ => by simp [Op.bytesLess] at h
  | _, _ :: _, [], _, h => by simp [Op.bytesLess] at h
  | [], _ :: _, _ :: _, _, _ => rfl
  | a :: x, b :: y, c :: z, h, k => by
    simp only [Op.bytesLess, Bool.or_eq_true, Bool.and_eq_true, decide_eq_true_eq, beq_iff_eq] at h k ⊢
    rcases h with h | ⟨rfl, h⟩
    · rcases k with k | ⟨rfl, k⟩
      · exact .inl (UInt8.lt_trans h k)
      · exact .inl h
    · rcases k with k | ⟨rfl, k⟩
      · exact .inl k
      · exact .inr ⟨rfl, bl_trans x y z h k⟩
theorem bl_total : ∀ x y : List UInt8, Op.bytesLess x y = false → Op.bytesLess y x = false → x = y
  | [], [], _, _ => rfl
  | [], _ :: _, h, _ => by simp [Op.bytesLess] at h
  | _ :: _, [], _, h => by simp [Op.bytesLess] at h
  | a :: x, b :: y, h, k => by
    simp only [Op.bytesLess, Bool.or_eq_false_iff, Bool.and_eq_false_iff, decide_eq_false_iff_not, beq_eq_false_iff_ne] at h k
    have hab : a = b := by
      have h1 := h.1
      have k1 := k.1
      rw [UInt8.not_lt] at h1 k1
      exact UInt8.le_antisymm k1 h1
    subst hab
    have h2 : Op.bytesLess x y = false := by rcases h.2 with h | h; exact absurd rfl h; exact h
    have k2 : Op.bytesLess y x = false := by rcases k.2 with h | h; exact absurd rfl h; exact h
    rw [bl_total x y h2 k2]
def klt (a b : ByteArray) : Bool := Op.bytesLess a.toList b.toList
theorem toList_inj {a b : ByteArray} (h : a.toList = b.toList) : a = b := by
  rw [ByteArray.toList_eq, ByteArray.toList_eq] at h
  exact ByteArray.ext (Array.ext' h)
theorem klt_irrefl (a : ByteArray) : klt a a = false := bl_irrefl _
theorem klt_trans {a b c : ByteArray} (h : klt a b = true) (k : klt b c = true) : klt a c = true := bl_trans _ _ _ h k
theorem klt_total {a b : ByteArray} (h : klt a b = false) (k : klt b a = false) : a = b := toList_inj (bl_total _ _ h k)
theorem klt_asymm {a b : ByteArray} (h : klt a b = true) : klt b a = false := by
  cases k : klt b a with
  | false => rfl
  | true => have := klt_trans h k; rw [klt_irrefl] at this; exact absurd this (by simp)
/-- From 'not below' to 'below': a ≤ b < c. -/
theorem klt_of_le_lt {a b c : ByteArray} (h : klt b a = false) (k : klt b c = true) : klt a c = true := by
  cases hab : klt a b with
  | true => exact klt_trans hab k
  | false => rw [klt_total hab h]; exact k
theorem klt_of_lt_le {a b c : ByteArray} (h : klt a b = true) (k : klt c b = false) : klt a c = true := by
  cases hbc : klt b c with
  | true => exact klt_trans h hbc
  | false => rw [← klt_total hbc k]; exact h
theorem kle_trans {a b c : ByteArray} (h : klt b a = false) (k : klt c b = false) : klt c a = false := by
  cases hca : klt c a with
  | false => rfl
  | true => have := klt_of_le_lt k hca; rw [h] at this; exact absurd this (by simp)
theorem beq_toList (a b : ByteArray) : (a.toList == b.toList) = decide (a = b) := by
  by_cases h : a = b
  · subst h; simp
  · have : a.toList ≠ b.toList := fun e => h (toList_inj e)
    simp [h, this]

section
variable {α : Type}
/-- Is a key above a place (none: the list's head)? -/
def above : Option ByteArray → ByteArray → Bool
  | none, _ => true
  | some k, x => klt k x
/-- The key of a node (0: the head). -/
def keyNo (nodes : List (Nd α)) : Nat → Option ByteArray
  | 0 => none
  | n + 1 => (nodes[n]?).map (·.key)

/-- m is the node of the least key above a place, of those on a level (0: none). -/
def Nxt (nodes : List (Nd α)) (l : Nat) (lo : Option ByteArray) (m : Nat) : Prop :=
  (m = 0 ∧ ∀ y ∈ nodes, l < y.ht → above lo y.key = false) ∨
  (∃ i, ∃ h : i < nodes.length, m = i + 1 ∧ l < nodes[i].ht ∧ above lo nodes[i].key = true ∧ ∀ y ∈ nodes, l < y.ht → above lo y.key = true → klt y.key nodes[i].key = false)
/-- m is the node of the greatest key below one, of those on a level (0: none). -/
def Prv (nodes : List (Nd α)) (l : Nat) (key : ByteArray) (m : Nat) : Prop :=
  (m = 0 ∧ ∀ y ∈ nodes, l < y.ht → klt y.key key = false) ∨
  (∃ i, ∃ h : i < nodes.length, m = i + 1 ∧ l < nodes[i].ht ∧ klt nodes[i].key key = true ∧ ∀ y ∈ nodes, l < y.ht → klt y.key key = true → klt nodes[i].key y.key = false)
/-- A node of a level, or the head. -/
def On (nodes : List (Nd α)) (l n : Nat) : Prop := n = 0 ∨ ∃ i, ∃ h : i < nodes.length, n = i + 1 ∧ l < nodes[i].ht
/-- What the links of a list say. -/
structure Linked (nodes : List (Nd α)) (nx : Nat → Nat → Nat) : Prop where
  links : ∀ l n, l < 12 → On nodes l n → Nxt nodes l (keyNo nodes n) (nx n l)
  hts : ∀ x ∈ nodes, 1 ≤ x.ht ∧ x.ht ≤ 12
  keys : ∀ i j (hi : i < nodes.length) (hj : j < nodes.length), nodes[i].key = nodes[j].key → i = j

theorem keyNo_succ (nodes : List (Nd α)) (i : Nat) (h : i < nodes.length) : keyNo nodes (i + 1) = some nodes[i].key := by simp [keyNo, h]
theorem On.down {nodes : List (Nd α)} {l n : Nat} (h : On nodes (l + 1) n) : On nodes l n := by
  rcases h with h | ⟨i, hi, h, hl⟩
  · exact .inl h
  · exact .inr ⟨i, hi, h, by omega⟩
theorem Nxt.on {nodes : List (Nd α)} {l m : Nat} {lo : Option ByteArray} (h : Nxt nodes l lo m) : On nodes l m := by
  rcases h with ⟨h, _⟩ | ⟨i, hi, h, hl, _⟩
  · exact .inl h
  · exact .inr ⟨i, hi, h, hl⟩
theorem Prv.on {nodes : List (Nd α)} {l m : Nat} {key : ByteArray} (h : Prv nodes l key m) : On nodes l m := by
  rcases h with ⟨h, _⟩ | ⟨i, hi, h, hl, _⟩
  · exact .inl h
  · exact .inr ⟨i, hi, h, hl⟩

/-- Is a place below a key (the head is)? -/
def under (lo : Option ByteArray) (key : ByteArray) : Bool := match lo with | none => true | some k => klt k key
/-- The walk of a level ends: what lies behind is not below the key. -/
theorem prev_of_next {nodes : List (Nd α)} {l at' n : Nat} {key : ByteArray} (hon : On nodes l at') (hu : under (keyNo nodes at') key = true) (hn : Nxt nodes l (keyNo nodes at') n)
    (hstop : n = 0 ∨ ∃ i, ∃ h : i < nodes.length, n = i + 1 ∧ klt nodes[i].key key = false) : Prv nodes l key at' := by
  have hno : ∀ y ∈ nodes, l < y.ht → above (keyNo nodes at') y.key = true → klt y.key key = false := by
    intro y hy hl ha
    rcases hn with ⟨rfl, h0⟩ | ⟨i, hi, rfl, hli, hai, hle⟩
    · rw [h0 y hy hl] at ha; exact absurd ha (by simp)
    · rcases hstop with h | ⟨i', hi', he, hk⟩
      · omega
      · obtain rfl : i = i' := by omega
        exact kle_trans hk (hle y hy hl ha)
  rcases hon with rfl | ⟨i, hi, rfl, hl⟩
  · exact .inl ⟨rfl, fun y hy hl => hno y hy hl rfl⟩
  · refine .inr ⟨i, hi, rfl, hl, ?_, fun y hy hl hk => ?_⟩
    · rw [keyNo_succ nodes i hi] at hu; exact hu
    · cases ha : klt nodes[i].key y.key with
      | false => rfl
      | true =>
        have := hno y hy hl (by rw [keyNo_succ nodes i hi]; exact ha)
        rw [hk] at this; exact absurd this (by simp)
/-- How many keys lie above a place. -/
def left (nodes : List (Nd α)) (n : Nat) : Nat := nodes.countP fun y => above (keyNo nodes n) y.key
theorem left_lt {nodes : List (Nd α)} {l n m : Nat} (hn : Nxt nodes l (keyNo nodes n) m) (hm : m ≠ 0) : left nodes m < left nodes n := by
  rcases hn with ⟨h, _⟩ | ⟨i, hi, rfl, hl, ha, _⟩
  · exact absurd h hm
  · unfold left
    rw [keyNo_succ nodes i hi]
    have hsub : ∀ y : Nd α, above (some nodes[i].key) y.key = true → above (keyNo nodes n) y.key = true := by
      intro y hy
      cases hk : keyNo nodes n with
      | none => rfl
      | some k => rw [hk] at ha; exact klt_trans ha hy
    have hle : nodes.countP (fun y => above (some nodes[i].key) y.key) ≤ (nodes.countP fun y => above (keyNo nodes n) y.key && !(decide (y.key = nodes[i].key))) := by
      refine List.countP_mono_left fun y _ hy => ?_
      have h2 : y.key ≠ nodes[i].key := fun e => by rw [e] at hy; simp [above, klt_irrefl] at hy
      simp [hsub y hy, h2]
    refine Nat.lt_of_le_of_lt hle ?_
    rw [List.countP_eq_length_filter, List.countP_eq_length_filter]
    have hss : List.Sublist (nodes.filter fun y => above (keyNo nodes n) y.key && !(decide (y.key = nodes[i].key))) (nodes.filter fun y => above (keyNo nodes n) y.key) := by
      have : (nodes.filter fun y => above (keyNo nodes n) y.key && !(decide (y.key = nodes[i].key))) = ((nodes.filter fun y => above (keyNo nodes n) y.key).filter fun y => !(decide (y.key = nodes[i].key))) := by
        rw [List.filter_filter]
        exact List.filter_congr fun y _ => Bool.and_comm _ _
      rw [this]
      exact List.filter_sublist
    rcases Nat.lt_or_ge (nodes.filter fun y => above (keyNo nodes n) y.key && !(decide (y.key = nodes[i].key))).length (nodes.filter fun y => above (keyNo nodes n) y.key).length with h | h
    · exact h
    · have he := hss.eq_of_length_le h
      have hin : nodes[i] ∈ (nodes.filter fun y => above (keyNo nodes n) y.key) := List.mem_filter.2 ⟨List.getElem_mem hi, ha⟩
      rw [← he] at hin
      have := (List.mem_filter.1 hin).2
      simp at this

/-- The node of the least key that is not below one (0: none). -/
def Seek (nodes : List (Nd α)) (key : ByteArray) (m : Nat) : Prop :=
  (m = 0 ∧ ∀ y ∈ nodes, klt y.key key = true) ∨
  (∃ i, ∃ h : i < nodes.length, m = i + 1 ∧ klt nodes[i].key key = false ∧ ∀ y ∈ nodes, klt y.key key = false → klt y.key nodes[i].key = false)
theorem seek_of_prev {nodes : List (Nd α)} {nx : Nat → Nat → Nat} (hl : Linked nodes nx) {key : ByteArray} {at' n : Nat} (hp : Prv nodes 0 key at') (hn : Nxt nodes 0 (keyNo nodes at') n) : Seek nodes key n := by
  have hgo : ∀ y ∈ nodes, klt y.key key = false → above (keyNo nodes at') y.key = true := by
    intro y hy hk
    rcases hp with ⟨rfl, _⟩ | ⟨i, hi, rfl, _, hik, _⟩
    · rfl
    · rw [keyNo_succ nodes i hi]; exact klt_of_lt_le hik hk
  have hno : ∀ y ∈ nodes, above (keyNo nodes at') y.key = true → klt y.key key = false := by
    intro y hy ha
    have h0 := (hl.hts y hy).1
    rcases hp with ⟨rfl, h⟩ | ⟨i, hi, rfl, _, hik, hle⟩
    · exact h y hy (by omega)
    · rw [keyNo_succ nodes i hi] at ha
      cases hk : klt y.key key with
      | false => rfl
      | true => have := hle y hy (by omega) hk; rw [show klt nodes[i].key y.key = true from ha] at this; exact absurd this (by simp)
  rcases hn with ⟨rfl, h⟩ | ⟨i, hi, rfl, _, hai, hle⟩
  · refine .inl ⟨rfl, fun y hy => ?_⟩
    cases hk : klt y.key key with
    | true => rfl
    | false => have := h y hy (by have := (hl.hts y hy).1; omega); rw [hgo y hy hk] at this; exact absurd this (by simp)
  · exact .inr ⟨i, hi, rfl, hno _ (List.getElem_mem hi) hai, fun y hy hk => hle y hy (by have := (hl.hts y hy).1; omega) (hgo y hy hk)⟩
end
end Go.Cph.Skip

/- Keys of numbers and texts: their order, plainly. No program here. -/
set_option linter.unusedVariables false
namespace Go.Cph.Ok
open Go Go.RowKit Go.Cph Go.Cph.Skip

/-- Ahead at a byte. -/
def Apart (xs ys : Bs) : Prop := ∃ p a b xs' ys', xs = p ++ a :: xs' ∧ ys = p ++ b :: ys' ∧ a < b
theorem Apart.head {a b : UInt8} (h : a < b) (xs ys : Bs) : Apart (a :: xs) (b :: ys) := ⟨[], a, b, xs, ys, rfl, rfl, h⟩
theorem Apart.pre {xs ys : Bs} (h : Apart xs ys) (p : Bs) : Apart (p ++ xs) (p ++ ys) := by
  obtain ⟨q, a, b, xs', ys', rfl, rfl, hl⟩ := h
  exact ⟨p ++ q, a, b, xs', ys', by rw [List.append_assoc], by rw [List.append_assoc], hl⟩
theorem Apart.cons {xs ys : Bs} (h : Apart xs ys) (c : UInt8) : Apart (c :: xs) (c :: ys) := h.pre [c]
theorem Apart.app {xs ys : Bs} (h : Apart xs ys) (u v : Bs) : Apart (xs ++ u) (ys ++ v) := by
  obtain ⟨q, a, b, xs', ys', rfl, rfl, hl⟩ := h
  exact ⟨q, a, b, xs' ++ u, ys' ++ v, by simp, by simp, hl⟩
theorem bl_pre (p x y : Bs) : Op.bytesLess (p ++ x) (p ++ y) = Op.bytesLess x y := by
  induction p with
  | nil => rfl
  | cons c p ih => show Op.bytesLess (c :: (p ++ x)) (c :: (p ++ y)) = _; simp [Op.bytesLess, ih]
theorem Apart.less {xs ys : Bs} (h : Apart xs ys) : Op.bytesLess xs ys = true := by
  obtain ⟨q, a, b, xs', ys', rfl, rfl, hl⟩ := h
  rw [bl_pre]
  simp [Op.bytesLess, hl]
theorem bl_asymm {x y : Bs} (h : Op.bytesLess x y = true) : Op.bytesLess y x = false := by
  cases k : Op.bytesLess y x with
  | false => rfl
  | true => have := bl_trans _ _ _ h k; rw [bl_irrefl] at this; cases this
theorem Apart.prefix_not {xs ys : Bs} (h : Apart xs ys) : xs.isPrefixOf ys = false ∧ ys.isPrefixOf xs = false := by
  obtain ⟨q, a, b, xs', ys', rfl, rfl, hl⟩ := h
  have hne : a ≠ b := fun e => by subst e; exact absurd hl (UInt8.lt_irrefl _)
  constructor
  · rw [Bool.eq_false_iff]
    intro hc
    rw [List.isPrefixOf_iff_prefix, List.prefix_append_right_inj, List.cons_prefix_cons] at hc
    exact hne hc.1
  · rw [Bool.eq_false_iff]
    intro hc
    rw [List.isPrefixOf_iff_prefix, List.prefix_append_right_inj, List.cons_prefix_cons] at hc
    exact hne hc.1.symm
/-- What is below: at a byte, or the beginning. -/
theorem bl_cases : ∀ {x y : Bs}, Op.bytesLess x y = true → Apart x y ∨ ∃ c r, y = x ++ c :: r
  | _, [], h => by simp [Op.bytesLess] at h
  | [], c :: r, _ => Or.inr ⟨c, r, rfl⟩
  | a :: x, b :: y, h => by
    simp only [Op.bytesLess, Bool.or_eq_true, Bool.and_eq_true, decide_eq_true_eq, beq_iff_eq] at h
    rcases h with h | ⟨rfl, h⟩
    · exact Or.inl (Apart.head h _ _)
    · rcases bl_cases h with k | ⟨c, r, rfl⟩
      · exact Or.inl (k.cons a)
      · exact Or.inr ⟨c, r, rfl⟩
theorem bl_nil_cons (c : UInt8) (r : Bs) : Op.bytesLess [] (c :: r) = true := rfl
theorem bl_longer (x : Bs) (c : UInt8) (r : Bs) : Op.bytesLess x (x ++ c :: r) = true := by
  have := bl_pre x [] (c :: r)
  rw [List.append_nil] at this
  rw [this]; rfl

/-! ### numbers -/
theorem u8_lt {a b : Nat} (ha : a < 256) (hb : b < 256) (h : a < b) : UInt8.ofNat a < UInt8.ofNat b := by
  rw [UInt8.lt_iff_toNat_lt, ofNat_toNat, ofNat_toNat, Nat.mod_eq_of_lt ha, Nat.mod_eq_of_lt hb]; exact h
theorem be_apart : ∀ (k m n : Nat), m < n → n < 256 ^ k → Apart (be k m) (be k n)
  | 0, m, n, h, hn => by simp at hn; omega
  | k + 1, m, n, h, hn => by
    have hp : 0 < 256 ^ k := Nat.pow_pos (by omega)
    have hmq : m / 256 ^ k < 256 := by rw [Nat.div_lt_iff_lt_mul hp]; rw [Nat.pow_succ, Nat.mul_comm] at hn; omega
    have hnq : n / 256 ^ k < 256 := by rw [Nat.div_lt_iff_lt_mul hp]; rw [Nat.pow_succ, Nat.mul_comm] at hn; omega
    have hle : m / 256 ^ k ≤ n / 256 ^ k := Nat.div_le_div_right (by omega)
    rcases Nat.lt_or_ge (m / 256 ^ k) (n / 256 ^ k) with hl | hg
    · exact Apart.head (u8_lt hmq hnq hl) _ _
    · have he : m / 256 ^ k = n / 256 ^ k := by omega
      have h1 := Nat.div_add_mod m (256 ^ k)
      have h2 := Nat.div_add_mod n (256 ^ k)
      have ih := be_apart k (m % 256 ^ k) (n % 256 ^ k) (by rw [he] at h1; omega) (Nat.mod_lt _ hp)
      show Apart (UInt8.ofNat (m / 256 ^ k) :: be k m) (UInt8.ofNat (n / 256 ^ k) :: be k n)
      rw [he, ← be_mod k m, ← be_mod k n]
      exact ih.cons _
where
  be_mod : ∀ (k n : Nat), be k (n % 256 ^ k) = be k n
    | 0, n => rfl
    | k + 1, n => by
      show UInt8.ofNat (n % 256 ^ (k + 1) / 256 ^ k) :: be k (n % 256 ^ (k + 1)) = UInt8.ofNat (n / 256 ^ k) :: be k n
      have h1 : n % 256 ^ (k + 1) / 256 ^ k = n / 256 ^ k % 256 := by rw [Nat.pow_succ, Nat.mod_mul_right_div_self]
      have h2 : be k (n % 256 ^ (k + 1)) = be k n := by
        rw [← be_mod k (n % 256 ^ (k + 1)), Nat.pow_succ, Nat.mod_mul_right_mod, be_mod k n]
      rw [h1, h2]
      congr 1
      apply UInt8.toNat_inj.1
      rw [ofNat_toNat, ofNat_toNat, Nat.mod_mod]
theorem row_apart {m n : Nat} (h : m < n) (hn : n < 18446744073709551616) : Apart (row m) (row n) := by
  have h8 := blen_8 hn
  unfold row
  by_cases h1 : n < 248
  · rw [if_pos h1, if_pos (by omega)]
    exact Apart.head (u8_lt (by omega) (by omega) h) _ _
  · have hb := blen_1 (n := n) (by omega)
    rw [if_neg h1]
    by_cases h2 : m < 248
    · rw [if_pos h2]
      exact Apart.head (u8_lt (by omega) (by omega) (by omega)) _ _
    · rw [if_neg h2]
      have hm := blen_1 (n := m) (by omega)
      have hle : blen m ≤ blen n := by
        refine blen_le ?_
        exact Nat.lt_trans h (blen_lt n)
      rcases Nat.lt_or_ge (blen m) (blen n) with hl | hg
      · exact Apart.head (u8_lt (by omega) (by omega) (by omega)) _ _
      · have he : blen m = blen n := by omega
        rw [he]
        exact (be_apart _ _ _ h (blen_lt n)).cons _

/-! ### texts -/
theorem u8_pos {c : UInt8} (h : c ≠ 0) : (0 : UInt8) < c := by
  rw [UInt8.lt_iff_toNat_lt]
  have : c.toNat ≠ 0 := fun e => h (UInt8.toNat_inj.1 e)
  show 0 < c.toNat
  omega
theorem esc_apart : ∀ (s t : Bs), Op.bytesLess s t = true → Apart (esc s ++ [0, 1]) (esc t ++ [0, 1])
  | _, [], h => by simp [Op.bytesLess] at h
  | [], c :: t, _ => by
    rw [esc_cons]
    by_cases hc : c = 0
    · rw [if_pos hc]
      exact (Apart.head (a := 1) (b := 255) (by decide) [] (esc t ++ [0, 1])).cons 0
    · rw [if_neg hc]
      exact Apart.head (u8_pos hc) [1] (esc t ++ [0, 1])
  | a :: s, b :: t, h => by
    simp only [Op.bytesLess, Bool.or_eq_true, Bool.and_eq_true, decide_eq_true_eq, beq_iff_eq] at h
    rcases h with h | ⟨rfl, h⟩
    · have hb : b ≠ 0 := fun e => by
        subst e
        rw [UInt8.lt_iff_toNat_lt] at h
        exact absurd h (Nat.not_lt_zero _)
      rw [esc_cons, esc_cons, if_neg hb]
      by_cases ha : a = 0
      · rw [if_pos ha]
        exact Apart.head (u8_pos hb) (255 :: (esc s ++ [0, 1])) (esc t ++ [0, 1])
      · rw [if_neg ha]
        exact Apart.head h (esc s ++ [0, 1]) (esc t ++ [0, 1])
    · rw [esc_cons, esc_cons, List.append_assoc, List.append_assoc]
      exact (esc_apart s t h).pre _

/-! ### parts, and lists of them -/
def bless (a b : ByteArray) : Bool := Op.bytesLess a.data.toList b.data.toList
theorem bless_total {a b : ByteArray} (h : bless a b = false) (k : bless b a = false) : a = b := by
  have := bl_total _ _ h k
  cases a; cases b
  congr 1
  exact Array.ext' this
/-- Is a part ahead of another one? -/
def aheadP (a b : Pt) : Bool := if a.text != b.text then b.text else if a.text then bless a.s b.s else decide (a.n.toNat < b.n.toNat)
theorem ahead_apart {a b : Pt} (h : aheadP a b = true) : Apart (bytes a) (bytes b) := by
  obtain ⟨t, s, n⟩ := a
  obtain ⟨u, v, m⟩ := b
  cases t <;> cases u
  · have h : n.toNat < m.toNat := of_decide_eq_true h
    exact (row_apart h m.toNat_lt).cons 1
  · exact Apart.head (by decide) _ _
  · cases h
  · have h : bless s v = true := h
    exact (esc_apart _ _ h).cons 2
theorem ahead_same {a b : Pt} (h : aheadP a b = false) (k : aheadP b a = false) : plainP a = plainP b := by
  obtain ⟨t, s, n⟩ := a
  obtain ⟨u, v, m⟩ := b
  cases t <;> cases u
  · have h : ¬ n.toNat < m.toNat := of_decide_eq_false h
    have k : ¬ m.toNat < n.toNat := of_decide_eq_false k
    have e : n = m := UInt64.toNat_inj.1 (by omega)
    rw [e]; rfl
  · cases h
  · cases k
  · have h : bless s v = false := h
    have k : bless v s = false := k
    rw [bless_total h k]; rfl
theorem ahead_irrefl (a : Pt) : aheadP a a = false := by
  obtain ⟨t, s, n⟩ := a
  cases t
  · show decide (n.toNat < n.toNat) = false
    simp
  · exact bl_irrefl _
/-- How two lists stand: -1, 0, 1. -/
def cmpL : List Pt → List Pt → Int
  | [], [] => 0
  | [], _ :: _ => -1
  | _ :: _, [] => 1
  | a :: x, b :: y => if aheadP a b then -1 else if aheadP b a then 1 else cmpL x y
/-- What a key tells of two lists. -/
theorem key_cases : ∀ (x y : List Pt), (cmpL x y = -1 ∧ (Apart (key x) (key y) ∨ ∃ c r, y.map plainP = x.map plainP ++ c :: r)) ∨
    (cmpL x y = 1 ∧ (Apart (key y) (key x) ∨ ∃ c r, x.map plainP = y.map plainP ++ c :: r)) ∨ (cmpL x y = 0 ∧ x.map plainP = y.map plainP)
  | [], [] => Or.inr (Or.inr ⟨rfl, rfl⟩)
  | [], b :: y => Or.inl ⟨rfl, Or.inr ⟨_, _, rfl⟩⟩
  | a :: x, [] => Or.inr (Or.inl ⟨rfl, Or.inr ⟨_, _, rfl⟩⟩)
  | a :: x, b :: y => by
    by_cases h : aheadP a b = true
    · refine Or.inl ⟨by rw [cmpL, if_pos h], Or.inl ?_⟩
      exact (ahead_apart h).app _ _
    · by_cases k : aheadP b a = true
      · refine Or.inr (Or.inl ⟨by rw [cmpL, if_neg h, if_pos k], Or.inl ?_⟩)
        exact (ahead_apart k).app _ _
      · have he := ahead_same (by simpa using h) (by simpa using k)
        have hb : bytes a = bytes b := by rw [← bytes_plain a, he, bytes_plain]
        have hc : cmpL (a :: x) (b :: y) = cmpL x y := by rw [cmpL, if_neg h, if_neg k]
        rw [hc]
        rcases key_cases x y with ⟨h1, h2⟩ | ⟨h1, h2⟩ | ⟨h1, h2⟩
        · refine Or.inl ⟨h1, ?_⟩
          rcases h2 with h2 | ⟨c, r, h2⟩
          · refine Or.inl ?_
            rw [key_cons, key_cons, hb]
            exact h2.pre _
          · exact Or.inr ⟨c, r, by rw [List.map_cons, List.map_cons, h2, he]; rfl⟩
        · refine Or.inr (Or.inl ⟨h1, ?_⟩)
          rcases h2 with h2 | ⟨c, r, h2⟩
          · refine Or.inl ?_
            rw [key_cons, key_cons, hb]
            exact h2.pre _
          · exact Or.inr ⟨c, r, by rw [List.map_cons, List.map_cons, h2, he]; rfl⟩
        · exact Or.inr (Or.inr ⟨h1, by rw [List.map_cons, List.map_cons, h2, he]⟩)
theorem key_longer {x y : List Pt} {c : Pt} {r : List Pt} (h : y.map plainP = x.map plainP ++ c :: r) : ∃ d s, key y = key x ++ d :: s ∧ d < 3 := by
  have h1 : key y = key x ++ key (c :: r) := by rw [← key_plain y, h, key_append, key_plain]
  rw [h1, key_cons]
  unfold bytes
  split
  · exact ⟨2, _, rfl, by decide⟩
  · exact ⟨1, _, rfl, by decide⟩
/-- Keys stand as their lists do. -/
theorem key_less (x y : List Pt) : Op.bytesLess (key x) (key y) = decide (cmpL x y = -1) := by
  rcases key_cases x y with ⟨h1, h2⟩ | ⟨h1, h2⟩ | ⟨h1, h2⟩
  · rw [h1]
    rcases h2 with h2 | ⟨c, r, h2⟩
    · rw [h2.less]; rfl
    · obtain ⟨d, s, e, -⟩ := key_longer h2
      rw [e, bl_longer]; rfl
  · rw [h1]
    rcases h2 with h2 | ⟨c, r, h2⟩
    · rw [bl_asymm h2.less]; rfl
    · obtain ⟨d, s, e, -⟩ := key_longer h2
      rw [e, bl_asymm (bl_longer _ _ _)]; rfl
  · rw [h1, ← key_plain x, h2, key_plain, bl_irrefl]; rfl
theorem cmp_flip : ∀ (x y : List Pt), cmpL y x = - cmpL x y
  | [], [] => rfl
  | [], _ :: _ => rfl
  | _ :: _, [] => rfl
  | a :: x, b :: y => by
    have ih := cmp_flip x y
    rw [cmpL, cmpL]
    by_cases h : aheadP a b = true
    · have k : ¬ aheadP b a = true := fun k => by
        have h1 := bl_asymm (ahead_apart h).less
        rw [(ahead_apart k).less] at h1; cases h1
      simp [h, k]
    · by_cases k : aheadP b a = true
      · simp [h, k]
      · simp [h, k, ih]
theorem cmp_one (x y : List Pt) : cmpL x y = -1 ∨ cmpL x y = 0 ∨ cmpL x y = 1 := by
  rcases key_cases x y with ⟨h, -⟩ | ⟨h, -⟩ | ⟨h, -⟩
  · exact Or.inl h
  · exact Or.inr (Or.inr h)
  · exact Or.inr (Or.inl h)
/-- A key is the beginning of another one just if its list is. -/
theorem key_begins (x y : List Pt) : (key x).isPrefixOf (key y) = true ↔ ∃ r, y.map plainP = x.map plainP ++ r := by
  constructor
  · intro h
    rcases key_cases x y with ⟨-, h2⟩ | ⟨-, h2⟩ | ⟨-, h2⟩
    · rcases h2 with h2 | ⟨c, r, h2⟩
      · rw [h2.prefix_not.1] at h; cases h
      · exact ⟨_, h2⟩
    · rcases h2 with h2 | ⟨c, r, h2⟩
      · rw [h2.prefix_not.2] at h; cases h
      · obtain ⟨d, s, e, -⟩ := key_longer h2
        rw [List.isPrefixOf_iff_prefix] at h
        have := h.length_le
        rw [e, List.length_append, List.length_cons] at this
        omega
    · exact ⟨[], by rw [List.append_nil, h2]⟩
  · rintro ⟨r, h⟩
    rw [List.isPrefixOf_iff_prefix, ← key_plain y, h, key_append, key_plain]
    exact List.prefix_append _ _
/-- The range of those that begin with a list. -/
theorem key_range (x y : List Pt) : ((!Op.bytesLess (key y) (key x)) && Op.bytesLess (key y) (key x ++ [3])) = (key x).isPrefixOf (key y) := by
  rcases key_cases x y with ⟨h1, h2⟩ | ⟨h1, h2⟩ | ⟨h1, h2⟩
  · rcases h2 with h2 | ⟨c, r, h2⟩
    · rw [h2.prefix_not.1, bl_asymm h2.less]
      have := (h2.app [3] []).less
      rw [List.append_nil] at this
      rw [bl_asymm this]; rfl
    · obtain ⟨d, s, e, hd⟩ := key_longer h2
      have h3 : (key x).isPrefixOf (key y) = true := (key_begins x y).2 ⟨_, h2⟩
      rw [h3, e, bl_asymm (bl_longer _ _ _), bl_pre]
      simp [Op.bytesLess, hd]
  · rcases h2 with h2 | ⟨c, r, h2⟩
    · rw [h2.prefix_not.2, h2.less]; rfl
    · obtain ⟨d, s, e, hd⟩ := key_longer h2
      have h3 : (key x).isPrefixOf (key y) = false := by
        rw [Bool.eq_false_iff]
        intro h
        rw [List.isPrefixOf_iff_prefix] at h
        have := h.length_le
        rw [e, List.length_append, List.length_cons] at this
        omega
      rw [h3, e, bl_longer]; rfl
  · have e : key y = key x := by rw [← key_plain y, ← h2, key_plain]
    have h3 : (key x).isPrefixOf (key x) = true := by rw [List.isPrefixOf_iff_prefix]; exact List.prefix_refl _
    rw [e, h3, bl_irrefl, bl_longer (key x) 3 []]; rfl
end Go.Cph.Ok
