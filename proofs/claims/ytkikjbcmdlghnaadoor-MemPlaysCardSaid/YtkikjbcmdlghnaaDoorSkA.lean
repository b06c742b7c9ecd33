/- A skip list in memory: what its blocks hold. Of whatever program: TL, TN, TI: the types of a list, a node, an int. -/
import Derived.Test.YtkikjbcmdlghnaaDoorLib
import Derived.OneCell
import Derived.Laws.OwnMore
set_option linter.unusedVariables false
set_option linter.unusedSimpArgs false
namespace Go.Cph.Skip
open Go.RowKit Go.Cph

/-- A node: its key, its value, its height, the block of its tower, that block's capacity. -/
structure Nd (α : Type) where
  key : ByteArray
  val : α
  ht : Nat
  tb : Nat
  tc : Nat

def Nd.tower {α} (x : Nd α) : Value := .slice (some ⟨x.tb, 0, none⟩) x.ht x.tc
def Nd.cells {α} (enc : α → Value) (x : Nd α) : List Value := [.string x.key, enc x.val, x.tower]
def nodeCells {α} (enc : α → Value) (nodes : List (Nd α)) : List Value := nodes.flatMap (Nd.cells enc)
def headCells (nx : Nat → Nat → Nat) (v : Value) : Array Value := (((List.range 12).map fun l => Value.int .i64 (nx 0 l)) ++ [v]).toArray
def towerCells (nx : Nat → Nat → Nat) (n ht : Nat) : List Value := (List.range ht).map fun l => Value.int .i64 (nx n l)

theorem nodeCells_length {α} (enc : α → Value) (nodes : List (Nd α)) : (nodeCells enc nodes).length = nodes.length * 3 := by
  induction nodes with
  | nil => rfl
  | cons x l ih => simp only [nodeCells, List.flatMap_cons, List.length_append, List.length_cons] at ih ⊢; rw [ih]; simp [Nd.cells]; omega
theorem nodeCells_at {α} (enc : α → Value) : ∀ (nodes : List (Nd α)) (i : Nat) (h : i < nodes.length) (j : Nat), j < 3 → (nodeCells enc nodes)[i * 3 + j]? = (Nd.cells enc nodes[i])[j]?
  | [], i, h, _, _ => absurd h (by simp)
  | x :: l, 0, h, j, hj => by
    simp only [nodeCells, List.flatMap_cons]
    rw [List.getElem?_append_left (by simp [Nd.cells]; omega)]
    simp
  | x :: l, i + 1, h, j, hj => by
    have ih := nodeCells_at enc l i (by simpa using h) j hj
    simp only [nodeCells, List.flatMap_cons] at ih ⊢
    rw [List.getElem?_append_right (by simp [Nd.cells]; omega)]
    simp only [List.getElem_cons_succ]
    rw [← ih]
    congr 1
    simp [Nd.cells]; omega
theorem nodeCells_snoc {α} (enc : α → Value) (nodes : List (Nd α)) (x : Nd α) : nodeCells enc (nodes ++ [x]) = nodeCells enc nodes ++ Nd.cells enc x := by
  simp [nodeCells]

theorem headCells_at (nx : Nat → Nat → Nat) (v : Value) (l : Nat) (h : l < 12) : (headCells nx v)[l]? = some (.int .i64 (nx 0 l)) := by
  simp only [headCells, List.getElem?_toArray]
  rw [List.getElem?_append_left (by simpa using h)]
  simp [h]
theorem headCells_v (nx : Nat → Nat → Nat) (v : Value) : (headCells nx v)[12]? = some v := by
  simp [headCells]
theorem headCells_set (nx : Nat → Nat → Nat) (v : Value) (l to : Nat) (h : l < 12) :
    (headCells nx v).setIfInBounds l (.int .i64 to) = headCells (fun n k => if n = 0 ∧ k = l then to else nx n k) v := by
  apply Array.ext'
  simp only [headCells, List.setIfInBounds_toArray]
  apply List.ext_getElem?
  intro i
  rw [List.getElem?_set]
  by_cases hi : i < 12
  · rw [List.getElem?_append_left (by simpa using hi), List.getElem?_append_left (by simpa using hi)]
    by_cases hil : l = i
    · subst hil; simp [h]; omega
    · rw [if_neg hil]; simp [hi, Ne.symm hil]
  · rw [if_neg (by omega), List.getElem?_append_right (by simp; omega), List.getElem?_append_right (by simp; omega)]
    simp
theorem headCells_setv (nx : Nat → Nat → Nat) (v v' : Value) : (headCells nx v).setIfInBounds 12 v' = headCells nx v' := by
  apply Array.ext'
  simp only [headCells, List.setIfInBounds_toArray]
  rw [List.set_append_right _ _ (by simp)]
  simp
theorem towerCells_set (nx : Nat → Nat → Nat) (n ht l to : Nat) (h : l < ht) :
    (towerCells nx n ht).set l (.int .i64 to) = towerCells (fun m k => if m = n ∧ k = l then to else nx m k) n ht := by
  apply List.ext_getElem?
  intro i
  rw [List.getElem?_set]
  simp only [towerCells, List.getElem?_map, List.length_map, List.length_range]
  by_cases hil : l = i
  · subst hil; simp [h]
  · rw [if_neg hil]
    by_cases hi : i < ht
    · simp [hi, Ne.symm hil]
    · simp [hi]

/-- What a list's blocks hold: nx n l: the node behind node n (0: the head) on level l. -/
structure At {α} (TL TN TI : TypeId) (enc : α → Value) (w : World) (p : Nat) (nx : Nat → Nat → Nat) (nodes : List (Nd α)) (v : Value) : Prop where
  head : w.heap[p]? = some (.cells (headCells nx v) TL (0, 0))
  row : w.ownsRow 0 TN 3 v nodes.length (nodeCells enc nodes)
  towers : ∀ i (h : i < nodes.length), w.ownsRow 0 TI 1 nodes[i].tower nodes[i].ht (towerCells nx (i + 1) nodes[i].ht)
  apart : ∀ i j (hi : i < nodes.length) (hj : j < nodes.length), nodes[i].tb = nodes[j].tb → i = j

section
variable {α : Type} {TL TN TI : TypeId} {enc : α → Value} {w : World} {p : Nat} {nx : Nat → Nat → Nat} {nodes : List (Nd α)} {v : Value}

/-- The list's blocks. -/
def foot (p : Nat) (v : Value) (nodes : List (Nd α)) (k : Nat) : Prop := k = p ∨ v.ownBlock = some k ∨ ∃ x ∈ nodes, x.tb = k

theorem cellAt' {w : World} {base : Nat} {e : TypeId} {size g m cap n : Nat} {xs : List Value} (h : w.ownsRow base e size (.slice (some ⟨g, 0, none⟩) m cap) n xs) (j : Nat) (hj : j < n * size) : w.cell? ⟨g, j, none⟩ = xs[j]? := by
  obtain ⟨g', cap', hv, _, _, _, hc, _⟩ := owns_shape h (by rcases Nat.eq_zero_or_pos n with rfl | h0 <;> omega)
  cases hv
  exact hc j hj
theorem row_kept {w w' : World} {base : Nat} {e : TypeId} {size : Nat} {v : Value} {n : Nat} {xs : List Value} (h : w.ownsRow base e size v n xs)
    (hk : ∀ k, v.ownBlock = some k → w'.heap[k]? = w.heap[k]?) : w'.ownsRow base e size v n xs := by
  obtain ⟨h1, h2⟩ := h
  refine ⟨h1, ?_⟩
  rcases h2 with h2 | ⟨g, cap, cur, rfl, hb, hg, r⟩
  · exact .inl h2
  · exact .inr ⟨g, cap, cur, rfl, hb, by rw [hk g rfl]; exact hg, r⟩

theorem At.same (h : At TL TN TI enc w p nx nodes v) {w' : World} (hk : ∀ k, foot p v nodes k → w'.heap[k]? = w.heap[k]?) : At TL TN TI enc w' p nx nodes v :=
  ⟨by rw [hk p (.inl rfl)]; exact h.head, row_kept h.row fun k e => hk k (.inr (.inl e)),
    fun i hi => row_kept (h.towers i hi) fun k e => hk k (.inr (.inr ⟨_, List.getElem_mem hi, by simpa [Nd.tower, Value.ownBlock] using e⟩)), h.apart⟩
theorem At.foot_lt (h : At TL TN TI enc w p nx nodes v) {k : Nat} (hk : foot p v nodes k) : k < w.heap.size := by
  rcases hk with rfl | hk | ⟨x, hx, rfl⟩
  · exact blk_lt h.head
  · exact (h.row.lt k hk).2
  · obtain ⟨i, hi, rfl⟩ := List.getElem_of_mem hx
    exact ((h.towers i hi).lt _ rfl).2
theorem At.kept (h : At TL TN TI enc w p nx nodes v) {w' : World} (hb : Below w.heap.size w w') : At TL TN TI enc w' p nx nodes v :=
  h.same fun k hk => hb.block k (h.foot_lt hk)
/-- Links that the list has not may be any. -/
theorem At.congr (h : At TL TN TI enc w p nx nodes v) {nx' : Nat → Nat → Nat} (h0 : ∀ l, l < 12 → nx' 0 l = nx 0 l) (h1 : ∀ i (hi : i < nodes.length) l, l < nodes[i].ht → nx' (i + 1) l = nx (i + 1) l) :
    At TL TN TI enc w p nx' nodes v := by
  refine ⟨?_, h.row, fun i hi => ?_, h.apart⟩
  · have e : headCells nx' v = headCells nx v := by
      unfold headCells
      congr 2
      exact List.map_congr_left fun l hl => by rw [h0 l (List.mem_range.1 hl)]
    rw [e]; exact h.head
  · have e : towerCells nx' (i + 1) nodes[i].ht = towerCells nx (i + 1) nodes[i].ht := by
      unfold towerCells
      exact List.map_congr_left fun l hl => by rw [h1 i hi l (List.mem_range.1 hl)]
    rw [e]; exact h.towers i hi

/-! ### what the walk reads -/
theorem At.headCell (h : At TL TN TI enc w p nx nodes v) (l : Nat) (hl : l < 12) : w.cell? ⟨p, l, none⟩ = some (.int .i64 (nx 0 l)) := by
  rw [blk_cell h.head, headCells_at _ _ _ hl]
theorem At.rowCell (h : At TL TN TI enc w p nx nodes v) : w.cell? ⟨p, 12, none⟩ = some v := by
  rw [blk_cell h.head, headCells_v]
theorem At.free (h : At TL TN TI enc w p nx nodes v) (j : Nat) : w.frozen? ⟨p, j, none⟩ = false := by
  rw [blk_frozen h.head]; simp
theorem At.shape (h : At TL TN TI enc w p nx nodes v) (h0 : 0 < nodes.length) : ∃ g cap, v = .slice (some ⟨g, 0, none⟩) nodes.length cap ∧ nodes.length ≤ cap := by
  obtain ⟨g, cap, hv, _, _, hc, _⟩ := owns_shape h.row h0
  exact ⟨g, cap, hv, hc⟩
theorem At.len (h : At TL TN TI enc w p nx nodes v) : nodes.length ≤ maxLen := by
  obtain ⟨_, h2⟩ := h.row
  rcases h2 with ⟨_, h2⟩ | ⟨g, cap, cur, _, _, _, h3, h4, _⟩
  · omega
  · exact Nat.le_trans h3 h4
theorem At.htle (h : At TL TN TI enc w p nx nodes v) (i : Nat) (hi : i < nodes.length) : nodes[i].ht ≤ nodes[i].tc := by
  obtain ⟨_, h2⟩ := h.towers i hi
  rcases h2 with ⟨h2, _⟩ | ⟨g, cap, cur, h2, _, _, h3, h4, _⟩
  · simp [Nd.tower] at h2
  · simp [Nd.tower] at h2; omega
theorem At.nil (h : At TL TN TI enc w p nx [] v) : ∃ ao cap, v = .slice ao 0 cap := by
  obtain ⟨_, h2⟩ := h.row
  rcases h2 with ⟨h2, _⟩ | ⟨g, cap, cur, h2, _⟩
  · exact ⟨_, _, h2⟩
  · exact ⟨_, _, h2⟩
theorem At.slice (h : At TL TN TI enc w p nx nodes v) : ∃ ao cap, v = .slice ao nodes.length cap := by
  obtain ⟨_, h2⟩ := h.row
  rcases h2 with ⟨h2, h3⟩ | ⟨g, cap, cur, h2, _⟩
  · exact ⟨_, _, by rw [h2, h3]⟩
  · exact ⟨_, _, h2⟩
theorem At.nodeCell {g cap n : Nat} (h : At TL TN TI enc w p nx nodes (.slice (some ⟨g, 0, none⟩) n cap)) (i : Nat) (hi : i < nodes.length) :
    w.cell? ⟨g, i * 3, none⟩ = some (.string nodes[i].key) ∧ w.cell? ⟨g, i * 3 + 1, none⟩ = some (enc nodes[i].val) ∧ w.cell? ⟨g, i * 3 + 2, none⟩ = some nodes[i].tower := by
  have hc : ∀ j, j < 3 → w.cell? ⟨g, i * 3 + j, none⟩ = (Nd.cells enc nodes[i])[j]? := fun j hj => by
    have h1 : w.cell? ⟨g, i * 3 + j, none⟩ = (nodeCells enc nodes)[i * 3 + j]? := cellAt' h.row (i * 3 + j) (by omega)
    rw [h1, nodeCells_at enc nodes i hi j hj]
  exact ⟨by simpa [Nd.cells] using hc 0 (by omega), by simpa [Nd.cells] using hc 1 (by omega), by simpa [Nd.cells] using hc 2 (by omega)⟩
theorem At.towerCell (h : At TL TN TI enc w p nx nodes v) (i : Nat) (hi : i < nodes.length) (l : Nat) (hl : l < nodes[i].ht) : w.cell? ⟨nodes[i].tb, l, none⟩ = some (.int .i64 (nx (i + 1) l)) := by
  have h1 := (h.towers i hi).cellAt l (by simpa using hl)
  rw [h1]
  simp [towerCells, hl]
theorem At.towerFree (h : At TL TN TI enc w p nx nodes v) (i : Nat) (hi : i < nodes.length) (l : Nat) : w.frozen? ⟨nodes[i].tb, l, none⟩ = false := (h.towers i hi).frozenAt l
end
end Go.Cph.Skip
