/- A skip list of entries in memory: what its blocks hold (a node has six cells). Of whatever program. -/
import Derived.Test.YtkikjbcmdlghnaaDoorSkA
set_option linter.unusedVariables false
set_option linter.unusedSimpArgs false
namespace Go.Cph.Skm
open Go.RowKit Go.Cph Go.Cph.Skip
/-- An entry: key, value, number, gone. -/
abbrev Et := ByteArray × ByteArray × UInt64 × Bool
abbrev encE (e : Et) : List Value := [.string e.1, .string e.2.1, .int .u64 (e.2.2.1.toNat : Int), .bool e.2.2.2]
def cells6 (x : Nd Et) : List Value := [.string x.key, .string x.val.1, .string x.val.2.1, .int .u64 (x.val.2.2.1.toNat : Int), .bool x.val.2.2.2, x.tower]
def nodeCells (nodes : List (Nd Et)) : List Value := nodes.flatMap cells6
theorem nodeCells_length (nodes : List (Nd Et)) : (nodeCells nodes).length = nodes.length * 6 := by
  induction nodes with
  | nil => rfl
  | cons x l ih => simp only [nodeCells, List.flatMap_cons, List.length_append, List.length_cons] at ih ⊢; rw [ih]; simp [cells6]; omega
theorem nodeCells_at : ∀ (nodes : List (Nd Et)) (i : Nat) (h : i < nodes.length) (j : Nat), j < 6 → (nodeCells nodes)[i * 6 + j]? = (cells6 nodes[i])[j]?
  | [], i, h, _, _ => absurd h (by simp)
  | x :: l, 0, h, j, hj => by
    simp only [nodeCells, List.flatMap_cons]
    rw [List.getElem?_append_left (by simp [cells6]; omega)]
    simp
  | x :: l, i + 1, h, j, hj => by
    have ih := nodeCells_at l i (by simpa using h) j hj
    simp only [nodeCells, List.flatMap_cons] at ih ⊢
    rw [List.getElem?_append_right (by simp [cells6]; omega)]
    simp only [List.getElem_cons_succ]
    rw [← ih]
    congr 1
    simp [cells6]; omega
theorem nodeCells_snoc (nodes : List (Nd Et)) (x : Nd Et) : nodeCells (nodes ++ [x]) = nodeCells nodes ++ cells6 x := by
  simp [nodeCells]

/-- What a list's blocks hold: nx n l: the node behind node n (0: the head) on level l. -/
structure At (TL TN TI : TypeId) (w : World) (p : Nat) (nx : Nat → Nat → Nat) (nodes : List (Nd Et)) (v : Value) : Prop where
  head : w.heap[p]? = some (.cells (headCells nx v) TL (0, 0))
  row : w.ownsRow 0 TN 6 v nodes.length (nodeCells nodes)
  towers : ∀ i (h : i < nodes.length), w.ownsRow 0 TI 1 nodes[i].tower nodes[i].ht (towerCells nx (i + 1) nodes[i].ht)
  apart : ∀ i j (hi : i < nodes.length) (hj : j < nodes.length), nodes[i].tb = nodes[j].tb → i = j

section
variable {TL TN TI : TypeId} {w : World} {p : Nat} {nx : Nat → Nat → Nat} {nodes : List (Nd Et)} {v : Value}

theorem At.same (h : At TL TN TI w p nx nodes v) {w' : World} (hk : ∀ k, foot p v nodes k → w'.heap[k]? = w.heap[k]?) : At TL TN TI w' p nx nodes v :=
  ⟨by rw [hk p (.inl rfl)]; exact h.head, row_kept h.row fun k e => hk k (.inr (.inl e)),
    fun i hi => row_kept (h.towers i hi) fun k e => hk k (.inr (.inr ⟨_, List.getElem_mem hi, by simpa [Nd.tower, Value.ownBlock] using e⟩)), h.apart⟩
theorem At.foot_lt (h : At TL TN TI w p nx nodes v) {k : Nat} (hk : foot p v nodes k) : k < w.heap.size := by
  rcases hk with rfl | hk | ⟨x, hx, rfl⟩
  · exact blk_lt h.head
  · exact (h.row.lt k hk).2
  · obtain ⟨i, hi, rfl⟩ := List.getElem_of_mem hx
    exact ((h.towers i hi).lt _ rfl).2
theorem At.kept (h : At TL TN TI w p nx nodes v) {w' : World} (hb : Below w.heap.size w w') : At TL TN TI w' p nx nodes v :=
  h.same fun k hk => hb.block k (h.foot_lt hk)
/-- Links that the list has not may be any. -/
theorem At.congr (h : At TL TN TI w p nx nodes v) {nx' : Nat → Nat → Nat} (h0 : ∀ l, l < 12 → nx' 0 l = nx 0 l) (h1 : ∀ i (hi : i < nodes.length) l, l < nodes[i].ht → nx' (i + 1) l = nx (i + 1) l) :
    At TL TN TI w p nx' nodes v := by
  refine ⟨?_, h.row, fun i hi => ?_, h.apart⟩
  · have e : headCells nx' v = headCells nx v := by
      unfold headCells
      congr 2
      exact List.map_congr_left fun l hl => by rw [h0 l (List.mem_range.1 hl)]
    rw [e]; exact h.head
  · have e : towerCells nx' (i + 1) nodes[i].ht = towerCells nx (i + 1) nodes[i].ht := by
      unfold towerCells
      exact List.map_congr_left fun l hl => by rw [h1 i hi l (List.mem_range.1 hl)]
    rw [e]; exact h.towers i hi

/-! ### what the walk reads -/
theorem At.headCell (h : At TL TN TI w p nx nodes v) (l : Nat) (hl : l < 12) : w.cell? ⟨p, l, none⟩ = some (.int .i64 (nx 0 l)) := by
  rw [blk_cell h.head, headCells_at _ _ _ hl]
theorem At.rowCell (h : At TL TN TI w p nx nodes v) : w.cell? ⟨p, 12, none⟩ = some v := by
  rw [blk_cell h.head, headCells_v]
theorem At.free (h : At TL TN TI w p nx nodes v) (j : Nat) : w.frozen? ⟨p, j, none⟩ = false := by
  rw [blk_frozen h.head]; simp
theorem At.shape (h : At TL TN TI w p nx nodes v) (h0 : 0 < nodes.length) : ∃ g cap, v = .slice (some ⟨g, 0, none⟩) nodes.length cap ∧ nodes.length ≤ cap := by
  obtain ⟨g, cap, hv, _, _, hc, _⟩ := owns_shape h.row h0
  exact ⟨g, cap, hv, hc⟩
theorem At.len (h : At TL TN TI w p nx nodes v) : nodes.length ≤ maxLen := by
  obtain ⟨_, h2⟩ := h.row
  rcases h2 with ⟨_, h2⟩ | ⟨g, cap, cur, _, _, _, h3, h4, _⟩
  · omega
  · exact Nat.le_trans h3 h4
theorem At.htle (h : At TL TN TI w p nx nodes v) (i : Nat) (hi : i < nodes.length) : nodes[i].ht ≤ nodes[i].tc := by
  obtain ⟨_, h2⟩ := h.towers i hi
  rcases h2 with ⟨h2, _⟩ | ⟨g, cap, cur, h2, _, _, h3, h4, _⟩
  · simp [Nd.tower] at h2
  · simp [Nd.tower] at h2; omega
theorem At.nil (h : At TL TN TI w p nx [] v) : ∃ ao cap, v = .slice ao 0 cap := by
  obtain ⟨_, h2⟩ := h.row
  rcases h2 with ⟨h2, _⟩ | ⟨g, cap, cur, h2, _⟩
  · exact ⟨_, _, h2⟩
  · exact ⟨_, _, h2⟩
theorem At.slice (h : At TL TN TI w p nx nodes v) : ∃ ao cap, v = .slice ao nodes.length cap := by
  obtain ⟨_, h2⟩ := h.row
  rcases h2 with ⟨h2, h3⟩ | ⟨g, cap, cur, h2, _⟩
  · exact ⟨_, _, by rw [h2, h3]⟩
  · exact ⟨_, _, h2⟩
theorem At.nodeCell {g cap n : Nat} (h : At TL TN TI w p nx nodes (.slice (some ⟨g, 0, none⟩) n cap)) (i : Nat) (hi : i < nodes.length) (j : Nat) (hj : j < 6) :
    w.cell? ⟨g, i * 6 + j, none⟩ = (cells6 nodes[i])[j]? := by
  have h1 : w.cell? ⟨g, i * 6 + j, none⟩ = (nodeCells nodes)[i * 6 + j]? := cellAt' h.row (i * 6 + j) (by omega)
  rw [h1, nodeCells_at nodes i hi j hj]
theorem At.towerCell (h : At TL TN TI w p nx nodes v) (i : Nat) (hi : i < nodes.length) (l : Nat) (hl : l < nodes[i].ht) : w.cell? ⟨nodes[i].tb, l, none⟩ = some (.int .i64 (nx (i + 1) l)) := by
  have h1 := (h.towers i hi).cellAt l (by simpa using hl)
  rw [h1]
  simp [towerCells, hl]
theorem At.towerFree (h : At TL TN TI w p nx nodes v) (i : Nat) (hi : i < nodes.length) (l : Nat) : w.frozen? ⟨nodes[i].tb, l, none⟩ = false := (h.towers i hi).frozenAt l
end
end Go.Cph.Skm
