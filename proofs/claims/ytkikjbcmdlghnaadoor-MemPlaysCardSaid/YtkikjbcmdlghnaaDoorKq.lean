/- What Set does to a skip list of entries: plain laws on blocks. No program here. -/
import Derived.Test.YtkikjbcmdlghnaaDoorKa
import Derived.Test.YtkikjbcmdlghnaaDoorSkQ
set_option linter.unusedVariables false
set_option linter.unusedSimpArgs false
namespace Go.Cph.Skm
open Go.RowKit Go.Cph Go.Cph.Skip
section
variable {TL TN TI : TypeId} {w : World} {p : Nat} {nx : Nat → Nat → Nat} {nodes : List (Nd Et)} {v : Value}

/-- Blocks of unlike element types are unlike. -/
theorem At.p_ne_row (h : At TL TN TI w p nx nodes v) (hne : TL ≠ TN) : v.ownBlock ≠ some p := fun e => by
  obtain ⟨cur, hc⟩ := row_block h.row e
  rw [h.head] at hc
  simp only [Option.some.injEq, Obj.cells.injEq] at hc
  exact hne hc.2.1
theorem At.p_ne_tower (h : At TL TN TI w p nx nodes v) (hne : TL ≠ TI) (i : Nat) (hi : i < nodes.length) : nodes[i].tb ≠ p := fun e => by
  obtain ⟨cur, hc⟩ := row_block (h.towers i hi) (k := nodes[i].tb) rfl
  rw [e, h.head] at hc
  simp only [Option.some.injEq, Obj.cells.injEq] at hc
  exact hne hc.2.1
theorem At.row_ne_tower (h : At TL TN TI w p nx nodes v) (hne : TN ≠ TI) (i : Nat) (hi : i < nodes.length) : v.ownBlock ≠ some nodes[i].tb := fun e => by
  obtain ⟨cur, hc⟩ := row_block h.row e
  obtain ⟨cur', hc'⟩ := row_block (h.towers i hi) (k := nodes[i].tb) rfl
  rw [hc] at hc'
  simp only [Option.some.injEq, Obj.cells.injEq] at hc'
  exact hne hc'.2.1

theorem At.link0 (h : At TL TN TI w p nx nodes v) (h1 : TL ≠ TN) (h2 : TL ≠ TI) (l to : Nat) (hl : l < 12) : At TL TN TI (w.setCell ⟨p, l, none⟩ (.int .i64 to)) p (put nx 0 l to) nodes v := by
  refine ⟨?_, ownsRow_setCell_other h.row (h.p_ne_row h1) _, fun i hi => ?_, h.apart⟩
  · have := blk_set h.head l (.int .i64 to)
    rw [headCells_set nx v l to hl] at this
    exact this
  · have := ownsRow_setCell_other (h.towers i hi) (a := ⟨p, l, none⟩) (by simp only [Nd.tower, Value.ownBlock, ne_eq, Option.some.injEq]; exact h.p_ne_tower h2 i hi) (.int .i64 to)
    have e : towerCells (put nx 0 l to) (i + 1) nodes[i].ht = towerCells nx (i + 1) nodes[i].ht := by simp [towerCells, put]
    rw [e]; exact this
theorem At.link1 (h : At TL TN TI w p nx nodes v) (h2 : TL ≠ TI) (h3 : TN ≠ TI) (i : Nat) (hi : i < nodes.length) (l to : Nat) (hl : l < nodes[i].ht) :
    At TL TN TI (w.setCell ⟨nodes[i].tb, l, none⟩ (.int .i64 to)) p (put nx (i + 1) l to) nodes v := by
  refine ⟨?_, ownsRow_setCell_other h.row (h.row_ne_tower h3 i hi) _, fun j hj => ?_, h.apart⟩
  · rw [blk_set_other (by simpa using (h.p_ne_tower h2 i hi).symm)]
    have e : headCells (put nx (i + 1) l to) v = headCells nx v := by simp [headCells, put]
    rw [e]; exact h.head
  · by_cases he : j = i
    · subst he
      have hs := (h.towers j hj).stored l (.int .i64 to)
      rw [towerCells_set nx (j + 1) _ l to hl] at hs
      exact hs.1
    · have := ownsRow_setCell_other (h.towers j hj) (a := ⟨nodes[i].tb, l, none⟩) (by simp only [Nd.tower, Value.ownBlock, ne_eq, Option.some.injEq]; exact fun e => he (h.apart j i hj hi e)) (.int .i64 to)
      have e : towerCells (put nx (i + 1) l to) (j + 1) nodes[j].ht = towerCells nx (j + 1) nodes[j].ht := by
        simp only [towerCells, put]
        exact List.map_congr_left fun a _ => by rw [if_neg (by omega)]
      rw [e]; exact this

/-- A node comes behind the others. -/
theorem At.push (h : At TL TN TI w p nx nodes v) (h1 : TL ≠ TN) (h2 : TL ≠ TI) (h3 : TN ≠ TI) {w4 : World} {nx' : Nat → Nat → Nat} {nd : Nd Et} {v' : Value} {B : Nat}
    (hB : ∀ k, foot p v nodes k → k < B) (hold : ∀ n l, n ≤ nodes.length → nx' n l = nx n l)
    (ht : w4.ownsRow B TI 1 nd.tower nd.ht (towerCells nx' (nodes.length + 1) nd.ht))
    (hk : ∀ k, k < w.heap.size → v.ownBlock ≠ some k → w4.heap[k]? = w.heap[k]?)
    (hrow : w4.ownsRow 0 TN 6 v' (nodes.length + 1) (nodeCells nodes ++ cells6 nd)) :
    At TL TN TI (w4.setCell ⟨p, 12, none⟩ v') p nx' (nodes ++ [nd]) v' := by
  have hp4 : w4.heap[p]? = some (.cells (headCells nx v) TL (0, 0)) := by rw [hk p (blk_lt h.head) (h.p_ne_row h1)]; exact h.head
  have hpv : v'.ownBlock ≠ some p := fun e => by
    obtain ⟨cur, hc⟩ := row_block hrow e
    rw [hp4] at hc
    simp only [Option.some.injEq, Obj.cells.injEq] at hc
    exact h1 hc.2.1
  have hpt : nd.tb ≠ p := fun e => by
    have := (ht.lt nd.tb rfl).1
    have := hB p (.inl rfl)
    omega
  have hnew : (nodes ++ [nd])[nodes.length]'(by simp) = nd := by simp
  have hget : ∀ i (hi : i < nodes.length), (nodes ++ [nd])[i]'(by simp; omega) = nodes[i] := fun i hi => List.getElem_append_left hi
  refine ⟨?_, ?_, fun i hi => ?_, fun i j hi hj he => ?_⟩
  · have := blk_set hp4 12 v'
    rw [headCells_setv] at this
    have e : headCells nx' v' = headCells nx v' := by
      unfold headCells
      congr 2
      exact List.map_congr_left fun l _ => by rw [hold 0 l (by omega)]
    rw [e]; exact this
  · rw [nodeCells_snoc, List.length_append]
    exact ownsRow_setCell_other hrow hpv _
  · by_cases hi' : i < nodes.length
    · rw [hget i hi']
      have ht0 := h.towers i hi'
      have hlt := h.foot_lt (.inr (.inr ⟨_, List.getElem_mem hi', rfl⟩))
      have ht4 : w4.ownsRow 0 TI 1 nodes[i].tower nodes[i].ht (towerCells nx (i + 1) nodes[i].ht) := row_kept ht0 fun k e => by
        have : k = nodes[i].tb := by simpa [Nd.tower, Value.ownBlock] using e.symm
        subst this
        exact hk _ hlt (h.row_ne_tower h3 i hi')
      have e : towerCells nx' (i + 1) nodes[i].ht = towerCells nx (i + 1) nodes[i].ht := by
        unfold towerCells
        exact List.map_congr_left fun l _ => by rw [hold (i + 1) l (by omega)]
      rw [e]
      exact ownsRow_setCell_other ht4 (by simp only [Nd.tower, Value.ownBlock, ne_eq, Option.some.injEq]; exact h.p_ne_tower h2 i hi') _
    · have : i = nodes.length := by simp at hi; omega
      subst this
      rw [hnew]
      obtain ⟨a, b⟩ := ht
      refine ownsRow_setCell_other ⟨a, ?_⟩ (by simp only [Nd.tower, Value.ownBlock, ne_eq, Option.some.injEq]; exact hpt) _
      rcases b with b | ⟨g, cap, cur, q1, q2, q3⟩
      · exact .inl b
      · exact .inr ⟨g, cap, cur, q1, Nat.zero_le _, q3⟩
  · by_cases hi' : i < nodes.length
    · by_cases hj' : j < nodes.length
      · rw [hget i hi', hget j hj'] at he; exact h.apart i j hi' hj' he
      · have : j = nodes.length := by simp at hj; omega
        subst this
        rw [hget i hi', hnew] at he
        have := (ht.lt nd.tb rfl).1
        have := hB nodes[i].tb (.inr (.inr ⟨_, List.getElem_mem hi', rfl⟩))
        omega
    · have : i = nodes.length := by simp at hi; omega
      subst this
      by_cases hj' : j < nodes.length
      · rw [hget j hj', hnew] at he
        have := (ht.lt nd.tb rfl).1
        have := hB nodes[j].tb (.inr (.inr ⟨_, List.getElem_mem hj', rfl⟩))
        omega
      · simp at hj; omega
end
end Go.Cph.Skm
