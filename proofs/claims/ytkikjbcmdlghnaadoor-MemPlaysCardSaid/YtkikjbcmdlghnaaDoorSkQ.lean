/- What Set does to a skip list: plain laws on blocks and links. No program here. -/
import Derived.Test.YtkikjbcmdlghnaaDoorSkP
set_option linter.unusedVariables false
set_option linter.unusedSimpArgs false
namespace Go.Cph.Skip
open Go.RowKit Go.Cph

/-- Only blocks such as S, and new ones, have changed. -/
structure Touched (S : Nat → Prop) (w w' : World) : Prop where
  os : w'.os = w.os
  tape : w'.tape = w.tape
  output : w'.output = w.output
  size : w.heap.size ≤ w'.heap.size
  block : ∀ k, k < w.heap.size → ¬ S k → w'.heap[k]? = w.heap[k]?
theorem Touched.refl (S : Nat → Prop) (w : World) : Touched S w w := ⟨rfl, rfl, rfl, Nat.le_refl _, fun _ _ _ => rfl⟩
theorem Touched.trans {S S' : Nat → Prop} {a b c : World} (h : Touched S a b) (k : Touched S' b c) (hs : ∀ j, j < a.heap.size → S' j → S j) : Touched S a c :=
  ⟨k.os.trans h.os, k.tape.trans h.tape, k.output.trans h.output, Nat.le_trans h.size k.size, fun i hi hn => (k.block i (Nat.lt_of_lt_of_le hi h.size) fun h' => hn (hs i hi h')).trans (h.block i hi hn)⟩
theorem Touched.of_below {S : Nat → Prop} {w w' : World} (h : Below w.heap.size w w') : Touched S w w' := ⟨h.os, h.tape, h.output, h.size, fun k hk _ => h.block k hk⟩
theorem Touched.below {S : Nat → Prop} {w w' : World} (h : Touched S w w') {B : Nat} (hB : B ≤ w.heap.size) (hs : ∀ k, S k → B ≤ k) : Below B w w' :=
  ⟨h.os, h.tape, h.output, h.size, fun k hk => h.block k (by omega) fun hk' => by have := hs k hk'; omega⟩
theorem Touched.setCell {S : Nat → Prop} {w w' : World} (h : Touched S w w') {a : Addr} (ha : a.block < w.heap.size → S a.block) (u : Value) : Touched S w (w'.setCell a u) :=
  ⟨h.os, h.tape, h.output, by have := h.size; simpa [World.setCell] using this, fun k hk hn => by
    have hne : k ≠ a.block := by rintro rfl; exact hn (ha hk)
    rw [Below.heap_setCell _ _ _ _ hne]; exact h.block k hk hn⟩
theorem Touched.alloc {S : Nat → Prop} {w w' : World} (h : Touched S w w') (o : Obj) : Touched S w (w'.alloc o) :=
  ⟨h.os, h.tape, h.output, by have := h.size; show _ ≤ (w'.heap.push o).size; rw [Array.size_push]; omega, fun k hk hn => by
    rw [Below.heap_alloc _ _ _ (by have := h.size; omega)]; exact h.block k hk hn⟩
theorem Touched.grown {S : Nat → Prop} {w w' w'' : World} {row : Option Nat} (h : Touched S w w') (hg : w'.grownBy w'' row) (hr : ∀ k, row = some k → k < w.heap.size → S k) : Touched S w w'' :=
  ⟨hg.os.trans h.os, hg.tape.trans h.tape, hg.output.trans h.output, Nat.le_trans h.size hg.size, fun k hk hn => by
    rw [hg.block k (by have := h.size; omega) fun e => hn (hr k e.symm hk)]; exact h.block k hk hn⟩
theorem Touched.drew {S : Nat → Prop} {w w' : World} (h : Touched S w w') : Touched S w w'.drew := ⟨h.os, h.tape, h.output, h.size, h.block⟩

section
variable {α : Type} {TL TN TI : TypeId} {enc : α → Value} {w : World} {p : Nat} {nx : Nat → Nat → Nat} {nodes : List (Nd α)} {v : Value}

theorem row_block {base : Nat} {e : TypeId} {size : Nat} {u : Value} {n : Nat} {xs : List Value} (h : w.ownsRow base e size u n xs) {k : Nat} (hk : u.ownBlock = some k) : ∃ cur, w.heap[k]? = some (.cells cur e (0, 0)) := by
  obtain ⟨_, h2⟩ := h
  rcases h2 with ⟨rfl, _⟩ | ⟨g, cap, cur, rfl, _, hg, _⟩
  · simp [Value.ownBlock] at hk
  · simp [Value.ownBlock] at hk; subst hk; exact ⟨cur, hg⟩
/-- Blocks of unlike element types are unlike. -/
theorem At.p_ne_row (h : At TL TN TI enc w p nx nodes v) (hne : TL ≠ TN) : v.ownBlock ≠ some p := fun e => by
  obtain ⟨cur, hc⟩ := row_block h.row e
  rw [h.head] at hc
  simp only [Option.some.injEq, Obj.cells.injEq] at hc
  exact hne hc.2.1
theorem At.p_ne_tower (h : At TL TN TI enc w p nx nodes v) (hne : TL ≠ TI) (i : Nat) (hi : i < nodes.length) : nodes[i].tb ≠ p := fun e => by
  obtain ⟨cur, hc⟩ := row_block (h.towers i hi) (k := nodes[i].tb) rfl
  rw [e, h.head] at hc
  simp only [Option.some.injEq, Obj.cells.injEq] at hc
  exact hne hc.2.1
theorem At.row_ne_tower (h : At TL TN TI enc w p nx nodes v) (hne : TN ≠ TI) (i : Nat) (hi : i < nodes.length) : v.ownBlock ≠ some nodes[i].tb := fun e => by
  obtain ⟨cur, hc⟩ := row_block h.row e
  obtain ⟨cur', hc'⟩ := row_block (h.towers i hi) (k := nodes[i].tb) rfl
  rw [hc] at hc'
  simp only [Option.some.injEq, Obj.cells.injEq] at hc'
  exact hne hc'.2.1

def put (nx : Nat → Nat → Nat) (n l to : Nat) : Nat → Nat → Nat := fun m k => if m = n ∧ k = l then to else nx m k
theorem At.link0 (h : At TL TN TI enc w p nx nodes v) (h1 : TL ≠ TN) (h2 : TL ≠ TI) (l to : Nat) (hl : l < 12) : At TL TN TI enc (w.setCell ⟨p, l, none⟩ (.int .i64 to)) p (put nx 0 l to) nodes v := by
  refine ⟨?_, ownsRow_setCell_other h.row (h.p_ne_row h1) _, fun i hi => ?_, h.apart⟩
  · have := blk_set h.head l (.int .i64 to)
    rw [headCells_set nx v l to hl] at this
    exact this
  · have := ownsRow_setCell_other (h.towers i hi) (a := ⟨p, l, none⟩) (by simp only [Nd.tower, Value.ownBlock, ne_eq, Option.some.injEq]; exact h.p_ne_tower h2 i hi) (.int .i64 to)
    have e : towerCells (put nx 0 l to) (i + 1) nodes[i].ht = towerCells nx (i + 1) nodes[i].ht := by simp [towerCells, put]
    rw [e]; exact this
theorem At.link1 (h : At TL TN TI enc w p nx nodes v) (h2 : TL ≠ TI) (h3 : TN ≠ TI) (i : Nat) (hi : i < nodes.length) (l to : Nat) (hl : l < nodes[i].ht) :
    At TL TN TI enc (w.setCell ⟨nodes[i].tb, l, none⟩ (.int .i64 to)) p (put nx (i + 1) l to) nodes v := by
  refine ⟨?_, ownsRow_setCell_other h.row (h.row_ne_tower h3 i hi) _, fun j hj => ?_, h.apart⟩
  · rw [blk_set_other (by simpa using (h.p_ne_tower h2 i hi).symm)]
    have e : headCells (put nx (i + 1) l to) v = headCells nx v := by simp [headCells, put]
    rw [e]; exact h.head
  · by_cases he : j = i
    · subst he
      have hs := (h.towers j hj).stored l (.int .i64 to)
      rw [towerCells_set nx (j + 1) _ l to hl] at hs
      exact hs.1
    · have := ownsRow_setCell_other (h.towers j hj) (a := ⟨nodes[i].tb, l, none⟩) (by simp only [Nd.tower, Value.ownBlock, ne_eq, Option.some.injEq]; exact fun e => he (h.apart j i hj hi e)) (.int .i64 to)
      have e : towerCells (put nx (i + 1) l to) (j + 1) nodes[j].ht = towerCells nx (j + 1) nodes[j].ht := by
        simp only [towerCells, put]
        exact List.map_congr_left fun a _ => by rw [if_neg (by omega)]
      rw [e]; exact this

/-- A node's value is another one. -/
def setVal (nodes : List (Nd α)) (i : Nat) (x : α) : List (Nd α) := nodes.modify i fun n => { n with val := x }
theorem setVal_length (nodes : List (Nd α)) (i : Nat) (x : α) : (setVal nodes i x).length = nodes.length := by simp [setVal]
theorem setVal_at (nodes : List (Nd α)) (i : Nat) (x : α) (j : Nat) (hj : j < nodes.length) :
    (setVal nodes i x)[j]'(by rw [setVal_length]; exact hj) = if i = j then { nodes[j] with val := x } else nodes[j] := by
  simp only [setVal, List.getElem_modify]
theorem setVal_cells (nodes : List (Nd α)) (i : Nat) (x : α) (hi : i < nodes.length) : nodeCells enc (setVal nodes i x) = (nodeCells enc nodes).set (i * 3 + 1) (enc x) := by
  induction nodes generalizing i with
  | nil => exact absurd hi (by simp)
  | cons y l ih =>
    cases i with
    | zero => simp [setVal, nodeCells, Nd.cells, Nd.tower]
    | succ i =>
      have h1 := ih i (by simpa using hi)
      simp only [setVal, nodeCells, List.modify_succ_cons, List.flatMap_cons] at h1 ⊢
      rw [h1, show (i + 1) * 3 + 1 = (Nd.cells enc y).length + (i * 3 + 1) by simp [Nd.cells]; omega, List.set_append_right _ _ (by omega)]
      congr 2
      omega
theorem At.setVal {g cap n : Nat} (h : At TL TN TI enc w p nx nodes (.slice (some ⟨g, 0, none⟩) n cap)) (h1 : TL ≠ TN) (h3 : TN ≠ TI) (i : Nat) (hi : i < nodes.length) (x : α) :
    At TL TN TI enc (w.setCell ⟨g, i * 3 + 1, none⟩ (enc x)) p nx (setVal nodes i x) (.slice (some ⟨g, 0, none⟩) n cap) := by
  have hn : n = nodes.length := by
    obtain ⟨_, h2⟩ := h.row
    rcases h2 with ⟨h2, _⟩ | ⟨g', cap', cur, h2, _⟩
    · cases h2
    · cases h2; rfl
  refine ⟨?_, ?_, fun j hj => ?_, fun j k hj hk he => ?_⟩
  · rw [blk_set_other (by have := h.p_ne_row h1; simp [Value.ownBlock] at this; simpa using fun e => this e.symm)]
    exact h.head
  · rw [setVal_length, setVal_cells nodes i x hi]
    subst hn
    exact (h.row.stored (i * 3 + 1) (enc x)).1
  · have hj' : j < nodes.length := by rw [setVal_length] at hj; exact hj
    have hg : nodes[j].tb ≠ g := fun e => h.row_ne_tower h3 j hj' (by simp [Value.ownBlock, e])
    have := ownsRow_setCell_other (h.towers j hj') (a := ⟨g, i * 3 + 1, none⟩) (by simp only [Nd.tower, Value.ownBlock, ne_eq, Option.some.injEq]; exact hg) (enc x)
    rw [setVal_at nodes i x j hj']
    split <;> exact this
  · have hj' : j < nodes.length := by rw [setVal_length] at hj; exact hj
    have hk' : k < nodes.length := by rw [setVal_length] at hk; exact hk
    rw [setVal_at nodes i x j hj', setVal_at nodes i x k hk'] at he
    refine h.apart j k hj' hk' ?_
    split at he <;> split at he <;> exact he
theorem setVal_mem {i : Nat} {x : α} {y : Nd α} (hy : y ∈ setVal nodes i x) : ∃ z ∈ nodes, z.key = y.key ∧ z.ht = y.ht ∧ z.tb = y.tb := by
  obtain ⟨j, hj, rfl⟩ := List.getElem_of_mem hy
  have hj' : j < nodes.length := by rw [setVal_length] at hj; exact hj
  refine ⟨nodes[j], List.getElem_mem hj', ?_⟩
  rw [setVal_at nodes i x j hj']
  split <;> exact ⟨rfl, rfl, rfl⟩
theorem Nxt.setVal {l m : Nat} {lo : Option ByteArray} (h : Nxt nodes l lo m) (i : Nat) (x : α) : Nxt (setVal nodes i x) l lo m := by
  rcases h with ⟨h, h0⟩ | ⟨j, hj, h, h2, h3, h4⟩
  · refine .inl ⟨h, fun y hy hl => ?_⟩
    obtain ⟨z, hz, hk, hht, _⟩ := setVal_mem hy
    rw [← hk]; exact h0 z hz (by rw [hht]; exact hl)
  · have e : ((Skip.setVal nodes i x)[j]'(by rw [setVal_length]; exact hj)).key = nodes[j].key ∧ ((Skip.setVal nodes i x)[j]'(by rw [setVal_length]; exact hj)).ht = nodes[j].ht := by
      rw [setVal_at nodes i x j hj]; split <;> exact ⟨rfl, rfl⟩
    refine .inr ⟨j, by rw [setVal_length]; exact hj, h, by rw [e.2]; exact h2, by rw [e.1]; exact h3, fun y hy hl ha => ?_⟩
    obtain ⟨z, hz, hk, hht, _⟩ := setVal_mem hy
    rw [e.1, ← hk]; exact h4 z hz (by rw [hht]; exact hl) (by rw [hk]; exact ha)
theorem Linked.setVal (h : Linked nodes nx) (i : Nat) (x : α) : Linked (setVal nodes i x) nx := by
  have e : ∀ j (hj : j < nodes.length), ((Skip.setVal nodes i x)[j]'(by rw [setVal_length]; exact hj)).key = nodes[j].key ∧ ((Skip.setVal nodes i x)[j]'(by rw [setVal_length]; exact hj)).ht = nodes[j].ht := fun j hj => by
    rw [setVal_at nodes i x j hj]; split <;> exact ⟨rfl, rfl⟩
  refine ⟨fun l n hl hon => ?_, fun y hy => ?_, fun j k hj hk he => ?_⟩
  · have hk : keyNo (Skip.setVal nodes i x) n = keyNo nodes n := by
      cases n with
      | zero => rfl
      | succ n =>
        by_cases hn : n < nodes.length
        · rw [keyNo_succ _ n (by rw [setVal_length]; exact hn), keyNo_succ _ n hn, (e n hn).1]
        · simp [keyNo, setVal_length, Nat.not_lt.1 hn]
    rw [hk]
    refine (h.links l n hl ?_).setVal i x
    rcases hon with h0 | ⟨j, hj, h0, h1⟩
    · exact .inl h0
    · have hj' : j < nodes.length := by rw [setVal_length] at hj; exact hj
      exact .inr ⟨j, hj', h0, by rw [← (e j hj').2]; exact h1⟩
  · obtain ⟨z, hz, _, hht, _⟩ := setVal_mem hy
    rw [← hht]; exact h.hts z hz
  · have hj' : j < nodes.length := by rw [setVal_length] at hj; exact hj
    have hk' : k < nodes.length := by rw [setVal_length] at hk; exact hk
    rw [(e j hj').1, (e k hk').1] at he
    exact h.keys j k hj' hk' he

/-- The links behind a node's coming, so many of its levels linked. -/
def nxNew (nx : Nat → Nat → Nat) (last : Nat → Nat) (m k : Nat) : Nat → Nat → Nat := fun n l => if n = m + 1 then nx (last l) l else if l < k ∧ n = last l then m + 1 else nx n l
theorem Linked.insert (h : Linked nodes nx) {last : Nat → Nat} {x : Nd α} (hp : ∀ l, l < 12 → Prv nodes l x.key (last l)) (hno : ∀ y ∈ nodes, y.key ≠ x.key) (hx : 1 ≤ x.ht ∧ x.ht ≤ 12) :
    Linked (nodes ++ [x]) (nxNew nx last nodes.length x.ht) := by
  -- the place of the new key
  have hgap : ∀ l, l < 12 → ∀ y ∈ nodes, l < y.ht → above (keyNo nodes (last l)) y.key = klt x.key y.key := by
    intro l hl y hy hly
    have hne : ∀ hk : klt y.key x.key = false, klt x.key y.key = true := fun hk => by
      cases hk' : klt x.key y.key with
      | true => rfl
      | false => exact absurd (klt_total hk hk') (hno y hy)
    rcases hp l hl with ⟨h0, h1⟩ | ⟨i, hi, h0, _, h2, h3⟩
    · rw [h0]; show true = _
      rw [hne (h1 y hy hly)]
    · rw [h0, keyNo_succ nodes i hi]
      show klt nodes[i].key y.key = _
      cases hk : klt x.key y.key with
      | true => exact klt_trans h2 hk
      | false =>
        cases hk2 : klt nodes[i].key y.key with
        | false => rfl
        | true =>
          cases hk3 : klt y.key x.key with
          | true => rw [h3 y hy hly hk3] at hk2; exact absurd hk2 (by simp)
          | false => rw [hne hk3] at hk; exact absurd hk (by simp)
  have hlt : ∀ l, l < 12 → above (keyNo nodes (last l)) x.key = true := by
    intro l hl
    rcases hp l hl with ⟨h0, _⟩ | ⟨i, hi, h0, _, h2, _⟩
    · rw [h0]; rfl
    · rw [h0, keyNo_succ nodes i hi]; exact h2
  have hlen : (nodes ++ [x]).length = nodes.length + 1 := by simp
  have hnew : (nodes ++ [x])[nodes.length]'(by simp) = x := by simp
  have hold : ∀ i (hi : i < nodes.length), (nodes ++ [x])[i]'(by simp; omega) = nodes[i] := fun i hi => List.getElem_append_left hi
  -- an old answer that stays
  have hkeep : ∀ l lo m, Nxt nodes l lo m → (l < x.ht → above lo x.key = true → ∃ i, ∃ hi : i < nodes.length, m = i + 1 ∧ klt x.key nodes[i].key = false) → Nxt (nodes ++ [x]) l lo m := by
    intro l lo m hn hc
    rcases hn with ⟨h0, h1⟩ | ⟨i, hi, h0, h1, h2, h3⟩
    · refine .inl ⟨h0, fun y hy hl => ?_⟩
      rcases List.mem_append.1 hy with hy | hy
      · exact h1 y hy hl
      · obtain rfl := List.mem_singleton.1 hy
        cases ha : above lo y.key with
        | false => rfl
        | true => obtain ⟨i, hi, he, _⟩ := hc hl ha; omega
    · refine .inr ⟨i, by simp; omega, h0, by rw [hold i hi]; exact h1, by rw [hold i hi]; exact h2, fun y hy hl ha => ?_⟩
      rw [hold i hi]
      rcases List.mem_append.1 hy with hy | hy
      · exact h3 y hy hl ha
      · obtain rfl := List.mem_singleton.1 hy
        obtain ⟨j, hj, he, hk⟩ := hc hl ha
        obtain rfl : i = j := by omega
        exact hk
  refine ⟨fun l n hl hon => ?_, fun y hy => ?_, fun i j hi hj he => ?_⟩
  · have hon' : n = nodes.length + 1 ∧ l < x.ht ∨ On nodes l n := by
      rcases hon with h0 | ⟨i, hi, h0, h1⟩
      · exact .inr (.inl h0)
      · by_cases hi' : i < nodes.length
        · rw [hold i hi'] at h1; exact .inr (.inr ⟨i, hi', h0, h1⟩)
        · have : i = nodes.length := by simp at hi; omega
          subst this
          rw [hnew] at h1
          exact .inl ⟨h0, h1⟩
    rcases hon' with ⟨rfl, hlx⟩ | hon'
    · rw [keyNo_succ _ nodes.length (by simp), hnew]
      have hb := h.links l (last l) hl (hp l hl).on
      show Nxt (nodes ++ [x]) l (some x.key) (if nodes.length + 1 = nodes.length + 1 then nx (last l) l else _)
      rw [if_pos rfl]
      have hb' : Nxt nodes l (some x.key) (nx (last l) l) := by
        rcases hb with ⟨h0, h1⟩ | ⟨i, hi, h0, h1, h2, h3⟩
        · exact .inl ⟨h0, fun y hy hly => by have := h1 y hy hly; rw [hgap l hl y hy hly] at this; exact this⟩
        · exact .inr ⟨i, hi, h0, h1, by rw [hgap l hl _ (List.getElem_mem hi) h1] at h2; exact h2, fun y hy hly ha => h3 y hy hly (by rw [hgap l hl y hy hly]; exact ha)⟩
      exact hkeep l _ _ hb' fun _ ha => by simp [above, klt_irrefl] at ha
    · have hn : n ≠ nodes.length + 1 := by
        rcases hon' with h0 | ⟨i, hi, h0, _⟩ <;> omega
      have hk : keyNo (nodes ++ [x]) n = keyNo nodes n := by
        rcases hon' with rfl | ⟨i, hi, rfl, _⟩
        · rfl
        · rw [keyNo_succ _ i (by simp; omega), keyNo_succ _ i hi, hold i hi]
      rw [hk]
      show Nxt (nodes ++ [x]) l (keyNo nodes n) (if n = nodes.length + 1 then _ else if l < x.ht ∧ n = last l then nodes.length + 1 else nx n l)
      rw [if_neg hn]
      by_cases hc : l < x.ht ∧ n = last l
      · rw [if_pos hc, hc.2]
        refine .inr ⟨nodes.length, by simp, rfl, by rw [hnew]; exact hc.1, by rw [hnew]; exact hlt l hl, fun y hy hly ha => ?_⟩
        rw [hnew]
        rcases List.mem_append.1 hy with hy | hy
        · rw [hgap l hl y hy hly] at ha; exact klt_asymm ha
        · obtain rfl := List.mem_singleton.1 hy; exact klt_irrefl _
      · rw [if_neg hc]
        have hb := h.links l n hl hon'
        refine hkeep l _ _ hb fun hlx ha => ?_
        have hne : n ≠ last l := fun e => hc ⟨hlx, e⟩
        rcases hp l hl with ⟨h0, h1⟩ | ⟨j, hj, h0, h1, h2, h3⟩
        · rcases hon' with rfl | ⟨i, hi, rfl, hli⟩
          · omega
          · rw [keyNo_succ nodes i hi] at ha
            have := h1 _ (List.getElem_mem hi) hli
            rw [show klt nodes[i].key x.key = true from ha] at this; exact absurd this (by simp)
        · have haj : above (keyNo nodes n) nodes[j].key = true := by
            rcases hon' with rfl | ⟨i, hi, rfl, hli⟩
            · rfl
            · rw [keyNo_succ nodes i hi] at ha ⊢
              show klt nodes[i].key nodes[j].key = true
              have hle := h3 _ (List.getElem_mem hi) hli ha
              cases hk' : klt nodes[i].key nodes[j].key with
              | true => rfl
              | false => have := h.keys i j hi hj (klt_total hk' hle); omega
          rcases hb with ⟨_, hb⟩ | ⟨i, hi, hb0, hb1, hb2, hb3⟩
          · rw [hb _ (List.getElem_mem hj) h1] at haj; exact absurd haj (by simp)
          · exact ⟨i, hi, hb0, klt_asymm (klt_of_le_lt (hb3 _ (List.getElem_mem hj) h1 haj) h2)⟩
  · rcases List.mem_append.1 hy with hy | hy
    · exact h.hts y hy
    · obtain rfl := List.mem_singleton.1 hy; exact hx
  · by_cases hi' : i < nodes.length
    · by_cases hj' : j < nodes.length
      · rw [hold i hi', hold j hj'] at he; exact h.keys i j hi' hj' he
      · have : j = nodes.length := by simp at hj; omega
        subst this
        rw [hold i hi', hnew] at he
        exact absurd he (hno _ (List.getElem_mem hi'))
    · have : i = nodes.length := by simp at hi; omega
      subst this
      by_cases hj' : j < nodes.length
      · rw [hold j hj', hnew] at he
        exact absurd he.symm (hno _ (List.getElem_mem hj'))
      · simp at hj; omega
/-- A node comes behind the others. -/
theorem At.push (h : At TL TN TI enc w p nx nodes v) (h1 : TL ≠ TN) (h2 : TL ≠ TI) (h3 : TN ≠ TI) {w4 : World} {nx' : Nat → Nat → Nat} {nd : Nd α} {v' : Value} {B : Nat}
    (hB : ∀ k, foot p v nodes k → k < B) (hold : ∀ n l, n ≤ nodes.length → nx' n l = nx n l)
    (ht : w4.ownsRow B TI 1 nd.tower nd.ht (towerCells nx' (nodes.length + 1) nd.ht))
    (hk : ∀ k, k < w.heap.size → v.ownBlock ≠ some k → w4.heap[k]? = w.heap[k]?)
    (hrow : w4.ownsRow 0 TN 3 v' (nodes.length + 1) (nodeCells enc nodes ++ Nd.cells enc nd)) :
    At TL TN TI enc (w4.setCell ⟨p, 12, none⟩ v') p nx' (nodes ++ [nd]) v' := by
  have hp4 : w4.heap[p]? = some (.cells (headCells nx v) TL (0, 0)) := by rw [hk p (blk_lt h.head) (h.p_ne_row h1)]; exact h.head
  have hpv : v'.ownBlock ≠ some p := fun e => by
    obtain ⟨cur, hc⟩ := row_block hrow e
    rw [hp4] at hc
    simp only [Option.some.injEq, Obj.cells.injEq] at hc
    exact h1 hc.2.1
  have hpt : nd.tb ≠ p := fun e => by
    have := (ht.lt nd.tb rfl).1
    have := hB p (.inl rfl)
    omega
  have hnew : (nodes ++ [nd])[nodes.length]'(by simp) = nd := by simp
  have hget : ∀ i (hi : i < nodes.length), (nodes ++ [nd])[i]'(by simp; omega) = nodes[i] := fun i hi => List.getElem_append_left hi
  refine ⟨?_, ?_, fun i hi => ?_, fun i j hi hj he => ?_⟩
  · have := blk_set hp4 12 v'
    rw [headCells_setv] at this
    have e : headCells nx' v' = headCells nx v' := by
      unfold headCells
      congr 2
      exact List.map_congr_left fun l _ => by rw [hold 0 l (by omega)]
    rw [e]; exact this
  · rw [nodeCells_snoc, List.length_append]
    exact ownsRow_setCell_other hrow hpv _
  · by_cases hi' : i < nodes.length
    · rw [hget i hi']
      have ht0 := h.towers i hi'
      have hlt := h.foot_lt (.inr (.inr ⟨_, List.getElem_mem hi', rfl⟩))
      have ht4 : w4.ownsRow 0 TI 1 nodes[i].tower nodes[i].ht (towerCells nx (i + 1) nodes[i].ht) := row_kept ht0 fun k e => by
        have : k = nodes[i].tb := by simpa [Nd.tower, Value.ownBlock] using e.symm
        subst this
        exact hk _ hlt (h.row_ne_tower h3 i hi')
      have e : towerCells nx' (i + 1) nodes[i].ht = towerCells nx (i + 1) nodes[i].ht := by
        unfold towerCells
        exact List.map_congr_left fun l _ => by rw [hold (i + 1) l (by omega)]
      rw [e]
      exact ownsRow_setCell_other ht4 (by simp only [Nd.tower, Value.ownBlock, ne_eq, Option.some.injEq]; exact h.p_ne_tower h2 i hi') _
    · have : i = nodes.length := by simp at hi; omega
      subst this
      rw [hnew]
      obtain ⟨a, b⟩ := ht
      refine ownsRow_setCell_other ⟨a, ?_⟩ (by simp only [Nd.tower, Value.ownBlock, ne_eq, Option.some.injEq]; exact hpt) _
      rcases b with b | ⟨g, cap, cur, q1, q2, q3⟩
      · exact .inl b
      · exact .inr ⟨g, cap, cur, q1, Nat.zero_le _, q3⟩
  · by_cases hi' : i < nodes.length
    · by_cases hj' : j < nodes.length
      · rw [hget i hi', hget j hj'] at he; exact h.apart i j hi' hj' he
      · have : j = nodes.length := by simp at hj; omega
        subst this
        rw [hget i hi', hnew] at he
        have := (ht.lt nd.tb rfl).1
        have := hB nodes[i].tb (.inr (.inr ⟨_, List.getElem_mem hi', rfl⟩))
        omega
    · have : i = nodes.length := by simp at hi; omega
      subst this
      by_cases hj' : j < nodes.length
      · rw [hget j hj', hnew] at he
        have := (ht.lt nd.tb rfl).1
        have := hB nodes[j].tb (.inr (.inr ⟨_, List.getElem_mem hj', rfl⟩))
        omega
      · simp at hj; omega
theorem nxNew_step (nx : Nat → Nat → Nat) (last : Nat → Nat) (m k : Nat) (h : last k ≠ m + 1) : put (nxNew nx last m k) (last k) k (m + 1) = nxNew nx last m (k + 1) := by
  funext n l
  unfold put nxNew
  by_cases h1 : n = last k ∧ l = k
  · obtain ⟨rfl, rfl⟩ := h1
    simp [h]
  · rw [if_neg h1]
    by_cases h2 : n = m + 1
    · rw [if_pos h2, if_pos h2]
    · rw [if_neg h2, if_neg h2]
      by_cases h3 : l < k ∧ n = last l
      · rw [if_pos h3, if_pos ⟨by omega, h3.2⟩]
      · rw [if_neg h3, if_neg]
        rintro ⟨h4, h5⟩
        by_cases hlk : l = k
        · subst hlk; exact h1 ⟨h5, rfl⟩
        · exact h3 ⟨by omega, h5⟩
end
end Go.Cph.Skip
