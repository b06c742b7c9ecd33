/- SkipFrom: what lies in memory while lists are gone over. -/
import Derived.Test.YthcakgnendnekaaRfP
open Go.RowKit Go.Cph Go.Cph.Skip
set_option linter.unusedVariables false
set_option linter.unusedSimpArgs false
namespace Go.Proofs.Try.SkS

/-- Ways that meet again, three names of theirs in the frame. -/
def meetQ3 {β γ δ : Type} (A : β → γ → δ → Act) (R : β → γ → δ → World → Prop) : Exit → Act → World → Prop
  | .normal, a, w => ∃ x y z, a = A x y z ∧ R x y z w
  | .ret, _, _ => False
  | .exit _, _, _ => False
  | .goto _, _, _ => False
  | .panic _, _, _ => False
  | .outgrown, _, _ => False
theorem wp_meet3 {P : Program} {c : Code} {Q : Exit → Act → World → Prop} {a : Act} {w : World} {β γ δ : Type} {A : β → γ → δ → Act} (R : β → γ → δ → World → Prop)
    (h : c.wp P (meetQ3 A R) a w) (k : ∀ x y z w', R x y z w' → Q .normal (A x y z) w') : c.wp P Q a w :=
  wp_mono h fun e a' w' hq => by
    cases e with
    | normal => obtain ⟨x, y, z, ha, hr⟩ := hq; subst ha; exact k x y z w' hr
    | ret => exact hq.elim
    | exit _ => exact hq.elim
    | goto _ => exact hq.elim
    | panic _ => exact hq.elim
    | outgrown => exact hq.elim

abbrev TInt : TypeId := 3
abbrev TStr : TypeId := 9
abbrev TBool : TypeId := 4
abbrev TItem : TypeId := 43
abbrev TItems : TypeId := 33
abbrev TPtr : TypeId := 25
/-- The function's boxes, the list, the document's items. B: boxes of ints, none of them the list's. -/
structure FA (w : World) (fresh : ByteArray) (leave : Int) (p b9 b10 : Nat) (B : List Nat) (L : List It) (W : World) : Prop where
  h6 : W.heap[w.heap.size]? = some (.cells #[.string fresh] TStr (0, 0))
  h7 : W.heap[w.heap.size + 1]? = some (.cells #[.int .i64 leave] TInt (0, 0))
  h8 : W.heap[w.heap.size + 2]? = some (.cells #[.bool false] TBool (0, 0))
  h9 : W.heap[b9]? = some (.cells #[ptr p] TPtr (0, 0))
  lst : ∃ nx nodes v, IsAt W p nx nodes v ∧ Linked nodes nx ∧ its nodes = L ∧ ∀ j, foot p v nodes j → p ≤ j ∧ j ∉ B
  itm : ∃ u n, W.heap[b10]? = some (.cells #[u] TItems (0, 0)) ∧ W.ownsRow 0 TItem 3 u n (L.flatMap encIt) ∧ n = L.length
  sz : L.length ≤ 200 ∧ ∀ y ∈ L, y.1.size ≤ 20000
  bel : Below w.heap.size w W
  far : w.heap.size + 3 ≤ p
  b10 : w.heap.size ≤ b10
theorem at_kept {w w' : World} {p : Nat} {nx : Nat → Nat → Nat} {nodes : List (Nd V)} {v : Value} (h : IsAt w p nx nodes v) {B : Nat} (hk : Kept B w w') : IsAt w' p nx nodes v :=
  h.same fun k hf => by
    obtain ⟨cur, E, hc, _⟩ := foot_type h hf
    rw [hc]; exact hk.cells hc
section
variable {w W W' : World} {fresh : ByteArray} {leave : Int} {p b9 b10 : Nat} {B : List Nat} {L : List It}
theorem FA.kept (h : FA w fresh leave p b9 b10 B L W) {B0 : Nat} (hk : Kept B0 W W') (hB : w.heap.size ≤ B0) : FA w fresh leave p b9 b10 B L W' := by
  obtain ⟨nx, nodes, v, h1, h2, h3, h4⟩ := h.lst
  obtain ⟨u, n, g1, g2, g3⟩ := h.itm
  exact ⟨hk.cells h.h6, hk.cells h.h7, hk.cells h.h8, hk.cells h.h9, ⟨nx, nodes, v, at_kept h1 hk, h2, h3, h4⟩, ⟨u, n, hk.cells g1, row_same g2 (fun k o _ ho hc => hk.same k o ho (.inr hc)), g3⟩, h.sz, hk.below h.bel hB (Nat.le_refl _), h.far, h.b10⟩
theorem FA.below (h : FA w fresh leave p b9 b10 B L W) (hb : Below W.heap.size W W') : FA w fresh leave p b9 b10 B L W' := h.kept (B0 := w.heap.size) (.of_below hb) (Nat.le_refl _)
theorem FA.more (h : FA w fresh leave p b9 b10 B L W) {k : Nat} (hk : W.heap.size ≤ k) : FA w fresh leave p b9 b10 (k :: B) L W := by
  obtain ⟨nx, nodes, v, h1, h2, h3, h4⟩ := h.lst
  refine { h with lst := ⟨nx, nodes, v, h1, h2, h3, fun j hj => ⟨(h4 j hj).1, fun hm => ?_⟩⟩ }
  rcases List.mem_cons.1 hm with e | hm
  · have := h1.foot_lt hj; omega
  · exact (h4 j hj).2 hm
/-- A store into another box. -/
theorem FA.store (h : FA w fresh leave p b9 b10 B L W) {k : Nat} {cur : Array Value} {E : TypeId} (hk : W.heap[k]? = some (.cells cur E (0, 0))) (hE : E ≠ TItem) (hf : k ∈ B ∨ (E ≠ TL ∧ E ≠ TN ∧ E ≠ TInt)) (h0 : w.heap.size + 3 ≤ k) (hn9 : k ≠ b9) (hn10 : k ≠ b10) (x : Value) :
    FA w fresh leave p b9 b10 B L (W.setCell ⟨k, 0, none⟩ x) := by
  obtain ⟨nx, nodes, v, h1, h2, h3, h4⟩ := h.lst
  obtain ⟨u, n, g1, g2, g3⟩ := h.itm
  have hnf : ∀ j, foot p v nodes j → j ≠ k := fun j hj e => by
    subst e
    rcases hf with hf | hf
    · exact (h4 _ hj).2 hf
    · obtain ⟨cur', E', hc', hE'⟩ := foot_type h1 hj
      rw [hk] at hc'
      simp only [Option.some.injEq, Obj.cells.injEq] at hc'
      obtain ⟨_, rfl, _⟩ := hc'
      rcases hE' with e | e | e
      · exact hf.1 e
      · exact hf.2.1 e
      · exact hf.2.2 e
  refine ⟨(blk_set_other (by show _ ≠ k; omega)).trans h.h6, (blk_set_other (by show _ ≠ k; omega)).trans h.h7, (blk_set_other (by show _ ≠ k; omega)).trans h.h8, (blk_set_other (by show _ ≠ k; omega)).trans h.h9,
    ⟨nx, nodes, v, h1.same fun j hj => blk_set_other (hnf j hj), h2, h3, h4⟩, ⟨u, n, (blk_set_other (by show _ ≠ k; omega)).trans g1, row_kept g2 fun j hj => blk_set_other ?_, g3⟩, h.sz, h.bel.setCell (p := ⟨k, 0, none⟩) (by show w.heap.size ≤ k; omega) _, h.far, h.b10⟩
  rintro rfl
  obtain ⟨cur', hc'⟩ := row_block g2 hj
  rw [hk] at hc'
  simp only [Option.some.injEq, Obj.cells.injEq] at hc'
  exact hE hc'.2.1
/-- The items' slice, as the walk reads it. -/
theorem FA.slice (h : FA w fresh leave p b9 b10 B L W) : ∃ au cu, W.heap[b10]? = some (.cells #[.slice au L.length cu] TItems (0, 0)) ∧ W.ownsRow 0 TItem 3 (.slice au L.length cu) L.length (L.flatMap encIt) := by
  obtain ⟨u, n, g1, g2, rfl⟩ := h.itm
  obtain ⟨au, cu, rfl⟩ := owns_slice g2
  exact ⟨au, cu, g1, g2⟩
theorem FA.small (h : FA w fresh leave p b9 b10 B L W) : SmallIts L := ⟨by have := h.sz.1; omega, fun y hy => by have := h.sz.2 y hy; omega⟩
theorem FA.uniq (h : FA w fresh leave p b9 b10 B L W) : UniqIt L := by
  obtain ⟨nx, nodes, v, h1, h2, rfl, h4⟩ := h.lst
  exact its_uniq h2
theorem touched_type {nx : Nat → Nat → Nat} {nodes : List (Nd V)} {v : Value} (h : IsAt W p nx nodes v) (ht : Touched (foot p v nodes) W W') {k : Nat} {cur : Array Value} {E : TypeId} {fr : Nat × Nat} (hk : W.heap[k]? = some (.cells cur E fr)) (hE : E ≠ TL ∧ E ≠ TN ∧ E ≠ TInt) :
    W'.heap[k]? = some (.cells cur E fr) :=
  touched_blk ht hk fun hf => by
    obtain ⟨cur', E', hc', hE'⟩ := foot_type h hf
    rw [hk] at hc'
    simp only [Option.some.injEq, Obj.cells.injEq] at hc'
    obtain ⟨_, rfl, _⟩ := hc'
    rcases hE' with e | e | e
    · exact hE.1 e
    · exact hE.2.1 e
    · exact hE.2.2 e
/-- Both lists get a key. -/
theorem FA.next (h : FA w fresh leave p b9 b10 B L W) {nx : Nat → Nat → Nat} {nodes : List (Nd V)} {v : Value} (hat : IsAt W p nx nodes v) (hft : ∀ j, foot p v nodes j → p ≤ j ∧ j ∉ B) {W1 : World} {nx' : Nat → Nat → Nat} {nodes' : List (Nd V)} {v' : Value}
    (ht : Touched (foot p v nodes) W W1) (hat' : IsAt W1 p nx' nodes' v') (hln' : Linked nodes' nx') (hft' : ∀ k, foot p v' nodes' k → foot p v nodes k ∨ W.heap.size ≤ k) (hB : ∀ j ∈ B, j < W.heap.size) (hp : p < W.heap.size) {L' : List It} (hL : its nodes' = L')
    {W2 : World} (hb : Below W1.heap.size W1 W2) {base : Nat} {u' : Value} {n' : Nat} (ho : W2.ownsRow base TItem 3 u' n' (L'.flatMap encIt)) (hn : n' = L'.length) (hsz : L'.length ≤ 200 ∧ ∀ y ∈ L', y.1.size ≤ 20000) :
    FA w fresh leave p b9 b10 B L' (W2.setCell ⟨b10, 0, none⟩ u') := by
  obtain ⟨u, n, g1, g2, g3⟩ := h.itm
  have t1 : TStr ≠ TL ∧ TStr ≠ TN ∧ TStr ≠ TInt := by decide
  have t2 : TBool ≠ TL ∧ TBool ≠ TN ∧ TBool ≠ TInt := by decide
  have t3 : TPtr ≠ TL ∧ TPtr ≠ TN ∧ TPtr ≠ TInt := by decide
  have t4 : TItems ≠ TL ∧ TItems ≠ TN ∧ TItems ≠ TInt := by decide
  have k6 := blk_kept hb (touched_type hat ht h.h6 t1)
  have k7 : W2.heap[w.heap.size + 1]? = some (.cells #[.int .i64 leave] TInt (0, 0)) := blk_kept hb (touched_blk ht h.h7 fun hf => by have := (hft _ hf).1; have := h.far; omega)
  have k8 := blk_kept hb (touched_type hat ht h.h8 t2)
  have k9 := blk_kept hb (touched_type hat ht h.h9 t3)
  have k10 := blk_kept hb (touched_type hat ht g1 t4)
  have hf' : ∀ j, foot p v' nodes' j → p ≤ j ∧ j ∉ B := fun j hj => by
    rcases hft' j hj with h1 | h1
    · exact hft j h1
    · exact ⟨by omega, fun hm => by have := hB j hm; omega⟩
  have hne : ∀ {j : Nat} {cur : Array Value} {E : TypeId}, W2.heap[j]? = some (.cells cur E (0, 0)) → E ≠ TItems → j ≠ b10 := fun hj hE e => by
    subst e
    rw [k10] at hj
    simp only [Option.some.injEq, Obj.cells.injEq] at hj
    exact hE hj.2.1.symm
  have hbel : Below w.heap.size w W2 := (h.bel.trans (ht.below (B := w.heap.size) h.bel.size (fun j hj => by have := (hft j hj).1; have := h.far; omega))).trans (hb.mono (Nat.le_trans h.bel.size ht.size))
  have h10 : w.heap.size ≤ b10 := by
    rcases Nat.lt_or_ge b10 w.heap.size with hlt | hge
    · have a1 := h.far
      have a2 : b10 < W.heap.size := blk_lt g1
      exact absurd hlt (by have := h.b10; omega)
    · exact hge
  refine ⟨(blk_set_other (hne k6 (by decide))).trans k6, (blk_set_other (hne k7 (by decide))).trans k7, (blk_set_other (hne k8 (by decide))).trans k8, (blk_set_other (hne k9 (by decide))).trans k9,
    ⟨nx', nodes', v', (hat'.kept hb).same fun j hj => blk_set_other ?_, hln', hL, hf'⟩, ⟨u', n', blk_one_set k10 u', row_kept (owns_mono ho (Nat.zero_le _)) fun j hj => blk_set_other ?_, hn⟩, hsz, hbel.setCell (p := ⟨b10, 0, none⟩) h10 _, h.far, h.b10⟩
  · obtain ⟨cur, E, hc, hE⟩ := foot_type (hat'.kept hb) hj
    refine hne hc ?_
    rcases hE with rfl | rfl | rfl <;> decide
  · obtain ⟨cur, hc⟩ := row_block ho hj
    exact hne hc (by decide)
end
end Go.Proofs.Try.SkS
