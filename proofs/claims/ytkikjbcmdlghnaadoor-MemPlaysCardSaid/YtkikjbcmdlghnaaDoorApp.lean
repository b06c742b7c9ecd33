/- append of one one-cell element into a slice of the call's own, inside a round; a box whose slice grows. Of whatever program. -/
import Derived.Test.YtkikjbcmdlghnaaDoorSeqEnd
import Derived.Maps.OwnIn
import Derived.Test.YtkikjbcmdlghnaaDoorSkQ
set_option linter.unusedVariables false
set_option linter.unusedSimpArgs false
namespace Go.Cph
open Go.RowKit

theorem wpListIn_append1 {F : Fence} {nF : Nat} {P : Program} {ops : Array Oper} {rest : List Oper} {o : Oper} {a : Act} {W : World} {Q : Exit → Act → World → Prop} (hgd : o.guard = none) (s x : Operand) (t : TypeId)
    (ho : o.op = .call { callee := .builtin .append, args := #[s, x], argTypes := #[t, t] })
    (base : Nat) (e : TypeId) (z : Value) (bytes : Nat) (ht : P.underlying t = some (.slice e)) (hinfo : (P.info? e).map (fun i => (i.zero, i.size, i.bytes)) = some (some z, 1, bytes))
    (hzs : z.cells.size = 1) (v : Value) (n : Nat) (xs : List Value) (u : Value) (hs : a.eval s = v) (hown : W.ownsRow base e 1 v n xs)
    (c : Nat) (hx : a.eval x = .slice (some ⟨W.heap.size, 0, none⟩) 1 c) (h1 : u.oneCell' = true)
    (h63 : n + 1 ≤ 1099511627776) (hbytes : bytes ≤ 128) (hbase : base ≤ W.heap.size)
    (h : ∀ g cap w', w'.ownsRow base e 1 (.slice (some ⟨g, 0, none⟩) (n + 1) cap) (n + 1) (xs ++ [u]) → (W.alloc (.cells #[u] e)).grownBy w' v.ownBlock → (v.ownBlock = some g ∨ g = W.heap.size + 1) → W.heap.size < w'.heap.size →
      wpListIn F nF P ops Q rest (a.put o.dst (.slice (some ⟨g, 0, none⟩) (n + 1) cap)) w') :
    wpListIn F nF P ops Q (o :: rest) a (W.alloc (.cells #[u] e)) := by
  obtain ⟨i, hi, hz0, hz1, hz2⟩ := info_parts hinfo
  have hown' := hown.alloc (.cells #[u] e)
  have hsize : (W.alloc (.cells #[u] e)).heap.size = W.heap.size + 1 := by show (W.heap.push _).size = _; rw [Array.size_push]
  refine wpListIn_append_own_at _ hgd s x t ho base e i z 1 bytes ht hi hz0 hz1 hz2 hzs (by omega) v n xs hs hown' ⟨W.heap.size, 0, none⟩ 1 c [u] hx (by simp) ?_ (by simpa using h1) (by unfold maxLen; omega) ?_ (by rw [hsize]; omega) ?_
  · intro j y hj
    have hadd : (⟨W.heap.size, 0, none⟩ : Addr).add j = ⟨W.heap.size, j, none⟩ := by unfold Addr.add; split <;> simp_all
    rw [hadd, blk_cell (heap_alloc_new W _)]
    simpa using hj
  · exact Nat.le_trans (Nat.mul_le_mul h63 hbytes) (by omega)
  · intro v' w' h2 h3 _ h5
    obtain ⟨g, cap, rfl, _⟩ := owns_shape h2 (by omega)
    refine h g cap w' h2 h3 ?_ ?_
    · rcases h5 with h5 | h5
      · exact .inl (h5.symm.trans rfl)
      · rw [hsize] at h5; exact .inr (by simpa [Value.ownBlock] using h5)
    · have := h3.size
      rw [hsize] at this
      omega

/-- A box whose slice is a row of the call's own: it lies beyond 'base', and 'apart' is none of its blocks. -/
structure Grows (base : Nat) (t e : TypeId) (k n : Nat) (xs : List Value) (W : World) (v : Value) : Prop where
  box : W.heap[k]? = some (.cells #[v] t (0, 0))
  row : W.ownsRow base e 1 v n xs
theorem row_same {w w' : World} {base : Nat} {e : TypeId} {size : Nat} {v : Value} {n : Nat} {xs : List Value} (h : w.ownsRow base e size v n xs)
    (hk : ∀ k o, v.ownBlock = some k → w.heap[k]? = some o → o.isCells = true → w'.heap[k]? = some o) : w'.ownsRow base e size v n xs := by
  obtain ⟨h1, h2⟩ := h
  refine ⟨h1, ?_⟩
  rcases h2 with h2 | ⟨g, cap, cur, rfl, hb, hg, r⟩
  · exact .inl h2
  · exact .inr ⟨g, cap, cur, rfl, hb, hk g _ rfl hg rfl, r⟩
theorem Grows.kept {base B : Nat} {t e : TypeId} {k n : Nat} {xs : List Value} {W W' : World} {v : Value} (h : Grows base t e k n xs W v) (hk : Kept B W W') : Grows base t e k n xs W' v :=
  ⟨hk.cells h.box, row_same h.row fun j o _ ho hc => hk.same j o ho (.inr hc)⟩
theorem Grows.lt {base : Nat} {t e : TypeId} {k n : Nat} {xs : List Value} {W : World} {v : Value} (h : Grows base t e k n xs W v) {g : Nat} (hg : v.ownBlock = some g) : base ≤ g ∧ g < W.heap.size := h.row.lt g hg

theorem touched_kept {S : Nat → Prop} {w W W' : World} (h : Skip.Touched S w W) (hk : Kept w.heap.size W W') : Skip.Touched S w W' :=
  ⟨hk.os.trans h.os, hk.tape.trans h.tape, hk.output.trans h.output, Nat.le_trans h.size hk.size, fun k hlt hn => by
    have hb := h.block k hlt hn
    have hlt' : k < W.heap.size := Nat.lt_of_lt_of_le hlt h.size
    rw [← hb]
    exact (hk.same k W.heap[k] (by simp [hlt']) (.inl hlt)).trans (by simp [hlt'])⟩
theorem touched_blk {S : Nat → Prop} {w W : World} (h : Skip.Touched S w W) {k : Nat} {o : Obj} (hk : w.heap[k]? = some o) (hn : ¬ S k) : W.heap[k]? = some o := (h.block k (blk_lt hk) hn).trans hk
theorem touched_cell {S : Nat → Prop} {w W : World} (h : Skip.Touched S w W) {k j : Nat} {v : Value} (hk : w.cell? ⟨k, j, none⟩ = some v) (hn : ¬ S k) : W.cell? ⟨k, j, none⟩ = some v := by
  have hlt : k < w.heap.size := World.block_lt_of_cell? w _ hk
  rw [← hk]
  simp only [World.cell?, h.block k hlt hn]

section
variable {base : Nat} {t e : TypeId} {b b' n n' : Nat} {xs xs' : List Value} {A A1 : World} {v v' u : Value} {g cap : Nat}
theorem push_old (hb : Grows base t e b n xs A v) (r2 : (A.alloc (.cells #[u] e)).grownBy A1 v.ownBlock) {k : Nat} {o : Obj} (hk : A.heap[k]? = some o) (hne : v.ownBlock ≠ some k) : A1.heap[k]? = some o :=
  (r2.block k (by have := blk_lt hk; simp; omega) (fun e => hne e.symm)).trans (blk_alloc hk _)
theorem push_cells (hb : Grows base t e b n xs A v) (ho : Grows base t e b' n' xs' A v') (hlt : b < base) (hlt' : b' < base) (r2 : (A.alloc (.cells #[u] e)).grownBy A1 v.ownBlock) :
    A1.cell? ⟨b, 0, none⟩ = some v ∧ A1.frozen? ⟨b, 0, none⟩ = false ∧ A1.cell? ⟨b', 0, none⟩ = some v' ∧ A1.frozen? ⟨b', 0, none⟩ = false := by
  have h1 := push_old hb r2 hb.box (fun e => by have := (hb.lt e).1; omega)
  have h2 := push_old hb r2 ho.box (fun e => by have := (hb.lt e).1; omega)
  exact ⟨(blk_one h1).1, (blk_one h1).2, (blk_one h2).1, (blk_one h2).2⟩
structure Pushed (base : Nat) (t e : TypeId) (b b' n n' : Nat) (xs xs' : List Value) (A A2 : World) (u v v' : Value) : Prop where
  mine : Grows base t e b (n + 1) (xs ++ [u]) A2 v
  other : Grows base t e b' n' xs' A2 v'
  apart : ∀ g, v.ownBlock = some g → v'.ownBlock ≠ some g
  keeps : KeepsOthers A A2
  touched : ∀ (w : World) (S : Nat → Prop), Skip.Touched S w A → S b → w.heap.size = base → Skip.Touched S w A2
theorem push_step (hb : Grows base t e b n xs A v) (ho : Grows base t e b' n' xs' A v') (hbb : b ≠ b') (hlt : b < base) (hlt' : b' < base) (hap : ∀ g, v.ownBlock = some g → v'.ownBlock ≠ some g)
    (r1 : A1.ownsRow base e 1 (.slice (some ⟨g, 0, none⟩) (n + 1) cap) (n + 1) (xs ++ [u])) (r2 : (A.alloc (.cells #[u] e)).grownBy A1 v.ownBlock) (r3 : v.ownBlock = some g ∨ g = A.heap.size + 1) (r4 : A.heap.size < A1.heap.size) :
    Pushed base t e b b' n n' xs xs' A (A1.setCell ⟨b, 0, none⟩ (.slice (some ⟨g, 0, none⟩) (n + 1) cap)) u (.slice (some ⟨g, 0, none⟩) (n + 1) cap) v' := by
  have h1 := push_old hb r2 hb.box (fun e => by have := (hb.lt e).1; omega)
  have h2 := push_old hb r2 ho.box (fun e => by have := (hb.lt e).1; omega)
  have hg : base ≤ g ∧ g < A1.heap.size := r1.lt g rfl
  refine ⟨⟨blk_one_set h1 _, ?_⟩, ⟨?_, row_same ho.row fun k o hk ho' hc => ?_⟩, fun g' e e' => ?_, ?_, fun w S ht hS hw => ?_⟩
  · exact row_same r1 fun k o hk ho' _ => (blk_set_other (by simp [Value.ownBlock] at hk; show k ≠ b; omega)).trans ho'
  · exact (blk_set_other (fun e => hbb e.symm)).trans h2
  · have hk2 := ho.lt hk
    exact (blk_set_other (by show k ≠ b; omega)).trans (push_old hb r2 ho' (fun e => hap k e hk))
  · simp only [Value.ownBlock, Option.some.injEq] at e
    subst e
    have := ho.lt e'
    rcases r3 with r3 | r3
    · exact hap _ r3 e'
    · omega
  · have hk : KeepsOthers A A1 := by
      refine ⟨Nat.le_of_lt r4, fun k o hk ho' => push_old hb r2 hk fun he => ?_⟩
      obtain ⟨cur, hc⟩ : ∃ cur, A.heap[k]? = some (.cells cur e (0, 0)) := Skip.row_block hb.row he
      rw [hk] at hc
      cases hc
      cases ho'
    exact hk.trans (.setCell _ _ _)
  · have hs := r2.size
    refine ⟨(show (A1.setCell _ _).os = A1.os from rfl).trans (r2.os.trans ht.os), (show (A1.setCell _ _).tape = A1.tape from rfl).trans (r2.tape.trans ht.tape), (show (A1.setCell _ _).output = A1.output from rfl).trans (r2.output.trans ht.output), ?_, fun k hk hn => ?_⟩
    · have := ht.size
      simp [World.setCell] at hs ⊢
      omega
    · have hkA := ht.block k hk hn
      have hkl : k < A.heap.size := Nat.lt_of_lt_of_le hk ht.size
      rw [blk_set_other (by show k ≠ b; rintro rfl; exact hn hS), ← hkA]
      exact (push_old hb r2 (o := A.heap[k]) (by simp [hkl]) (fun e => by have := (hb.lt e).1; omega)).trans (by simp [hkl])
end
theorem owns_slice {w : World} {base : Nat} {e : TypeId} {size : Nat} {v : Value} {n : Nat} {xs : List Value} (h : w.ownsRow base e size v n xs) : ∃ ao cap, v = .slice ao n cap := by
  obtain ⟨_, h2⟩ := h
  rcases h2 with ⟨h2, h3⟩ | ⟨g, cap, cur, h2, _⟩
  · exact ⟨_, _, by rw [h2, h3]⟩
  · exact ⟨_, _, h2⟩
/-- Ways that meet again in one frame. -/
def meetQ0 (A : Act) (R : World → Prop) : Exit → Act → World → Prop
  | .normal, a, w => a = A ∧ R w
  | .ret, _, _ => False
  | .exit _, _, _ => False
  | .goto _, _, _ => False
  | .panic _, _, _ => False
  | .outgrown, _, _ => False
theorem wp_meet0 {P : Program} {c : Code} {Q : Exit → Act → World → Prop} {a : Act} {w : World} {A : Act} (R : World → Prop)
    (h : c.wp P (meetQ0 A R) a w) (k : ∀ w', R w' → Q .normal A w') : c.wp P Q a w :=
  wp_mono h fun e a' w' hq => by
    cases e with
    | normal => obtain ⟨ha, hr⟩ := hq; subst ha; exact k w' hr
    | ret => exact hq.elim
    | exit _ => exact hq.elim
    | goto _ => exact hq.elim
    | panic _ => exact hq.elim
    | outgrown => exact hq.elim
end Go.Cph
