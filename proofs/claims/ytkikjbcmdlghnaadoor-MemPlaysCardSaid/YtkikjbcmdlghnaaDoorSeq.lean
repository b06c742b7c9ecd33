/- A range over a function whose iterator tells, of what lies in memory at each round, what comes next: the body is told what it is handed. Of whatever program. -/
import Derived.RangeFuncNested
import Derived.RangeFuncBound
import Derived.RangeFuncCalls
import Derived.RangeFuncLeaves
import Derived.Shelf.Abstract
import Derived.Shelf.RegionOpen
import Derived.OwnWalkIn
import Derived.TacticsInMore
import Derived.LoopNIn
import Derived.LoopIn
import Derived.Sort.LoopGhostIn
import Derived.Stop.RegionWithIn
import Derived.Test.YtkikjbcmdlghnaaDoorLib
set_option linter.unusedVariables false
set_option linter.unusedSimpArgs false
namespace Go.Cph
open Go.RowKit

/-- Whatever is cells, or lies below B, lies as it lay. -/
structure Kept (B : Nat) (W W' : World) : Prop where
  os : W'.os = W.os
  tape : W'.tape = W.tape
  output : W'.output = W.output
  size : W.heap.size ≤ W'.heap.size
  same : ∀ k o, W.heap[k]? = some o → (k < B ∨ o.isCells = true) → W'.heap[k]? = some o
theorem Kept.of_below {B : Nat} {W W' : World} (h : Below W.heap.size W W') : Kept B W W' := ⟨h.os, h.tape, h.output, h.size, fun k o hk _ => by rw [h.block k (blk_lt hk)]; exact hk⟩
theorem Kept.put {B : Nat} {W : World} {l : Nat} {o : Obj} (o' : Obj) (hB : B ≤ l) (hl : W.heap[l]? = some o) (ho : o.isCells = false) : Kept B W (W.putObj l o') :=
  ⟨rfl, rfl, rfl, by simp, fun k x hk hx => by
    rw [World.putObj_heap_other]
    · exact hk
    · rintro rfl
      rw [hl] at hk
      cases hk
      rcases hx with hx | hx
      · omega
      · rw [ho] at hx; cases hx⟩
theorem Kept.below {B n : Nat} {w W W' : World} (h : Kept B W W') (hb : Below n w W) (hn : n ≤ B) (hw : n ≤ w.heap.size) : Below n w W' := by
  refine ⟨h.os.trans hb.os, h.tape.trans hb.tape, h.output.trans hb.output, Nat.le_trans hb.size h.size, fun k hk => ?_⟩
  have hk' : k < W.heap.size := Nat.lt_of_lt_of_le hk (Nat.le_trans hw hb.size)
  rw [← hb.block k hk]
  exact (h.same k W.heap[k] (by simp [hk']) (.inl (by omega))).trans (by simp [hk'])
theorem Kept.cells {B : Nat} {W W' : World} (h : Kept B W W') {k : Nat} {cur : Array Value} {E : TypeId} {fr : Nat × Nat} (hk : W.heap[k]? = some (.cells cur E fr)) : W'.heap[k]? = some (.cells cur E fr) := h.same k _ hk (.inr rfl)

/-- What an iterator's function does: where LIST pre stands behind each round, it hands on what NEXT names, and ends where DONE. -/
def SeqTells {α : Type} (P : Program) (g : Nat) (lb : Array Value) (encs : α → Array Value) (LIST : List α → World → Prop) (NEXT : List α → α → Prop) (DONE : List α → Prop) : Prop :=
  ∀ (l : Nat) (J Jx : List α → World → Prop) (W : World), (∀ pre W', J pre W' → LIST pre W') → (∀ pre A B, J pre A → Below A.heap.size A B → J pre B) → (∀ pre A B, Jx pre A → Below A.heap.size A B → Jx pre B) →
    (∀ pre x W1, J pre W1 → NEXT pre x → YieldAt Fence.wide 5 P l (encs x) W1 fun e W' => ∃ b, e = .returned (.bool b) ∧ (b = true → J (pre ++ [x]) W') ∧ (b = false → Jx (pre ++ [x]) W')) →
    J [] W →
    Calls P g (#[.func (.yield l) #[] #[]] ++ lb) W fun e W' => (∃ v, e = .returned v) ∧ ((∃ xs, DONE xs ∧ J xs W') ∨ (∃ pre, Jx pre W'))

theorem wp_rangeFunc_tells {α : Type} {P : Program} {g : Operand} {ps : Array Tmp} {assign body : Code} {Q : Exit → Act → World → Prop} {a : Act} {w : World}
    {gf : Nat} {lb : Array Value} (hg : a.eval g = .func (.func gf) #[] lb) (eg : ∀ args w, (callFunc gf args).run P w = .ok (.enter gf args) w)
    {encs : α → Array Value} {LIST : List α → World → Prop} {NEXT : List α → α → Prop} {DONE : List α → Prop} (hseq : SeqTells P gf lb encs LIST NEXT DONE) (hps : ∀ x, (encs x).size = ps.size)
    (I : List α → World → Prop) (Ix : Code → List α → World → Prop) (hI : ∀ s A B, I s A → Kept w.heap.size A B → I s B) (hIx : ∀ c s A B, Ix c s A → Kept w.heap.size A B → Ix c s B)
    (hIL : ∀ s W, I s W → LIST s W) (h0 : I [] w) (a₁ : α → Act)
    (hassign : ∀ (l : Nat) (x : α) (W : World) (K : Act → World → Prop), K (a₁ x) W →
      assign.wpIn (Fence.wide.inRound l) 5 P (Exit.then K (fun _ _ _ => False)) { tmps := (ps.zip (encs x)).foldl (fun t (p, v) => t.setIfInBounds p v) a.tmps, defers := [] } W)
    (hbody : ∀ (l : Nat) (pre : List α) (x : α) (W : World), I pre W → NEXT pre x → body.wpIn (Fence.wide.inRound l) 5 P (ownPostG w.heap.size (fun _ _ => True) I Ix (pre ++ [x]) W) (a₁ x) W)
    (hdone : ∀ (D : Nat) (xs : List α) (W : World), w.heap.size ≤ D → DONE xs → I xs W → W.heap[D]? = some (.deferred (some [])) → Q .normal { a with defers := { target := .collected D, args := #[] } :: a.defers } W)
    (hstop : ∀ (D : Nat) (c : Code) (pre : List α) (W : World), w.heap.size ≤ D → Ix c pre W → W.heap[D]? = some (.deferred (some [])) → c.wp P Q { a with defers := { target := .collected D, args := #[] } :: a.defers } W) :
    (Code.rangeFunc g ps assign body).wp P Q a w := by
  refine (wpIn_wide (n := 6)).1 (wpIn_rangeFunc fun fn hfn => ?_)
  let rec_ : LoopState → Option Code → Loop := fun st pe => { state := st, pending := pe, fn := fn, tmps := a.tmps, params := ps, assign := assign, body := body, defers := w.heap.size }
  obtain ⟨W1, hW1⟩ : ∃ W1, (w.alloc (.deferred (some []))).alloc (.loop (rec_ .ready none)) = W1 := ⟨_, rfl⟩
  have hL : W1.heap[w.heap.size + 1]? = some (.loop (rec_ .ready none)) := by
    rw [← hW1]; have := World.alloc_heap_new (w.alloc (.deferred (some []))) (.loop (rec_ .ready none)); rwa [World.size_alloc] at this
  have hD : W1.heap[w.heap.size]? = some (.deferred (some [])) := by
    rw [← hW1]; exact (Below.heap_alloc _ _ _ (by simp)).trans (World.alloc_heap_new w _)
  have hI1 : I [] W1 := by
    rw [← hW1]
    exact hI _ _ _ (hI _ _ _ h0 (.of_below ((Below.refl _ _).alloc (Nat.le_refl _) _))) (.of_below ((Below.refl _ _).alloc (Nat.le_refl _) _))
  refine ⟨w.heap.size + 1, [{ target := .collected w.heap.size, args := #[] }], W1, { target := .fn (.func gf) lb, args := #[.func (.yield (w.heap.size + 1)) #[] #[]] }, W1, gf,
    #[.func (.yield (w.heap.size + 1)) #[] #[]] ++ lb, W1, ?_, ?_, fun _ _ => trivial, ?_, fun _ => by omega, ?_⟩
  · rw [← hW1]; exact run_enterLoop_outer _ _ _ _ _
  · simp only [resolve, hg]
    simp [go_sem]
  · simp [invoke, go_sem, eg]
  · refine CallsIn.mono (callsIn_wide.2 (hseq (w.heap.size + 1)
      (fun pre W => I pre W ∧ W.heap[w.heap.size + 1]? = some (.loop (rec_ .ready none)) ∧ W.heap[w.heap.size]? = some (.deferred (some [])))
      (fun pre W => ∃ c, Ix c pre W ∧ W.heap[w.heap.size + 1]? = some (.loop (rec_ .done (some c))) ∧ W.heap[w.heap.size]? = some (.deferred (some [])))
      W1 (fun pre W' h => hIL _ _ h.1)
      (fun pre A B h hb => ⟨hI _ _ _ h.1 (.of_below hb), blk_kept hb h.2.1, blk_kept hb h.2.2⟩)
      (fun pre A B ⟨c, h1, h2, h3⟩ hb => ⟨c, hIx _ _ _ _ h1 (.of_below hb), blk_kept hb h2, blk_kept hb h3⟩)
      ?_ ⟨hI1, hL, hD⟩)) ?_
    · rintro pre x W ⟨hi, hl, hk⟩ hnext
      have hy := run_yield (P := P) (args := encs x) hl (hps x)
      refine ⟨fn, _, assign, body, hy, roundIn_of_wpIn hfn (hassign _ x W _ ⟨_, run_beginRound hl rfl, ?_⟩)⟩
      have hlt : w.heap.size + 1 < W.heap.size := blk_lt hl
      generalize hW2 : W.putObj (w.heap.size + 1) _ = W2
      have hl2 : W2.heap[w.heap.size + 1]? = some (.loop { rec_ .ready none with state := .busy }) := by rw [← hW2]; exact World.putObj_heap_same hlt
      have hk2 : W2.heap[w.heap.size]? = some (.deferred (some [])) := by rw [← hW2]; exact (World.putObj_heap_other (by omega)).trans hk
      have hi2 : I pre W2 := by rw [← hW2]; exact hI _ _ _ hi (.put _ (by omega) hl rfl)
      refine wpIn_mono (hbody _ pre x W2 hi2 hnext) ?_
      have fin : ∀ (jump : Option Code) (W3 : World), KeepsFrom w.heap.size W2 W3 →
          (Instr.endRound (w.heap.size + 1) jump).run P W3 = .ok (.bool jump.isNone) (W3.putObj (w.heap.size + 1) (.loop (rec_ (if jump.isNone then .ready else .done) jump))) ∧
          Kept w.heap.size W3 (W3.putObj (w.heap.size + 1) (.loop (rec_ (if jump.isNone then .ready else .done) jump))) ∧
          (W3.putObj (w.heap.size + 1) (.loop (rec_ (if jump.isNone then .ready else .done) jump))).heap[w.heap.size + 1]? = some (.loop (rec_ (if jump.isNone then .ready else .done) jump)) ∧
          (W3.putObj (w.heap.size + 1) (.loop (rec_ (if jump.isNone then .ready else .done) jump))).heap[w.heap.size]? = some (.deferred (some [])) := fun jump W3 hk3 => by
        have hl3 := hk3.same _ _ (by omega) hl2 rfl
        exact ⟨run_endRound (P := P) jump hl3, .put _ (by omega) hl3 rfl, World.putObj_heap_same (blk_lt hl3), (World.putObj_heap_other (by omega)).trans (hk3.same _ _ (Nat.le_refl _) hk2 rfl)⟩
      rintro e a3 W3 hp
      cases e with
      | normal =>
        obtain ⟨hk3, _, hi3⟩ := hp
        obtain ⟨hr, hl3, hl4, hk4⟩ := fin none W3 hk3
        exact ⟨_, _, hr, true, rfl, fun _ => ⟨hI _ _ _ hi3 hl3, hl4, hk4⟩, fun h => by cases h⟩
      | ret =>
        obtain ⟨hk3, hi3⟩ := hp
        obtain ⟨hr, hl3, hl4, hk4⟩ := fin (some .ret) W3 hk3
        exact ⟨_, _, hr, false, rfl, (fun h => by cases h), fun _ => ⟨_, hIx _ _ _ _ hi3 hl3, hl4, hk4⟩⟩
      | exit id =>
        obtain ⟨hk3, hi3⟩ := hp
        obtain ⟨hr, hl3, hl4, hk4⟩ := fin (some (.exit id)) W3 hk3
        exact ⟨_, _, hr, false, rfl, (fun h => by cases h), fun _ => ⟨_, hIx _ _ _ _ hi3 hl3, hl4, hk4⟩⟩
      | goto t =>
        obtain ⟨hk3, hi3⟩ := hp
        obtain ⟨hr, hl3, hl4, hk4⟩ := fin (some (.goto t)) W3 hk3
        exact ⟨_, _, hr, false, rfl, (fun h => by cases h), fun _ => ⟨_, hIx _ _ _ _ hi3 hl3, hl4, hk4⟩⟩
      | panic ch => exact hp.elim
      | outgrown => exact hp.elim
    · rintro e W2 ⟨⟨v, rfl⟩, (⟨xs, hS, hi, hl, hk⟩ | ⟨pre, c, hi, hl, hk⟩)⟩
      · exact ⟨none, _, run_endLoop (P := P) hl (by simp [rec_]), hdone _ xs _ (Nat.le_refl _) hS (hI _ _ _ hi (.put _ (by omega) hl rfl)) ((World.putObj_heap_other (by omega)).trans hk)⟩
      · exact ⟨some c, _, run_endLoop (P := P) hl (by simp [rec_]), (wpIn_wide (n := 6)).2 (hstop _ c pre _ (Nat.le_refl _) (hIx _ _ _ _ hi (.put _ (by omega) hl rfl)) ((World.putObj_heap_other (by omega)).trans hk))⟩

/-- Ways that meet again: what follows is walked once. -/
def meetQ {β : Type} (A : β → Act) (R : β → World → Prop) : Exit → Act → World → Prop
  | .normal, a, w => ∃ x, a = A x ∧ R x w
  | .ret, _, _ => False
  | .exit _, _, _ => False
  | .goto _, _, _ => False
  | .panic _, _, _ => False
  | .outgrown, _, _ => False
theorem wpIn_meet {F : Fence} {n : Nat} {P : Program} {c : Code} {Q : Exit → Act → World → Prop} {a : Act} {w : World} {β : Type} {A : β → Act} (R : β → World → Prop)
    (h : c.wpIn F n P (meetQ A R) a w) (k : ∀ x w', R x w' → Q .normal (A x) w') : c.wpIn F n P Q a w :=
  wpIn_mono h fun e a' w' hq => by
    cases e with
    | normal => obtain ⟨x, ha, hr⟩ := hq; subst ha; exact k x w' hr
    | ret => exact hq.elim
    | exit _ => exact hq.elim
    | goto _ => exact hq.elim
    | panic _ => exact hq.elim
    | outgrown => exact hq.elim
theorem wp_meet {P : Program} {c : Code} {Q : Exit → Act → World → Prop} {a : Act} {w : World} {β : Type} {A : β → Act} (R : β → World → Prop)
    (h : c.wp P (meetQ A R) a w) (k : ∀ x w', R x w' → Q .normal (A x) w') : c.wp P Q a w :=
  (wpIn_wide (n := 6)).1 (wpIn_meet R (wpIn_wide.2 h) k)

/-- A function in which such a statement stands: its walk; what it leaves behind, with the statement's marks. -/
theorem calls_of_wp_marks {P : Program} {f : FuncId} {fn : Func} {c : Code} {args : Array Value} {w : World} {R : Ending → World → Prop} (hf : P.funcs[f]? = some fn) (hb : fn.body = some c)
    (h : c.wp P (bodyPostM Fence.wide 6 P fn R) { tmps := args ++ Array.replicate (fn.ntmps - args.size) undef, defers := [] } w) : Calls P f args w R :=
  (callsIn_wide (n := 6)).1 (callsIn_of_wp_marks hf hb trivial ((wpIn_wide (n := 6)).2 h) rfl)
end Go.Cph
