/- Lists put together for a call: append(append([][]Span{}, l...), taken), in whatever order memory is made. -/
import Derived.Test.YtmnfddmjlkkcoaaGk7
import Derived.Test.YtmnfddmjlkkcoaaGp7
set_option linter.unusedVariables false
set_option linter.unusedSimpArgs false
namespace Go.Proofs.Try.Gp
open Go.RowKit Go.Cph Go.Cph.Px Go.Cph.Gp Go.Cph.So

abbrev TSS : TypeId := 22
/-- A row of slices that reads as lists: the row itself is new, the lists are elder. -/
structure RowOf (W0 W : World) (v : Value) (ls : List (List Sp)) : Prop where
  out : ∃ vs : List Value, vs.length = ls.length ∧ W.ownsRow W0.heap.size TS 1 v ls.length vs ∧ ∀ j (h : j < vs.length) (k : j < ls.length), SpsAt W0 vs[j] ls[j]
theorem slices_one {W0 : World} {vs : List Value} {ls : List (List Sp)} (hl : vs.length = ls.length) (h : ∀ j (h : j < vs.length) (k : j < ls.length), SpsAt W0 vs[j] ls[j]) : ∀ u ∈ vs, u.oneCell' = true := by
  intro u hu
  obtain ⟨j, hj, rfl⟩ := List.mem_iff_getElem.1 hu
  obtain ⟨ao, cap, e⟩ := elems_slice (h j hj (by omega))
  rw [e]; rfl
theorem grown_far {W W' : World} {b c : Nat} {o1 o2 : Obj} (hg : W.grownBy W' (some b)) (hb : W.heap[b]? = some o1) (hc : W.heap[c]? = some o2) (hne : o1 ≠ o2) : W'.heap[c]? = some o2 := by
  rw [hg.block c (blk_lt hc) (fun e => ?_)]
  · exact hc
  · injection e with e
    subst e
    rw [hb] at hc
    injection hc with hc
    exact hne hc
theorem RowOf.far {W0 W W' : World} {v : Value} {ls : List (List Sp)} {c : Nat} {cur : Array Value} {T : TypeId} {fr : Nat × Nat} (h : RowOf W0 W v ls) (hg : W.grownBy W' v.ownBlock) (hc : W.heap[c]? = some (.cells cur T fr)) (hne : T ≠ TS) : W'.heap[c]? = some (.cells cur T fr) := by
  obtain ⟨vs, hl, ⟨-, h2⟩, -⟩ := h.out
  rcases h2 with ⟨rfl, -⟩ | ⟨g, cap, cur2, rfl, -, hh, -⟩
  · rw [hg.block c (blk_lt hc) (by simp [Value.ownBlock])]; exact hc
  · exact grown_far hg hh hc (fun e => hne (by injection e with _ e2 _; exact e2.symm))
theorem RowOf.lists {W0 W : World} {v : Value} {ls : List (List Sp)} (h : RowOf W0 W v ls) (hb : Below W0.heap.size W0 W) : SpsOf W v ls := by
  obtain ⟨vs, hl, ho, he⟩ := h.out
  exact ⟨vs, hl, Seg.of_owns ho, fun j hj hk => (he j hj hk).kept hb⟩
theorem RowOf.alloc {W0 W : World} {v : Value} {ls : List (List Sp)} (h : RowOf W0 W v ls) (o : Obj) : RowOf W0 (W.alloc o) v ls := by
  obtain ⟨vs, hl, ho, he⟩ := h.out
  exact ⟨vs, hl, ho.alloc o, he⟩
theorem RowOf.drew {W0 W : World} {v : Value} {ls : List (List Sp)} (h : RowOf W0 W v ls) : RowOf W0 W.drew v ls := by
  obtain ⟨vs, hl, ho, he⟩ := h.out
  exact ⟨vs, hl, ho.drew, he⟩
theorem bel_drew {w W : World} (h : Below w.heap.size w W) : Below w.heap.size w W.drew := h.drew
theorem bel_alloc {w W : World} (h : Below w.heap.size w W) (o : Obj) : Below w.heap.size w (W.alloc o) := h.alloc h.size o
theorem bel_set {w W : World} (h : Below w.heap.size w W) {p : Addr} (hp : w.heap.size ≤ p.block) (v : Value) : Below w.heap.size w (W.setCell p v) := h.setCell hp v
theorem bel_step {w W W' : World} (h : Below w.heap.size w W) (hb : Below W.heap.size W W') : Below w.heap.size w W' := below_step h hb h.size
theorem heap_new1 (w : World) (o1 o2 : Obj) : ((w.alloc o1).alloc o2).heap[w.heap.size + 1]? = some o2 := by
  have := heap_alloc_new (w.alloc o1) o2
  rwa [World.size_alloc] at this
theorem heap_new2 (w : World) (o1 o2 o3 : Obj) : (((w.alloc o1).alloc o2).alloc o3).heap[w.heap.size + 1 + 1]? = some o3 := by
  have := heap_alloc_new ((w.alloc o1).alloc o2) o3
  rwa [World.size_alloc, World.size_alloc] at this
theorem ne_cells {a b : Array Value} {T U : TypeId} {f g : Nat × Nat} (h : T ≠ U) : Obj.cells a T f ≠ Obj.cells b U g := fun e => h (by injection e)
theorem ne_empty {u : Value} {T U : TypeId} {f g : Nat × Nat} : Obj.cells #[] T f ≠ Obj.cells #[u] U g := fun e => by
  injection e with e _ _
  have := congrArg Array.size e
  simp at this
theorem box0a_0 {w : World} {b : Nat} (h : w.heap[b]? = some box0a) : w.cell? ⟨b, 0, none⟩ = some (.int .u8 0) := by rw [blk_cell h]; rfl
theorem box0a_1 {w : World} {b : Nat} (h : w.heap[b]? = some box0a) : w.cell? ⟨b, 1, none⟩ = some (.int .u64 0) := by rw [blk_cell h]; rfl
theorem box0a_2 {w : World} {b : Nat} (h : w.heap[b]? = some box0a) : w.cell? ⟨b, 2, none⟩ = some (.int .u64 0) := by rw [blk_cell h]; rfl
theorem box0a_f {w : World} {b : Nat} (h : w.heap[b]? = some box0a) : ∀ j, w.frozen? ⟨b, j, none⟩ = false := fun j => by rw [blk_frozen h]; simp
theorem step_app1 {ops : Array Oper} {o : Oper} {a : Act} {W W0 : World} {K : Act → World → Prop} {Q : Exit → Act → World → Prop} {E : Prop} {v : Value} {ls : List (List Sp)}
    (hg : o.guard = none) (d x : Operand) (hop : o.op = Op.call { callee := Callee.builtin Builtin.append, args := #[d, x], argTypes := #[TSS, TSS] }) {b : Nat}
    (hd : a.eval d = .slice (some ⟨b, 0, none⟩) 0 0) (hx : a.eval x = v) (hb : W.heap[b]? = some (.cells #[] TS (0, 0))) (hge : W0.heap.size ≤ b) (HB : Below W0.heap.size W0 W) (HS : SpsOf W0 v ls) (hn : ls.length ≤ 1000)
    (hK : ∀ v' W', RowOf W0 W' v' ls → Below W0.heap.size W0 W' → W.grownBy W' (some b) → K (a.put o.dst v') W') :
    if Region.wanted o (yielded ops a.tmps) = true then Oper.wp Try.prog o a W K Q else E := by
  obtain ⟨vs, hl, hs, he⟩ := HS
  have hown := owns_empty hb hge 1
  obtain ⟨v', W', hr, ho, hgr, -⟩ := run_append_seg (P := Try.prog) W TSS o.type TS _ 1 24 Try.underlying22 infoS rfl (by decide) hown (hs.kept HB) (slices_one hl he) (by omega) (by decide) HB.size
  refine step_append hg d x TSS TSS hop _ _ hd hx hr (hK v' W' ⟨vs, hl, by simpa using ho, he⟩ (below_grown HB hgr hown (Nat.le_refl _) HB.size) hgr)
theorem step_app2 {ops : Array Oper} {o : Oper} {a : Act} {W W0 : World} {K : Act → World → Prop} {Q : Exit → Act → World → Prop} {E : Prop} {v tv : Value} {ls : List (List Sp)} {T : List Sp}
    (hg : o.guard = none) (d x : Operand) (hop : o.op = Op.call { callee := Callee.builtin Builtin.append, args := #[d, x], argTypes := #[TSS, TSS] }) {b : Nat} {fr : Nat × Nat}
    (hd : a.eval d = v) (hx : a.eval x = .slice (some ⟨b, 0, none⟩) 1 1) (hb : W.heap[b]? = some (.cells #[tv] TS fr)) (HR : RowOf W0 W v ls) (HB : Below W0.heap.size W0 W) (HT : SpsAt W0 tv T) (hn : ls.length ≤ 1000)
    (hK : ∀ v' W', RowOf W0 W' v' (ls ++ [T]) → Below W0.heap.size W0 W' → W.grownBy W' v.ownBlock → K (a.put o.dst v') W') :
    if Region.wanted o (yielded ops a.tmps) = true then Oper.wp Try.prog o a W K Q else E := by
  obtain ⟨vs, hl, ho, he⟩ := HR.out
  obtain ⟨ao, cap, htv⟩ := elems_slice HT
  have hs : Seg W 1 (.slice (some ⟨b, 0, none⟩) 1 1) 1 [tv] := ⟨⟨_, _, rfl, fun _ => ⟨b, 0, rfl, fun j hj => by
    obtain rfl : j = 0 := by omega
    rw [Nat.zero_add, blk_cell hb]; rfl⟩⟩, rfl⟩
  obtain ⟨v', W', hr, ho', hgr, -⟩ := run_append_seg (P := Try.prog) W TSS o.type TS _ 1 24 Try.underlying22 infoS rfl (by decide) ho hs (by intro u hu; rw [List.mem_singleton] at hu; rw [hu, htv]; rfl) (by omega) (by decide) HB.size
  refine step_append hg d x TSS TSS hop _ _ hd hx hr (hK v' W' ⟨vs ++ [tv], by rw [List.length_append, List.length_append, hl]; rfl, by rw [List.length_append]; exact ho', fun j hj hk => ?_⟩ (below_grown HB hgr ho (Nat.le_refl _) HB.size) hgr)
  by_cases hjl : j < ls.length
  · simp only [List.getElem_append_left (show j < vs.length by omega), List.getElem_append_left hjl]
    exact he j _ _
  · rw [List.length_append, List.length_singleton] at hk
    simp only [List.getElem_append_right (show vs.length ≤ j by omega), List.getElem_append_right (show ls.length ≤ j by omega), List.getElem_singleton]
    exact HT
end Go.Proofs.Try.Gp
