/- The row of parts: a slice of slices of spans that are ours. -/
import Derived.Test.YtmnfddmjlkkcoaaGw1
set_option linter.unusedVariables false
set_option linter.unusedSimpArgs false
namespace Go.Proofs.Try.Gp
open Go.RowKit Go.Cph Go.Cph.Px Go.Cph.Gp Go.Cph.So
theorem infoS : (Try.prog.info? TS).map (fun i => (i.zero, i.size, i.bytes)) = some (some (.slice none 0 0), 1, 24) := by kernel_rfl
/-- The row of parts, and the part that is being made. -/
structure Pts (w0 : World) (vo vp : Value) (gs : List (List Sp)) (p : List Sp) (vs : List Value) (w : World) : Prop where
  out : w.ownsRow w0.heap.size TS 1 vo gs.length vs
  len : vs.length = gs.length
  el : ∀ j (h : j < vs.length) (k : j < gs.length), w.ownsRow w0.heap.size TE 6 vs[j] gs[j].length (gs[j].flatMap encC)
  part : w.ownsRow w0.heap.size TE 6 vp p.length (p.flatMap encC)
  apart : ∀ j (h : j < vs.length), vs[j].ownBlock = none ∨ vs[j].ownBlock ≠ vp.ownBlock
  pair : ∀ j k (hj : j < vs.length) (hk : k < vs.length), j < k → vs[j].ownBlock = none ∨ vs[j].ownBlock ≠ vs[k].ownBlock
  bel : Below w0.heap.size w0 w
theorem Pts.kept {w0 w w' : World} {vo vp : Value} {gs : List (List Sp)} {p : List Sp} {vs : List Value} (h : Pts w0 vo vp gs p vs w) (hb : Below w.heap.size w w') : Pts w0 vo vp gs p vs w' :=
  ⟨row_kept1 h.out fun k hk => hb.block k (h.out.lt k hk).2, h.len, fun j hj hk => row_kept1 (h.el j hj hk) fun k hk' => hb.block k ((h.el j hj hk).lt k hk').2, row_kept1 h.part fun k hk => hb.block k (h.part.lt k hk).2, h.apart, h.pair, below_step h.bel hb h.bel.size⟩
theorem own_type {w : World} {base base' n n' s s' : Nat} {e e' : TypeId} {v v' : Value} {xs xs' : List Value} (h : w.ownsRow base e s v n xs) (k : w.ownsRow base' e' s' v' n' xs') (hne : e ≠ e') : v.ownBlock = none ∨ v.ownBlock ≠ v'.ownBlock := by
  obtain ⟨_, h2⟩ := h
  obtain ⟨_, k2⟩ := k
  rcases h2 with ⟨h2, _⟩ | ⟨g, cap, cur, h2, _, h3, _⟩
  · rw [h2]; exact .inl rfl
  · rcases k2 with ⟨k2, _⟩ | ⟨g', cap', cur', k2, _, k3, _⟩
    · rw [h2, k2]; exact .inr (by simp [Value.ownBlock])
    · rw [h2, k2]
      refine .inr fun e0 => hne ?_
      simp [Value.ownBlock] at e0
      subst e0
      rw [h3] at k3
      injection k3 with k3
      injection k3
theorem Pts.grow {w0 w w' : World} {vo vp v' : Value} {gs : List (List Sp)} {p : List Sp} {vs : List Value} (h : Pts w0 vo vp gs p vs w) (x : Sp) (ho : w'.ownsRow w0.heap.size TE 6 v' (p.length + 1) (p.flatMap encC ++ encC x)) (hg : w.grownBy w' vp.ownBlock)
    (hv : v'.ownBlock = vp.ownBlock ∨ v'.ownBlock = some w.heap.size) : Pts w0 vo v' gs (p ++ [x]) vs w' := by
  refine ⟨h.out.kept hg (own_type h.out h.part (by decide)), h.len, fun j hj hk => (h.el j hj hk).kept hg (h.apart j hj), by rw [List.length_append, List.flatMap_append]; simpa using ho, fun j hj => ?_, h.pair, below_grown h.bel hg h.part (Nat.le_refl _) h.bel.size⟩
  rcases h.apart j hj with e | e
  · exact .inl e
  · rcases hv with f | f
    · rw [f]; exact .inr e
    · rw [f]
      by_cases hk : j < gs.length
      · cases ho : vs[j].ownBlock with
        | none => exact .inl rfl
        | some k =>
          right; intro e2
          have := ((h.el j hj hk).lt k ho).2
          injection e2 with e2
          omega
      · have := h.len; omega
theorem Pts.put {w0 w w' : World} {vo vp v' : Value} {gs : List (List Sp)} {p : List Sp} {vs : List Value} (h : Pts w0 vo vp gs p vs w) (ho : w'.ownsRow w0.heap.size TS 1 v' (gs.length + 1) (vs ++ [vp])) (hg : w.grownBy w' vo.ownBlock) : Pts w0 v' (.slice none 0 0) (gs ++ [p]) [] (vs ++ [vp]) w' := by
  have hap : ∀ {base n : Nat} {v : Value} {xs : List Value}, w.ownsRow base TE 6 v n xs → v.ownBlock = none ∨ v.ownBlock ≠ vo.ownBlock := fun k => own_type k h.out (by decide)
  refine ⟨by rw [List.length_append]; exact ho, by rw [List.length_append, List.length_append, h.len]; rfl, fun j hj hk => ?_, World.ownsRow_nil _ _ _ _, fun j hj => ?_, fun j k hj hk hjk => ?_, below_grown h.bel hg h.out (Nat.le_refl _) h.bel.size⟩
  · by_cases hjl : j < gs.length
    · simp only [List.getElem_append_left (show j < vs.length by rw [h.len]; exact hjl), List.getElem_append_left hjl]
      exact (h.el j _ _).kept hg (hap (h.el j (by rw [h.len]; exact hjl) hjl))
    · rw [List.length_append] at hj hk
      have hjv := h.len
      simp only [List.length_singleton] at hj hk
      simp only [List.getElem_append_right (show vs.length ≤ j by omega), List.getElem_append_right (show gs.length ≤ j by omega), List.getElem_singleton]
      exact h.part.kept hg (hap h.part)
  · by_cases hn : (vs ++ [vp])[j].ownBlock = none
    · exact .inl hn
    · exact .inr hn
  · rw [List.length_append] at hj hk
    simp only [List.length_singleton] at hj hk
    have hjv : j < vs.length := by omega
    simp only [List.getElem_append_left hjv]
    by_cases hkv : k < vs.length
    · simp only [List.getElem_append_left hkv]; exact h.pair j k hjv hkv hjk
    · simp only [List.getElem_append_right (show vs.length ≤ k by omega), List.getElem_singleton]; exact h.apart j hjv
theorem Pts.done {w0 w : World} {vo vp : Value} {gs : List (List Sp)} {p : List Sp} {vs : List Value} (h : Pts w0 vo vp gs p vs w) : SpsOf w vo gs :=
  ⟨vs, h.len, Seg.of_owns h.out, fun j hj hk => Seg.of_owns (h.el j hj hk)⟩
/-- New parts: each lies in memory of its own, apart of each other one. -/
theorem Pts.fresh {w0 w w' : World} {vo v1 : Value} {gs : List (List Sp)} {p : List Sp} {vs : List Value} (h : Pts w0 vo (.slice none 0 0) gs [] vs w) (hb : Below w.heap.size w w') (ho : w'.ownsRow w.heap.size TE 6 v1 p.length (p.flatMap encC)) : Pts w0 vo v1 gs p vs w' := by
  have k := h.kept hb
  refine ⟨k.out, k.len, k.el, owns_mono ho h.bel.size, fun j hj => ?_, k.pair, k.bel⟩
  cases hv : vs[j].ownBlock with
  | none => exact .inl rfl
  | some b =>
    right; intro e
    have h1 := (ho.lt b e.symm).1
    have h2 := ((h.el j hj (by rw [← h.len]; exact hj)).lt b hv).2
    omega
theorem one_slice {w : World} {base n s : Nat} {e : TypeId} {v : Value} {xs : List Value} (h : w.ownsRow base e s v n xs) : ∀ u ∈ [v], u.oneCell' = true := by
  intro u hu
  simp at hu; subst hu
  obtain ⟨_, _, e⟩ := owns_slice1 h
  rw [e]; rfl
abbrev nilV : Value := .slice none 0 0
end Go.Proofs.Try.Gp
