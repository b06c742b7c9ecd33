/- Room made for a row that is yet nil; slices of slices. Of whatever program. -/
import Derived.Test.YtfijbfnhjnbjeaaDoorCop2
import Derived.Test.YtfijbfnhjnbjeaaDoorSeg
set_option linter.unusedVariables false
set_option linter.unusedSimpArgs false
namespace Go.Cph
open Go.RowKit

/-- append of a make to nil: a new row, of which nothing is used yet. -/
theorem run_append_make_nil {P : Program} (w : World) (t tn e : TypeId) (z : Value) (size bytes : Nat) (kq kn : IntKind) (ht : P.underlying t = some (.slice e)) (htn : P.underlying tn = some (.int kn))
    (hinfo : (P.info? e).map (fun i => (i.zero, i.size, i.bytes)) = some (some z, size, bytes)) (hzs : z.cells.size = size) (hsz : 0 < size) (k : Nat) (h0 : 0 < k) (h63 : k ≤ 1099511627776) (hbytes : bytes ≤ 128) :
    ∃ G w', (∀ ty, (Builtin.append_ #[t, tn] ty #[.slice none 0 0, .int kq k]).run P w = .ok (.slice (some ⟨w.heap.size, 0, none⟩) k G) w') ∧
      w'.ownsRow w.heap.size e size (.slice (some ⟨w.heap.size, 0, none⟩) 0 G) 0 [] ∧ Below w.heap.size w w' ∧ k ≤ G ∧ G ≤ maxLen := by
  obtain ⟨ti, hti, hz0, hz1, hz2⟩ := info_parts hinfo
  have hb : (0 + k) * bytes ≤ 140737488355328 := Nat.le_trans (Nat.mul_le_mul (by omega : 0 + k ≤ 1099511627776) hbytes) (by omega)
  have hkb : k * bytes ≤ 140737488355328 := Nat.le_trans (Nat.mul_le_mul (by omega) hbytes) (by omega : 1099511627776 * 128 ≤ 140737488355328)
  have hold : (Builtin.firstCells ti.size 0 (.slice none 0 0)).run P w.drew = .ok ([] : List Value).toArray w.drew := run_firstCells_none _ _ _ _ _
  have hg : 0 < 0 + k := by omega
  have h := fun ty => Lib.run_append_grow_zeros w t tn ty e ti z kq kn ht htn hti hz0 none 0 0 [] hold k h0 (by rw [hz1]; exact hsz) hg (by omega) (by rw [hz2]; omega) (by rw [hz2]; exact growslice_fits hg hb)
  have hG := grownCap_ge w (0 + k) 0 e
  have hGm := grownCap_le_maxLen w (0 + k) 0 e (by unfold maxLen; omega)
  generalize grownCap w (0 + k) 0 e = G at *
  simp only [Nat.zero_add] at h hG
  refine ⟨G, _, h, ⟨by simp, .inr ⟨w.heap.size, G, _, rfl, Nat.le_refl _, heap_alloc_new w.drew _, Nat.zero_le _, hGm, ?_, by simp⟩⟩, (Below.refl _ _).drew.alloc (Nat.le_refl _) _, hG, hGm⟩
  have e2 : (Builtin.zeroCells z.cells k).size = k * size := by have := zeroCells_length (z := z.cells) k; rw [hzs] at this; simpa using this
  have e3 : (Builtin.zeroCells z.cells (G - k)).size = (G - k) * size := by have := zeroCells_length (z := z.cells) (G - k); rw [hzs] at this; simpa using this
  rw [Array.size_append, Array.size_append, e2, e3, List.size_toArray, List.length_nil, Nat.zero_add, ← Nat.add_mul]
  congr 1; omega

theorem step_append {P : Program} {ops : Array Oper} {o : Oper} {a : Act} {w : World} {K : Act → World → Prop} {Q : Exit → Act → World → Prop} {E : Prop}
    (hg : o.guard = none) (d x : Operand) (dT sT : TypeId) (hop : o.op = Op.call { callee := Callee.builtin Builtin.append, args := #[d, x], argTypes := #[dT, sT] })
    (v u : Value) (hd : a.eval d = v) (hx : a.eval x = u) {v' : Value} {w' : World} (hr : (Builtin.append_ #[dT, sT] o.type #[v, u]).run P w = .ok v' w') (hK : K (a.put o.dst v') w') :
    if Region.wanted o (yielded ops a.tmps) = true then Oper.wp P o a w K Q else E := by
  have hw : Region.wanted o (yielded ops a.tmps) = true := by simp [Region.wanted, hg]
  rw [if_pos hw]
  unfold Oper.wp execOp
  simp only [hop, resolve, invoke, builtin, Sem.run_bind, Sem.run_pure, Result.andThen_ok, List.map_toArray, List.map_cons, List.map_nil, hd, hx, hr]
  exact hK
/-- append of one element that was laid in a new block in the same region (which draws its order). -/
theorem run_append1 {P : Program} (w w0 : World) (t ty e : TypeId) (z : Value) (size bytes : Nat) (ht : P.underlying t = some (.slice e)) (hinfo : (P.info? e).map (fun i => (i.zero, i.size, i.bytes)) = some (some z, size, bytes))
    (hzs : z.cells.size = size) (hsz : 0 < size) {base : Nat} {v : Value} {n : Nat} {xs : List Value} (hown : w.ownsRow base e size v n xs) (us : List Value) (hus : us.length = size) (h1 : ∀ u ∈ us, u.oneCell' = true)
    (h63 : n + 1 ≤ 1099511627776) (hbytes : bytes ≤ 128) {B : Nat} (hb : Below B w0 w) (hB : B ≤ base) (hbase : base ≤ w.heap.size) :
    ∃ v' w', (Builtin.append_ #[t, t] ty #[v, .slice (some ⟨w.heap.size, 0, none⟩) 1 1]).run P ((w.alloc (.cells us.toArray e)).drew) = .ok v' w' ∧ w'.ownsRow base e size v' (n + 1) (xs ++ us) ∧ Below B w0 w' := by
  have hB' : B ≤ w.heap.size := Nat.le_trans hB hbase
  have hbl : Below B w0 ((w.alloc (.cells us.toArray e)).drew) := (hb.alloc hB' _).drew
  have hown' : (w.alloc (.cells us.toArray e)).drew.ownsRow base e size v n xs := hown.alloc _
  have hsz' : ((w.alloc (.cells us.toArray e)).drew).heap.size = w.heap.size + 1 := by show (w.heap.push _).size = _; rw [Array.size_push]
  have hseg : Seg ((w.alloc (.cells us.toArray e)).drew) size (.slice (some ⟨w.heap.size, 0, none⟩) 1 1) 1 us :=
    ⟨⟨_, _, rfl, fun _ => ⟨w.heap.size, 0, rfl, fun j hj => by rw [Nat.zero_add]; show (w.alloc (.cells us.toArray e)).cell? _ = _; rw [blk_cell (heap_alloc_new w _)]; simp⟩⟩, by rw [hus, Nat.one_mul]⟩
  obtain ⟨v', w', hr, ho, hg, -⟩ := run_append_seg (P := P) ((w.alloc (.cells us.toArray e)).drew) t ty e z size bytes ht hinfo hzs hsz hown' hseg h1 h63 hbytes (by rw [hsz']; omega)
  exact ⟨v', w', hr, ho, below_grown hbl hg hown' hB (by rw [hsz']; omega)⟩
/-- A slice of slices that reads as a list of lists. -/
structure Lists {α : Type} (enc : α → List Value) (size : Nat) (w : World) (v : Value) (ls : List (List α)) : Prop where
  out : ∃ vs : List Value, vs.length = ls.length ∧ Seg w 1 v ls.length vs ∧ ∀ j (h : j < vs.length) (k : j < ls.length), Elems enc size w vs[j] ls[j]
section
variable {α : Type} {enc : α → List Value} {size : Nat} {w : World} {v : Value} {ls : List (List α)}
theorem Lists.kept {w' : World} (h : Lists enc size w v ls) (hb : Below w.heap.size w w') : Lists enc size w' v ls := by
  obtain ⟨vs, h1, h2, h3⟩ := h.out
  exact ⟨vs, h1, h2.kept hb, fun j hj hk => (h3 j hj hk).kept hb⟩
theorem Lists.slice (h : Lists enc size w v ls) : ∃ ao cap, v = .slice ao ls.length cap := by
  obtain ⟨vs, h1, ⟨⟨ao, cap, hv, _⟩, _⟩, h3⟩ := h.out
  exact ⟨ao, cap, hv⟩
theorem Lists.cell (h : Lists enc size w v ls) (h0 : 0 < ls.length) : ∃ b off cap, v = .slice (some ⟨b, off, none⟩) ls.length cap ∧
    ∀ i (hi : i < ls.length), ∃ u, w.cell? ⟨b, off + i, none⟩ = some u ∧ Elems enc size w u ls[i] := by
  obtain ⟨vs, h1, ⟨⟨ao, cap, rfl, hc⟩, hl⟩, h3⟩ := h.out
  obtain ⟨b, off, rfl, hcc⟩ := hc h0
  refine ⟨b, off, cap, rfl, fun i hi => ⟨vs[i]'(by omega), ?_, h3 i (by omega) hi⟩⟩
  rw [hcc i (by omega)]
  exact List.getElem?_eq_getElem _
theorem Lists.nil (w : World) : Lists enc size w (.slice none 0 0) [] := ⟨[], rfl, Seg.nil w 1, fun j h => by simp at h⟩
theorem Lists.one {b c : Nat} {u : Value} {l : List α} {E : TypeId} {fr : Nat × Nat} (hb : w.heap[b]? = some (.cells #[u] E fr)) (h : Elems enc size w u l) : Lists enc size w (.slice (some ⟨b, 0, none⟩) 1 c) [l] := by
  refine ⟨[u], rfl, ⟨⟨_, _, rfl, fun _ => ⟨b, 0, rfl, fun j hj => ?_⟩⟩, rfl⟩, fun j hj hk => ?_⟩
  · obtain rfl : j = 0 := by simp at hj; omega
    rw [Nat.zero_add, blk_cell hb]; rfl
  · obtain rfl : j = 0 := by simp at hj; omega
    exact h
end
theorem flatten_take {α : Type} (ls : List (List α)) {k : Nat} (h : k < ls.length) : (ls.take (k + 1)).flatten = (ls.take k).flatten ++ ls[k] := by
  rw [List.take_succ_eq_append_getElem h, List.flatten_append]; simp
theorem flatten_le {α : Type} (ls : List (List α)) (k : Nat) : (ls.take k).flatten.length ≤ ls.flatten.length := by
  conv => rhs; rw [← List.take_append_drop k ls, List.flatten_append, List.length_append]
  omega
end Go.Cph
