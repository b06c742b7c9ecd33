/- Slices whose elements have several cells, as lists: where they lie; appended to a slice without elements. Of whatever program. -/
import Derived.Test.YtkikjbcmdlghnaaDoorLib
import Derived.Deep.AppendSrc
import Derived.Maps.AppendAt
set_option linter.unusedVariables false
set_option linter.unusedSimpArgs false
namespace Go.Cph
open Go.RowKit

theorem flat_length {α : Type} {enc : α → List Value} {size : Nat} (hs : ∀ x, (enc x).length = size) : ∀ l : List α, (l.flatMap enc).length = l.length * size
  | [] => by simp
  | x :: l => by rw [List.flatMap_cons, List.length_append, hs, flat_length hs l, List.length_cons, Nat.succ_mul]; omega
theorem flat_at {α : Type} {enc : α → List Value} {size : Nat} (hs : ∀ x, (enc x).length = size) : ∀ (l : List α) (i : Nat) (h : i < l.length) (j : Nat), j < size → (l.flatMap enc)[i * size + j]? = (enc l[i])[j]?
  | [], i, h, _, _ => absurd h (by simp)
  | x :: l, 0, h, j, hj => by
    rw [List.flatMap_cons, List.getElem?_append_left (by rw [hs]; omega)]
    simp
  | x :: l, i + 1, h, j, hj => by
    have ih := flat_at hs l i (by simpa using h) j hj
    rw [List.flatMap_cons, List.getElem?_append_right (by rw [hs, Nat.succ_mul]; omega), hs]
    rw [List.getElem_cons_succ, ← ih]
    congr 1
    rw [Nat.succ_mul]; omega

theorem flat_set {α : Type} {enc : α → List Value} {size : Nat} (hs : ∀ x, (enc x).length = size) : ∀ (l : List α) (i : Nat) (h : i < l.length) (j : Nat), j < size → ∀ (y : α) (u : Value), enc y = (enc l[i]).set j u →
    (l.flatMap enc).set (i * size + j) u = (l.set i y).flatMap enc
  | [], i, h, _, _, _, _, _ => absurd h (by simp)
  | x :: l, 0, h, j, hj, y, u, hy => by
    rw [List.flatMap_cons, List.set_append_left _ _ (by rw [hs]; omega)]
    simp only [List.set_cons_zero, List.flatMap_cons, hy, List.getElem_cons_zero, Nat.zero_mul, Nat.zero_add]
  | x :: l, i + 1, h, j, hj, y, u, hy => by
    have ih := flat_set hs l i (by simpa using h) j hj y u (by simpa using hy)
    rw [List.flatMap_cons, List.set_append_right _ _ (by rw [hs, Nat.succ_mul]; omega), hs, List.set_cons_succ, List.flatMap_cons, ← ih]
    congr 2
    rw [Nat.succ_mul]; omega

/-- A slice of n elements of so many cells, whose cells are xs. -/
structure Seg (w : World) (size : Nat) (v : Value) (n : Nat) (xs : List Value) : Prop where
  out : ∃ ao cap, v = .slice ao n cap ∧ (0 < n → ∃ b off, ao = some ⟨b, off, none⟩ ∧ ∀ j, j < n * size → w.cell? ⟨b, off + j, none⟩ = xs[j]?)
  len : xs.length = n * size
theorem Seg.kept {w w' : World} {size : Nat} {v : Value} {n : Nat} {xs : List Value} (h : Seg w size v n xs) (hb : Below w.heap.size w w') : Seg w' size v n xs := by
  obtain ⟨⟨ao, cap, rfl, h⟩, hl⟩ := h
  refine ⟨⟨ao, cap, rfl, fun h0 => ?_⟩, hl⟩
  obtain ⟨b, off, rfl, hc⟩ := h h0
  refine ⟨b, off, rfl, fun j hj => ?_⟩
  have hj' : j < xs.length := by omega
  have := hc j hj
  rw [List.getElem?_eq_getElem hj'] at this ⊢
  exact cell_kept hb this
theorem Seg.of_owns {w : World} {base : Nat} {e : TypeId} {size : Nat} {v : Value} {n : Nat} {xs : List Value} (h : w.ownsRow base e size v n xs) : Seg w size v n xs := by
  have hown := h
  obtain ⟨hl, h2⟩ := h
  refine ⟨?_, hl⟩
  rcases h2 with ⟨h2, h3⟩ | ⟨g, cap, cur, rfl, hb, hg, hc, _, _, _⟩
  · exact ⟨none, 0, by rw [h2, h3], fun h => by omega⟩
  · exact ⟨_, _, rfl, fun _ => ⟨g, 0, rfl, fun j hj => by rw [Nat.zero_add]; exact hown.cellAt j hj⟩⟩
theorem Seg.nil (w : World) (size : Nat) : Seg w size (.slice none 0 0) 0 [] := ⟨⟨_, _, rfl, fun h => by omega⟩, by simp⟩

/-- A slice that reads as a list. -/
abbrev Elems {α : Type} (enc : α → List Value) (size : Nat) (w : World) (v : Value) (l : List α) : Prop := Seg w size v l.length (l.flatMap enc)
section
variable {α : Type} {enc : α → List Value} {size : Nat} {w : World} {v : Value} {l : List α}
theorem elems_slice (h : Elems enc size w v l) : ∃ ao cap, v = .slice ao l.length cap := by
  obtain ⟨⟨ao, cap, hv, _⟩, _⟩ := h
  exact ⟨ao, cap, hv⟩
theorem elems_shape (hs : ∀ x, (enc x).length = size) (h : Elems enc size w v l) (h0 : 0 < l.length) :
    ∃ b off cap, v = .slice (some ⟨b, off, none⟩) l.length cap ∧ ∀ i (hi : i < l.length), ∀ j, j < size → w.cell? ⟨b, off + i * size + j, none⟩ = (enc l[i])[j]? := by
  obtain ⟨⟨ao, cap, rfl, h⟩, hl⟩ := h
  obtain ⟨b, off, rfl, hc⟩ := h h0
  refine ⟨b, off, cap, rfl, fun i hi j hj => ?_⟩
  have hlt : i * size + j < l.length * size := by
    have : (i + 1) * size ≤ l.length * size := Nat.mul_le_mul_right _ hi
    rw [Nat.succ_mul] at this
    omega
  rw [Nat.add_assoc, hc _ hlt, flat_at hs l i hi j hj]
theorem owns_len {w : World} {base : Nat} {e : TypeId} {v : Value} {n : Nat} {xs : List Value} (h : w.ownsRow base e size v n xs) : n ≤ maxLen := by
  obtain ⟨_, h2⟩ := h
  rcases h2 with ⟨_, h2⟩ | ⟨g, cap, cur, _, _, _, h3, h4, _⟩
  · omega
  · exact Nat.le_trans h3 h4
end

theorem owns_slice_cap {w : World} {base : Nat} {e : TypeId} {size g n cp : Nat} {xs : List Value} (h : w.ownsRow base e size (.slice (some ⟨g, 0, none⟩) n cp) n xs) :
    ∃ g' cap', (Value.slice (some ⟨g, 0, none⟩) n cp = .slice (some ⟨g', 0, none⟩) n cap') ∧ base ≤ g' ∧ g' < w.heap.size ∧ n ≤ cap' ∧ True := by
  obtain ⟨_, h2⟩ := h
  rcases h2 with ⟨h2, _⟩ | ⟨g', cap', cur, h2, hb, hg, hc, _⟩
  · cases h2
  · exact ⟨g', cap', h2, hb, blk_lt hg, hc, trivial⟩
theorem run_append_seg {P : Program} (w : World) (t ty e : TypeId) (z : Value) (size bytes : Nat) (ht : P.underlying t = some (.slice e)) (hinfo : (P.info? e).map (fun i => (i.zero, i.size, i.bytes)) = some (some z, size, bytes))
    (hzs : z.cells.size = size) (hsz : 0 < size) {base : Nat} {v : Value} {n : Nat} {xs : List Value} (hown : w.ownsRow base e size v n xs) {src : Value} {m : Nat} {news : List Value} (hsrc : Seg w size src m news) (h1 : ∀ u ∈ news, u.oneCell' = true)
    (h63 : n + m ≤ 1099511627776) (hbytes : bytes ≤ 128) (hbase : base ≤ w.heap.size) :
    ∃ v' w', (Builtin.append_ #[t, t] ty #[v, src]).run P w = .ok v' w' ∧ w'.ownsRow base e size v' (n + m) (xs ++ news) ∧ w.grownBy w' v.ownBlock ∧ (v'.ownBlock = v.ownBlock ∨ v'.ownBlock = some w.heap.size) := by
  obtain ⟨i, hi, hz0, hz1, hz2⟩ := info_parts hinfo
  have hb : (n + m) * bytes ≤ 140737488355328 := Nat.le_trans (Nat.mul_le_mul h63 hbytes) (by omega)
  obtain ⟨⟨ao, cap, rfl, hc⟩, hl⟩ := hsrc
  have hsome : ∀ a c, ao = some a → (∀ j u, news[j]? = some u → w.cell? (a.add j) = some u) → _ := fun a c (_ : ao = some a) hn =>
    run_append_own_at (P := P) w base t ty e i z size bytes ht hi hz0 hz1 hz2 hzs hsz v n xs hown a m c news hl hn h1 (by unfold maxLen; omega) hb hbase
  rcases Nat.eq_zero_or_pos m with rfl | h0
  · obtain rfl : news = [] := List.eq_nil_of_length_eq_zero (by simpa using hl)
    cases ao with
    | some a =>
      obtain ⟨v', w', r1, r2, r3, _, r5⟩ := hsome a cap rfl (by simp)
      exact ⟨v', w', r1, r2, r3, r5⟩
    | none =>
      have hown' := hown
      obtain ⟨hx, h2⟩ := hown'
      rcases h2 with ⟨rfl, rfl⟩ | ⟨g, cp, cur, rfl, _⟩
      · refine ⟨.slice none 0 0, w, ?_, by simpa using hown, ⟨rfl, rfl, rfl, Nat.le_refl _, fun _ _ _ => rfl⟩, .inl rfl⟩
        simp [Builtin.append_, run_underlying ht, sizeOf, typeInfo, hi, Builtin.lenOf, Builtin.firstCells, loadCells, loadCellsFrom]
      · have hle : n ≤ cp := by
          obtain ⟨_, _, h3, _, _, h4, _⟩ := owns_slice_cap hown
          cases h3; exact h4
        have h := run_append_room_src (P := P) w t t ty e i ht hi g 0 n cp (.slice none 0 cap) 0 [] (Src.ofNil (size := i.size) w ht cap) (by omega) (by simp) (by simp)
        refine ⟨_, _, h, ?_, ?_, .inl rfl⟩
        · simpa [World.setCells] using hown
        · simpa [World.setCells] using (⟨rfl, rfl, rfl, Nat.le_refl _, fun _ _ _ => rfl⟩ : w.grownBy w _)
  · obtain ⟨b, off, rfl, hcc⟩ := hc h0
    obtain ⟨v', w', r1, r2, r3, _, r5⟩ := hsome ⟨b, off, none⟩ cap rfl (fun j u hu => by
      have hj : j < news.length := (List.getElem?_eq_some_iff.1 hu).1
      have hadd : (⟨b, off, none⟩ : Addr).add j = ⟨b, off + j, none⟩ := by unfold Addr.add; split <;> simp_all
      rw [hadd, hcc j (by omega), hu])
    exact ⟨v', w', r1, r2, r3, r5⟩
theorem wpList_append_seg {P : Program} {ops : Array Oper} {rest : List Oper} {o : Oper} {a : Act} {w : World} {Q : Exit → Act → World → Prop} (hgd : o.guard = none) (s x : Operand) (t : TypeId)
    (ho : o.op = .call { callee := .builtin .append, args := #[s, x], argTypes := #[t, t] })
    (base : Nat) (e : TypeId) (z : Value) (size bytes : Nat) (ht : P.underlying t = some (.slice e)) (hinfo : (P.info? e).map (fun i => (i.zero, i.size, i.bytes)) = some (some z, size, bytes))
    (hzs : z.cells.size = size) (hsz : 0 < size) (v : Value) (n : Nat) (xs : List Value) (hs : a.eval s = v) (hown : w.ownsRow base e size v n xs)
    (src : Value) (m : Nat) (news : List Value) (hx : a.eval x = src) (hsrc : Seg w size src m news) (h1 : ∀ u ∈ news, u.oneCell' = true)
    (h63 : n + m ≤ 1099511627776) (hbytes : bytes ≤ 128) (hbase : base ≤ w.heap.size)
    (h : ∀ v' w', w'.ownsRow base e size v' (n + m) (xs ++ news) → w.grownBy w' v.ownBlock → (v'.ownBlock = v.ownBlock ∨ v'.ownBlock = some w.heap.size) → wpList P ops Q rest (a.put o.dst v') w') :
    wpList P ops Q (o :: rest) a w := by
  refine wpList_plain hgd fun K hK => ?_
  obtain ⟨v', w', hr, h2, h3, h5⟩ := run_append_seg (P := P) w t o.type e z size bytes ht hinfo hzs hsz hown hsrc h1 h63 hbytes hbase
  unfold Oper.wp execOp
  simp only [ho, resolve, invoke, builtin, Sem.run_bind, Sem.run_pure, Result.andThen_ok, List.map_toArray, List.map_cons, List.map_nil, hs, hx, hr]
  exact hK _ _ (h v' w' h2 h3 h5)
/-- An empty slice that is not nil owns its block. -/
theorem owns_empty {w : World} {g : Nat} {e : TypeId} (hg : w.heap[g]? = some (.cells #[] e (0, 0))) {base : Nat} (hb : base ≤ g) (size : Nat) : w.ownsRow base e size (.slice (some ⟨g, 0, none⟩) 0 0) 0 [] :=
  ⟨by simp, .inr ⟨g, 0, #[], rfl, hb, hg, Nat.le_refl _, by unfold maxLen; omega, by simp, by simp⟩⟩
theorem owns_slice1 {w : World} {base : Nat} {e : TypeId} {size : Nat} {v : Value} {n : Nat} {xs : List Value} (h : w.ownsRow base e size v n xs) : ∃ ao cap, v = .slice ao n cap := by
  obtain ⟨_, h2⟩ := h
  rcases h2 with ⟨h2, h3⟩ | ⟨g, cap, cur, h2, _⟩
  · exact ⟨_, _, by rw [h2, h3]⟩
  · exact ⟨_, _, h2⟩
theorem owns_drewN {w : World} {base : Nat} {e : TypeId} {size : Nat} {v : Value} {n : Nat} {xs : List Value} (h : w.ownsRow base e size v n xs) (k : Nat) : (w.drewN k).ownsRow base e size v n xs := h
theorem owns_mono {w : World} {base base' : Nat} {e : TypeId} {size : Nat} {v : Value} {n : Nat} {xs : List Value} (h : w.ownsRow base e size v n xs) (hb : base' ≤ base) : w.ownsRow base' e size v n xs := by
  obtain ⟨h1, h2⟩ := h
  refine ⟨h1, ?_⟩
  rcases h2 with h2 | ⟨g, cap, cur, h3, h4, r⟩
  · exact .inl h2
  · exact .inr ⟨g, cap, cur, h3, Nat.le_trans hb h4, r⟩
end Go.Cph
