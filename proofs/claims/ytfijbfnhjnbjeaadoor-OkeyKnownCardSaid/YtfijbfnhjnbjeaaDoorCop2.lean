/- append of a row's own tail, and clear, at rows whose elements have several cells. Of whatever program. -/
import Derived.Test.YtfijbfnhjnbjeaaDoorCop
set_option linter.unusedVariables false
set_option linter.unusedSimpArgs false
namespace Go.Cph
open Go.RowKit

theorem owns_setRow {w : World} {base : Nat} {e : TypeId} {size g n cap : Nat} {xs : List Value} (h : w.ownsRow base e size (.slice (some ⟨g, 0, none⟩) n cap) n xs) {cur : Array Value} (hg : w.heap[g]? = some (.cells cur e (0, 0)))
    (o : Nat) (cs : List Value) (hfit : o + cs.length ≤ n * size) :
    (w.setRow g (cur.toList.take o ++ cs ++ cur.toList.drop (o + cs.length)).toArray).ownsRow base e size (.slice (some ⟨g, 0, none⟩) n cap) n (splice xs o cs) := by
  obtain ⟨cur', hb, hg', hnc, hcm, hcs, hx⟩ := owns_block h
  rw [hg] at hg'
  simp only [Option.some.injEq, Obj.cells.injEq] at hg'
  obtain ⟨rfl, _⟩ := hg'
  have hnc' : n * size ≤ cap * size := Nat.mul_le_mul_right _ hnc
  have hlx : xs.length = n * size := h.1
  have hcl : cur.toList.length = cap * size := by simpa using hcs
  refine ⟨by rw [length_splice _ _ _ (by omega)]; exact hlx, .inr ⟨g, cap, _, rfl, hb, setRow_heap w g cur _ e _ hg, hnc, hcm, ?_, ?_⟩⟩
  · simp; omega
  · show List.take (n * size) (cur.toList.take o ++ cs ++ cur.toList.drop (o + cs.length)) = _
    unfold splice
    rw [← hx, List.take_append, List.take_of_length_le (by simp; omega), List.append_assoc]
    congr 1
    · rw [List.take_take, Nat.min_eq_left (by omega)]
    · congr 1
      rw [List.length_append, List.length_take, hcl, Nat.min_eq_left (by omega), List.drop_take]
/-- append(s[:i], x...) where there is room in the row. -/
theorem run_append_in {P : Program} (w : World) (t tx e : TypeId) (z : Value) (size bytes : Nat) (ht : P.underlying t = some (.slice e)) (hinfo : (P.info? e).map (fun i => (i.zero, i.size, i.bytes)) = some (some z, size, bytes))
    {base g n cap : Nat} {xs : List Value} (hown : w.ownsRow base e size (.slice (some ⟨g, 0, none⟩) n cap) n xs) (i m : Nat) (x : Value) (news : List Value) (hs : Src P size tx x m news w) (him : i + m ≤ n) :
    ∃ w', (∀ ty, (Builtin.append_ #[t, tx] ty #[.slice (some ⟨g, 0, none⟩) i cap, x]).run P w = .ok (.slice (some ⟨g, 0, none⟩) (i + m) cap) w') ∧
      w'.ownsRow base e size (.slice (some ⟨g, 0, none⟩) n cap) n (splice xs (i * size) news) ∧ w.grownBy w' (some g) ∧ w'.heap.size = w.heap.size := by
  obtain ⟨ti, hti, hz0, hz1, hz2⟩ := info_parts hinfo
  obtain ⟨cur, hb, hg, hnc, hcm, hcs, hx⟩ := owns_block hown
  have hfit : i * size + news.length ≤ n * size := by rw [hs.newsLen, ← Nat.add_mul]; exact Nat.mul_le_mul_right _ him
  have hnc' : n * size ≤ cap * size := Nat.mul_le_mul_right _ hnc
  have hst := run_storeCells_at P g (i * size) e news 0 cur w hg (by simp; omega) hs.one
  simp only [Nat.add_zero] at hst
  have hroom : i + m ≤ cap := by omega
  have hadd : (⟨g, 0, none⟩ : Addr).add (i * size) = ⟨g, i * size, none⟩ := by unfold Addr.add; split <;> simp_all
  refine ⟨_, fun ty => ?_, owns_setRow hown hg (i * size) news hfit, grown_setRow _ _ _, by simp⟩
  rcases hs.kind with ⟨e', hk⟩ | hk <;> simp [Builtin.append_, run_underlying ht, run_underlying hk, sizeOf, typeInfo, hti, hz1, hs.len, hroom, hs.cells, hadd, hst]
/-- clear of a part of a row. -/
theorem run_clear_in {P : Program} (w : World) (t e : TypeId) (z : Value) (size : Nat) (ht : P.underlying t = some (.slice e)) (hv : ∀ w, (zeroValue e).run P w = .ok z w) (hzs : z.cells.size = size)
    (h1 : ∀ n, ∀ v ∈ (Builtin.zeroCells z.cells n).toList, v.oneCell' = true)
    {base g n cap : Nat} {xs : List Value} (hown : w.ownsRow base e size (.slice (some ⟨g, 0, none⟩) n cap) n xs) (i m : Nat) (hm : 0 < m) (him : i + m ≤ n) :
    ∃ zs w', (∀ ty c, (Builtin.clear_ #[t] ty #[.slice (some ⟨g, i * size, none⟩) m c]).run P w = .ok (.tuple #[]) w') ∧ zs.length = m * size ∧
      w'.ownsRow base e size (.slice (some ⟨g, 0, none⟩) n cap) n (splice xs (i * size) zs) ∧ w.grownBy w' (some g) ∧ w'.heap.size = w.heap.size := by
  obtain ⟨cur, hb, hg, hnc, hcm, hcs, hx⟩ := owns_block hown
  have hzl : (Builtin.zeroCells z.cells m).toList.length = m * size := by rw [zeroCells_length, hzs]
  have hfit : i * size + (Builtin.zeroCells z.cells m).toList.length ≤ n * size := by rw [hzl, ← Nat.add_mul]; exact Nat.mul_le_mul_right _ him
  have hnc' : n * size ≤ cap * size := Nat.mul_le_mul_right _ hnc
  have hst := run_storeCells_at P g (i * size) e (Builtin.zeroCells z.cells m).toList 0 cur w hg (by simp only [Nat.add_zero]; omega) (h1 m)
  simp only [Nat.add_zero] at hst
  obtain ⟨k, rfl⟩ : ∃ k, m = k + 1 := ⟨m - 1, by omega⟩
  refine ⟨_, _, fun ty c => ?_, hzl, owns_setRow hown hg (i * size) _ hfit, grown_setRow _ _ _, by simp⟩
  simp [Builtin.clear_, run_underlying ht, hv, hst]
/-- The tail moved down, and what was behind it overlaid: the first elements. -/
theorem splice_less (xs zs : List Value) (p q : Nat) (hp : p + q ≤ xs.length) :
    (splice (splice xs p (xs.drop (p + q))) (xs.length - q) zs).take (xs.length - q) = xs.take p ++ xs.drop (p + q) := by
  unfold splice
  have hl : (xs.drop (p + q)).length = xs.length - (p + q) := by simp
  have e0 : (List.take p xs ++ (List.drop (p + q) xs ++ List.drop (p + (List.drop (p + q) xs).length) xs)).take (xs.length - q) = xs.take p ++ xs.drop (p + q) := by
    rw [← List.append_assoc, List.take_append_of_le_length (by simp; omega), List.take_of_length_le (by simp; omega)]
  rw [List.take_append_of_le_length (by simp; omega), List.take_take, Nat.min_self, e0]
end Go.Cph
