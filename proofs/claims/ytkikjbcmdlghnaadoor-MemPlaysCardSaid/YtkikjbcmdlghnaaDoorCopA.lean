/- copy, clear, and append of a make, at rows whose elements have several cells. Of whatever program. -/
import Derived.Test.YtkikjbcmdlghnaaDoorSeg
import Derived.Laws.CopyRow
import Derived.Laws.CopyOwn
import Derived.Lib.AppendZerosOnto
import Derived.Lib.AppendZeros
import Derived.Lib.SliceRun
set_option linter.unusedVariables false
set_option linter.unusedSimpArgs false
namespace Go.Cph
open Go.RowKit

theorem run_copy_rowK {P : Program} (w : World) (dT sT ty elem : TypeId) (size g o dLen dCap : Nat) (a : Addr) (sLen sCap : Nat) (cur : Array Value) (t : TypeId) (cs : List Value)
    (hu : P.underlying dT = some (.slice elem)) (hs : (P.info? elem).map (·.size) = some size)
    (hg : w.heap[g]? = some (.cells cur t (0, 0))) (hn : cs.length = Nat.min sLen dLen * size)
    (hsrc : ∀ j v, cs[j]? = some v → w.cell? (a.add j) = some v) (hfit : o + cs.length ≤ cur.size) (h1 : ∀ v ∈ cs, v.oneCell' = true) :
    (Builtin.copy_ #[dT, sT] ty #[.slice (some ⟨g, o, none⟩) dLen dCap, .slice (some a) sLen sCap]).run P w =
      .ok (goInt (Nat.min sLen dLen)) (w.setRow g (cur.toList.take o ++ cs ++ cur.toList.drop (o + cs.length)).toArray) := by
  have hl := run_loadCells_list (P := P) w a cs hsrc
  have hst := run_storeCells_at P g o t cs 0 cur w hg (by simpa using hfit) h1
  cases hq : P.info? elem with
  | none => simp [hq] at hs
  | some i =>
    have hi : i.size = size := by simpa [hq] using hs
    simp [Builtin.copy_, run_underlying hu, Builtin.lenOf, Builtin.firstCells, sizeOf, typeInfo, hq, hi, ← hn, hl, hst]

theorem owns_block {w : World} {base : Nat} {e : TypeId} {size g n cap : Nat} {xs : List Value} (h : w.ownsRow base e size (.slice (some ⟨g, 0, none⟩) n cap) n xs) :
    ∃ cur, base ≤ g ∧ w.heap[g]? = some (.cells cur e (0, 0)) ∧ n ≤ cap ∧ cap ≤ maxLen ∧ cur.size = cap * size ∧ cur.toList.take (n * size) = xs := by
  obtain ⟨_, h2⟩ := h
  rcases h2 with ⟨h2, _⟩ | ⟨g', cap', cur, h2, h3, h4, h5, h6, h7, h8⟩
  · cases h2
  · cases h2
    exact ⟨cur, h3, h4, h5, h6, h7, h8⟩
theorem grown_setRow (w : World) (g : Nat) (cs : Array Value) : w.grownBy (w.setRow g cs) (some g) :=
  ⟨rfl, rfl, rfl, by simp, fun k _ hk => setRow_other w g k cs (by intro e; exact hk (by rw [e]))⟩
/-- copy into a part of a row of the call's own. -/
theorem run_copy_own {P : Program} (w : World) (dT sT elem : TypeId) (size : Nat) (hu : P.underlying dT = some (.slice elem)) (hs : (P.info? elem).map (·.size) = some size)
    {base g n cap : Nat} {xs : List Value} (hown : w.ownsRow base elem size (.slice (some ⟨g, 0, none⟩) n cap) n xs) (i dLen : Nat) (a : Addr) (sLen : Nat) (cs : List Value)
    (hil : i + dLen ≤ n) (hn : cs.length = Nat.min sLen dLen * size) (hsrc : ∀ j v, cs[j]? = some v → w.cell? (a.add j) = some v) (h1 : ∀ v ∈ cs, v.oneCell' = true) :
    ∃ w', (∀ ty dCap sCap, (Builtin.copy_ #[dT, sT] ty #[.slice (some ⟨g, i * size, none⟩) dLen dCap, .slice (some a) sLen sCap]).run P w = .ok (goInt (Nat.min sLen dLen)) w') ∧
      w'.ownsRow base elem size (.slice (some ⟨g, 0, none⟩) n cap) n (splice xs (i * size) cs) ∧ w.grownBy w' (some g) ∧ w'.heap.size = w.heap.size := by
  obtain ⟨cur, hb, hg, hnc, hcm, hcs, hx⟩ := owns_block hown
  have hmin : Nat.min sLen dLen ≤ dLen := Nat.min_le_right _ _
  have hfit1 : i * size + cs.length ≤ n * size := by
    rw [hn, ← Nat.add_mul]
    exact Nat.mul_le_mul_right _ (by omega)
  have hnc' : n * size ≤ cap * size := Nat.mul_le_mul_right _ hnc
  refine ⟨_, fun ty dCap sCap => run_copy_rowK w dT sT ty elem size g (i * size) dLen dCap a sLen sCap cur elem cs hu hs hg hn hsrc (by omega) h1, ?_, grown_setRow _ _ _, by simp⟩
  have hlx : xs.length = n * size := hown.1
  have hcl : cur.toList.length = cap * size := by simpa using hcs
  refine ⟨by rw [length_splice _ _ _ (by omega)]; exact hlx, .inr ⟨g, cap, _, rfl, hb, setRow_heap w g cur _ elem _ hg, hnc, hcm, ?_, ?_⟩⟩
  · simp; omega
  · show List.take (n * size) (cur.toList.take (i * size) ++ cs ++ cur.toList.drop (i * size + cs.length)) = _
    unfold splice
    rw [← hx, List.take_append, List.take_of_length_le (by simp; omega), List.append_assoc]
    congr 1
    · rw [List.take_take, Nat.min_eq_left (by omega)]
    · congr 1
      rw [List.length_append, List.length_take, hcl, Nat.min_eq_left (by omega), List.drop_take]
theorem wpList_copyK {P : Program} {w : World} {ops : Array Oper} {rest : List Oper} {o : Oper} {a : Act} {Q : Exit → Act → World → Prop} (hgd : o.guard = none) (d s : Operand) (dT sT : TypeId)
    (ho : o.op = .call { callee := .builtin .copy, args := #[d, s], argTypes := #[dT, sT] }) (v u : Value) (hd : a.eval d = v) (hs : a.eval s = u) {v' : Value} {w' : World}
    (hr : (Builtin.copy_ #[dT, sT] o.type #[v, u]).run P w = .ok v' w') (h : wpList P ops Q rest (a.put o.dst v') w') : wpList P ops Q (o :: rest) a w := by
  refine wpList_plain hgd fun K hK => ?_
  unfold Oper.wp execOp
  simp only [ho, resolve, invoke, builtin, Sem.run_bind, Sem.run_pure, Result.andThen_ok, List.map_toArray, List.map_cons, List.map_nil, hd, hs, hr]
  exact hK _ _ h
theorem step_copyK {P : Program} {ops : Array Oper} {o : Oper} {a : Act} {w : World} {K : Act → World → Prop} {Q : Exit → Act → World → Prop} {E : Prop}
    (hg : o.guard = none) (d x : Operand) (dT sT : TypeId) (hop : o.op = Op.call { callee := Callee.builtin Builtin.copy, args := #[d, x], argTypes := #[dT, sT] })
    (v u : Value) (hd : a.eval d = v) (hx : a.eval x = u) {v' : Value} {w' : World} (hr : (Builtin.copy_ #[dT, sT] o.type #[v, u]).run P w = .ok v' w') (hK : K (a.put o.dst v') w') :
    if Region.wanted o (yielded ops a.tmps) = true then Oper.wp P o a w K Q else E := by
  have hw : Region.wanted o (yielded ops a.tmps) = true := by simp [Region.wanted, hg]
  rw [if_pos hw]
  unfold Oper.wp
  simp [execOp, hop, resolve, invoke, builtin, hd, hx, hr, Result.andThen]
  exact hK

/-- A row that has room, with more of its elements. -/
theorem owns_reslice {w : World} {base : Nat} {e : TypeId} {size g n cap : Nat} {xs : List Value} (h : w.ownsRow base e size (.slice (some ⟨g, 0, none⟩) n cap) n xs) {m : Nat} (hn : n ≤ m) (hm : m ≤ cap) :
    ∃ ys, ys.length = (m - n) * size ∧ w.ownsRow base e size (.slice (some ⟨g, 0, none⟩) m cap) m (xs ++ ys) := by
  obtain ⟨cur, hb, hg, hnc, hcm, hcs, hx⟩ := owns_block h
  have hcl : cur.toList.length = cap * size := by simpa using hcs
  have h1 : n * size ≤ m * size := Nat.mul_le_mul_right _ hn
  have h2 : m * size ≤ cap * size := Nat.mul_le_mul_right _ hm
  have hsub : (m - n) * size = m * size - n * size := Nat.sub_mul _ _ _
  refine ⟨(cur.toList.take (m * size)).drop (n * size), by rw [List.length_drop, List.length_take, hcl]; omega, ?_, .inr ⟨g, cap, cur, rfl, hb, hg, hm, hcm, hcs, ?_⟩⟩
  · rw [List.length_append, h.1, List.length_drop, List.length_take, hcl]; omega
  · rw [← hx]
    conv => lhs; rw [← List.take_append_drop (n * size) (cur.toList.take (m * size))]
    rw [List.take_take, Nat.min_eq_left h1]
/-- A row's first elements alone. -/
theorem owns_less {w : World} {base : Nat} {e : TypeId} {size g n cap : Nat} {xs : List Value} (h : w.ownsRow base e size (.slice (some ⟨g, 0, none⟩) n cap) n xs) {m : Nat} (hm : m ≤ n) :
    w.ownsRow base e size (.slice (some ⟨g, 0, none⟩) m cap) m (xs.take (m * size)) := by
  obtain ⟨cur, hb, hg, hnc, hcm, hcs, hx⟩ := owns_block h
  have h1 : m * size ≤ n * size := Nat.mul_le_mul_right _ hm
  refine ⟨by rw [List.length_take, h.1]; omega, .inr ⟨g, cap, cur, rfl, hb, hg, by omega, hcm, hcs, ?_⟩⟩
  rw [← hx, List.take_take, Nat.min_eq_left h1]
theorem zeroCells_length {z : Array Value} (n : Nat) : (Builtin.zeroCells z n).toList.length = n * z.size := by simp [Builtin.zeroCells]
/-- append of a make, where it must grow: a new row. -/
theorem run_append_make {P : Program} (w : World) (t tn e : TypeId) (z : Value) (size bytes : Nat) (kq kn : IntKind) (ht : P.underlying t = some (.slice e)) (htn : P.underlying tn = some (.int kn))
    (hinfo : (P.info? e).map (fun i => (i.zero, i.size, i.bytes)) = some (some z, size, bytes)) (hzs : z.cells.size = size) (hsz : 0 < size)
    {base g n cap : Nat} {xs : List Value} (hown : w.ownsRow base e size (.slice (some ⟨g, 0, none⟩) n cap) n xs) (i k : Nat) (hi : i ≤ n) (h0 : 0 < k) (hg : cap < i + k) (h63 : i + k ≤ 1099511627776) (hbytes : bytes ≤ 128) :
    ∃ G zs w', (∀ ty, (Builtin.append_ #[t, tn] ty #[.slice (some ⟨g, 0, none⟩) i cap, .int kq k]).run P w = .ok (.slice (some ⟨w.heap.size, 0, none⟩) (i + k) G) w') ∧
      w'.ownsRow w.heap.size e size (.slice (some ⟨w.heap.size, 0, none⟩) (i + k) G) (i + k) (xs.take (i * size) ++ zs) ∧ zs.length = k * size ∧ Below w.heap.size w w' ∧ w'.heap.size = w.heap.size + 1 ∧ i + k ≤ G ∧ G ≤ maxLen := by
  obtain ⟨ti, hti, hz0, hz1, hz2⟩ := info_parts hinfo
  have hless := owns_less hown hi
  have hb : (i + k) * bytes ≤ 140737488355328 := Nat.le_trans (Nat.mul_le_mul h63 hbytes) (by omega)
  have hkb : k * bytes ≤ 140737488355328 := Nat.le_trans (Nat.mul_le_mul (by omega) hbytes) (by omega : 1099511627776 * 128 ≤ 140737488355328)
  have hold : (Builtin.firstCells ti.size i (.slice (some ⟨g, 0, none⟩) i cap)).run P w.drew = .ok (xs.take (i * size)).toArray w.drew := by
    rw [hz1]
    exact run_firstCells_some w.drew size i ⟨g, 0, none⟩ i cap (xs.take (i * size)) hless.1 (fun j v hj => by
      have hadd : (⟨g, 0, none⟩ : Addr).add j = ⟨g, j, none⟩ := by unfold Addr.add; split <;> simp_all
      have hlt : j < i * size := by rw [← hless.1]; exact (List.getElem?_eq_some_iff.1 hj).1
      rw [hadd]
      exact (hless.cellAt j hlt).trans hj)
  have h := fun ty => Lib.run_append_grow_zeros w t tn ty e ti z kq kn ht htn hti hz0 (some ⟨g, 0, none⟩) i cap (xs.take (i * size)) hold k h0 (by rw [hz1]; exact hsz) hg (by omega) (by rw [hz2]; omega) (by rw [hz2]; exact growslice_fits hg hb)
  have hG := grownCap_ge w (i + k) cap e
  have hGm := grownCap_le_maxLen w (i + k) cap e (by unfold maxLen; omega)
  generalize grownCap w (i + k) cap e = G at *
  refine ⟨G, (Builtin.zeroCells z.cells k).toList, _, h, ⟨?_, .inr ⟨w.heap.size, G, _, rfl, Nat.le_refl _, heap_alloc_new w.drew _, hG, hGm, ?_, ?_⟩⟩, by rw [zeroCells_length, hzs], (Below.refl _ _).drew.alloc (Nat.le_refl _) _, ?_, hG, hGm⟩
  · rw [List.length_append, hless.1, zeroCells_length, hzs, ← Nat.add_mul]
  · have e1 := hless.1
    have e2 : (Builtin.zeroCells z.cells k).size = k * size := by have := zeroCells_length (z := z.cells) k; rw [hzs] at this; simpa using this
    have e3 : (Builtin.zeroCells z.cells (G - (i + k))).size = (G - (i + k)) * size := by have := zeroCells_length (z := z.cells) (G - (i + k)); rw [hzs] at this; simpa using this
    rw [Array.size_append, Array.size_append, e2, e3, List.size_toArray, e1, ← Nat.add_mul, ← Nat.add_mul]
    congr 1; omega
  · have e1 := hless.1
    have e2 := zeroCells_length (z := z.cells) k
    rw [hzs] at e2
    rw [Array.toList_append, Array.toList_append, List.take_append_of_le_length (by rw [List.length_append, e2]; simp only [e1]; rw [← Nat.add_mul]; exact Nat.le_refl _), List.take_of_length_le (by rw [List.length_append, e2]; simp only [e1]; rw [← Nat.add_mul]; exact Nat.le_refl _)]
  · show (w.drew.heap.push _).size = _
    rw [Array.size_push]; rfl
/-- Two splices: room made, and filled. -/
theorem splice_shift (xs ys us : List Value) (p q : Nat) (hp : p ≤ xs.length) (hu : us.length = q) (hy : ys.length = q) :
    splice (splice (xs ++ ys) (p + q) (xs.drop p)) p us = xs.take p ++ (us ++ xs.drop p) := by
  unfold splice
  have e1 : (xs ++ ys).take (p + q) ++ (xs.drop p ++ (xs ++ ys).drop (p + q + (xs.drop p).length)) = (xs ++ ys).take (p + q) ++ xs.drop p := by
    have : (xs ++ ys).drop (p + q + (xs.drop p).length) = [] := List.drop_eq_nil_of_le (by simp; omega)
    rw [this, List.append_nil]
  rw [e1]
  have hl : ((xs ++ ys).take (p + q)).length = p + q := by simp; omega
  have e2 : (List.take (p + q) (xs ++ ys) ++ List.drop p xs).take p = xs.take p := by
    rw [List.take_append_of_le_length (by omega), List.take_take, Nat.min_eq_left (by omega), List.take_append_of_le_length hp]
  have e3 : (List.take (p + q) (xs ++ ys) ++ List.drop p xs).drop (p + us.length) = xs.drop p := by
    rw [hu, List.drop_append, hl, Nat.sub_self, List.drop_zero, List.drop_eq_nil_of_le (by omega), List.nil_append]
  rw [e2, e3]
theorem splice_fill (xs zs us vs : List Value) (p q : Nat) (hp : p = xs.length) (hu : us.length = q) (hz : zs.length = q + vs.length) :
    splice (splice (xs ++ zs) p us) (p + q) vs = xs ++ (us ++ vs) := by
  unfold splice
  subst hp
  have e1 : (xs ++ zs).take xs.length = xs := by simp
  have e2 : (xs ++ zs).drop (xs.length + us.length) = zs.drop q := by rw [List.drop_append, List.drop_eq_nil_of_le (by omega), List.nil_append, hu]; congr 1; omega
  rw [e1, e2]
  have e3 : (xs ++ (us ++ zs.drop q)).take (xs.length + q) = xs ++ us := by
    rw [← List.append_assoc, List.take_append_of_le_length (by simp; omega), List.take_of_length_le (by simp; omega)]
  have e4 : (xs ++ (us ++ zs.drop q)).drop (xs.length + q + vs.length) = [] := List.drop_eq_nil_of_le (by simp; omega)
  rw [e3, e4]
  simp
end Go.Cph

namespace Go.Cph
open Go.RowKit

theorem owns_setRow {w : World} {base : Nat} {e : TypeId} {size g n cap : Nat} {xs : List Value} (h : w.ownsRow base e size (.slice (some ⟨g, 0, none⟩) n cap) n xs) {cur : Array Value} (hg : w.heap[g]? = some (.cells cur e (0, 0)))
    (o : Nat) (cs : List Value) (hfit : o + cs.length ≤ n * size) :
    (w.setRow g (cur.toList.take o ++ cs ++ cur.toList.drop (o + cs.length)).toArray).ownsRow base e size (.slice (some ⟨g, 0, none⟩) n cap) n (splice xs o cs) := by
  obtain ⟨cur', hb, hg', hnc, hcm, hcs, hx⟩ := owns_block h
  rw [hg] at hg'
  simp only [Option.some.injEq, Obj.cells.injEq] at hg'
  obtain ⟨rfl, _⟩ := hg'
  have hnc' : n * size ≤ cap * size := Nat.mul_le_mul_right _ hnc
  have hlx : xs.length = n * size := h.1
  have hcl : cur.toList.length = cap * size := by simpa using hcs
  refine ⟨by rw [length_splice _ _ _ (by omega)]; exact hlx, .inr ⟨g, cap, _, rfl, hb, setRow_heap w g cur _ e _ hg, hnc, hcm, ?_, ?_⟩⟩
  · simp; omega
  · show List.take (n * size) (cur.toList.take o ++ cs ++ cur.toList.drop (o + cs.length)) = _
    unfold splice
    rw [← hx, List.take_append, List.take_of_length_le (by simp; omega), List.append_assoc]
    congr 1
    · rw [List.take_take, Nat.min_eq_left (by omega)]
    · congr 1
      rw [List.length_append, List.length_take, hcl, Nat.min_eq_left (by omega), List.drop_take]
/-- append(s[:i], x...) where there is room in the row. -/
theorem run_append_in {P : Program} (w : World) (t tx e : TypeId) (z : Value) (size bytes : Nat) (ht : P.underlying t = some (.slice e)) (hinfo : (P.info? e).map (fun i => (i.zero, i.size, i.bytes)) = some (some z, size, bytes))
    {base g n cap : Nat} {xs : List Value} (hown : w.ownsRow base e size (.slice (some ⟨g, 0, none⟩) n cap) n xs) (i m : Nat) (x : Value) (news : List Value) (hs : Src P size tx x m news w) (him : i + m ≤ n) :
    ∃ w', (∀ ty, (Builtin.append_ #[t, tx] ty #[.slice (some ⟨g, 0, none⟩) i cap, x]).run P w = .ok (.slice (some ⟨g, 0, none⟩) (i + m) cap) w') ∧
      w'.ownsRow base e size (.slice (some ⟨g, 0, none⟩) n cap) n (splice xs (i * size) news) ∧ w.grownBy w' (some g) ∧ w'.heap.size = w.heap.size := by
  obtain ⟨ti, hti, hz0, hz1, hz2⟩ := info_parts hinfo
  obtain ⟨cur, hb, hg, hnc, hcm, hcs, hx⟩ := owns_block hown
  have hfit : i * size + news.length ≤ n * size := by rw [hs.newsLen, ← Nat.add_mul]; exact Nat.mul_le_mul_right _ him
  have hnc' : n * size ≤ cap * size := Nat.mul_le_mul_right _ hnc
  have hst := run_storeCells_at P g (i * size) e news 0 cur w hg (by simp; omega) hs.one
  simp only [Nat.add_zero] at hst
  have hroom : i + m ≤ cap := by omega
  have hadd : (⟨g, 0, none⟩ : Addr).add (i * size) = ⟨g, i * size, none⟩ := by unfold Addr.add; split <;> simp_all
  refine ⟨_, fun ty => ?_, owns_setRow hown hg (i * size) news hfit, grown_setRow _ _ _, by simp⟩
  rcases hs.kind with ⟨e', hk⟩ | hk <;> simp [Builtin.append_, run_underlying ht, run_underlying hk, sizeOf, typeInfo, hti, hz1, hs.len, hroom, hs.cells, hadd, hst]
/-- clear of a part of a row. -/
theorem run_clear_in {P : Program} (w : World) (t e : TypeId) (z : Value) (size : Nat) (ht : P.underlying t = some (.slice e)) (hv : ∀ w, (zeroValue e).run P w = .ok z w) (hzs : z.cells.size = size)
    (h1 : ∀ n, ∀ v ∈ (Builtin.zeroCells z.cells n).toList, v.oneCell' = true)
    {base g n cap : Nat} {xs : List Value} (hown : w.ownsRow base e size (.slice (some ⟨g, 0, none⟩) n cap) n xs) (i m : Nat) (hm : 0 < m) (him : i + m ≤ n) :
    ∃ zs w', (∀ ty c, (Builtin.clear_ #[t] ty #[.slice (some ⟨g, i * size, none⟩) m c]).run P w = .ok (.tuple #[]) w') ∧ zs.length = m * size ∧
      w'.ownsRow base e size (.slice (some ⟨g, 0, none⟩) n cap) n (splice xs (i * size) zs) ∧ w.grownBy w' (some g) ∧ w'.heap.size = w.heap.size := by
  obtain ⟨cur, hb, hg, hnc, hcm, hcs, hx⟩ := owns_block hown
  have hzl : (Builtin.zeroCells z.cells m).toList.length = m * size := by rw [zeroCells_length, hzs]
  have hfit : i * size + (Builtin.zeroCells z.cells m).toList.length ≤ n * size := by rw [hzl, ← Nat.add_mul]; exact Nat.mul_le_mul_right _ him
  have hnc' : n * size ≤ cap * size := Nat.mul_le_mul_right _ hnc
  have hst := run_storeCells_at P g (i * size) e (Builtin.zeroCells z.cells m).toList 0 cur w hg (by simp only [Nat.add_zero]; omega) (h1 m)
  simp only [Nat.add_zero] at hst
  obtain ⟨k, rfl⟩ : ∃ k, m = k + 1 := ⟨m - 1, by omega⟩
  refine ⟨_, _, fun ty c => ?_, hzl, owns_setRow hown hg (i * size) _ hfit, grown_setRow _ _ _, by simp⟩
  simp [Builtin.clear_, run_underlying ht, hv, hst]
/-- The tail moved down, and what was behind it overlaid: the first elements. -/
theorem splice_less (xs zs : List Value) (p q : Nat) (hp : p + q ≤ xs.length) :
    (splice (splice xs p (xs.drop (p + q))) (xs.length - q) zs).take (xs.length - q) = xs.take p ++ xs.drop (p + q) := by
  unfold splice
  have hl : (xs.drop (p + q)).length = xs.length - (p + q) := by simp
  have e0 : (List.take p xs ++ (List.drop (p + q) xs ++ List.drop (p + (List.drop (p + q) xs).length) xs)).take (xs.length - q) = xs.take p ++ xs.drop (p + q) := by
    rw [← List.append_assoc, List.take_append_of_le_length (by simp; omega), List.take_of_length_le (by simp; omega)]
  rw [List.take_append_of_le_length (by simp; omega), List.take_take, Nat.min_self, e0]
end Go.Cph

namespace Go.Cph
open Go.RowKit

/-- append of a make to nil: a new row, of which nothing is used yet. -/
theorem run_append_make_nil {P : Program} (w : World) (t tn e : TypeId) (z : Value) (size bytes : Nat) (kq kn : IntKind) (ht : P.underlying t = some (.slice e)) (htn : P.underlying tn = some (.int kn))
    (hinfo : (P.info? e).map (fun i => (i.zero, i.size, i.bytes)) = some (some z, size, bytes)) (hzs : z.cells.size = size) (hsz : 0 < size) (k : Nat) (h0 : 0 < k) (h63 : k ≤ 1099511627776) (hbytes : bytes ≤ 128) :
    ∃ G w', (∀ ty, (Builtin.append_ #[t, tn] ty #[.slice none 0 0, .int kq k]).run P w = .ok (.slice (some ⟨w.heap.size, 0, none⟩) k G) w') ∧
      w'.ownsRow w.heap.size e size (.slice (some ⟨w.heap.size, 0, none⟩) 0 G) 0 [] ∧ Below w.heap.size w w' ∧ k ≤ G ∧ G ≤ maxLen := by
  obtain ⟨ti, hti, hz0, hz1, hz2⟩ := info_parts hinfo
  have hb : (0 + k) * bytes ≤ 140737488355328 := Nat.le_trans (Nat.mul_le_mul (by omega : 0 + k ≤ 1099511627776) hbytes) (by omega)
  have hkb : k * bytes ≤ 140737488355328 := Nat.le_trans (Nat.mul_le_mul (by omega) hbytes) (by omega : 1099511627776 * 128 ≤ 140737488355328)
  have hold : (Builtin.firstCells ti.size 0 (.slice none 0 0)).run P w.drew = .ok ([] : List Value).toArray w.drew := run_firstCells_none _ _ _ _ _
  have hg : 0 < 0 + k := by omega
  have h := fun ty => Lib.run_append_grow_zeros w t tn ty e ti z kq kn ht htn hti hz0 none 0 0 [] hold k h0 (by rw [hz1]; exact hsz) hg (by omega) (by rw [hz2]; omega) (by rw [hz2]; exact growslice_fits hg hb)
  have hG := grownCap_ge w (0 + k) 0 e
  have hGm := grownCap_le_maxLen w (0 + k) 0 e (by unfold maxLen; omega)
  generalize grownCap w (0 + k) 0 e = G at *
  simp only [Nat.zero_add] at h hG
  refine ⟨G, _, h, ⟨by simp, .inr ⟨w.heap.size, G, _, rfl, Nat.le_refl _, heap_alloc_new w.drew _, Nat.zero_le _, hGm, ?_, by simp⟩⟩, (Below.refl _ _).drew.alloc (Nat.le_refl _) _, hG, hGm⟩
  have e2 : (Builtin.zeroCells z.cells k).size = k * size := by have := zeroCells_length (z := z.cells) k; rw [hzs] at this; simpa using this
  have e3 : (Builtin.zeroCells z.cells (G - k)).size = (G - k) * size := by have := zeroCells_length (z := z.cells) (G - k); rw [hzs] at this; simpa using this
  rw [Array.size_append, Array.size_append, e2, e3, List.size_toArray, List.length_nil, Nat.zero_add, ← Nat.add_mul]
  congr 1; omega

theorem step_append {P : Program} {ops : Array Oper} {o : Oper} {a : Act} {w : World} {K : Act → World → Prop} {Q : Exit → Act → World → Prop} {E : Prop}
    (hg : o.guard = none) (d x : Operand) (dT sT : TypeId) (hop : o.op = Op.call { callee := Callee.builtin Builtin.append, args := #[d, x], argTypes := #[dT, sT] })
    (v u : Value) (hd : a.eval d = v) (hx : a.eval x = u) {v' : Value} {w' : World} (hr : (Builtin.append_ #[dT, sT] o.type #[v, u]).run P w = .ok v' w') (hK : K (a.put o.dst v') w') :
    if Region.wanted o (yielded ops a.tmps) = true then Oper.wp P o a w K Q else E := by
  have hw : Region.wanted o (yielded ops a.tmps) = true := by simp [Region.wanted, hg]
  rw [if_pos hw]
  unfold Oper.wp execOp
  simp only [hop, resolve, invoke, builtin, Sem.run_bind, Sem.run_pure, Result.andThen_ok, List.map_toArray, List.map_cons, List.map_nil, hd, hx, hr]
  exact hK
/-- append of one element that was laid in a new block in the same region (which draws its order). -/
theorem run_append1 {P : Program} (w w0 : World) (t ty e : TypeId) (z : Value) (size bytes : Nat) (ht : P.underlying t = some (.slice e)) (hinfo : (P.info? e).map (fun i => (i.zero, i.size, i.bytes)) = some (some z, size, bytes))
    (hzs : z.cells.size = size) (hsz : 0 < size) {base : Nat} {v : Value} {n : Nat} {xs : List Value} (hown : w.ownsRow base e size v n xs) (us : List Value) (hus : us.length = size) (h1 : ∀ u ∈ us, u.oneCell' = true)
    (h63 : n + 1 ≤ 1099511627776) (hbytes : bytes ≤ 128) {B : Nat} (hb : Below B w0 w) (hB : B ≤ base) (hbase : base ≤ w.heap.size) :
    ∃ v' w', (Builtin.append_ #[t, t] ty #[v, .slice (some ⟨w.heap.size, 0, none⟩) 1 1]).run P ((w.alloc (.cells us.toArray e)).drew) = .ok v' w' ∧ w'.ownsRow base e size v' (n + 1) (xs ++ us) ∧ Below B w0 w' := by
  have hB' : B ≤ w.heap.size := Nat.le_trans hB hbase
  have hbl : Below B w0 ((w.alloc (.cells us.toArray e)).drew) := (hb.alloc hB' _).drew
  have hown' : (w.alloc (.cells us.toArray e)).drew.ownsRow base e size v n xs := hown.alloc _
  have hsz' : ((w.alloc (.cells us.toArray e)).drew).heap.size = w.heap.size + 1 := by show (w.heap.push _).size = _; rw [Array.size_push]
  have hseg : Seg ((w.alloc (.cells us.toArray e)).drew) size (.slice (some ⟨w.heap.size, 0, none⟩) 1 1) 1 us :=
    ⟨⟨_, _, rfl, fun _ => ⟨w.heap.size, 0, rfl, fun j hj => by rw [Nat.zero_add]; show (w.alloc (.cells us.toArray e)).cell? _ = _; rw [blk_cell (heap_alloc_new w _)]; simp⟩⟩, by rw [hus, Nat.one_mul]⟩
  obtain ⟨v', w', hr, ho, hg, -⟩ := run_append_seg (P := P) ((w.alloc (.cells us.toArray e)).drew) t ty e z size bytes ht hinfo hzs hsz hown' hseg h1 h63 hbytes (by rw [hsz']; omega)
  exact ⟨v', w', hr, ho, below_grown hbl hg hown' hB (by rw [hsz']; omega)⟩
/-- A slice of slices that reads as a list of lists. -/
structure Lists {α : Type} (enc : α → List Value) (size : Nat) (w : World) (v : Value) (ls : List (List α)) : Prop where
  out : ∃ vs : List Value, vs.length = ls.length ∧ Seg w 1 v ls.length vs ∧ ∀ j (h : j < vs.length) (k : j < ls.length), Elems enc size w vs[j] ls[j]
section
variable {α : Type} {enc : α → List Value} {size : Nat} {w : World} {v : Value} {ls : List (List α)}
theorem Lists.kept {w' : World} (h : Lists enc size w v ls) (hb : Below w.heap.size w w') : Lists enc size w' v ls := by
  obtain ⟨vs, h1, h2, h3⟩ := h.out
  exact ⟨vs, h1, h2.kept hb, fun j hj hk => (h3 j hj hk).kept hb⟩
theorem Lists.slice (h : Lists enc size w v ls) : ∃ ao cap, v = .slice ao ls.length cap := by
  obtain ⟨vs, h1, ⟨⟨ao, cap, hv, _⟩, _⟩, h3⟩ := h.out
  exact ⟨ao, cap, hv⟩
theorem Lists.cell (h : Lists enc size w v ls) (h0 : 0 < ls.length) : ∃ b off cap, v = .slice (some ⟨b, off, none⟩) ls.length cap ∧
    ∀ i (hi : i < ls.length), ∃ u, w.cell? ⟨b, off + i, none⟩ = some u ∧ Elems enc size w u ls[i] := by
  obtain ⟨vs, h1, ⟨⟨ao, cap, rfl, hc⟩, hl⟩, h3⟩ := h.out
  obtain ⟨b, off, rfl, hcc⟩ := hc h0
  refine ⟨b, off, cap, rfl, fun i hi => ⟨vs[i]'(by omega), ?_, h3 i (by omega) hi⟩⟩
  rw [hcc i (by omega)]
  exact List.getElem?_eq_getElem _
theorem Lists.nil (w : World) : Lists enc size w (.slice none 0 0) [] := ⟨[], rfl, Seg.nil w 1, fun j h => by simp at h⟩
theorem Lists.one {b c : Nat} {u : Value} {l : List α} {E : TypeId} {fr : Nat × Nat} (hb : w.heap[b]? = some (.cells #[u] E fr)) (h : Elems enc size w u l) : Lists enc size w (.slice (some ⟨b, 0, none⟩) 1 c) [l] := by
  refine ⟨[u], rfl, ⟨⟨_, _, rfl, fun _ => ⟨b, 0, rfl, fun j hj => ?_⟩⟩, rfl⟩, fun j hj hk => ?_⟩
  · obtain rfl : j = 0 := by simp at hj; omega
    rw [Nat.zero_add, blk_cell hb]; rfl
  · obtain rfl : j = 0 := by simp at hj; omega
    exact h
end
theorem flatten_take {α : Type} (ls : List (List α)) {k : Nat} (h : k < ls.length) : (ls.take (k + 1)).flatten = (ls.take k).flatten ++ ls[k] := by
  rw [List.take_succ_eq_append_getElem h, List.flatten_append]; simp
theorem flatten_le {α : Type} (ls : List (List α)) (k : Nat) : (ls.take k).flatten.length ≤ ls.flatten.length := by
  conv => rhs; rw [← List.take_append_drop k ls, List.flatten_append, List.length_append]
  omega
end Go.Cph
