/- slices.Delete of one table. -/
import Derived.Test.YtkeaalacepjadaaDoorVK
import Derived.Test.YtkeaalacepjadaaDoorVA
set_option linter.unusedVariables false
set_option linter.unusedSimpArgs false
namespace Go.Proofs.Tryd.Vr
open Go.RowKit Go.Cph Go.Cph.Skip Go.Cph.So Go.Cph.Ve

theorem step_appendK {P : Program} {ops : Array Oper} {o : Oper} {a : Act} {w : World} {K : Act → World → Prop} {Q : Exit → Act → World → Prop} {E : Prop}
    (hg : o.guard = none) (d x : Operand) (dT sT : TypeId) (hop : o.op = Op.call { callee := Callee.builtin Builtin.append, args := #[d, x], argTypes := #[dT, sT] })
    (v u : Value) (hd : a.eval d = v) (hx : a.eval x = u) {v' : Value} {w' : World} (hr : (Builtin.append_ #[dT, sT] o.type #[v, u]).run P w = .ok v' w') (hK : K (a.put o.dst v') w') :
    if Region.wanted o (yielded ops a.tmps) = true then Oper.wp P o a w K Q else E := by
  have hw : Region.wanted o (yielded ops a.tmps) = true := by simp [Region.wanted, hg]
  rw [if_pos hw]
  unfold Oper.wp execOp
  simp only [hop, resolve, invoke, builtin, Sem.run_bind, Sem.run_pure, Result.andThen_ok, List.map_toArray, List.map_cons, List.map_nil, hd, hx, hr]
  exact hK
theorem zerosP (n : Nat) : ∀ v ∈ (Builtin.zeroCells zeroT.cells n).toList, v.oneCell' = true := by
  intro v hv
  simp only [Builtin.zeroCells, Value.cells, Array.toList_map, List.mem_map] at hv
  obtain ⟨i, _, rfl⟩ := hv
  have : i % 8 < 8 := Nat.mod_lt _ (by decide)
  rcases (show i % 8 = 0 ∨ i % 8 = 1 ∨ i % 8 = 2 ∨ i % 8 = 3 ∨ i % 8 = 4 ∨ i % 8 = 5 ∨ i % 8 = 6 ∨ i % 8 = 7 by omega) with h | h | h | h | h | h | h | h <;> simp [h] <;> rfl
theorem grown_after {w w2 w3 : World} {row : Option Nat} (h : w.drew.grownBy w2 row) (g : w2.grownBy w3 row) : w.grownBy w3 row :=
  ⟨g.os.trans h.os, g.tape.trans h.tape, g.output.trans h.output, Nat.le_trans h.size g.size, fun k hk hne => (g.block k (Nat.lt_of_lt_of_le hk h.size) hne).trans (h.block k hk hne)⟩
def DelPost (base : Nat) (s : Value) (n i : Nat) (xs : List Value) (w : World) (e : Ending) (w' : World) : Prop :=
  ∃ v', e = .returned v' ∧ w'.ownsRow base TE 8 v' (n - 1) (xs.take (i * 8) ++ xs.drop ((i + 1) * 8)) ∧ w.grownBy w' s.ownBlock ∧ v'.ownBlock = s.ownBlock

set_option maxRecDepth 100000 in
set_option maxHeartbeats 4000000 in
theorem delete_any {base : Nat} {s : Value} {n i : Nat} {xs : List Value} (w : World) (hown : w.ownsRow base TE 8 s n xs) (hi : i < n) (hn : n ≤ 1000000) (hx1 : ∀ u ∈ xs, u.oneCell' = true) (hbase : base ≤ w.heap.size) :
    Calls Tryd.prog 42 #[s, .int .i64 i, .int .i64 ((i : Int) + 1)] w (DelPost base s n i xs w) := by
  obtain ⟨g, cap, rfl, hgb, hgl, hnc, hcell, hfz⟩ := owns_shape hown (by omega)
  have hlx : xs.length = n * 8 := hown.1
  have hcm : cap ≤ 9223372036854775807 := by obtain ⟨_, _, _, _, h, _⟩ := owns_block hown; unfold maxLen at h; omega
  have hcase : i + 1 < n ∨ (i + 1 = n ∧ cap = n) ∨ (i + 1 = n ∧ cap ≠ n) := by omega
  -- the source, as the walk spells it
  have hsrc : ∃ a c, Src Tryd.prog 8 25 (.slice (some a) (n - (i + 1)) c) (n - (i + 1)) (xs.drop ((i + 1) * 8)) w.drew ∧ a = (if cap = i + 1 then ⟨g, 0, none⟩ else ⟨g, (i + 1) * 8, none⟩) ∧ c = cap - (i + 1) := by
    refine ⟨_, _, Src.ofSlice w.drew Tryd.underlying25 _ _ _ _ (by rw [List.length_drop, hlx]; omega) ?_ (fun u hu => hx1 u (List.mem_of_mem_drop hu)), rfl, rfl⟩
    intro j u hj
    have hjl : (i + 1) * 8 + j < xs.length := by rw [List.getElem?_drop] at hj; exact (List.getElem?_eq_some_iff.1 hj).1
    have hne : ¬ cap = i + 1 := by omega
    rw [if_neg hne]
    have hadd : (⟨g, (i + 1) * 8, none⟩ : Addr).add j = ⟨g, (i + 1) * 8 + j, none⟩ := by unfold Addr.add; split <;> simp_all
    rw [hadd]
    rw [List.getElem?_drop] at hj
    exact (hcell _ (by omega)).trans hj
  obtain ⟨sa, sc, hsr, hsa, hsc⟩ := hsrc
  obtain ⟨w2, hr2, ho2, hg2, hsz2⟩ := run_append_in (P := Tryd.prog) w.drew 25 25 56 _ 8 80 Tryd.underlying25 infoE (hown : w.drew.ownsRow _ _ _ _ _ _) i (n - (i + 1)) _ _ hsr (by omega)
  obtain ⟨zs, w3, hr3, hz3, ho3, hg3, hsz3⟩ := run_clear_in (P := Tryd.prog) w2 25 56 zeroT 8 Tryd.underlying25 (fun w => by kernel_rfl) rfl zerosP ho2 (n - 1) 1 (by omega) (by omega)
  have hin : i + (n - (i + 1)) = n - 1 := by omega
  rw [hin] at hr2
  have hfin := splice_less xs zs (i * 8) 8 (by omega)
  have e1 : i * 8 + 8 = (i + 1) * 8 := by omega
  have e2 : xs.length - 8 = (n - 1) * 8 := by omega
  rw [e1, e2] at hfin
  have HF := Lib.hid (show w3.ownsRow base TE 8 (.slice (some ⟨g, 0, none⟩) (n - 1) cap) (n - 1) (xs.take (i * 8) ++ xs.drop ((i + 1) * 8)) by rw [← hfin]; exact owns_less ho3 (by omega))
  have HB := Lib.hid (grown_after hg2 hg3)
  have k1 : ((i : Int) == (i : Int) + 1) = false := by simpa using (show (i : Int) ≠ (i : Int) + 1 by omega)
  have k2 : (i : Int) + 1 ≤ (n : Int) := by omega
  have k3 : ¬ (cap = i) := by omega
  have k8 : IntKind.i64.wrap ((i : Int) + 1) = (i : Int) + 1 := by rw [IntKind.wrap_i64]; omega
  have k9 : (0 : Int) ≤ (i : Int) + 1 := by omega
  have k10 : ((i : Int) + 1).toNat = i + 1 := by omega
  have k11 : (i : Int) ≤ (n : Int) := by omega
  have k12 : ¬ (cap = n - 1) := by omega
  have k13 : ((n - 1 : Nat) : Int) ≤ (n : Int) := by omega
  have k14 : (n : Int) ≤ (cap : Int) := by omega
  have k15 : n - (n - 1) = 1 := by omega
  have k16 : i ≤ cap := by omega
  have k17 : i + 1 ≤ n := by omega
  have k18 : n - 1 ≤ n := by omega
  have k19 : n ≤ cap := hnc
  have k20 : n - 1 ≤ cap := by omega
  have HR2 := Lib.hid hr2
  have HR3 := Lib.hid hr3
  clear hr2 hr3 ho2 ho3 hfin hg2 hg3 hsz2 hsz3 hz3 e1 e2 hsr hcell hfz hown hx1 hlx hin
  subst hsc
  rcases hcase with hc | ⟨hc, hc2⟩ | ⟨hc, hc2⟩
  · have k4 : ¬ (cap = i + 1) := by omega
    rw [if_neg k4] at hsa
    subst hsa
    go_enter Tryd.func42, Tryd.ntmps42
    go_wp2_with fail
    go_region_law (refine step_appendK rfl (.tmp 22) (.tmp 25) 25 25 rfl (.slice (some ⟨g, 0, none⟩) i cap) (.slice (some ⟨g, (i + 1) * 8, none⟩) (n - (i + 1)) (cap - (i + 1))) (by simp [Act.eval, Act.put]) (by simp [Act.eval, Act.put]) (HR2.out _) ?_)
    have hr3 := HR3.out
    go_wp2_with fail
    clear hr3
    go_ret
    exact ⟨_, rfl, HF.out, HB.out, rfl⟩
  · subst hc
    obtain rfl : cap = i + 1 := hc2
    rw [if_pos rfl] at hsa
    subst hsa
    clear k12 k13 k14 k15 k18 k20 k19 k16 k2 k3 k11 k17 hnc hi
    have k25 : (i : Int) ≤ (i : Int) + 1 := by omega
    have k2 : (i : Int) + 1 ≤ ((i + 1 : Nat) : Int) := by omega
    have k11 : (i : Int) ≤ ((i + 1 : Nat) : Int) := by omega
    go_enter Tryd.func42, Tryd.ntmps42
    go_wp2_with fail
    go_region_law (refine step_appendK rfl (.tmp 22) (.tmp 25) 25 25 rfl (.slice (some ⟨g, 0, none⟩) i (i + 1)) (.slice (some ⟨g, 0, none⟩) (i + 1 - (i + 1)) (i + 1 - (i + 1))) (by simp [Act.eval, Act.put]) (by simp [Act.eval, Act.put]) (HR2.out _) ?_)
    have hr3 := HR3.out
    simp only [Nat.add_sub_cancel] at hr3
    go_wp2_with fail
    clear hr3
    go_ret
    exact ⟨_, rfl, HF.out, HB.out, rfl⟩
  · subst hc
    have k4 : ¬ (cap = i + 1) := hc2
    rw [if_neg k4] at hsa
    subst hsa
    have k21 : i + 1 ≤ cap := hnc
    have k22 : ((i + 1 : Nat) : Int) ≤ (cap : Int) := by omega
    have k23 : (i : Int) + 1 ≤ (cap : Int) := by omega
    have k24 : ¬ (cap = i) := by omega
    clear k12 k13 k14 k15 k18 k20 k19 k2 k3 k11 k17 hnc hi
    have k2 : (i : Int) + 1 ≤ ((i + 1 : Nat) : Int) := by omega
    have k11 : (i : Int) ≤ ((i + 1 : Nat) : Int) := by omega
    go_enter Tryd.func42, Tryd.ntmps42
    go_wp2_with fail
    go_region_law (refine step_appendK rfl (.tmp 22) (.tmp 25) 25 25 rfl (.slice (some ⟨g, 0, none⟩) i cap) (.slice (some ⟨g, (i + 1) * 8, none⟩) (i + 1 - (i + 1)) (cap - (i + 1))) (by simp [Act.eval, Act.put]) (by simp [Act.eval, Act.put]) (HR2.out _) ?_)
    have hr3 := HR3.out
    simp only [Nat.add_sub_cancel] at hr3
    go_wp2_with fail
    clear hr3
    go_ret
    exact ⟨_, rfl, HF.out, HB.out, rfl⟩
end Go.Proofs.Tryd.Vr
