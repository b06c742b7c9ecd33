/- VF: texts put together: SqA SqB SqC. -/
import Derived.Test.YtkeaalacepjadaaDoorSq9
import Derived.Test.YtkeaalacepjadaaDoorVi1
/- A row of numbers copied. -/
set_option linter.unusedVariables false
set_option linter.unusedSimpArgs false
set_option maxRecDepth 100000
namespace Go.Proofs.Tryd.Sq
open Go.RowKit Go.Cph Go.Cph.Skip Go.Cph.So Go.Cph.Ve Go.Proofs.Tryd.Vr

theorem infoU : (Tryd.prog.info? TU).map (fun i => (i.zero, i.size, i.bytes)) = some (some (.int .u64 0), 1, 8) := by kernel_rfl
theorem encU_one {l : List UInt64} : ∀ u ∈ l.flatMap encU, u.oneCell' = true := by
  intro u hu
  rw [List.mem_flatMap] at hu
  obtain ⟨p, _, hu⟩ := hu
  simp only [encU, List.mem_singleton] at hu
  rw [hu]; rfl
def NewU (w : World) (l : List UInt64) (e : Ending) (w' : World) : Prop := ∃ v', e = .returned v' ∧ w'.ownsRow w.heap.size TU 1 v' l.length (l.flatMap encU) ∧ Below w.heap.size w w'

set_option maxHeartbeats 4000000 in
theorem cloneU_any (v : Value) (l : List UInt64) (w : World) (h : Elems encU 1 w v l) (hn : l.length ≤ 1000000) :
    Calls Tryd.prog 40 #[v] w (NewU w l) := by
  obtain ⟨ao, cap, hv⟩ := elems_slice h
  subst hv
  cases ao with
  | none =>
    have h0 : l = [] := by
      obtain ⟨⟨ao, cap, hv, hc⟩, -⟩ := h
      cases l with
      | nil => rfl
      | cons x l =>
        obtain ⟨b, off, hb, -⟩ := hc (by simp)
        cases hv
        cases hb
    subst h0
    clear h
    have hn0 : ∀ W, (binOp .eql TUs (.slice none 0 cap) (.slice none 0 0)).run Tryd.prog W = .ok (.bool true) W := fun W => Lib.run_eql_slice_nil W TUs TU none 0 cap 0 0 Tryd.underlying36
    go_enter Tryd.func40, Tryd.ntmps40
    go_wp2_with fail
    go_ret
    exact ⟨_, rfl, World.ownsRow_nil _ _ _ _, Below.refl _ _⟩
  | some p =>
    have HV := Lib.hid (h.kept (below_of_alloc (w := w) (.cells #[] TU)))
    have HO := Lib.hid (owns_empty (w := w.alloc (.cells #[] TU)) (heap_alloc_new w _) (Nat.le_refl _) 1)
    have hn0 : ∀ W, (binOp .eql TUs (.slice (some p) l.length cap) (.slice none 0 0)).run Tryd.prog W = .ok (.bool false) W := fun W => Lib.run_eql_slice_nil W TUs TU (some p) l.length cap 0 0 Tryd.underlying36
    clear h
    go_enter Tryd.func40, Tryd.ntmps40
    go_wp2_with (at_builtin; refine wpList_append_seg rfl (.tmp 5) (.tmp 6) TUs rfl w.heap.size TU _ 1 8 Tryd.underlying36 infoU rfl (by decide) _ 0 [] rfl HO.out _ _ _ rfl HV.out encU_one (by omega) (by decide) (by rw [World.size_alloc]; omega) ?_; intro v' w' ho hgr _; obtain ⟨o1, c1, hv1⟩ := owns_slice1 ho; have HO2 := Lib.hid ho; have HG2 := Lib.hid hgr; subst hv1; clear ho hgr)
    go_ret
    refine ⟨_, rfl, by have := HO2.out; simpa using this, ?_⟩
    exact below_grown (below_of_alloc _) HG2.out HO.out (Nat.le_refl _) (by rw [World.size_alloc]; omega)
end Go.Proofs.Tryd.Sq

/- None alike beside each other in an ordered row: all unlike. -/
set_option linter.unusedVariables false
set_option linter.unusedSimpArgs false
namespace Go.Proofs.Tryd.Sq
open Go.RowKit Go.Cph Go.Sort

theorem apart_iff (l : List UInt64) : apart (inOrder l).toArray ↔ l.Nodup := by
  rw [← (inOrder_perm l).nodup_iff]
  have hs := inOrder_sorted l
  generalize inOrder l = s at hs
  rw [List.pairwise_iff_getElem] at hs
  have hg : ∀ i (h : i < s.length), s.toArray[i]! = s[i] := fun i h => by
    rw [getElem!_pos s.toArray i (by simpa using h)]
    simp
  constructor
  · intro ha
    rw [List.nodup_iff_pairwise_ne, List.pairwise_iff_getElem]
    intro i j hi hj hij e
    have h1 := ha j (by omega) (by simpa using hj)
    rw [hg j hj, hg (j - 1) (by omega)] at h1
    have h2 := hs (j - 1) j (by omega) hj (by omega)
    have h3 : s[i].toNat ≤ (s[j - 1]'(by omega)).toNat := by
      rcases Nat.lt_or_eq_of_le (show i ≤ j - 1 by omega) with h | h
      · exact hs i (j - 1) hi (by omega) h
      · simp [h]
    rw [e] at h3
    exact h1 (UInt64.toNat_inj.1 (by omega))
  · intro hn i h0 hi
    rw [List.nodup_iff_pairwise_ne, List.pairwise_iff_getElem] at hn
    have hi' : i < s.length := by simpa using hi
    rw [hg i hi', hg (i - 1) (by omega)]
    exact hn (i - 1) i (by omega) hi' (by omega)
end Go.Proofs.Tryd.Sq

/- slices.Sort, Clone, Compact of a row of our own, empty or not. -/
set_option linter.unusedVariables false
set_option linter.unusedSimpArgs false
set_option maxRecDepth 100000
namespace Go.Proofs.Tryd.Sq
open Go.RowKit Go.Cph Go.Cph.Skip Go.Cph.So Go.Cph.Ve Go.Proofs.Tryd.Vr Go.Sort

theorem sort_row {base : Nat} (v : Value) (l : List UInt64) (w : World) (h : w.ownsRow base TU 1 v l.length (l.flatMap encU)) (hn : l.length ≤ 1000000) (hb : base ≤ w.heap.size) :
    Calls Tryd.prog 38 #[v] w (fun e w' => e = .returned (.tuple #[]) ∧ w'.ownsRow base TU 1 v l.length ((inOrder l).flatMap encU) ∧ Below base w w') := by
  have hown := h
  obtain ⟨h1, h2⟩ := h
  rcases h2 with ⟨rfl, h0⟩ | ⟨g, cap, cur, rfl, hg, -, -, -, -, -⟩
  · obtain rfl : l = [] := List.eq_nil_of_length_eq_zero h0
    refine (sort_none w 0).mono ?_
    rintro e w' ⟨rfl, rfl⟩
    exact ⟨rfl, by rw [show inOrder [] = [] from List.eq_nil_of_length_eq_zero (inOrder_len [])]; exact hown, Below.refl _ _⟩
  · refine (sort_any l w ⟨hown, grown_refl _ _, by simp⟩ hn).mono ?_
    rintro e w' ⟨rfl, hr⟩
    refine ⟨rfl, by simpa using hr.own, (Below.refl base w).grown hr.grown hb fun k hk => by cases hk; exact hg⟩
set_option maxHeartbeats 2000000 in
theorem compact_none (c : Nat) (w : World) :
    Calls Tryd.prog 39 #[.slice none 0 c] w (fun e w' => e = .returned (.slice none 0 c) ∧ w' = w) := by
  go_enter Tryd.func39, Tryd.ntmps39
  go_wp2_with fail
  go_ret
  exact ⟨rfl, rfl⟩
theorem compact_row {base : Nat} (v : Value) (l : List UInt64) (w : World) (h : w.ownsRow base TU 1 v l.length (l.flatMap encU)) (hn : l.length ≤ 1000000) (hb : base ≤ w.heap.size) :
    Calls Tryd.prog 39 #[v] w (fun e w' => ∃ p k c, e = .returned (.slice p k c) ∧ (k = l.length ↔ apart l.toArray) ∧ Below base w w') := by
  have hown := h
  obtain ⟨h1, h2⟩ := h
  rcases h2 with ⟨rfl, h0⟩ | ⟨g, cap, cur, rfl, hg, -, -, -, -, -⟩
  · obtain rfl : l = [] := List.eq_nil_of_length_eq_zero h0
    refine (compact_none 0 w).mono ?_
    rintro e w' ⟨rfl, rfl⟩
    exact ⟨_, _, _, rfl, ⟨fun _ i h0 hi => by simp at hi, fun _ => rfl⟩, Below.refl _ _⟩
  · refine (compact_any l.toArray w w ⟨by simpa using hown, grown_refl _ _, by simp⟩ hn).mono ?_
    rintro e w' ⟨p, k, c, rfl, hk, hgr⟩
    exact ⟨_, _, _, rfl, hk, (Below.refl base w).grown hgr hb fun k hk => by cases hk; exact hg⟩
end Go.Proofs.Tryd.Sq
