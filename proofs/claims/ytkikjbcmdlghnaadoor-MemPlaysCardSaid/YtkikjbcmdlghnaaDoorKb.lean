/- A skip list's small functions: next, link, told. -/
import Derived.Test.YtkikjbcmdlghnaaDoorKa
import Derived.Test.YtkikjbcmdlghnaaDoorProg
import Derived.BigRegion
import Derived.OwnWalk
import Derived.WalkSmall
import Derived.IntWalk
import Derived.Deep.RegionHeld3
open Go.RowKit Go.Cph Go.Cph.Skip Go.Cph.Skm
set_option linter.unusedVariables false
set_option linter.unusedSimpArgs false
namespace Go.Proofs.Tryd.Skm

abbrev encV (e : Et) : Value := .agg #[.string e.1, .string e.2.1, .int .u64 (e.2.2.1.toNat : Int), .bool e.2.2.2]
abbrev zeroV : Et := (⟨#[]⟩, ⟨#[]⟩, 0, false)
abbrev TL : TypeId := 68
abbrev TN : TypeId := 89
abbrev IsAt (w : World) (p : Nat) (nx : Nat → Nat → Nat) (nodes : List (Nd Et)) (v : Value) : Prop := Go.Cph.Skm.At TL TN 3 w p nx nodes v
abbrev ptr (p : Nat) : Value := .pointer (some ⟨p, 0, none⟩)

theorem next0 {p : Nat} {nx : Nat → Nat → Nat} {nodes : List (Nd Et)} {v : Value} (l : Nat) (w : World) (h : IsAt w p nx nodes v) (hl : l < 12) :
    Calls Tryd.prog 40 #[ptr p, .int .i64 0, .int .i64 l] w fun e w' => e = .returned (.int .i64 (nx 0 l)) ∧ w = w' := by
  have hc := h.headCell l hl
  clear h
  go_enter Tryd.func40, Tryd.ntmps40
  go_wp2_with fail
  go_ret
  exact ⟨rfl, rfl⟩

theorem next1 {p : Nat} {nx : Nat → Nat → Nat} {nodes : List (Nd Et)} {v : Value} (i l : Nat) (w : World) (h : IsAt w p nx nodes v) (hi : i < nodes.length) (hl : l < nodes[i].ht) :
    Calls Tryd.prog 40 #[ptr p, .int .i64 (i + 1 : Nat), .int .i64 l] w fun e w' => e = .returned (.int .i64 (nx (i + 1) l)) ∧ w = w' := by
  have hc := h.rowCell
  have hct := h.towerCell i hi l hl
  obtain ⟨g, cap, rfl, hcap⟩ := h.shape (by omega)
  have hcn : w.cell? ⟨g, i * 6 + 5, none⟩ = some nodes[i].tower := h.nodeCell i hi 5 (by omega)
  have hm := h.len
  unfold maxLen at hm
  clear h
  unfold Nd.tower at hcn
  generalize nodes[i].ht = ht at *
  generalize nodes[i].tb = tb at *
  generalize nodes[i].tc = tc at *
  generalize nodes.length = m at *
  go_enter Tryd.func40, Tryd.ntmps40
  go_wp2_with fail
  go_ret
  exact ⟨rfl, rfl⟩

theorem told0 {p : Nat} (w : World) :
    Calls Tryd.prog 37 #[ptr p, .int .i64 0] w fun e w' => e = .returned (.tuple #[.string ⟨#[]⟩, encV zeroV, .bool false]) ∧ Below w.heap.size w w' := by
  go_enter Tryd.func37, Tryd.ntmps37
  go_wp2_with fail
  go_region
  all_goals
    go_wp2_with fail
    exact bodyPost_ret (v := .tuple #[.string ⟨#[]⟩, encV zeroV, .bool false]) (by simp [results, Tryd.results37, go_sem]) rfl ⟨rfl, ((Below.refl _ _).alloc (Nat.le_refl _) _).drew⟩

theorem toldNil (w : World) :
    Calls Tryd.prog 37 #[.pointer none, .int .i64 0] w fun e w' => e = .returned (.tuple #[.string ⟨#[]⟩, encV zeroV, .bool false]) ∧ Below w.heap.size w w' := by
  go_enter Tryd.func37, Tryd.ntmps37
  go_wp2_with fail
  go_region
  all_goals
    go_wp2_with fail
    exact bodyPost_ret (v := .tuple #[.string ⟨#[]⟩, encV zeroV, .bool false]) (by simp [results, Tryd.results37, go_sem]) rfl ⟨rfl, ((Below.refl _ _).alloc (Nat.le_refl _) _).drew⟩

theorem told1 {p : Nat} {nx : Nat → Nat → Nat} {nodes : List (Nd Et)} {v : Value} (i : Nat) (w : World) (h : IsAt w p nx nodes v) (hi : i < nodes.length) :
    Calls Tryd.prog 37 #[ptr p, .int .i64 (i + 1 : Nat)] w fun e w' => e = .returned (.tuple #[.string nodes[i].key, encV nodes[i].val, .bool true]) ∧ Below w.heap.size w w' := by
  have hc := h.rowCell
  obtain ⟨g, cap, rfl, hcap⟩ := h.shape (by omega)
  have hk : w.cell? ⟨g, i * 6, none⟩ = some (.string nodes[i].key) := h.nodeCell i hi 0 (by omega)
  have hv1 : w.cell? ⟨g, i * 6 + 1, none⟩ = some (.string nodes[i].val.1) := h.nodeCell i hi 1 (by omega)
  have hv2 : w.cell? ⟨g, i * 6 + 2, none⟩ = some (.string nodes[i].val.2.1) := h.nodeCell i hi 2 (by omega)
  have hv3 : w.cell? ⟨g, i * 6 + 3, none⟩ = some (.int .u64 (nodes[i].val.2.2.1.toNat : Int)) := h.nodeCell i hi 3 (by omega)
  have hv4 : w.cell? ⟨g, i * 6 + 4, none⟩ = some (.bool nodes[i].val.2.2.2) := h.nodeCell i hi 4 (by omega)
  have hm := h.len
  unfold maxLen at hm
  have hbx : Below w.heap.size w (w.alloc (.cells #[.string ⟨#[]⟩, .string ⟨#[]⟩, .int .u64 0, .bool false] 34)) := (Below.refl _ _).alloc (Nat.le_refl _) _
  have HB := Lib.hid hbx
  have hc := cell_kept hbx hc
  have hk := cell_kept hbx hk
  have hv1 := cell_kept hbx hv1
  have hv2 := cell_kept hbx hv2
  have hv3 := cell_kept hbx hv3
  have hv4 := cell_kept hbx hv4
  clear h hbx
  generalize nodes[i].key = key at *
  generalize nodes[i].val = val at *
  generalize nodes.length = m at *
  have e1 : IntKind.i64.wrap ((i : Int) + 1 - 1) = i := by rw [IntKind.wrap_i64]; omega
  have e2 : wrap64 (i : Int) = i := by unfold wrap64; omega
  have q1 : (0 : Int) ≤ (i : Int) := by omega
  have e3 : IntKind.i64.wrap (i : Int) = i := by rw [IntKind.wrap_i64]; omega
  have q2 : (i : Int) < (m : Int) := by omega
  go_enter Tryd.func37, Tryd.ntmps37
  go_wp2_with fail
  go_region_held3 (fun W => W.cell? ⟨p, 12, none⟩ = some (.slice (some ⟨g, 0, none⟩) m cap) ∧ W.cell? ⟨g, i * 6, none⟩ = some (.string key) ∧ W.cell? ⟨g, i * 6 + 1, none⟩ = some (.string val.1) ∧ W.cell? ⟨g, i * 6 + 2, none⟩ = some (.string val.2.1) ∧ W.cell? ⟨g, i * 6 + 3, none⟩ = some (.int .u64 (val.2.2.1.toNat : Int)) ∧ W.cell? ⟨g, i * 6 + 4, none⟩ = some (.bool val.2.2.2)) (go_keep) (fail)
  all_goals
    go_wp2_with fail
    exact bodyPost_ret (v := .tuple #[.string key, encV val, .bool true]) (by simp [results, Tryd.results37, go_sem]) rfl ⟨rfl, ((Below.refl _ _).alloc (Nat.le_refl _) _).drew⟩
theorem link0 {p : Nat} {nx : Nat → Nat → Nat} {nodes : List (Nd Et)} {v : Value} (l to : Nat) (w : World) (h : IsAt w p nx nodes v) (hl : l < 12) :
    Calls Tryd.prog 41 #[ptr p, .int .i64 0, .int .i64 l, .int .i64 to] w fun e w' => (∃ u, e = .returned u) ∧ w' = w.setCell ⟨p, l, none⟩ (.int .i64 to) := by
  have hc := h.headCell l hl
  have hf := h.free l
  clear h
  go_enter Tryd.func41, Tryd.ntmps41
  go_wp2_with fail
  refine bodyPost_ret (results_none rfl _ _ _) rfl ?_
  exact ⟨⟨_, rfl⟩, rfl⟩

theorem link1 {p : Nat} {nx : Nat → Nat → Nat} {nodes : List (Nd Et)} {v : Value} (i l to : Nat) (w : World) (h : IsAt w p nx nodes v) (hi : i < nodes.length) (hl : l < nodes[i].ht) :
    Calls Tryd.prog 41 #[ptr p, .int .i64 (i + 1 : Nat), .int .i64 l, .int .i64 to] w fun e w' => (∃ u, e = .returned u) ∧ w' = w.setCell ⟨nodes[i].tb, l, none⟩ (.int .i64 to) := by
  have hc := h.rowCell
  have hct := h.towerCell i hi l hl
  have hf := h.towerFree i hi l
  obtain ⟨g, cap, rfl, hcap⟩ := h.shape (by omega)
  have hcn : w.cell? ⟨g, i * 6 + 5, none⟩ = some nodes[i].tower := h.nodeCell i hi 5 (by omega)
  have hm := h.len
  unfold maxLen at hm
  clear h
  unfold Nd.tower at hcn
  generalize nodes[i].ht = ht at *
  generalize nodes[i].tb = tb at *
  generalize nodes[i].tc = tc at *
  generalize nodes.length = m at *
  go_enter Tryd.func41, Tryd.ntmps41
  go_wp2_with fail
  go_end0
  exact ⟨⟨_, rfl⟩, rfl⟩
end Go.Proofs.Tryd.Skm
