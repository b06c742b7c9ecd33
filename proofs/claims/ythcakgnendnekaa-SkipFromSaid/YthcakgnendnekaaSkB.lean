/- A skip list's small functions: next, link, told. -/
import Derived.Test.YthcakgnendnekaaSkA
import Derived.Test.YthcakgnendnekaaProg
import Derived.BigRegion
import Derived.OwnWalk
import Derived.WalkSmall
import Derived.IntWalk
open Go.RowKit Go.Cph Go.Cph.Skip
set_option linter.unusedVariables false
set_option linter.unusedSimpArgs false
namespace Go.Proofs.Try.SkS

abbrev V := ByteArray
abbrev encV : V → Value := Value.string
abbrev zeroV : V := ByteArray.empty
abbrev TL : TypeId := 63
abbrev TN : TypeId := 70
abbrev IsAt (w : World) (p : Nat) (nx : Nat → Nat → Nat) (nodes : List (Nd V)) (v : Value) : Prop := At TL TN 3 encV w p nx nodes v
abbrev ptr (p : Nat) : Value := .pointer (some ⟨p, 0, none⟩)

theorem next0 {p : Nat} {nx : Nat → Nat → Nat} {nodes : List (Nd V)} {v : Value} (l : Nat) (w : World) (h : IsAt w p nx nodes v) (hl : l < 12) :
    Calls Try.prog 35 #[ptr p, .int .i64 0, .int .i64 l] w fun e w' => e = .returned (.int .i64 (nx 0 l)) ∧ w = w' := by
  have hc := h.headCell l hl
  clear h
  go_enter Try.func35, Try.ntmps35
  go_wp2_with fail
  go_ret
  exact ⟨rfl, rfl⟩

theorem next1 {p : Nat} {nx : Nat → Nat → Nat} {nodes : List (Nd V)} {v : Value} (i l : Nat) (w : World) (h : IsAt w p nx nodes v) (hi : i < nodes.length) (hl : l < nodes[i].ht) :
    Calls Try.prog 35 #[ptr p, .int .i64 (i + 1 : Nat), .int .i64 l] w fun e w' => e = .returned (.int .i64 (nx (i + 1) l)) ∧ w = w' := by
  have hc := h.rowCell
  have hct := h.towerCell i hi l hl
  obtain ⟨g, cap, rfl, hcap⟩ := h.shape (by omega)
  have hcn := (h.nodeCell i hi).2.2
  have hm := h.len
  unfold maxLen at hm
  clear h
  unfold Nd.tower at hcn
  generalize nodes[i].ht = ht at *
  generalize nodes[i].tb = tb at *
  generalize nodes[i].tc = tc at *
  generalize nodes.length = m at *
  go_enter Try.func35, Try.ntmps35
  go_wp2_with fail
  go_ret
  exact ⟨rfl, rfl⟩

theorem told0 {p : Nat} (w : World) :
    Calls Try.prog 33 #[ptr p, .int .i64 0] w fun e w' => e = .returned (.tuple #[.string ByteArray.empty, encV zeroV, .bool false]) ∧ w = w' := by
  go_enter Try.func33, Try.ntmps33
  go_wp2_with fail
  go_ret3
  exact ⟨rfl, rfl⟩

theorem toldNil (w : World) :
    Calls Try.prog 33 #[.pointer none, .int .i64 0] w fun e w' => e = .returned (.tuple #[.string ByteArray.empty, encV zeroV, .bool false]) ∧ w = w' := by
  go_enter Try.func33, Try.ntmps33
  go_wp2_with fail
  go_ret3
  exact ⟨rfl, rfl⟩

theorem told1 {p : Nat} {nx : Nat → Nat → Nat} {nodes : List (Nd V)} {v : Value} (i : Nat) (w : World) (h : IsAt w p nx nodes v) (hi : i < nodes.length) :
    Calls Try.prog 33 #[ptr p, .int .i64 (i + 1 : Nat)] w fun e w' => e = .returned (.tuple #[.string nodes[i].key, encV nodes[i].val, .bool true]) ∧ Below w.heap.size w w' := by
  have hc := h.rowCell
  obtain ⟨g, cap, rfl, hcap⟩ := h.shape (by omega)
  have hk := (h.nodeCell i hi).1
  have hv := (h.nodeCell i hi).2.1
  have hm := h.len
  unfold maxLen at hm
  clear h
  generalize nodes[i].key = key at *
  generalize nodes[i].val = val at *
  generalize nodes.length = m at *
  have e1 : IntKind.i64.wrap ((i : Int) + 1 - 1) = i := by rw [IntKind.wrap_i64]; omega
  have e2 : wrap64 (i : Int) = i := by unfold wrap64; omega
  go_enter Try.func33, Try.ntmps33
  go_wp2_with fail
  go_quiet (fail)
  go_wp2_with fail
  go_ret3
  exact ⟨rfl, below_drewN (Below.refl _ _) _⟩

theorem link0 {p : Nat} {nx : Nat → Nat → Nat} {nodes : List (Nd V)} {v : Value} (l to : Nat) (w : World) (h : IsAt w p nx nodes v) (hl : l < 12) :
    Calls Try.prog 38 #[ptr p, .int .i64 0, .int .i64 l, .int .i64 to] w fun e w' => (∃ u, e = .returned u) ∧ w' = w.setCell ⟨p, l, none⟩ (.int .i64 to) := by
  have hc := h.headCell l hl
  have hf := h.free l
  clear h
  go_enter Try.func38, Try.ntmps38
  go_wp2_with fail
  refine bodyPost_ret (results_none rfl _ _ _) rfl ?_
  exact ⟨⟨_, rfl⟩, rfl⟩

theorem link1 {p : Nat} {nx : Nat → Nat → Nat} {nodes : List (Nd V)} {v : Value} (i l to : Nat) (w : World) (h : IsAt w p nx nodes v) (hi : i < nodes.length) (hl : l < nodes[i].ht) :
    Calls Try.prog 38 #[ptr p, .int .i64 (i + 1 : Nat), .int .i64 l, .int .i64 to] w fun e w' => (∃ u, e = .returned u) ∧ w' = w.setCell ⟨nodes[i].tb, l, none⟩ (.int .i64 to) := by
  have hc := h.rowCell
  have hct := h.towerCell i hi l hl
  have hf := h.towerFree i hi l
  obtain ⟨g, cap, rfl, hcap⟩ := h.shape (by omega)
  have hcn := (h.nodeCell i hi).2.2
  have hm := h.len
  unfold maxLen at hm
  clear h
  unfold Nd.tower at hcn
  generalize nodes[i].ht = ht at *
  generalize nodes[i].tb = tb at *
  generalize nodes[i].tc = tc at *
  generalize nodes.length = m at *
  go_enter Try.func38, Try.ntmps38
  go_wp2_with fail
  go_end0
  exact ⟨⟨_, rfl⟩, rfl⟩
end Go.Proofs.Try.SkS
