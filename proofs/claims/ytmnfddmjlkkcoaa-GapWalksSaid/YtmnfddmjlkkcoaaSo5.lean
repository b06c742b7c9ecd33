/- Stable sorting, plainly: two blocks change places; blocks turned round. No program in sight. -/
import Derived.Test.YtmnfddmjlkkcoaaSo4
set_option linter.unusedVariables false
set_option linter.unusedSimpArgs false
namespace Go.Cph.So
section
variable {α : Type}
/-- Two blocks of one length, of which the first t have changed places. -/
def exA (p u m v q : List α) (t : Nat) : List α := p ++ ((v.take t ++ u.drop t) ++ (m ++ ((u.take t ++ v.drop t) ++ q)))
theorem exA_start (p u m v q : List α) : exA p u m v q 0 = p ++ (u ++ (m ++ (v ++ q))) := by simp [exA]
theorem exA_end (p u m v q : List α) {t : Nat} (hu : u.length ≤ t) (hv : v.length ≤ t) : exA p u m v q t = p ++ (v ++ (m ++ (u ++ q))) := by
  unfold exA
  rw [List.take_of_length_le hu, List.take_of_length_le hv, List.drop_of_length_le hu, List.drop_of_length_le hv, List.append_nil, List.append_nil]
theorem half_len {u v : List α} (h : u.length = v.length) (t : Nat) : (v.take t ++ u.drop t).length = u.length := by simp; omega
theorem half_at {u v : List α} (h : u.length = v.length) {t : Nat} (ht : t < u.length) : (v.take t ++ u.drop t)[t]? = some u[t] := by
  rw [List.getElem?_append_right (by simp; omega), List.length_take, Nat.min_eq_left (by omega), Nat.sub_self, List.drop_eq_getElem_cons ht]
  rfl
theorem half_set {u v : List α} (h : u.length = v.length) {t : Nat} (ht : t < u.length) : (v.take t ++ u.drop t).set t (v[t]'(by omega)) = v.take (t + 1) ++ u.drop (t + 1) := by
  rw [List.set_append_right _ _ (by simp; omega), List.length_take, Nat.min_eq_left (by omega), Nat.sub_self, List.drop_eq_getElem_cons ht, List.set_cons_zero, List.take_succ_eq_append_getElem (by omega), List.append_assoc]
  rfl
theorem exA_at1 (p u m v q : List α) (h : u.length = v.length) {t : Nat} (ht : t < u.length) : (exA p u m v q t)[p.length + t]? = some u[t] := by
  unfold exA
  rw [get_mid _ _ _ t (by rw [half_len h]; exact ht), ← half_at h ht]
  exact (List.getElem?_eq_getElem _).symm
theorem exA_at2 (p u m v q : List α) (h : u.length = v.length) {t : Nat} (ht : t < u.length) : (exA p u m v q t)[p.length + u.length + m.length + t]? = some (v[t]'(by omega)) := by
  unfold exA
  have e : p ++ ((v.take t ++ u.drop t) ++ (m ++ ((u.take t ++ v.drop t) ++ q))) = (p ++ ((v.take t ++ u.drop t) ++ m)) ++ ((u.take t ++ v.drop t) ++ q) := by simp
  have hl : (p ++ ((v.take t ++ u.drop t) ++ m)).length = p.length + u.length + m.length := by
    rw [List.length_append, List.length_append, half_len h]; omega
  rw [e, ← hl, get_mid _ _ _ t (by rw [half_len h.symm]; omega), ← half_at h.symm (by omega)]
  exact (List.getElem?_eq_getElem _).symm
theorem exA_step (p u m v q : List α) (h : u.length = v.length) {t : Nat} (ht : t < u.length) :
    ((exA p u m v q t).set (p.length + t) (v[t]'(by omega))).set (p.length + u.length + m.length + t) u[t] = exA p u m v q (t + 1) := by
  unfold exA
  rw [set_mid _ _ _ t (by rw [half_len h]; exact ht), half_set h ht]
  have e : p ++ ((v.take (t + 1) ++ u.drop (t + 1)) ++ (m ++ ((u.take t ++ v.drop t) ++ q))) = (p ++ ((v.take (t + 1) ++ u.drop (t + 1)) ++ m)) ++ ((u.take t ++ v.drop t) ++ q) := by simp
  have hl : (p ++ ((v.take (t + 1) ++ u.drop (t + 1)) ++ m)).length = p.length + u.length + m.length := by
    rw [List.length_append, List.length_append, half_len h]; omega
  rw [e, ← hl, set_mid _ _ _ t (by rw [half_len h.symm]; omega), half_set h.symm (by omega)]
  simp
/-- What is left to turn: the blocks U and V between p and q. -/
structure Rot (d g : List α) (m i j : Nat) : Prop where
  out : ∃ p U V q, d = p ++ (U ++ (V ++ q)) ∧ g = p ++ (V ++ (U ++ q)) ∧ U.length = i ∧ V.length = j ∧ p.length + U.length = m
end
end Go.Cph.So
