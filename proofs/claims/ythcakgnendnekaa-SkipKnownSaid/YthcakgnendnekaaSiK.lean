/- SkipKnown: plain facts on the chapter's list. -/
import Derived.Test.YthcakgnendnekaaSiT
import Derived.Test.YthcakgnendnekaaSkJ
open Go.RowKit Go.Cph Go.Cph.Skip
set_option linter.unusedVariables false
set_option linter.unusedSimpArgs false
namespace Go.Proofs.Try.SkI

def kA : ByteArray := ⟨#[97]⟩
def kB : ByteArray := ⟨#[98]⟩
def kC : ByteArray := ⟨#[99]⟩
def kD : ByteArray := ⟨#[100]⟩
def kAB : ByteArray := ⟨#[97, 98]⟩
theorem i1 : putIt [] kB 1 (clampH 2) = [(kB, 1, 2)] := by decide +kernel
theorem i2 : putIt [(kB, 1, 2)] kA 2 (clampH 0) = [(kB, 1, 2), (kA, 2, 1)] := by decide +kernel
theorem i3 : putIt [(kB, 1, 2), (kA, 2, 1)] kC 3 (clampH 99) = [(kB, 1, 2), (kA, 2, 1), (kC, 3, 12)] := by decide +kernel
theorem i4 : putIt [(kB, 1, 2), (kA, 2, 1), (kC, 3, 12)] kB 4 (clampH 7) = [(kB, 4, 2), (kA, 2, 1), (kC, 3, 12)] := by decide +kernel
theorem h2 : hasIt [(kB, 1, 2)] kA = false := by decide +kernel
theorem h3 : hasIt [(kB, 1, 2), (kA, 2, 1)] kC = false := by decide +kernel
theorem h4 : hasIt [(kB, 1, 2), (kA, 2, 1), (kC, 3, 12)] kB = true := by decide +kernel
/-- The chapter's list. -/
def Three (nodes : List (Nd V)) : Prop := its nodes = [(kB, 4, 2), (kA, 2, 1), (kC, 3, 12)]
theorem Three.nodes {nodes : List (Nd V)} (h : Three nodes) : ∃ x y z, nodes = [x, y, z] ∧ (x.key = kB ∧ x.val = 4 ∧ x.ht = 2) ∧ (y.key = kA ∧ y.val = 2 ∧ y.ht = 1) ∧ (z.key = kC ∧ z.val = 3 ∧ z.ht = 12) := by
  unfold Three at h
  match nodes, h with
  | [], h => simp [its] at h
  | [x], h => simp [its] at h
  | [x, y], h => simp [its] at h
  | [x, y, z], h => simp [its] at h; exact ⟨x, y, z, rfl, ⟨h.1.1, h.1.2.1, h.1.2.2⟩, ⟨h.2.1.1, h.2.1.2.1, h.2.1.2.2⟩, ⟨h.2.2.1, h.2.2.2.1, h.2.2.2.2⟩⟩
  | _ :: _ :: _ :: _ :: _, h => simp [its] at h
theorem ltAB : klt kA kB = true := by decide +kernel
theorem ltBC : klt kB kC = true := by decide +kernel
theorem ltAC : klt kA kC = true := by decide +kernel
theorem rows3 {nodes xs : List (Nd V)} {l : Nat} (h : Three nodes) (hc : Chain nodes l (fun _ => true) xs) :
    ∃ x y z, nodes = [x, y, z] ∧ xs = ([y, x, z] : List (Nd V)).filter (fun n => decide (l < n.ht)) ∧ (x.key = kB ∧ x.val = 4 ∧ x.ht = 2) ∧ (y.key = kA ∧ y.val = 2 ∧ y.ht = 1) ∧ (z.key = kC ∧ z.val = 3 ∧ z.ht = 12) := by
  obtain ⟨x, y, z, rfl, hx, hy, hz⟩ := h.nodes
  refine ⟨x, y, z, rfl, ?_, hx, hy, hz⟩
  refine sorted_ext hc.sorted ?_ fun n => ?_
  · refine List.Pairwise.filter _ ?_
    simp [hx.1, hy.1, hz.1, ltAB, ltBC, ltAC]
  · rw [List.mem_filter]
    constructor
    · intro hn
      obtain ⟨a, b, _⟩ := hc.mem n hn
      refine ⟨?_, by simpa using b⟩
      simp only [List.mem_cons, List.not_mem_nil, or_false] at a ⊢
      rcases a with a | a | a
      · exact .inr (.inl a)
      · exact .inl a
      · exact .inr (.inr a)
    · rintro ⟨a, b⟩
      refine hc.all n ?_ (by simpa using b) rfl
      simp only [List.mem_cons, List.not_mem_nil, or_false] at a ⊢
      rcases a with a | a | a
      · exact .inr (.inl a)
      · exact .inl a
      · exact .inr (.inr a)

theorem getB {nodes : List (Nd V)} (h : Three nodes) {n : Nat} {k : ByteArray} {x : V} {ok : Bool} (h1 : Has nodes kB n) (t : Tells nodes n k x ok) : x = 4 ∧ ok = true := by
  obtain ⟨a, b, c, rfl, ha, hb, hc⟩ := h.nodes
  rcases h1 with ⟨_, h1⟩ | ⟨i, hi, rfl, h1⟩
  · exact absurd ha.1 (h1 a (by simp))
  · rcases t with ⟨e, _⟩ | ⟨j, hj, e, _, rfl, rfl⟩
    · omega
    · obtain rfl : i = j := by omega
      match i, hi with
      | 0, _ => exact ⟨ha.2.1, rfl⟩
      | 1, _ => exact absurd (h1.symm.trans hb.1) (by decide +kernel)
      | 2, _ => exact absurd (h1.symm.trans hc.1) (by decide +kernel)
theorem getD {nodes : List (Nd V)} (h : Three nodes) {n : Nat} {k : ByteArray} {x : V} {ok : Bool} (h1 : Has nodes kD n) (t : Tells nodes n k x ok) : ok = false := by
  obtain ⟨a, b, c, rfl, ha, hb, hc⟩ := h.nodes
  rcases t with ⟨_, _, _, e⟩ | ⟨i, hi, rfl, _, _, _⟩
  · exact e
  · rcases h1 with ⟨e, _⟩ | ⟨j, hj, e, h1⟩
    · omega
    · obtain rfl : i = j := by omega
      match i, hi with
      | 0, _ => exact absurd (h1.symm.trans ha.1) (by decide +kernel)
      | 1, _ => exact absurd (h1.symm.trans hb.1) (by decide +kernel)
      | 2, _ => exact absurd (h1.symm.trans hc.1) (by decide +kernel)

theorem seekAB {nodes : List (Nd V)} (h : Three nodes) {n : Nat} {k : ByteArray} {x : V} {ok : Bool} (h1 : Seek nodes kAB n) (t : Tells nodes n k x ok) : k = kB ∧ x = 4 ∧ ok = true := by
  obtain ⟨a, b, c, rfl, ha, hb, hc⟩ := h.nodes
  rcases h1 with ⟨_, h1⟩ | ⟨i, hi, rfl, h1, h2⟩
  · have := h1 a (by simp); rw [ha.1] at this; exact absurd this (by decide +kernel)
  · rcases t with ⟨e, _⟩ | ⟨j, hj, e, rfl, rfl, rfl⟩
    · omega
    · obtain rfl : i = j := by omega
      match i, hi with
      | 0, _ => exact ⟨ha.1, ha.2.1, rfl⟩
      | 1, _ => exact absurd (show klt b.key kAB = false from h1) (by rw [hb.1]; decide +kernel)
      | 2, _ =>
        have := h2 a (by simp) (by rw [ha.1]; decide +kernel)
        exact absurd (show klt a.key c.key = false from this) (by rw [ha.1, hc.1]; decide +kernel)
theorem seekD {nodes : List (Nd V)} (h : Three nodes) {n : Nat} {k : ByteArray} {x : V} {ok : Bool} (h1 : Seek nodes kD n) (t : Tells nodes n k x ok) : ok = false := by
  obtain ⟨a, b, c, rfl, ha, hb, hc⟩ := h.nodes
  rcases t with ⟨_, _, _, e⟩ | ⟨i, hi, rfl, _, _, _⟩
  · exact e
  · rcases h1 with ⟨e, _⟩ | ⟨j, hj, e, h1, _⟩
    · omega
    · obtain rfl : i = j := by omega
      match i, hi with
      | 0, _ => exact absurd (show klt a.key kD = false from h1) (by rw [ha.1]; decide +kernel)
      | 1, _ => exact absurd (show klt b.key kD = false from h1) (by rw [hb.1]; decide +kernel)
      | 2, _ => exact absurd (show klt c.key kD = false from h1) (by rw [hc.1]; decide +kernel)
theorem afterB {nodes : List (Nd V)} (h : Three nodes) {n : Nat} {k : ByteArray} {x : V} {ok : Bool} (h1 : Nxt nodes 0 (some kB) n) (t : Tells nodes n k x ok) : k = kC ∧ x = 3 ∧ ok = true := by
  obtain ⟨a, b, c, rfl, ha, hb, hc⟩ := h.nodes
  rcases h1 with ⟨_, h1⟩ | ⟨i, hi, rfl, _, h1, h2⟩
  · have := h1 c (by simp) (by omega); rw [hc.1] at this; exact absurd this (by decide +kernel)
  · rcases t with ⟨e, _⟩ | ⟨j, hj, e, rfl, rfl, rfl⟩
    · omega
    · obtain rfl : i = j := by omega
      match i, hi with
      | 0, _ => exact absurd (show above (some kB) a.key = true from h1) (by rw [ha.1]; decide +kernel)
      | 1, _ => exact absurd (show above (some kB) b.key = true from h1) (by rw [hb.1]; decide +kernel)
      | 2, _ => exact ⟨hc.1, hc.2.1, rfl⟩
theorem towers3 {nodes xs : List (Nd V)} (h : Three nodes) (hc : Chain nodes 0 (fun _ => true) xs) : xs.length = 3 ∧ htsV xs = [.int .i64 1, .int .i64 2, .int .i64 12] := by
  obtain ⟨x, y, z, rfl, rfl, hx, hy, hz⟩ := rows3 h hc
  simp [htsV, hx.2.2, hy.2.2, hz.2.2]
theorem row1 {nodes xs : List (Nd V)} (h : Three nodes) (hc : Chain nodes 1 (fun _ => true) xs) : xs.length = 2 ∧ keysV xs = [.string kB, .string kC] := by
  obtain ⟨x, y, z, rfl, rfl, hx, hy, hz⟩ := rows3 h hc
  simp [keysV, hx.2.2, hy.2.2, hz.2.2, hx.1, hz.1]
theorem row2 {nodes xs : List (Nd V)} (h : Three nodes) (hc : Chain nodes 2 (fun _ => true) xs) : xs.length = 1 ∧ keysV xs = [.string kC] := by
  obtain ⟨x, y, z, rfl, rfl, hx, hy, hz⟩ := rows3 h hc
  simp [keysV, hx.2.2, hy.2.2, hz.2.2, hz.1]
theorem row0 {nodes xs : List (Nd V)} (h : Three nodes) (hc : Chain nodes 0 (fun _ => true) xs) : xs.length = 3 := by
  obtain ⟨x, y, z, rfl, rfl, hx, hy, hz⟩ := rows3 h hc
  simp [hx.2.2, hy.2.2, hz.2.2]
theorem row11 {nodes xs : List (Nd V)} (h : Three nodes) (hc : Chain nodes 11 (fun _ => true) xs) : xs.length = 1 := by
  obtain ⟨x, y, z, rfl, rfl, hx, hy, hz⟩ := rows3 h hc
  simp [hx.2.2, hy.2.2, hz.2.2]
end Go.Proofs.Try.SkI
