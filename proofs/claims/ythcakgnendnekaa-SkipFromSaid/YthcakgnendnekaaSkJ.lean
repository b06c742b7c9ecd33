/- awake. -/
import Derived.Test.YthcakgnendnekaaSkI
open Go.RowKit Go.Cph Go.Cph.Skip
set_option linter.unusedVariables false
set_option linter.unusedSimpArgs false
namespace Go.Proofs.Try.SkS

/-- Keys, values, heights, in the row in which the keys came. -/
def its (nodes : List (Nd V)) : List (ByteArray × V × Nat) := nodes.map fun x => (x.key, x.val, x.ht)
def putIt (l : List (ByteArray × V × Nat)) (k : ByteArray) (x : V) (h : Nat) : List (ByteArray × V × Nat) :=
  if l.any (fun e => decide (e.1 = k)) then l.map (fun e => if e.1 = k then (k, x, e.2.2) else e) else l ++ [(k, x, h)]
def hasIt (l : List (ByteArray × V × Nat)) (k : ByteArray) : Bool := l.any fun e => decide (e.1 = k)
theorem IsSet.its {nodes nodes' : List (Nd V)} {key : ByteArray} {x : V} {height : Int} {fresh : Bool} (h : IsSet nodes nodes' key x height fresh)
    (hk : ∀ i j (hi : i < nodes.length) (hj : j < nodes.length), nodes[i].key = nodes[j].key → i = j) : SkS.its nodes' = putIt (SkS.its nodes) key x (clampH height) ∧ fresh = !(hasIt (SkS.its nodes) key) := by
  rcases h.how with ⟨i, hi, he, hf, rfl⟩ | ⟨hno, hf, nd, rfl, e1, e2, e3⟩
  · have hany : (SkS.its nodes).any (fun e => decide (e.1 = key)) = true := by
      rw [List.any_eq_true]
      exact ⟨(nodes[i].key, nodes[i].val, nodes[i].ht), List.mem_map.2 ⟨_, List.getElem_mem hi, rfl⟩, by simpa using he⟩
    refine ⟨?_, by rw [hf, hasIt, hany]; rfl⟩
    unfold putIt
    rw [if_pos hany]
    apply List.ext_getElem (by simp [SkS.its, setVal_length])
    intro j h1 h2
    have hj : j < nodes.length := by simpa [SkS.its, setVal_length] using h1
    simp only [SkS.its, List.getElem_map]
    rw [setVal_at nodes i x j hj]
    by_cases hij : i = j
    · subst hij; simp [he]
    · rw [if_neg hij, if_neg]
      intro e
      exact hij (hk i j hi hj (he.trans e.symm))
  · have hany : (SkS.its nodes).any (fun e => decide (e.1 = key)) = false := by
      rw [List.any_eq_false]
      intro e he
      obtain ⟨y, hy, rfl⟩ := List.mem_map.1 he
      simpa using hno y hy
    refine ⟨?_, by rw [hf, hasIt, hany]; rfl⟩
    unfold putIt
    rw [hany]
    simp [SkS.its, e1, e2, e3]

def kA : ByteArray := ⟨#[97]⟩
def kB : ByteArray := ⟨#[98]⟩
def d1 : ByteArray := ⟨#[49]⟩
def d2 : ByteArray := ⟨#[50]⟩
def d3 : ByteArray := ⟨#[51]⟩
theorem its1 : putIt [] kB d1 (clampH 2) = [(kB, d1, 2)] := by decide +kernel
theorem its2 : putIt [(kB, d1, 2)] kA d2 (clampH 0) = [(kB, d1, 2), (kA, d2, 1)] := by decide +kernel
theorem its3 : putIt [(kB, d1, 2), (kA, d2, 1)] kB d3 (clampH 1) = [(kB, d3, 2), (kA, d2, 1)] := by decide +kernel
theorem hasA1 : hasIt [(kB, d1, 2)] kA = false := by decide +kernel
theorem hasB2 : hasIt [(kB, d1, 2), (kA, d2, 1)] kB = true := by decide +kernel
theorem ltAB : klt kA kB = true := by decide +kernel
theorem two (nodes : List (Nd V)) (h : its nodes = [(kB, d3, 2), (kA, d2, 1)]) : ∃ x y, nodes = [x, y] ∧ x.key = kB ∧ x.val = d3 ∧ x.ht = 2 ∧ y.key = kA ∧ y.val = d2 ∧ y.ht = 1 := by
  match nodes, h with
  | [], h => simp [its] at h
  | [x], h => simp [its] at h
  | [x, y], h => simp [its] at h; exact ⟨x, y, rfl, h.1.1, h.1.2.1, h.1.2.2, h.2.1, h.2.2.1, h.2.2.2⟩
  | _ :: _ :: _ :: _, h => simp [its] at h

theorem afterA {nodes : List (Nd V)} (h : its nodes = [(kB, d3, 2), (kA, d2, 1)]) {n : Nat} {k : ByteArray} {x : V} {ok : Bool} (hn : Nxt nodes 0 (some kA) n) (ht : Tells nodes n k x ok) : k = kB ∧ x = d3 ∧ ok = true := by
  obtain ⟨a, b, rfl, e1, e2, e3, f1, f2, f3⟩ := two nodes h
  rcases hn with ⟨rfl, h0⟩ | ⟨i, hi, rfl, _, h1, _⟩
  · have := h0 a (by simp) (by omega)
    rw [e1] at this
    rw [show above (some kA) kB = true from ltAB] at this
    exact absurd this (by simp)
  · rcases ht with ⟨h, _⟩ | ⟨j, hj, h, rfl, rfl, rfl⟩
    · omega
    · obtain rfl : i = j := by omega
      match i, hi with
      | 0, _ => exact ⟨e1, e2, rfl⟩
      | 1, _ =>
        simp only [List.getElem_cons_succ, List.getElem_cons_zero] at h1
        rw [f1] at h1
        simp [above, klt_irrefl] at h1
theorem rowOne {nodes xs : List (Nd V)} (h : its nodes = [(kB, d3, 2), (kA, d2, 1)]) (hc : Chain nodes 1 (fun _ => true) xs) : xs.length = 1 ∧ keysV xs = [.string kB] := by
  obtain ⟨a, b, rfl, e1, e2, e3, f1, f2, f3⟩ := two nodes h
  have : xs = [a] := by
    refine sorted_ext hc.sorted (by simp) fun y => ⟨fun hy => ?_, fun hy => ?_⟩
    · obtain ⟨h1, h2, _⟩ := hc.mem y hy
      rcases List.mem_cons.1 h1 with h1 | h1
      · simpa using h1
      · obtain rfl := List.mem_singleton.1 h1; omega
    · obtain rfl := List.mem_singleton.1 hy
      exact hc.all y (by simp) (by omega) rfl
  subst this
  exact ⟨rfl, by simp [keysV, e1]⟩

structure AwakePost (w : World) (e : Ending) (w' : World) : Prop where
  res : e = .returned (.bool true)
  bel : Below w.heap.size w w'

set_option maxHeartbeats 1000000 in
theorem awake (w : World) : Calls Try.prog 10 #[] w (AwakePost w) := by
  go_enter Try.func10, Try.ntmps10
  go_wp2_with fail
  refine (cNew w).mono ?_
  rintro e w1 ⟨rfl, hat, hb⟩
  have HA1 := Lib.hid hat
  have HB1 := Lib.hid hb
  have hf1 : ∀ j, foot w.heap.size (.slice none 0 0) ([] : List (Nd V)) j → w.heap.size ≤ j := by
    rintro j (h | h | ⟨y, hy, _⟩)
    · omega
    · simp [Value.ownBlock] at h
    · simp at hy
  have HF1 := Lib.hid hf1
  clear hat hb hf1
  go_wp2_with fail
  refine (cSet kB d1 2 w1 HA1.out linkedNil (by simp)).mono ?_
  rintro e w2 ⟨nx2, nodes2, v2, fr2, rfl, hat, hln, htc, hft, his⟩
  have hi2 := his.its (fun i j hi => absurd hi (by simp))
  rw [show its ([] : List (Nd V)) = [] from rfl, its1] at hi2
  have HI2 := Lib.hid hi2.1
  have hfr : fr2 = true := hi2.2
  subst hfr
  have HA2 := Lib.hid hat
  have HL2 := Lib.hid hln
  have HB2 := Lib.hid (HB1.out.trans (htc.below HB1.out.size HF1.out))
  have HF2 := Lib.hid (show ∀ j, foot w.heap.size v2 nodes2 j → w.heap.size ≤ j from fun j hj => by rcases hft j hj with h | h; exact HF1.out j h; have := HB1.out.size; omega)
  have hlen2 : nodes2.length ≤ 1000000 := by have := congrArg List.length HI2.out; simp [its] at this; omega
  clear hat hln htc hft his hi2
  go_wp2_with fail
  refine (cSet kA d2 0 w2 HA2.out HL2.out hlen2).mono ?_
  rintro e w3 ⟨nx3, nodes3, v3, fr3, rfl, hat, hln, htc, hft, his⟩
  have hi3 := his.its HL2.out.keys
  rw [HI2.out, its2, hasA1] at hi3
  have HI3 := Lib.hid hi3.1
  have hfr : fr3 = true := hi3.2
  subst hfr
  have HA3 := Lib.hid hat
  have HL3 := Lib.hid hln
  have HB3 := Lib.hid (HB2.out.trans (htc.below HB2.out.size HF2.out))
  have HF3 := Lib.hid (show ∀ j, foot w.heap.size v3 nodes3 j → w.heap.size ≤ j from fun j hj => by rcases hft j hj with h | h; exact HF2.out j h; have := HB2.out.size; omega)
  have hlen3 : nodes3.length ≤ 1000000 := by have := congrArg List.length HI3.out; simp [its] at this; omega
  clear hat hln htc hft his hi3
  go_wp2_with fail
  refine (cSet kB d3 1 w3 HA3.out HL3.out hlen3).mono ?_
  rintro e w4 ⟨nx4, nodes4, v4, fr4, rfl, hat, hln, htc, hft, his⟩
  have hi4 := his.its HL3.out.keys
  rw [HI3.out, its3, hasB2] at hi4
  have HI4 := Lib.hid hi4.1
  have hfr : fr4 = false := hi4.2
  subst hfr
  have HA4 := Lib.hid hat
  have HL4 := Lib.hid hln
  have HB4 := Lib.hid (HB3.out.trans (htc.below HB3.out.size HF3.out))
  have hlen4 : nodes4.length = 2 := by have := congrArg List.length HI4.out; simpa [its] using this
  have HN4 := Lib.hid hlen4
  clear hat hln htc hft his hi4 hlen4
  go_wp2_with fail
  refine (cAfter kA w4 HA4.out HL4.out).mono ?_
  rintro e w5 ⟨⟨n, k, x, ok, rfl, hnx, htl⟩, hb⟩
  obtain ⟨rfl, rfl, rfl⟩ := afterA HI4.out hnx htl
  have HA5 := Lib.hid (HA4.out.kept hb)
  have HB5 := Lib.hid (below_step HB4.out hb HB4.out.size)
  clear hb hnx htl
  go_wp2_with fail
  have hrow : Calls Try.prog 21 #[ptr w.heap.size, .int .i64 1] w5 _ := cRow 1 w5 HA5.out HL4.out (by omega) (by rw [HN4.out]; omega)
  refine hrow.mono ?_
  rintro e w6 ⟨u, xs, rfl, hch, _, hown, hb⟩
  obtain ⟨hx1, hx2⟩ := rowOne HI4.out hch
  rw [hx1, hx2] at hown
  obtain ⟨g, cap, rfl, _, _, _, hcell, _⟩ := owns_shape hown (by omega)
  have hcl : w6.cell? ⟨g, 0, none⟩ = some (.string kB) := hcell 0 (by omega)
  have hln6 := cLen w6 (HA5.out.kept hb)
  rw [HN4.out] at hln6
  have HB6 := Lib.hid (below_step HB5.out hb HB5.out.size)
  clear hb hch hown hcell hx1 hx2 hrow
  have q1 : (kB.toList == [98]) = true := by decide +kernel
  have q2 : (d3.toList == [51]) = true := by decide +kernel
  go_wp2_with (go_at_call 20; refine hln6.mono ?_; rintro e w7 ⟨rfl, rfl⟩)
  go_ret
  exact ⟨rfl, HB6.out⟩
end Go.Proofs.Try.SkS
