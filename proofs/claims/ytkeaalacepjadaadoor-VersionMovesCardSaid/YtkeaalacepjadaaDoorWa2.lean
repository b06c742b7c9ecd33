/- The range of some tables. -/
import Derived.Test.YtkeaalacepjadaaDoorVD
import Derived.Test.YtkeaalacepjadaaDoorWa1
import Derived.Test.YtkeaalacepjadaaDoorVu1
set_option linter.unusedVariables false
set_option linter.unusedSimpArgs false
set_option maxRecDepth 100000
namespace Go.Proofs.Tryd.Vr
open Go.RowKit Go.Cph Go.Cph.Skip Go.Cph.So Go.Cph.Ve

theorem run_minS (ts : Array TypeId) (t : TypeId) (a b : ByteArray) (w : World) : (Builtin.min_ ts t #[.string a, .string b]).run Tryd.prog w = .ok (.string (if klt b a then b else a)) w := by
  rcases klt_three a b with ⟨h1, h2, h3⟩ | ⟨h1, h2, h3⟩ | ⟨h1, h2, h3⟩
  · rw [h2]
    unfold klt at h1
    simp [Builtin.min_, Builtin.min2, Op.stringOp, h1, h3, go_sem, asBool]
  · rw [h2]
    unfold klt at h1
    simp [Builtin.min_, Builtin.min2, Op.stringOp, h1, h3, go_sem, asBool]
  · rw [h2]
    unfold klt at h1
    simp [Builtin.min_, Builtin.min2, Op.stringOp, h1, h3, go_sem, asBool]
theorem run_maxS (ts : Array TypeId) (t : TypeId) (a b : ByteArray) (w : World) : (Builtin.max_ ts t #[.string a, .string b]).run Tryd.prog w = .ok (.string (if klt a b then b else a)) w := by
  rcases klt_three b a with ⟨h1, h2, h3⟩ | ⟨h1, h2, h3⟩ | ⟨h1, h2, h3⟩
  · rw [h2]
    unfold klt at h1 h2
    simp [Builtin.max_, Builtin.max2, Op.stringOp, h1, h2, h3, go_sem, asBool]
  · rw [h2]
    unfold klt at h1 h2
    simp [Builtin.max_, Builtin.max2, Op.stringOp, h1, h2, h3, go_sem, asBool]
  · rw [h2]
    unfold klt at h1 h2
    simp [Builtin.max_, Builtin.max2, Op.stringOp, h1, h2, h3, go_sem, asBool]
def SpanPost (l : List Tb) (w : World) (e : Ending) (w' : World) : Prop := e = .returned (.tuple #[.string (fstF l), .string (lstL l)]) ∧ Below w.heap.size w w'

set_option maxHeartbeats 8000000 in
theorem span_any (v : Value) (l : List Tb) (w : World) (h : TbsAt w v l) (h0 : 0 < l.length) (hn : l.length ≤ 1000000) : Calls Tryd.prog 31 #[v] w (SpanPost l w) := by
  obtain ⟨b, off, cap, hv, hcs⟩ := tbs_cells h h0
  subst hv
  have HT := Lib.hid h
  have HN := Lib.hid hn
  have H0 := Lib.hid h0
  have HCS := Lib.hid hcs
  obtain ⟨x0, hx0⟩ : ∃ x, x = l[0]'(H0.out) := ⟨_, rfl⟩
  have HX0 := Lib.hid hx0
  have hc0 := hcs 0 h0
  rw [← hx0] at hc0
  simp only [Nat.zero_mul, Nat.add_zero] at hc0
  obtain ⟨n, hnn⟩ : ∃ n, n = l.length := ⟨_, rfl⟩
  have HNN := Lib.hid hnn
  have d4 := hc0.c4
  have d5 := hc0.c5
  have k0 : (0 : Int) < (n : Int) := by omega
  have k1 : 0 < n := by omega
  rw [← hnn]
  clear h h0 hn hcs hx0 hc0 hnn
  go_enter Tryd.func31, Tryd.ntmps31
  go_wp2_with fail
  go_quiet (fail)
  clear d4 d5 k0 k1
  have HB0 := Lib.hid (drewN_below w nq)
  generalize w.drewN nq = w1 at *
  go_wp2_with fail
  go_loopw [2, 3, 16] (fun v2 v3 vi W => ∃ (i : Nat) (f g : ByteArray), i ≤ n ∧ vi = .int .i64 (i : Int) ∧ v2 = .string f ∧ v3 = .string g ∧ Hid (f = lowF (l.take i) (tF x0) ∧ g = topL (l.take i) (tL x0)) ∧ Hid (Below w.heap.size w W)) (fun _ _ vi _ => n - (intOf vi).toNat)
  case atStart => exact ⟨0, _, _, Nat.zero_le _, rfl, rfl, rfl, Lib.hid ⟨rfl, rfl⟩, HB0⟩
  case round =>
    obtain ⟨i, f, g, hi, rfl, rfl, rfl, HFG, HB⟩ := hrel
    by_cases hlt : i < n
    · have HLT := Lib.hid (show i < l.length from by have := HNN.out; omega)
      have HLN := Lib.hid hlt
      obtain ⟨x, hx⟩ : ∃ x, x = l[i]'(HLT.out) := ⟨_, rfl⟩
      have HX := Lib.hid hx
      have hcx := (HCS.out i HLT.out).kept HB.out
      rw [← hx] at hcx
      have d0 := hcx.c0
      have d1 := hcx.c1
      have d2 := hcx.c2
      have d3 := hcx.c3
      have d4 := hcx.c4
      have d5 := hcx.c5
      have d6 := hcx.c6
      have d7 := hcx.c7
      have hbc := box_cells (heap_alloc_new wr (boxT x))
      have e0 := hbc.c0
      have e1 := hbc.c1
      have e2 := hbc.c2
      have e3 := hbc.c3
      have e4 := hbc.c4
      have e5 := hbc.c5
      have e6 := hbc.c6
      have e7 := hbc.c7
      have j1 : (0 : Int) ≤ (i : Int) := by omega
      have j2 : (i : Int) < (n : Int) := by omega
      have j4 : IntKind.i64.wrap ((i : Int) + 1) = (i : Int) + 1 := by have := HN.out; have := HNN.out; rw [IntKind.wrap_i64]; omega
      obtain ⟨f2, hf2⟩ : ∃ f2, f2 = (if klt (tF x) f then tF x else f) := ⟨_, rfl⟩
      obtain ⟨g2, hg2⟩ : ∃ g2, g2 = (if klt g (tL x) then tL x else g) := ⟨_, rfl⟩
      have r1 : ∀ (W : World) (ts : Array TypeId) (t : TypeId), (Builtin.min_ ts t #[.string f, .string x.2.2.2.2.1]).run Tryd.prog W = .ok (.string f2) W := fun W ts t => by rw [hf2]; exact run_minS ts t _ _ W
      have r2 : ∀ (W : World) (ts : Array TypeId) (t : TypeId), (Builtin.max_ ts t #[.string g, .string x.2.2.2.2.2.1]).run Tryd.prog W = .ok (.string g2) W := fun W ts t => by rw [hg2]; exact run_maxS ts t _ _ W
      have HFG2 := Lib.hid (show f2 = lowF (l.take (i + 1)) (tF x0) ∧ g2 = topL (l.take (i + 1)) (tL x0) from by
        rw [lowF_next HLT.out, topL_next HLT.out, ← HFG.out.1, ← HFG.out.2, ← HX.out, hf2, hg2]
        exact ⟨rfl, rfl⟩)
      have HBA := Lib.hid (HB.out.alloc HB.out.size (boxT x))
      clear hx hcx hbc hf2 hg2 hlt
      go_wp2_with fail
      go_quiet (fail)
      have HB2 := Lib.hid (below_step HBA.out (drewN_below _ nq) HBA.out.size)
      clear r1 r2 d0 d1 d2 d3 d4 d5 d6 d7 e0 e1 e2 e3 e4 e5 e6 e7
      generalize (wr.alloc (boxT x)).drewN nq = w2 at *
      go_wp2_with fail
      go_roundw
      case rel => exact ⟨i + 1, f2, g2, HLN.out, by first | rfl | (congr 1), rfl, rfl, HFG2, HB2⟩
      case measure => simp [intOf]; have := HLN.out; omega
    · have hil : n = i := by omega
      subst hil
      have i1 : ¬ (n : Int) < (n : Int) := by omega
      have HF := Lib.hid (show f = fstF l ∧ g = lstL l from by
        obtain ⟨h1, h2⟩ := HFG.out
        rw [List.take_of_length_le (by have := HNN.out; omega)] at h1 h2
        rw [h1, h2, HX0.out]
        exact ⟨fst_all H0.out, lst_all H0.out⟩)
      clear hlt
      go_wp2_with fail
      go_ret2
      exact ⟨show Ending.returned (.tuple #[.string f, .string g]) = .returned (.tuple #[.string (fstF l), .string (lstL l)]) from by rw [← HF.out.1, ← HF.out.2], HB.out⟩
end Go.Proofs.Tryd.Vr
