/- The laws of okey: Great, begins; == of parts. -/
import Derived.Test.YtfijbfnhjnbjeaaDoorOk6
import Derived.Test.YtfijbfnhjnbjeaaDoorOk3
set_option linter.unusedVariables false
set_option linter.unusedSimpArgs false
set_option maxRecDepth 100000
namespace Go.Proofs.Tryd.Ok
open Go.RowKit Go.Cph Go.Cph.Ok Go.Proofs.Tryd.Nu
def eqP (p q : Pt) : Bool := (p.text == q.text) && ((p.s.toList == q.s.toList) && ((p.n.toNat : Int) == (q.n.toNat : Int)))
theorem eqP_iff {p q : Pt} : eqP p q = true ↔ p = q := by
  obtain ⟨a, b, c⟩ := p
  obtain ⟨d, e, f⟩ := q
  unfold eqP
  simp only [Bool.and_eq_true, beq_iff_eq]
  constructor
  · rintro ⟨rfl, h2, h3⟩
    have h4 : b = e := list_eq (by rw [← ByteArray.toList_eq, ← ByteArray.toList_eq, h2])
    have h5 : c = f := UInt64.toNat_inj.1 (by omega)
    rw [h4, h5]
  · intro h; injection h with h1 h2 h3; subst h1 h2 h3; exact ⟨rfl, rfl, rfl⟩
theorem eqP_refl (p : Pt) : eqP p p = true := eqP_iff.2 rfl
theorem run_neqP (p q : Pt) (w : World) : (binOp .neq 33 (encP p) (encP q)).run Tryd.prog w = .ok (.bool (!(eqP p q))) w := by
  obtain ⟨a, b, c⟩ := p
  obtain ⟨d, e, f⟩ := q
  unfold eqP
  cases a <;> cases d <;> cases b1 : (b.toList == e.toList) <;> cases b2 : ((c.toNat : Int) == (f.toNat : Int)) <;> go_simp
theorem run_eqlP (p q : Pt) (w : World) : (binOp .eql 33 (encP p) (encP q)).run Tryd.prog w = .ok (.bool (eqP p q)) w := by
  obtain ⟨a, b, c⟩ := p
  obtain ⟨d, e, f⟩ := q
  unfold eqP
  cases a <;> cases d <;> cases b1 : (b.toList == e.toList) <;> cases b2 : ((c.toNat : Int) == (f.toNat : Int)) <;> go_simp
def tot (l : List Pt) : Nat := (l.map fun p => p.s.size).sum
theorem tot_take (l : List Pt) {i : Nat} (h : i < l.length) : tot (l.take (i + 1)) = tot (l.take i) + l[i].s.size := by
  unfold tot
  rw [List.take_succ_eq_append_getElem h, List.map_append, List.sum_append]; simp
/-- Lists that statements go through. -/
structure Small (l : List Pt) : Prop where
  num : l.length ≤ 60
  all : tot l ≤ 5000
theorem Small.key {l : List Pt} (h : Small l) : (key l).length ≤ 12000 := by
  have hk : ∀ l : List Pt, (Cph.Ok.key l).length ≤ 2 * tot l + 13 * l.length := by
    intro l
    induction l with
    | nil => exact Nat.le_refl _
    | cons p l ih =>
      have h1 : (Cph.Ok.bytes p).length ≤ 2 * p.s.size + 13 := by
        unfold Cph.Ok.bytes
        have h2 := (esc_len p.s.data.toList).2
        have h3 := row_le p.n.toNat_lt
        rw [← Go.Lib.size_eq] at h2
        split
        · simp; omega
        · simp; omega
      rw [key_cons, List.length_append]
      have : tot (p :: l) = p.s.size + tot l := by unfold tot; simp
      rw [this, List.length_cons]
      omega
  have h1 := hk l
  have h2 := h.num
  have h3 := h.all
  omega
def GreatPost (l : List Pt) (w : World) (e : Ending) (w' : World) : Prop := ∃ r : Bool, e = .returned (.bool r) ∧ (r = false → Small l) ∧ w' = w
set_option maxHeartbeats 3200000 in
theorem great_any (v : Value) (l : List Pt) (w : World) (h : PtsAt w v l) (hl : l.length ≤ 9223372036854775807) :
    Calls Tryd.prog 9 #[v] w (GreatPost l w) := by
  obtain ⟨ao, cap, rfl⟩ := elems_slice h
  have H := Lib.hid h
  clear h
  by_cases hg : 60 < l.length
  · have k1 : (60 : Int) < (l.length : Int) := by omega
    clear hg
    go_enter Tryd.func9, Tryd.ntmps9
    go_wp2_with fail
    go_ret
    exact ⟨true, rfl, (fun h => by cases h), rfl⟩
  · have k1 : (l.length : Int) ≤ 60 := by omega
    have HL := Lib.hid (show l.length ≤ 60 by omega)
    clear hg hl
    go_enter Tryd.func9, Tryd.ntmps9
    go_wp2_with fail
    go_loopw [3, 4] (fun vn vi W => ∃ (i n : Nat), i ≤ l.length ∧ vi = .int .i64 i ∧ vn = .int .i64 n ∧ n = tot (l.take i) ∧ n ≤ 5000 * i ∧ W = w) (fun _ vi _ => l.length - (intOf vi).toNat)
    case atStart => exact ⟨0, 0, Nat.zero_le _, rfl, rfl, rfl, Nat.zero_le _, rfl⟩
    case round =>
      obtain ⟨i, n, hi, rfl, rfl, hn, hnb, rfl⟩ := hrel
      by_cases hlt : i < l.length
      · have HLT := Lib.hid hlt
        obtain ⟨b, off, cap', hve, hcs⟩ := pts_cells H.out (by omega)
        injection hve with hx1 hx2 hx3
        subst hx1
        clear hx2 hx3
        have hcx := hcs i hlt
        obtain ⟨p, hp⟩ : ∃ p, p = l[i]'hlt := ⟨_, rfl⟩
        rw [← hp] at hcx
        have d1 := hcx.c1
        have HT := Lib.hid (show tot (l.take (i + 1)) = n + p.s.size from by rw [hn, hp]; exact tot_take l hlt)
        have HNB := Lib.hid hnb
        have q1 : (0 : Int) ≤ (i : Int) := by omega
        have q2 : (i : Int) < (l.length : Int) := by omega
        have q3 : (n : Int) ≤ 300000 := by have := HL.out; omega
        have q4 : IntKind.i64.wrap ((i : Int) + 1) = (i : Int) + 1 := by rw [IntKind.wrap_i64]; have := HL.out; omega
        clear hcs hcx hp hn hnb hlt hi
        by_cases hb : 5000 < p.s.size
        · have q5 : (5000 : Int) < (p.s.size : Int) := by omega
          clear hb
          go_wp2_with fail
          go_ret
          exact ⟨true, rfl, (fun h => by cases h), rfl⟩
        · have q5 : ¬ (5000 : Int) < (p.s.size : Int) := by omega
          have HB := Lib.hid hb
          have q6 : (p.s.size : Int) ≤ 5000 := by omega
          have q7 : IntKind.i64.wrap ((n : Int) + (p.s.size : Int)) = ((n + p.s.size : Nat) : Int) := by rw [IntKind.wrap_i64]; omega
          clear hb
          go_wp2_with fail
          go_roundw
          case rel => exact ⟨i + 1, n + p.s.size, HLT.out, by go_num, by go_num, HT.out.symm, by have := HNB.out; have := HB.out; omega, by first | rfl | trivial⟩
          case measure => have := HLT.out; simp [intOf]; omega
      · have HE := Lib.hid (show l.take i = l from List.take_of_length_le (by omega))
        rw [HE.out] at hn
        have hil : i = l.length := by omega
        have q2 : ¬ (i : Int) < (l.length : Int) := by omega
        by_cases hb : 5000 < n
        · have q5 : (5000 : Int) < (n : Int) := by omega
          clear hb hn hil hlt hi hnb
          go_wp2_with fail
          go_ret
          exact ⟨true, rfl, (fun h => by cases h), rfl⟩
        · have HSM := Lib.hid (show Small l from ⟨HL.out, by rw [← hn]; omega⟩)
          have q5 : ¬ (5000 : Int) < (n : Int) := by omega
          clear hb hn hil hlt hi hnb
          go_wp2_with fail
          go_ret
          exact ⟨false, rfl, fun _ => HSM.out, rfl⟩
end Go.Proofs.Tryd.Ok
