/- The laws of okey: Given, plain. -/
import Derived.Test.YtfijbfnhjnbjeaaDoorOk8
set_option linter.unusedVariables false
set_option linter.unusedSimpArgs false
set_option maxRecDepth 100000
namespace Go.Proofs.Tryd.Ok
open Go.RowKit Go.Cph Go.Cph.Ok Go.Proofs.Tryd.Nu
/-- A row of parts that is new. -/
def RowPost (l : List Pt) (w : World) (e : Ending) (w' : World) : Prop := ∃ v, e = .returned v ∧ w'.ownsRow w.heap.size TP 3 v l.length (l.flatMap encC) ∧ Below w.heap.size w w'
set_option maxHeartbeats 6400000 in
theorem given_any (v : Value) (l : List Pt) (w : World) (h : PtsAt w v l) (hl : l.length ≤ 1000000) :
    Calls Tryd.prog 17 #[v] w (RowPost l w) := by
  obtain ⟨ao, cap, rfl⟩ := elems_slice h
  have H := Lib.hid h
  have HL := Lib.hid hl
  clear h hl
  go_enter Tryd.func17, Tryd.ntmps17
  go_wp2_with fail
  go_loopw [3, 4] (fun vo vi W => ∃ i : Nat, i ≤ l.length ∧ vi = .int .i64 i ∧ W.ownsRow w.heap.size TP 3 vo i ((l.take i).flatMap encC) ∧ Below w.heap.size w W) (fun _ vi _ => l.length - (intOf vi).toNat)
  case atStart => exact ⟨0, Nat.zero_le _, rfl, World.ownsRow_nil _ _ _ _, Below.refl _ _⟩
  case round =>
    obtain ⟨i, hi, rfl, ho, hb⟩ := hrel
    have HB := Lib.hid hb
    have HZ := Lib.hid hb.size
    obtain ⟨oo, oc, hov⟩ := owns_slice1 ho
    subst hov
    have HO := Lib.hid ho
    by_cases hlt : i < l.length
    · have HLT := Lib.hid hlt
      obtain ⟨b, off, cap', hve, hcs⟩ := pts_cells H.out (by omega)
      injection hve with hx1 hx2 hx3
      subst hx1
      clear hx2 hx3
      have hcx := (hcs i hlt).kept hb
      obtain ⟨p, hp⟩ : ∃ p, p = l[i]'hlt := ⟨_, rfl⟩
      rw [← hp] at hcx
      have HTK := Lib.hid (show (l.take (i + 1)).flatMap encC = (l.take i).flatMap encC ++ encC (p) from by rw [List.take_succ_eq_append_getElem hlt, ← hp]; simp)
      have HNB := Lib.hid (show i + 1 ≤ 1099511627776 ∧ i ≤ 1099511627000 from by have := HL.out; omega)
      have q1 : (0 : Int) ≤ (i : Int) := by omega
      have q2 : (i : Int) < (l.length : Int) := by omega
      have q4 : IntKind.i64.wrap ((i : Int) + 1) = (i : Int) + 1 := by rw [IntKind.wrap_i64]; have := HL.out; omega
      have HD := Lib.hid (show Below w.heap.size w ((wr.alloc (boxP p)).drew) from (HB.out.alloc HZ.out _).drew)
      have hd := hcx.kept (show Below wr.heap.size wr wr.drew from (Below.refl _ _).drew)
      have hd2 := hcx.kept (show Below wr.heap.size wr ((wr.alloc (boxP p)).drew) from ((Below.refl _ _).alloc (Nat.le_refl _) _).drew)
      have d0 := hd.c0
      have d1 := hd.c1
      have d2 := hd.c2
      have e0 := hd2.c0
      have e1 := hd2.c1
      have e2 := hd2.c2
      have HG := Lib.hid (heap_alloc_new wr (boxP p))
      have HOA := Lib.hid (show ((wr.alloc (boxP p)).drew).ownsRow w.heap.size TP 3 (.slice oo i oc) i ((l.take i).flatMap encC) from (HO.out.alloc _).drew)
      have HSW := Lib.hid (show ∀ W, Below w.heap.size w W → CellsOf W b (off + i * 3) p from fun W hb => by rw [hp]; exact (hcs i hlt).kept hb)
      clear hcs hcx hp hb ho hlt hi hd hd2
      go_wp2_with fail
      go_region_held3 (fun W => W.cell? ⟨b, off + i * 3, none⟩ = some (.bool p.text) ∧ W.cell? ⟨b, off + i * 3 + 1, none⟩ = some (.string p.s) ∧ W.cell? ⟨b, off + i * 3 + 2, none⟩ = some (.int .u64 (p.n.toNat : Int))) (go_keep)
        (((refine step_push (p := p) (base := w.heap.size) (w0 := w) rfl (.tmp 11) (.tmp 28) rfl (by rfl) (by rfl) (heap_alloc_new wr _) HOA.out HD.out HD.out.size HNB.out.2 ?_); intro v6 w6 ho6 hb6 hz6; have HO6 := Lib.hid ho6; have HB6 := Lib.hid hb6; have HK6 := Lib.hid (show CellsOf w6 b (off + i * 3) p from HSW.out w6 HB6.out); have f0 := HK6.out.c0; have f1 := HK6.out.c1; have f2 := HK6.out.c2; clear ho6 hb6 hz6))
      all_goals
        go_wp2_with fail
        go_roundw
        case rel => exact ⟨i + 1, HLT.out, by go_num, by rw [HTK.out]; exact HO6.out, HB6.out⟩
        case measure => have := HLT.out; simp [intOf]; omega
    · have HE := Lib.hid (show l.take i = l from List.take_of_length_le (by omega))
      have hil : i = l.length := by omega
      rw [HE.out] at HO
      have HI := Lib.hid hil
      have q2 : ¬ (i : Int) < (l.length : Int) := by omega
      clear ho hb hlt hi hil
      go_wp2_with fail
      go_ret
      exact ⟨_, rfl, by rw [← HI.out]; exact HO.out, HB.out⟩
set_option maxHeartbeats 6400000 in
theorem plain_any (v : Value) (l : List Pt) (w : World) (h : PtsAt w v l) (hl : l.length ≤ 1000000) :
    Calls Tryd.prog 21 #[v] w (RowPost (l.map plainP) w) := by
  obtain ⟨ao, cap, rfl⟩ := elems_slice h
  have H := Lib.hid h
  have HL := Lib.hid hl
  clear h hl
  go_enter Tryd.func21, Tryd.ntmps21
  go_wp2_with fail
  go_loopw [3, 4] (fun vo vi W => ∃ i : Nat, i ≤ l.length ∧ vi = .int .i64 i ∧ W.ownsRow w.heap.size TP 3 vo i (((l.take i).map plainP).flatMap encC) ∧ Below w.heap.size w W) (fun _ vi _ => l.length - (intOf vi).toNat)
  case atStart => exact ⟨0, Nat.zero_le _, rfl, World.ownsRow_nil _ _ _ _, Below.refl _ _⟩
  case round =>
    obtain ⟨i, hi, rfl, ho, hb⟩ := hrel
    have HB := Lib.hid hb
    have HZ := Lib.hid hb.size
    obtain ⟨oo, oc, hov⟩ := owns_slice1 ho
    subst hov
    have HO := Lib.hid ho
    by_cases hlt : i < l.length
    · have HLT := Lib.hid hlt
      obtain ⟨b, off, cap', hve, hcs⟩ := pts_cells H.out (by omega)
      injection hve with hx1 hx2 hx3
      subst hx1
      clear hx2 hx3
      have hcx := (hcs i hlt).kept hb
      obtain ⟨p, hp⟩ : ∃ p, p = l[i]'hlt := ⟨_, rfl⟩
      rw [← hp] at hcx
      have HTK := Lib.hid (show ((l.take (i + 1)).map plainP).flatMap encC = ((l.take i).map plainP).flatMap encC ++ encC (plainP p) from by rw [List.take_succ_eq_append_getElem hlt, ← hp]; simp)
      have HNB := Lib.hid (show i + 1 ≤ 1099511627776 ∧ i ≤ 1099511627000 from by have := HL.out; omega)
      have q1 : (0 : Int) ≤ (i : Int) := by omega
      have q2 : (i : Int) < (l.length : Int) := by omega
      have q4 : IntKind.i64.wrap ((i : Int) + 1) = (i : Int) + 1 := by rw [IntKind.wrap_i64]; have := HL.out; omega
      obtain ⟨tx, s, n⟩ := p
      have d0 := hcx.c0
      have d1 := hcx.c1
      have d2 := hcx.c2
      clear hcs hcx hp hb ho hlt hi
      cases tx
      · go_wp2_with (at_builtin; refine wpList_append1 rfl (.tmp 25) (.tmp 32) TPs rfl w.heap.size TP _ 3 32 Tryd.underlying26 infoP rfl (by decide) _ i (((l.take i).map plainP).flatMap encC) (encC (plainP ⟨false, s, n⟩)) rfl HO.out _ 1 rfl rfl rfl (encC_one1 _) HNB.out.1 (by decide) HZ.out w.heap.size w HB.out (Nat.le_refl _) ?_; intro v6 w6 ho6 hg6 hb6 hs6; have HO6 := Lib.hid ho6; have HB6 := Lib.hid hb6; clear ho6 hg6 hb6 hs6)
        go_roundw
        case rel => exact ⟨i + 1, HLT.out, by go_num, by rw [HTK.out]; exact HO6.out, HB6.out⟩
        case measure => have := HLT.out; simp [intOf]; omega
      · go_wp2_with (at_builtin; refine wpList_append1 rfl (.tmp 16) (.tmp 23) TPs rfl w.heap.size TP _ 3 32 Tryd.underlying26 infoP rfl (by decide) _ i (((l.take i).map plainP).flatMap encC) (encC (plainP ⟨true, s, n⟩)) rfl HO.out _ 1 rfl rfl rfl (encC_one1 _) HNB.out.1 (by decide) HZ.out w.heap.size w HB.out (Nat.le_refl _) ?_; intro v6 w6 ho6 hg6 hb6 hs6; have HO6 := Lib.hid ho6; have HB6 := Lib.hid hb6; clear ho6 hg6 hb6 hs6)
        go_roundw
        case rel => exact ⟨i + 1, HLT.out, by go_num, by rw [HTK.out]; exact HO6.out, HB6.out⟩
        case measure => have := HLT.out; simp [intOf]; omega
    · have HE := Lib.hid (show l.take i = l from List.take_of_length_le (by omega))
      have hil : i = l.length := by omega
      rw [HE.out] at HO
      have HI := Lib.hid hil
      have q2 : ¬ (i : Int) < (l.length : Int) := by omega
      clear ho hb hlt hi hil
      go_wp2_with fail
      go_ret
      exact ⟨_, rfl, by rw [List.length_map, ← HI.out]; exact HO.out, HB.out⟩
end Go.Proofs.Tryd.Ok
