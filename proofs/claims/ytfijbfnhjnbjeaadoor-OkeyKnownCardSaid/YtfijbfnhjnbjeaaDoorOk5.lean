/- okey's Num, Str, Parts. -/
import Derived.Test.YtfijbfnhjnbjeaaDoorOk4
import Derived.Test.YtfijbfnhjnbjeaaDoorCop3
import Derived.Deep.RegionHeld3
set_option linter.unusedVariables false
set_option linter.unusedSimpArgs false
set_option maxRecDepth 100000
namespace Go.Proofs.Tryd.Ok
open Go.RowKit Go.Cph Go.Cph.Ok Go.Proofs.Tryd.Nu
set_option maxHeartbeats 800000 in
theorem num_any (n : UInt64) (w : World) : Calls Tryd.prog 14 #[.int .u64 (n.toNat : Int)] w fun e w' => e = .returned (encP ⟨false, ⟨#[]⟩, n⟩) ∧ Below w.heap.size w w' := by
  have hc := box_cells (heap_alloc_new w (boxP ⟨false, ⟨#[]⟩, n⟩))
  have c0 := hc.c0
  have c1 := hc.c1
  have c2 := hc.c2
  have HB := Lib.hid (show Below w.heap.size w (w.alloc (boxP ⟨false, ⟨#[]⟩, n⟩)) from (Below.refl _ _).alloc (Nat.le_refl _) _)
  clear hc
  go_enter Tryd.func14, Tryd.ntmps14
  go_wp2_with fail
  exact bodyPost_ret (v := encP ⟨false, ⟨#[]⟩, n⟩) (by simp [results, Tryd.results14, go_sem, c0, c1, c2]) rfl ⟨rfl, HB.out⟩
set_option maxHeartbeats 800000 in
theorem str_any (s : ByteArray) (w : World) : Calls Tryd.prog 15 #[.string s] w fun e w' => e = .returned (encP ⟨true, s, 0⟩) ∧ Below w.heap.size w w' := by
  have hc := box_cells (heap_alloc_new w (boxP ⟨true, s, 0⟩))
  have c0 := hc.c0
  have c1 := hc.c1
  have c2 := hc.c2
  have HB := Lib.hid (show Below w.heap.size w (w.alloc (boxP ⟨true, s, 0⟩)) from (Below.refl _ _).alloc (Nat.le_refl _) _)
  clear hc
  go_enter Tryd.func15, Tryd.ntmps15
  go_wp2_with fail
  exact bodyPost_ret (v := encP ⟨true, s, 0⟩) (by simp [results, Tryd.results15, go_sem, c0, c1, c2]) rfl ⟨rfl, HB.out⟩
theorem cut_any (s p : ByteArray) (w : World) : Calls Tryd.prog 25 #[.string s, .string p] w fun e w' => e = .returned (.tuple #[.string (ofBs (Lib.trimPrefix s.data.toList p.data.toList)), .bool (Lib.hasPrefix s.data.toList p.data.toList)]) ∧ w' = w :=
  Tryd.strings_CutPrefix s p w
theorem cut_hit {d : UInt8} {t : Bs} : Lib.hasPrefix (d :: t) [d] = true ∧ Lib.trimPrefix (d :: t) [d] = t := by
  have h : Lib.hasPrefix (d :: t) [d] = true := by unfold Lib.hasPrefix; simp
  exact ⟨h, by unfold Lib.trimPrefix; rw [if_pos h]; rfl⟩
theorem cut_miss {c d : UInt8} {t : Bs} (h : d ≠ c) : Lib.hasPrefix (d :: t) [c] = false := by
  unfold Lib.hasPrefix
  rw [Bool.eq_false_iff, Ne, List.isPrefixOf_iff_prefix, List.cons_prefix_cons]
  exact fun e => h e.1.symm
/-- What Parts hands back. -/
def PartsPost (o : Option (List Pt)) (w : World) (e : Ending) (w' : World) : Prop :=
  (match o with
  | none => e = .returned (.tuple #[.slice none 0 0, .bool false])
  | some l => ∃ v, e = .returned (.tuple #[v, .bool true]) ∧ w'.ownsRow w.heap.size TP 3 v l.length (l.flatMap encC)) ∧ Below w.heap.size w w'
theorem step_push {ops : Array Oper} {o : Oper} {a : Act} {W w0 : World} {K : Act → World → Prop} {Q : Exit → Act → World → Prop} {E : Prop} {v : Value} {n : Nat} {xs : List Value} {p : Pt} {base : Nat}
    (hg : o.guard = none) (d x : Operand) (hop : o.op = Op.call { callee := Callee.builtin Builtin.append, args := #[d, x], argTypes := #[TPs, TPs] }) {b : Nat} {fr : Nat × Nat} {T : TypeId}
    (hd : a.eval d = v) (hx : a.eval x = .slice (some ⟨b, 0, none⟩) 1 1) (hb : W.heap[b]? = some (.cells #[.bool p.text, .string p.s, .int .u64 (p.n.toNat : Int)] T fr)) (ho : W.ownsRow base TP 3 v n xs) (HB : Below base w0 W) (hbase : base ≤ W.heap.size) (hn : n ≤ 1099511627000)
    (hK : ∀ v' W', W'.ownsRow base TP 3 v' (n + 1) (xs ++ encC p) → Below base w0 W' → base ≤ W'.heap.size → K (a.put o.dst v') W') :
    if Region.wanted o (yielded ops a.tmps) = true then Oper.wp Tryd.prog o a W K Q else E := by
  have hs : Seg W 3 (.slice (some ⟨b, 0, none⟩) 1 1) 1 (encC p) := ⟨⟨_, _, rfl, fun _ => ⟨b, 0, rfl, fun j hj => by rw [Nat.zero_add, blk_cell hb]; simp⟩⟩, rfl⟩
  obtain ⟨v', W', hr, ho', hgr, -⟩ := run_append_seg (P := Tryd.prog) W TPs o.type TP _ 3 32 Tryd.underlying26 infoP rfl (by decide) ho hs (encC_one1 p) (by omega) (by decide) hbase
  exact step_append hg d x TPs TPs hop _ _ hd hx hr (hK v' W' ho' (below_grown HB hgr ho (Nat.le_refl _) hbase) (Nat.le_trans hbase hgr.size))
end Go.Proofs.Tryd.Ok
