/- The document's rows: the clock's and clients' keys (turned from Ro7). -/
import Derived.Test.YtccopljpceolcaaDoorRoE
set_option linter.unusedVariables false
set_option linter.unusedSimpArgs false
set_option maxRecDepth 100000
namespace Go.Proofs.Tryd.Rows
open Go.RowKit Go.Cph Go.Cph.Ok Go.Proofs.Tryd.Nu Go.Proofs.Tryd.Ok
theorem rpts_one (w : World) (p : Pt) : PtsAt (w.alloc (boxR p)) (.slice (some ⟨w.heap.size, 0, none⟩) 1 1) [p] := by
  have h := box_cells (heap_alloc_new w (boxR p))
  refine ⟨⟨_, _, rfl, fun _ => ⟨w.heap.size, 0, rfl, fun j hj => ?_⟩⟩, rfl⟩
  have h3 : j = 0 ∨ j = 1 ∨ j = 2 := by simp at hj; omega
  rcases h3 with rfl | rfl | rfl
  · exact h.c0
  · exact h.c1
  · exact h.c2
theorem rpts_two (w : World) (p q : Pt) : PtsAt (w.alloc (.cells #[.bool p.text, .string p.s, .int .u64 (p.n.toNat : Int), .bool q.text, .string q.s, .int .u64 (q.n.toNat : Int)] 88 (0, 0))) (.slice (some ⟨w.heap.size, 0, none⟩) 2 2) [p, q] :=
  ⟨⟨_, _, rfl, fun _ => ⟨w.heap.size, 0, rfl, fun j hj => by
    rw [Nat.zero_add, blk_cell (heap_alloc_new w _)]
    have hj6 : j < 6 := by simpa using hj
    rcases (show j = 0 ∨ j = 1 ∨ j = 2 ∨ j = 3 ∨ j = 4 ∨ j = 5 by omega) with rfl | rfl | rfl | rfl | rfl | rfl <;> rfl⟩⟩, rfl⟩
set_option maxHeartbeats 800000 in
theorem rclock (w : World) : Calls Tryd.prog 22 #[] w fun e w' => e = .returned (.string clockK) ∧ Below w.heap.size w w' := by
  have HN := Lib.hid (fun (W : World) => show Calls Tryd.prog 59 #[.int .u64 1] W (fun e w' => e = .returned (.agg #[.bool false, .string ⟨#[]⟩, .int .u64 1]) ∧ Below W.heap.size W w') from rnum 1 W)
  have HK := Lib.hid (fun (W : World) => show Calls Tryd.prog 58 #[.slice (some ⟨W.heap.size, 0, none⟩) 1 1] (W.alloc (.cells #[.bool false, .string ⟨#[]⟩, .int .u64 1] 88)) (fun e w' => e = .returned (.string clockK) ∧ _) from rkey_any _ [numP 1] _ (rpts_one W (numP 1)) (by simp) (by have := nums_len [1]; simp at this; omega))
  go_enter Tryd.func22, Tryd.ntmps22
  go_wp2_with fail
  refine (HN.out _).mono ?_
  rintro e w1 ⟨rfl, hb⟩
  have HB := Lib.hid hb
  have HB1 := Lib.hid (show Below w.heap.size w (w1.alloc (boxR (numP 1))) from hb.alloc hb.size _)
  clear hb
  go_wp2_with fail
  refine (HK.out _).mono ?_
  rintro e w2 ⟨rfl, hb⟩
  have HB2 := Lib.hid (below_step HB1.out hb HB1.out.size)
  clear hb
  go_wp2_with fail
  go_ret
  exact ⟨rfl, HB2.out⟩
set_option maxHeartbeats 800000 in
theorem rclient (c : UInt8) (w : World) : Calls Tryd.prog 20 #[.int .u8 (c.toNat : Int)] w fun e w' => e = .returned (.string (clientK c)) ∧ Below w.heap.size w w' := by
  have HN := Lib.hid (fun (W : World) => show Calls Tryd.prog 59 #[.int .u64 7] W (fun e w' => e = .returned (.agg #[.bool false, .string ⟨#[]⟩, .int .u64 7]) ∧ Below W.heap.size W w') from rnum 7 W)
  have HN2 := Lib.hid (fun (W : World) => show Calls Tryd.prog 59 #[.int .u64 (c.toNat : Int)] W (fun e w' => e = .returned (.agg #[.bool false, .string ⟨#[]⟩, .int .u64 (c.toNat : Int)]) ∧ Below W.heap.size W w') from by rw [← fam64 c]; exact rnum c.toUInt64 W)
  have HK := Lib.hid (fun (W : World) => show Calls Tryd.prog 58 #[.slice (some ⟨W.heap.size, 0, none⟩) 2 2] (W.alloc (.cells #[.bool false, .string ⟨#[]⟩, .int .u64 7, .bool false, .string ⟨#[]⟩, .int .u64 (c.toNat : Int)] 88)) (fun e w' => e = .returned (.string (clientK c)) ∧ _) from rkey_any _ [numP 7, numP c.toUInt64] _ (rpts_two W (numP 7) (numP c.toUInt64)) (by simp) (by have := nums_len [7, c.toUInt64]; simp at this; omega))
  go_enter Tryd.func20, Tryd.ntmps20
  go_wp2_with fail
  refine (HN.out _).mono ?_
  rintro e w1 ⟨rfl, hb⟩
  have HB := Lib.hid hb
  clear hb
  go_wp2_with fail
  refine (HN2.out _).mono ?_
  rintro e w2 ⟨rfl, hb⟩
  replace HB := Lib.hid (below_step HB.out hb HB.out.size)
  have HB1 := Lib.hid (show Below w.heap.size w (w2.alloc (.cells #[.bool false, .string ⟨#[]⟩, .int .u64 7, .bool false, .string ⟨#[]⟩, .int .u64 (c.toNat : Int)] 88)) from HB.out.alloc HB.out.size _)
  clear hb
  go_wp2_with fail
  refine (HK.out _).mono ?_
  rintro e w3 ⟨rfl, hb⟩
  have HB2 := Lib.hid (below_step HB1.out hb HB1.out.size)
  clear hb
  go_wp2_with fail
  go_ret
  exact ⟨rfl, HB2.out⟩
end Go.Proofs.Tryd.Rows
