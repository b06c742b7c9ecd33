/- The laws of rows: RowsReads' walk. -/
import Derived.Test.YtccopljpceolcaaDoorRoW
import Derived.Test.YtccopljpceolcaaDoorMF
set_option linter.unusedVariables false
set_option linter.unusedSimpArgs false
set_option maxRecDepth 100000
namespace Go.Proofs.Tryd.Rows
open Go.RowKit Go.Cph Go.Cph.Ok Go.Proofs.Tryd.Nu Go.Proofs.Tryd.Ok
theorem pair_rn (K : ByteArray) (hK : K.size ≤ 1000000) : ∃ (n : UInt64) (b : Bool), (∀ W, Calls Tryd.prog 44 #[.string K] W (fun e w' => e = .returned (.tuple #[.int .u64 (n.toNat : Int), .bool b]) ∧ Below W.heap.size W w')) ∧ (∀ W, Calls Tryd.prog 48 #[.string K] W (fun e w' => e = .returned (.agg #[.int .i64 0, .string ⟨#[]⟩, .int .u64 0, .int .u64 (n.toNat : Int), .bool b]) ∧ Below W.heap.size W w')) := by
  have h1 := fun W => readNumber K W hK
  have h2 := fun W => rreadNumber K W hK
  cases h : readNumS K with
  | none => rw [h] at h1 h2; exact ⟨0, false, h1, h2⟩
  | some p => rw [h] at h1 h2; exact ⟨p, true, h1, h2⟩
theorem pair_rl (K : ByteArray) (hK : K.size ≤ 1000000) : ∃ (t : ByteArray) (n : UInt64) (b : Bool), (∀ W, Calls Tryd.prog 45 #[.string K] W (fun e w' => e = .returned (.tuple #[.string t, .int .u64 (n.toNat : Int), .bool b]) ∧ Below W.heap.size W w')) ∧ (∀ W, Calls Tryd.prog 49 #[.string K] W (fun e w' => e = .returned (.agg #[.int .i64 0, .string t, .int .u64 0, .int .u64 (n.toNat : Int), .bool b]) ∧ Below W.heap.size W w')) := by
  have h1 := fun W => readLease K W hK
  have h2 := fun W => rreadLease K W hK
  cases h : readLeaseS K with
  | none => rw [h] at h1 h2; exact ⟨⟨#[]⟩, 0, false, h1, h2⟩
  | some p => rw [h] at h1 h2; exact ⟨p.1, p.2, true, h1, h2⟩
theorem pair_re (K : ByteArray) (hK : K.size ≤ 1000000) : ∃ (i : Int) (t : ByteArray) (a u : UInt64) (b : Bool), (∀ W, Calls Tryd.prog 46 #[.string K] W (fun e w' => e = .returned (.tuple #[.int .i64 i, .string t, .int .u64 (a.toNat : Int), .int .u64 (u.toNat : Int), .bool b]) ∧ Below W.heap.size W w')) ∧ (∀ W, Calls Tryd.prog 50 #[.string K] W (fun e w' => e = .returned (.agg #[.int .i64 i, .string t, .int .u64 (a.toNat : Int), .int .u64 (u.toNat : Int), .bool b]) ∧ Below W.heap.size W w')) := by
  have h1 := fun W => readEvent K W hK
  have h2 := fun W => rreadEvent K W hK
  cases h : readEventS K with
  | none => rw [h] at h1 h2; exact ⟨0, ⟨#[]⟩, 0, 0, false, h1, h2⟩
  | some p => rw [h] at h1 h2; exact ⟨(p.1.toNat : Int), p.2.1, p.2.2.1, p.2.2.2, true, h1, h2⟩
theorem pair_rc (K : ByteArray) (hK : K.size ≤ 1000000) : ∃ (n : UInt64) (t : ByteArray) (b : Bool), (∀ W, Calls Tryd.prog 47 #[.string K] W (fun e w' => e = .returned (.tuple #[.int .u64 (n.toNat : Int), .string t, .bool b]) ∧ Below W.heap.size W w')) ∧ (∀ W, Calls Tryd.prog 51 #[.string K] W (fun e w' => e = .returned (.agg #[.int .i64 0, .string t, .int .u64 0, .int .u64 (n.toNat : Int), .bool b]) ∧ Below W.heap.size W w')) := by
  have h1 := fun W => readClient K W hK
  have h2 := fun W => rreadClient K W hK
  cases h : readClientS K with
  | none => rw [h] at h1 h2; exact ⟨0, ⟨#[]⟩, false, h1, h2⟩
  | some p => rw [h] at h1 h2; exact ⟨p.1, p.2, true, h1, h2⟩
theorem run_neqV (i : Int) (t : ByteArray) (a u : Int) (b : Bool) (w : World) : (binOp .neq 78 (.agg #[.int .i64 i, .string t, .int .u64 a, .int .u64 u, .bool b]) (.agg #[.int .i64 i, .string t, .int .u64 a, .int .u64 u, .bool b])).run Tryd.prog w = .ok (.bool false) w := by
  cases b <;> go_simp
theorem run_eqlV (i : Int) (t : ByteArray) (a u : Int) (b : Bool) (w : World) : (binOp .eql 78 (.agg #[.int .i64 i, .string t, .int .u64 a, .int .u64 u, .bool b]) (.agg #[.int .i64 i, .string t, .int .u64 a, .int .u64 u, .bool b])).run Tryd.prog w = .ok (.bool true) w := by
  cases b <;> go_simp
set_option maxHeartbeats 6400000 in
theorem reads_law (s : ByteArray) (m : Int) (w : World) (hm : MaxAt m w) : Calls Tryd.prog 7 #[.string s] w fun e w' => e = .returned (.bool true) ∧ Below w.heap.size w w' := by
  have HM := Lib.hid hm
  have HAW := Lib.hid (fun (W : World) (h : MaxAt m W) => awake_any m W h)
  clear hm
  by_cases hk : (2000 : Int) < (s.size : Int)
  · have hk2 : (2000 : Int) ≤ (s.size : Int) := by omega
    have hx : (s.extract 0 2000).size ≤ 1000000 := by rw [ByteArray.size_extract]; omega
    obtain ⟨n1, b1, h1, h2⟩ := pair_rn (s.extract 0 2000) hx
    obtain ⟨t2, n2, b2, h3, h4⟩ := pair_rl (s.extract 0 2000) hx
    obtain ⟨i3, t3, a3, u3, b3, h5, h6⟩ := pair_re (s.extract 0 2000) hx
    obtain ⟨n4, t4, b4, h7, h8⟩ := pair_rc (s.extract 0 2000) hx
    have H1 := Lib.hid h1
    have H2 := Lib.hid h2
    have H3 := Lib.hid h3
    have H4 := Lib.hid h4
    have H5 := Lib.hid h5
    have H6 := Lib.hid h6
    have H7 := Lib.hid h7
    have H8 := Lib.hid h8
    clear h1 h2 h3 h4 h5 h6 h7 h8
    have q1 : ∀ W, (binOp .neq 78 (.agg #[.int .i64 0, .string ⟨#[]⟩, .int .u64 0, .int .u64 (n1.toNat : Int), .bool b1]) (.agg #[.int .i64 0, .string ⟨#[]⟩, .int .u64 0, .int .u64 (n1.toNat : Int), .bool b1])).run Tryd.prog W = .ok (.bool false) W := run_neqV 0 ⟨#[]⟩ 0 (n1.toNat : Int) b1
    have q2 : ∀ W, (binOp .neq 78 (.agg #[.int .i64 0, .string t2, .int .u64 0, .int .u64 (n2.toNat : Int), .bool b2]) (.agg #[.int .i64 0, .string t2, .int .u64 0, .int .u64 (n2.toNat : Int), .bool b2])).run Tryd.prog W = .ok (.bool false) W := run_neqV 0 t2 0 (n2.toNat : Int) b2
    have q3 : ∀ W, (binOp .eql 78 (.agg #[.int .i64 i3, .string t3, .int .u64 (a3.toNat : Int), .int .u64 (u3.toNat : Int), .bool b3]) (.agg #[.int .i64 i3, .string t3, .int .u64 (a3.toNat : Int), .int .u64 (u3.toNat : Int), .bool b3])).run Tryd.prog W = .ok (.bool true) W := run_eqlV i3 t3 (a3.toNat : Int) (u3.toNat : Int) b3
    have q4 : ∀ W, (binOp .eql 78 (.agg #[.int .i64 0, .string t4, .int .u64 0, .int .u64 (n4.toNat : Int), .bool b4]) (.agg #[.int .i64 0, .string t4, .int .u64 0, .int .u64 (n4.toNat : Int), .bool b4])).run Tryd.prog W = .ok (.bool true) W := run_eqlV 0 t4 0 (n4.toNat : Int) b4
    go_enter Tryd.func7, Tryd.ntmps7
    go_wp2_with fail
    refine (H1.out _).mono ?_
    rintro e w1 ⟨rfl, hb⟩
    have HB := Lib.hid hb
    clear hb
    go_wp2_with fail
    refine (H3.out _).mono ?_
    rintro e w2 ⟨rfl, hb⟩
    replace HB := Lib.hid (below_step HB.out hb HB.out.size)
    clear hb
    go_wp2_with fail
    refine (H5.out _).mono ?_
    rintro e w3 ⟨rfl, hb⟩
    replace HB := Lib.hid (below_step HB.out hb HB.out.size)
    clear hb
    go_wp2_with fail
    refine (H7.out _).mono ?_
    rintro e w4 ⟨rfl, hb⟩
    replace HB := Lib.hid (below_step HB.out hb HB.out.size)
    clear hb
    go_wp2_with fail
    refine (H2.out _).mono ?_
    rintro e w5 ⟨rfl, hb⟩
    replace HB := Lib.hid (below_step HB.out hb HB.out.size)
    clear hb
    go_wp2_with fail
    refine (H4.out _).mono ?_
    rintro e w6 ⟨rfl, hb⟩
    replace HB := Lib.hid (below_step HB.out hb HB.out.size)
    clear hb
    go_wp2_with fail
    refine (H6.out _).mono ?_
    rintro e w7 ⟨rfl, hb⟩
    replace HB := Lib.hid (below_step HB.out hb HB.out.size)
    clear hb
    go_wp2_with fail
    refine (H8.out _).mono ?_
    rintro e w8 ⟨rfl, hb⟩
    replace HB := Lib.hid (below_step HB.out hb HB.out.size)
    clear hb
    go_wp2_with fail
    refine (HAW.out _ (max_kept HM.out HB.out)).mono ?_
    rintro e w9 ⟨rfl, hb⟩
    replace HB := Lib.hid (below_step HB.out hb HB.out.size)
    clear hb
    go_wp2_with fail
    go_ret
    exact ⟨rfl, HB.out⟩
  · have hx : s.size ≤ 1000000 := by omega
    obtain ⟨n1, b1, h1, h2⟩ := pair_rn s hx
    obtain ⟨t2, n2, b2, h3, h4⟩ := pair_rl s hx
    obtain ⟨i3, t3, a3, u3, b3, h5, h6⟩ := pair_re s hx
    obtain ⟨n4, t4, b4, h7, h8⟩ := pair_rc s hx
    have H1 := Lib.hid h1
    have H2 := Lib.hid h2
    have H3 := Lib.hid h3
    have H4 := Lib.hid h4
    have H5 := Lib.hid h5
    have H6 := Lib.hid h6
    have H7 := Lib.hid h7
    have H8 := Lib.hid h8
    clear h1 h2 h3 h4 h5 h6 h7 h8
    have q1 : ∀ W, (binOp .neq 78 (.agg #[.int .i64 0, .string ⟨#[]⟩, .int .u64 0, .int .u64 (n1.toNat : Int), .bool b1]) (.agg #[.int .i64 0, .string ⟨#[]⟩, .int .u64 0, .int .u64 (n1.toNat : Int), .bool b1])).run Tryd.prog W = .ok (.bool false) W := run_neqV 0 ⟨#[]⟩ 0 (n1.toNat : Int) b1
    have q2 : ∀ W, (binOp .neq 78 (.agg #[.int .i64 0, .string t2, .int .u64 0, .int .u64 (n2.toNat : Int), .bool b2]) (.agg #[.int .i64 0, .string t2, .int .u64 0, .int .u64 (n2.toNat : Int), .bool b2])).run Tryd.prog W = .ok (.bool false) W := run_neqV 0 t2 0 (n2.toNat : Int) b2
    have q3 : ∀ W, (binOp .eql 78 (.agg #[.int .i64 i3, .string t3, .int .u64 (a3.toNat : Int), .int .u64 (u3.toNat : Int), .bool b3]) (.agg #[.int .i64 i3, .string t3, .int .u64 (a3.toNat : Int), .int .u64 (u3.toNat : Int), .bool b3])).run Tryd.prog W = .ok (.bool true) W := run_eqlV i3 t3 (a3.toNat : Int) (u3.toNat : Int) b3
    have q4 : ∀ W, (binOp .eql 78 (.agg #[.int .i64 0, .string t4, .int .u64 0, .int .u64 (n4.toNat : Int), .bool b4]) (.agg #[.int .i64 0, .string t4, .int .u64 0, .int .u64 (n4.toNat : Int), .bool b4])).run Tryd.prog W = .ok (.bool true) W := run_eqlV 0 t4 0 (n4.toNat : Int) b4
    go_enter Tryd.func7, Tryd.ntmps7
    go_wp2_with fail
    refine (H1.out _).mono ?_
    rintro e w1 ⟨rfl, hb⟩
    have HB := Lib.hid hb
    clear hb
    go_wp2_with fail
    refine (H3.out _).mono ?_
    rintro e w2 ⟨rfl, hb⟩
    replace HB := Lib.hid (below_step HB.out hb HB.out.size)
    clear hb
    go_wp2_with fail
    refine (H5.out _).mono ?_
    rintro e w3 ⟨rfl, hb⟩
    replace HB := Lib.hid (below_step HB.out hb HB.out.size)
    clear hb
    go_wp2_with fail
    refine (H7.out _).mono ?_
    rintro e w4 ⟨rfl, hb⟩
    replace HB := Lib.hid (below_step HB.out hb HB.out.size)
    clear hb
    go_wp2_with fail
    refine (H2.out _).mono ?_
    rintro e w5 ⟨rfl, hb⟩
    replace HB := Lib.hid (below_step HB.out hb HB.out.size)
    clear hb
    go_wp2_with fail
    refine (H4.out _).mono ?_
    rintro e w6 ⟨rfl, hb⟩
    replace HB := Lib.hid (below_step HB.out hb HB.out.size)
    clear hb
    go_wp2_with fail
    refine (H6.out _).mono ?_
    rintro e w7 ⟨rfl, hb⟩
    replace HB := Lib.hid (below_step HB.out hb HB.out.size)
    clear hb
    go_wp2_with fail
    refine (H8.out _).mono ?_
    rintro e w8 ⟨rfl, hb⟩
    replace HB := Lib.hid (below_step HB.out hb HB.out.size)
    clear hb
    go_wp2_with fail
    refine (HAW.out _ (max_kept HM.out HB.out)).mono ?_
    rintro e w9 ⟨rfl, hb⟩
    replace HB := Lib.hid (below_step HB.out hb HB.out.size)
    clear hb
    go_wp2_with fail
    go_ret
    exact ⟨rfl, HB.out⟩
end Go.Proofs.Tryd.Rows
