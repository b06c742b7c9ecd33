/- The laws of rows: RowsOf's walk. -/
import Derived.Test.YtccopljpceolcaaDoorRoL
import Derived.Test.YtccopljpceolcaaDoorRoQ
set_option linter.unusedVariables false
set_option linter.unusedSimpArgs false
set_option maxRecDepth 100000
namespace Go.Proofs.Tryd.Rows
open Go.RowKit Go.Cph Go.Cph.Ok Go.Proofs.Tryd.Nu Go.Proofs.Tryd.Ok
open Go.Cph.Px (Ad Pf rightA bytesA rightP fromB fromOk)
open Go.Proofs.Tryd.Pfx (encA bcell BsAt)
theorem pair_pool (K : ByteArray) (hK : K.size ≤ 1000000) : ∃ (p : Pf) (b : Bool), (∀ W, Calls Tryd.prog 30 #[.string K] W (fun e w' => e = .returned (.tuple #[.agg #[.int .u8 (p.1.1.toNat : Int), .int .u64 (p.1.2.1.toNat : Int), .int .u64 (p.1.2.2.toNat : Int), .int .i64 p.2], .bool b]) ∧ Below W.heap.size W w')) ∧ (∀ W, Calls Tryd.prog 31 #[.int .u64 2, .string K] W (fun e w' => e = .returned (.tuple #[.agg #[.int .u8 (p.1.1.toNat : Int), .int .u64 (p.1.2.1.toNat : Int), .int .u64 (p.1.2.2.toNat : Int), .int .i64 p.2], .bool b]) ∧ Below W.heap.size W w')) := by
  have h1 := fun W => poolOf K W hK
  have h2 := fun W => rprefixOf 2 K W hK
  cases h : prefixK 2 K with
  | none => rw [h] at h1 h2; exact ⟨((0, 0, 0), 0), false, h1, h2⟩
  | some p => rw [h] at h1 h2; exact ⟨p, true, h1, h2⟩
theorem pair_hold (K : ByteArray) (hK : K.size ≤ 1000000) : ∃ (p : Pf) (b : Bool), (∀ W, Calls Tryd.prog 32 #[.string K] W (fun e w' => e = .returned (.tuple #[.agg #[.int .u8 (p.1.1.toNat : Int), .int .u64 (p.1.2.1.toNat : Int), .int .u64 (p.1.2.2.toNat : Int), .int .i64 p.2], .bool b]) ∧ Below W.heap.size W w')) ∧ (∀ W, Calls Tryd.prog 31 #[.int .u64 3, .string K] W (fun e w' => e = .returned (.tuple #[.agg #[.int .u8 (p.1.1.toNat : Int), .int .u64 (p.1.2.1.toNat : Int), .int .u64 (p.1.2.2.toNat : Int), .int .i64 p.2], .bool b]) ∧ Below W.heap.size W w')) := by
  have h1 := fun W => holdOf K W hK
  have h2 := fun W => rprefixOf 3 K W hK
  cases h : prefixK 3 K with
  | none => rw [h] at h1 h2; exact ⟨((0, 0, 0), 0), false, h1, h2⟩
  | some p => rw [h] at h1 h2; exact ⟨p, true, h1, h2⟩
theorem pair_lse (K : ByteArray) (hK : K.size ≤ 1000000) : ∃ (a : Ad) (b : Bool), (∀ W, Calls Tryd.prog 33 #[.string K] W (fun e w' => e = .returned (.tuple #[.agg #[.int .u8 (a.1.toNat : Int), .int .u64 (a.2.1.toNat : Int), .int .u64 (a.2.2.toNat : Int)], .bool b]) ∧ Below W.heap.size W w')) ∧ (∀ W, Calls Tryd.prog 34 #[.int .u64 4, .string K] W (fun e w' => e = .returned (.tuple #[.agg #[.int .u8 (a.1.toNat : Int), .int .u64 (a.2.1.toNat : Int), .int .u64 (a.2.2.toNat : Int)], .bool b]) ∧ Below W.heap.size W w')) := by
  have h1 := fun W => leaseOf K W hK
  have h2 := fun W => raddrOf 4 K W hK
  cases h : ofK 4 0 K with
  | none => rw [h] at h1 h2; exact ⟨(0, 0, 0), false, h1, h2⟩
  | some p => rw [h] at h1 h2; exact ⟨p.1, true, h1, h2⟩
theorem pair_cnt (K : ByteArray) (hK : K.size ≤ 1000000) : ∃ (a : Ad) (b : Bool), (∀ W, Calls Tryd.prog 35 #[.string K] W (fun e w' => e = .returned (.tuple #[.agg #[.int .u8 (a.1.toNat : Int), .int .u64 (a.2.1.toNat : Int), .int .u64 (a.2.2.toNat : Int)], .bool b]) ∧ Below W.heap.size W w')) ∧ (∀ W, Calls Tryd.prog 34 #[.int .u64 5, .string K] W (fun e w' => e = .returned (.tuple #[.agg #[.int .u8 (a.1.toNat : Int), .int .u64 (a.2.1.toNat : Int), .int .u64 (a.2.2.toNat : Int)], .bool b]) ∧ Below W.heap.size W w')) := by
  have h1 := fun W => countOf K W hK
  have h2 := fun W => raddrOf 5 K W hK
  cases h : ofK 5 0 K with
  | none => rw [h] at h1 h2; exact ⟨(0, 0, 0), false, h1, h2⟩
  | some p => rw [h] at h1 h2; exact ⟨p.1, true, h1, h2⟩
theorem pair_evt (K : ByteArray) (hK : K.size ≤ 1000000) : ∃ (a : Ad) (n : UInt64) (b : Bool), (∀ W, Calls Tryd.prog 36 #[.string K] W (fun e w' => e = .returned (.tuple #[.agg #[.int .u8 (a.1.toNat : Int), .int .u64 (a.2.1.toNat : Int), .int .u64 (a.2.2.toNat : Int)], .int .u64 (n.toNat : Int), .bool b]) ∧ Below W.heap.size W w')) ∧ (∀ W, Calls Tryd.prog 37 #[.string K] W (fun e w' => e = .returned (.tuple #[.agg #[.int .u8 (a.1.toNat : Int), .int .u64 (a.2.1.toNat : Int), .int .u64 (a.2.2.toNat : Int)], .int .u64 (n.toNat : Int), .bool b]) ∧ Below W.heap.size W w')) := by
  have h1 := fun W => eventOf K W hK
  have h2 := fun W => reventOf K W hK
  cases h : ofK 6 1 K with
  | none => rw [h] at h1 h2; exact ⟨(0, 0, 0), 0, false, h1, h2⟩
  | some p => rw [h] at h1 h2; exact ⟨p.1, p.2, true, h1, h2⟩
theorem pair_cli (K : ByteArray) (hK : K.size ≤ 1000000) : ∃ (c : UInt8) (b : Bool), (∀ W, Calls Tryd.prog 38 #[.string K] W (fun e w' => e = .returned (.tuple #[.int .u8 (c.toNat : Int), .bool b]) ∧ Below W.heap.size W w')) ∧ (∀ W, Calls Tryd.prog 39 #[.string K] W (fun e w' => e = .returned (.tuple #[.int .u8 (c.toNat : Int), .bool b]) ∧ Below W.heap.size W w')) := by
  have h1 := fun W => clientOf K W hK
  have h2 := fun W => rclientOf K W
  cases h : clientO K with
  | none => rw [h] at h1 h2; exact ⟨0, false, h1, h2⟩
  | some p => rw [h] at h1 h2; exact ⟨p, true, h1, h2⟩
theorem run_neqRA (p : Ad) (w : World) : (binOp .neq 27 (encA p) (encA p)).run Tryd.prog w = .ok (.bool false) w := by
  go_simp
theorem run_eqlRA (p : Ad) (w : World) : (binOp .eql 27 (encA p) (encA p)).run Tryd.prog w = .ok (.bool true) w := by
  go_simp
theorem run_neqRP (p : Pf) (w : World) : (binOp .neq 29 (Pfx.encP p) (Pfx.encP p)).run Tryd.prog w = .ok (.bool false) w := by
  go_simp
set_option maxHeartbeats 12800000 in
theorem of_law (k : ByteArray) (m : Int) (w : World) (hm : MaxAt m w) : Calls Tryd.prog 5 #[.string k] w fun e w' => e = .returned (.bool true) ∧ Below w.heap.size w w' := by
  have HM := Lib.hid hm
  have HAW := Lib.hid (fun (W : World) (h : MaxAt m W) => awake_any m W h)
  clear hm
  by_cases hk : (500 : Int) < (k.size : Int)
  · have hk2 : (500 : Int) ≤ (k.size : Int) := by omega
    have hx : (k.extract 0 500).size ≤ 1000000 := by rw [ByteArray.size_extract]; omega
    obtain ⟨⟨⟨p2f, p2h, p2l⟩, p2n⟩, b2, h1, h2⟩ := pair_pool (k.extract 0 500) hx
    obtain ⟨⟨⟨p3f, p3h, p3l⟩, p3n⟩, b3, h3, h4⟩ := pair_hold (k.extract 0 500) hx
    obtain ⟨⟨a4f, a4h, a4l⟩, b4, h5, h6⟩ := pair_lse (k.extract 0 500) hx
    obtain ⟨⟨a5f, a5h, a5l⟩, b5, h7, h8⟩ := pair_cnt (k.extract 0 500) hx
    obtain ⟨⟨a6f, a6h, a6l⟩, n6, b6, h9, h10⟩ := pair_evt (k.extract 0 500) hx
    obtain ⟨c7, b7, h11, h12⟩ := pair_cli (k.extract 0 500) hx
    have H1 := Lib.hid h1
    have H2 := Lib.hid h2
    have H3 := Lib.hid h3
    have H4 := Lib.hid h4
    have H5 := Lib.hid h5
    have H6 := Lib.hid h6
    have H7 := Lib.hid h7
    have H8 := Lib.hid h8
    have H9 := Lib.hid h9
    have H10 := Lib.hid h10
    have H11 := Lib.hid h11
    have H12 := Lib.hid h12
    clear h1 h2 h3 h4 h5 h6 h7 h8 h9 h10 h11 h12
    have Gp2 := Lib.hid (fun (W : World) => show Calls Tryd.prog 9 #[.agg #[.int .u8 (p2f.toNat : Int), .int .u64 (p2h.toNat : Int), .int .u64 (p2l.toNat : Int), .int .i64 p2n]] W (fun e w' => e = .returned ((.agg #[.int .u8 (p2f.toNat : Int), .int .u64 (p2h.toNat : Int), .int .u64 (p2l.toNat : Int), .int .i64 p2n])) ∧ Below W.heap.size W w') from Pfx.given20 ((p2f, p2h, p2l), p2n) W)
    have qp2 : ∀ W, (binOp .neq 29 (.agg #[.int .u8 (p2f.toNat : Int), .int .u64 (p2h.toNat : Int), .int .u64 (p2l.toNat : Int), .int .i64 p2n]) (.agg #[.int .u8 (p2f.toNat : Int), .int .u64 (p2h.toNat : Int), .int .u64 (p2l.toNat : Int), .int .i64 p2n])).run Tryd.prog W = .ok (.bool false) W := run_neqRP ((p2f, p2h, p2l), p2n)
    have Gp3 := Lib.hid (fun (W : World) => show Calls Tryd.prog 9 #[.agg #[.int .u8 (p3f.toNat : Int), .int .u64 (p3h.toNat : Int), .int .u64 (p3l.toNat : Int), .int .i64 p3n]] W (fun e w' => e = .returned ((.agg #[.int .u8 (p3f.toNat : Int), .int .u64 (p3h.toNat : Int), .int .u64 (p3l.toNat : Int), .int .i64 p3n])) ∧ Below W.heap.size W w') from Pfx.given20 ((p3f, p3h, p3l), p3n) W)
    have qp3 : ∀ W, (binOp .neq 29 (.agg #[.int .u8 (p3f.toNat : Int), .int .u64 (p3h.toNat : Int), .int .u64 (p3l.toNat : Int), .int .i64 p3n]) (.agg #[.int .u8 (p3f.toNat : Int), .int .u64 (p3h.toNat : Int), .int .u64 (p3l.toNat : Int), .int .i64 p3n])).run Tryd.prog W = .ok (.bool false) W := run_neqRP ((p3f, p3h, p3l), p3n)
    have Ga4 := Lib.hid (fun (W : World) => show Calls Tryd.prog 10 #[.agg #[.int .u8 (a4f.toNat : Int), .int .u64 (a4h.toNat : Int), .int .u64 (a4l.toNat : Int)]] W (fun e w' => e = .returned ((.agg #[.int .u8 (a4f.toNat : Int), .int .u64 (a4h.toNat : Int), .int .u64 (a4l.toNat : Int)])) ∧ Below W.heap.size W w') from Pfx.given19 (a4f, a4h, a4l) W)
    have qa4 : ∀ W, (binOp .neq 27 (.agg #[.int .u8 (a4f.toNat : Int), .int .u64 (a4h.toNat : Int), .int .u64 (a4l.toNat : Int)]) (.agg #[.int .u8 (a4f.toNat : Int), .int .u64 (a4h.toNat : Int), .int .u64 (a4l.toNat : Int)])).run Tryd.prog W = .ok (.bool false) W := run_neqRA (a4f, a4h, a4l)
    have Ga5 := Lib.hid (fun (W : World) => show Calls Tryd.prog 10 #[.agg #[.int .u8 (a5f.toNat : Int), .int .u64 (a5h.toNat : Int), .int .u64 (a5l.toNat : Int)]] W (fun e w' => e = .returned ((.agg #[.int .u8 (a5f.toNat : Int), .int .u64 (a5h.toNat : Int), .int .u64 (a5l.toNat : Int)])) ∧ Below W.heap.size W w') from Pfx.given19 (a5f, a5h, a5l) W)
    have qa5 : ∀ W, (binOp .neq 27 (.agg #[.int .u8 (a5f.toNat : Int), .int .u64 (a5h.toNat : Int), .int .u64 (a5l.toNat : Int)]) (.agg #[.int .u8 (a5f.toNat : Int), .int .u64 (a5h.toNat : Int), .int .u64 (a5l.toNat : Int)])).run Tryd.prog W = .ok (.bool false) W := run_neqRA (a5f, a5h, a5l)
    have Ga6 := Lib.hid (fun (W : World) => show Calls Tryd.prog 10 #[.agg #[.int .u8 (a6f.toNat : Int), .int .u64 (a6h.toNat : Int), .int .u64 (a6l.toNat : Int)]] W (fun e w' => e = .returned ((.agg #[.int .u8 (a6f.toNat : Int), .int .u64 (a6h.toNat : Int), .int .u64 (a6l.toNat : Int)])) ∧ Below W.heap.size W w') from Pfx.given19 (a6f, a6h, a6l) W)
    have qa6 : ∀ W, (binOp .eql 27 (.agg #[.int .u8 (a6f.toNat : Int), .int .u64 (a6h.toNat : Int), .int .u64 (a6l.toNat : Int)]) (.agg #[.int .u8 (a6f.toNat : Int), .int .u64 (a6h.toNat : Int), .int .u64 (a6l.toNat : Int)])).run Tryd.prog W = .ok (.bool true) W := run_eqlRA (a6f, a6h, a6l)
    have eb2 : (b2 == b2) = true := by simp
    have eb3 : (b3 == b3) = true := by simp
    have eb4 : (b4 == b4) = true := by simp
    have eb5 : (b5 == b5) = true := by simp
    have eb6 : (b6 == b6) = true := by simp
    have eb7 : (b7 == b7) = true := by simp
    go_enter Tryd.func5, Tryd.ntmps5
    go_wp2_with fail
    refine (H1.out _).mono ?_
    rintro e w1 ⟨rfl, hb⟩
    have HB := Lib.hid hb
    clear hb
    have X1 := Lib.hid (heap_alloc_new w1 (.cells #[.int .u8 (p2f.toNat : Int), .int .u64 (p2h.toNat : Int), .int .u64 (p2l.toNat : Int), .int .i64 p2n] 26 (0, 0)))
    replace HB := Lib.hid (below_alloc1 HB.out HB.out.size (.cells #[.int .u8 (p2f.toNat : Int), .int .u64 (p2h.toNat : Int), .int .u64 (p2l.toNat : Int), .int .i64 p2n] 26 (0, 0)))
    go_wp2_with fail
    refine (H2.out _).mono ?_
    rintro e w2 ⟨rfl, hb⟩
    replace HB := Lib.hid (below_step HB.out hb HB.out.size)
    replace X1 := Lib.hid (blk_kept hb X1.out)
    clear hb
    replace X1 := Lib.hid (blk_alloc X1.out (.cells #[.int .u8 (p2f.toNat : Int), .int .u64 (p2h.toNat : Int), .int .u64 (p2l.toNat : Int), .int .i64 p2n] 29 (0, 0)))
    have X2 := Lib.hid (heap_alloc_new w2 (.cells #[.int .u8 (p2f.toNat : Int), .int .u64 (p2h.toNat : Int), .int .u64 (p2l.toNat : Int), .int .i64 p2n] 29 (0, 0)))
    replace HB := Lib.hid (below_alloc1 HB.out HB.out.size (.cells #[.int .u8 (p2f.toNat : Int), .int .u64 (p2h.toNat : Int), .int .u64 (p2l.toNat : Int), .int .i64 p2n] 29 (0, 0)))
    go_wp2_with fail
    refine (H3.out _).mono ?_
    rintro e w3 ⟨rfl, hb⟩
    replace HB := Lib.hid (below_step HB.out hb HB.out.size)
    replace X1 := Lib.hid (blk_kept hb X1.out)
    replace X2 := Lib.hid (blk_kept hb X2.out)
    clear hb
    replace X1 := Lib.hid (blk_alloc X1.out (.cells #[.int .u8 (p3f.toNat : Int), .int .u64 (p3h.toNat : Int), .int .u64 (p3l.toNat : Int), .int .i64 p3n] 26 (0, 0)))
    replace X2 := Lib.hid (blk_alloc X2.out (.cells #[.int .u8 (p3f.toNat : Int), .int .u64 (p3h.toNat : Int), .int .u64 (p3l.toNat : Int), .int .i64 p3n] 26 (0, 0)))
    have X3 := Lib.hid (heap_alloc_new w3 (.cells #[.int .u8 (p3f.toNat : Int), .int .u64 (p3h.toNat : Int), .int .u64 (p3l.toNat : Int), .int .i64 p3n] 26 (0, 0)))
    replace HB := Lib.hid (below_alloc1 HB.out HB.out.size (.cells #[.int .u8 (p3f.toNat : Int), .int .u64 (p3h.toNat : Int), .int .u64 (p3l.toNat : Int), .int .i64 p3n] 26 (0, 0)))
    go_wp2_with fail
    refine (H4.out _).mono ?_
    rintro e w4 ⟨rfl, hb⟩
    replace HB := Lib.hid (below_step HB.out hb HB.out.size)
    replace X1 := Lib.hid (blk_kept hb X1.out)
    replace X2 := Lib.hid (blk_kept hb X2.out)
    replace X3 := Lib.hid (blk_kept hb X3.out)
    clear hb
    replace X1 := Lib.hid (blk_alloc X1.out (.cells #[.int .u8 (p3f.toNat : Int), .int .u64 (p3h.toNat : Int), .int .u64 (p3l.toNat : Int), .int .i64 p3n] 29 (0, 0)))
    replace X2 := Lib.hid (blk_alloc X2.out (.cells #[.int .u8 (p3f.toNat : Int), .int .u64 (p3h.toNat : Int), .int .u64 (p3l.toNat : Int), .int .i64 p3n] 29 (0, 0)))
    replace X3 := Lib.hid (blk_alloc X3.out (.cells #[.int .u8 (p3f.toNat : Int), .int .u64 (p3h.toNat : Int), .int .u64 (p3l.toNat : Int), .int .i64 p3n] 29 (0, 0)))
    have X4 := Lib.hid (heap_alloc_new w4 (.cells #[.int .u8 (p3f.toNat : Int), .int .u64 (p3h.toNat : Int), .int .u64 (p3l.toNat : Int), .int .i64 p3n] 29 (0, 0)))
    replace HB := Lib.hid (below_alloc1 HB.out HB.out.size (.cells #[.int .u8 (p3f.toNat : Int), .int .u64 (p3h.toNat : Int), .int .u64 (p3l.toNat : Int), .int .i64 p3n] 29 (0, 0)))
    obtain ⟨Wa, hW⟩ : ∃ W, W = w4.alloc (.cells #[.int .u8 (p3f.toNat : Int), .int .u64 (p3h.toNat : Int), .int .u64 (p3l.toNat : Int), .int .i64 p3n] 29 (0, 0)) := ⟨_, rfl⟩
    rw [← hW] at HB X1 X2 X3 X4
    have x := X1.out
    have yX10 : ∀ zz : Later Wa.heap.size Wa, zz.val.cell? ⟨w1.heap.size, 0, none⟩ = some (.int .u8 (p2f.toNat : Int)) := fun zz => Later.cell (by rw [blk_cell x]; rfl) (blk_lt x) zz
    have yX11 : ∀ zz : Later Wa.heap.size Wa, zz.val.cell? ⟨w1.heap.size, 1, none⟩ = some (.int .u64 (p2h.toNat : Int)) := fun zz => Later.cell (by rw [blk_cell x]; rfl) (blk_lt x) zz
    have yX12 : ∀ zz : Later Wa.heap.size Wa, zz.val.cell? ⟨w1.heap.size, 2, none⟩ = some (.int .u64 (p2l.toNat : Int)) := fun zz => Later.cell (by rw [blk_cell x]; rfl) (blk_lt x) zz
    have yX13 : ∀ zz : Later Wa.heap.size Wa, zz.val.cell? ⟨w1.heap.size, 3, none⟩ = some (.int .i64 p2n) := fun zz => Later.cell (by rw [blk_cell x]; rfl) (blk_lt x) zz
    clear x
    have x := X2.out
    have yX20 : ∀ zz : Later Wa.heap.size Wa, zz.val.cell? ⟨w2.heap.size, 0, none⟩ = some (.int .u8 (p2f.toNat : Int)) := fun zz => Later.cell (by rw [blk_cell x]; rfl) (blk_lt x) zz
    have yX21 : ∀ zz : Later Wa.heap.size Wa, zz.val.cell? ⟨w2.heap.size, 1, none⟩ = some (.int .u64 (p2h.toNat : Int)) := fun zz => Later.cell (by rw [blk_cell x]; rfl) (blk_lt x) zz
    have yX22 : ∀ zz : Later Wa.heap.size Wa, zz.val.cell? ⟨w2.heap.size, 2, none⟩ = some (.int .u64 (p2l.toNat : Int)) := fun zz => Later.cell (by rw [blk_cell x]; rfl) (blk_lt x) zz
    have yX23 : ∀ zz : Later Wa.heap.size Wa, zz.val.cell? ⟨w2.heap.size, 3, none⟩ = some (.int .i64 p2n) := fun zz => Later.cell (by rw [blk_cell x]; rfl) (blk_lt x) zz
    clear x
    have x := X3.out
    have yX30 : ∀ zz : Later Wa.heap.size Wa, zz.val.cell? ⟨w3.heap.size, 0, none⟩ = some (.int .u8 (p3f.toNat : Int)) := fun zz => Later.cell (by rw [blk_cell x]; rfl) (blk_lt x) zz
    have yX31 : ∀ zz : Later Wa.heap.size Wa, zz.val.cell? ⟨w3.heap.size, 1, none⟩ = some (.int .u64 (p3h.toNat : Int)) := fun zz => Later.cell (by rw [blk_cell x]; rfl) (blk_lt x) zz
    have yX32 : ∀ zz : Later Wa.heap.size Wa, zz.val.cell? ⟨w3.heap.size, 2, none⟩ = some (.int .u64 (p3l.toNat : Int)) := fun zz => Later.cell (by rw [blk_cell x]; rfl) (blk_lt x) zz
    have yX33 : ∀ zz : Later Wa.heap.size Wa, zz.val.cell? ⟨w3.heap.size, 3, none⟩ = some (.int .i64 p3n) := fun zz => Later.cell (by rw [blk_cell x]; rfl) (blk_lt x) zz
    clear x
    have x := X4.out
    have yX40 : ∀ zz : Later Wa.heap.size Wa, zz.val.cell? ⟨w4.heap.size, 0, none⟩ = some (.int .u8 (p3f.toNat : Int)) := fun zz => Later.cell (by rw [blk_cell x]; rfl) (blk_lt x) zz
    have yX41 : ∀ zz : Later Wa.heap.size Wa, zz.val.cell? ⟨w4.heap.size, 1, none⟩ = some (.int .u64 (p3h.toNat : Int)) := fun zz => Later.cell (by rw [blk_cell x]; rfl) (blk_lt x) zz
    have yX42 : ∀ zz : Later Wa.heap.size Wa, zz.val.cell? ⟨w4.heap.size, 2, none⟩ = some (.int .u64 (p3l.toNat : Int)) := fun zz => Later.cell (by rw [blk_cell x]; rfl) (blk_lt x) zz
    have yX43 : ∀ zz : Later Wa.heap.size Wa, zz.val.cell? ⟨w4.heap.size, 3, none⟩ = some (.int .i64 p3n) := fun zz => Later.cell (by rw [blk_cell x]; rfl) (blk_lt x) zz
    clear x
    go_wp2_with fail
    try rw [← hW]
    refine wp_region_later Wa.heap.size (by kernel_rfl) (by kernel_rfl) ?_
    repeat (go_big_quiet_step (first
      | (go_at_call 9; (with_reducible exact Later.calls (Nat.le_refl _) (Gp2.out _)))
      | (go_at_call 9; (with_reducible exact Later.calls (Nat.le_refl _) (Gp3.out _)))))
    refine wpQuiet_nil ?_
    rintro wq ⟨zz, rfl⟩
    replace HB := Lib.hid (below_step HB.out zz.prop HB.out.size)
    clear yX10 yX11 yX12 yX13 yX20 yX21 yX22 yX23 yX30 yX31 yX32 yX33 yX40 yX41 yX42 yX43
    obtain ⟨Va, hV⟩ : ∃ V, V = zz.val := ⟨_, rfl⟩
    rw [← hV] at HB ⊢
    clear hV zz hW X1 X2 X3 X4
    go_wp2_with fail
    refine (H5.out _).mono ?_
    rintro e w5 ⟨rfl, hb⟩
    replace HB := Lib.hid (below_step HB.out hb HB.out.size)
    clear hb
    have X5 := Lib.hid (heap_alloc_new w5 (.cells #[.int .u8 (a4f.toNat : Int), .int .u64 (a4h.toNat : Int), .int .u64 (a4l.toNat : Int)] 24 (0, 0)))
    replace HB := Lib.hid (below_alloc1 HB.out HB.out.size (.cells #[.int .u8 (a4f.toNat : Int), .int .u64 (a4h.toNat : Int), .int .u64 (a4l.toNat : Int)] 24 (0, 0)))
    go_wp2_with fail
    refine (H6.out _).mono ?_
    rintro e w6 ⟨rfl, hb⟩
    replace HB := Lib.hid (below_step HB.out hb HB.out.size)
    replace X5 := Lib.hid (blk_kept hb X5.out)
    clear hb
    replace X5 := Lib.hid (blk_alloc X5.out (.cells #[.int .u8 (a4f.toNat : Int), .int .u64 (a4h.toNat : Int), .int .u64 (a4l.toNat : Int)] 27 (0, 0)))
    have X6 := Lib.hid (heap_alloc_new w6 (.cells #[.int .u8 (a4f.toNat : Int), .int .u64 (a4h.toNat : Int), .int .u64 (a4l.toNat : Int)] 27 (0, 0)))
    replace HB := Lib.hid (below_alloc1 HB.out HB.out.size (.cells #[.int .u8 (a4f.toNat : Int), .int .u64 (a4h.toNat : Int), .int .u64 (a4l.toNat : Int)] 27 (0, 0)))
    go_wp2_with fail
    refine (H7.out _).mono ?_
    rintro e w7 ⟨rfl, hb⟩
    replace HB := Lib.hid (below_step HB.out hb HB.out.size)
    replace X5 := Lib.hid (blk_kept hb X5.out)
    replace X6 := Lib.hid (blk_kept hb X6.out)
    clear hb
    replace X5 := Lib.hid (blk_alloc X5.out (.cells #[.int .u8 (a5f.toNat : Int), .int .u64 (a5h.toNat : Int), .int .u64 (a5l.toNat : Int)] 24 (0, 0)))
    replace X6 := Lib.hid (blk_alloc X6.out (.cells #[.int .u8 (a5f.toNat : Int), .int .u64 (a5h.toNat : Int), .int .u64 (a5l.toNat : Int)] 24 (0, 0)))
    have X7 := Lib.hid (heap_alloc_new w7 (.cells #[.int .u8 (a5f.toNat : Int), .int .u64 (a5h.toNat : Int), .int .u64 (a5l.toNat : Int)] 24 (0, 0)))
    replace HB := Lib.hid (below_alloc1 HB.out HB.out.size (.cells #[.int .u8 (a5f.toNat : Int), .int .u64 (a5h.toNat : Int), .int .u64 (a5l.toNat : Int)] 24 (0, 0)))
    go_wp2_with fail
    refine (H8.out _).mono ?_
    rintro e w8 ⟨rfl, hb⟩
    replace HB := Lib.hid (below_step HB.out hb HB.out.size)
    replace X5 := Lib.hid (blk_kept hb X5.out)
    replace X6 := Lib.hid (blk_kept hb X6.out)
    replace X7 := Lib.hid (blk_kept hb X7.out)
    clear hb
    replace X5 := Lib.hid (blk_alloc X5.out (.cells #[.int .u8 (a5f.toNat : Int), .int .u64 (a5h.toNat : Int), .int .u64 (a5l.toNat : Int)] 27 (0, 0)))
    replace X6 := Lib.hid (blk_alloc X6.out (.cells #[.int .u8 (a5f.toNat : Int), .int .u64 (a5h.toNat : Int), .int .u64 (a5l.toNat : Int)] 27 (0, 0)))
    replace X7 := Lib.hid (blk_alloc X7.out (.cells #[.int .u8 (a5f.toNat : Int), .int .u64 (a5h.toNat : Int), .int .u64 (a5l.toNat : Int)] 27 (0, 0)))
    have X8 := Lib.hid (heap_alloc_new w8 (.cells #[.int .u8 (a5f.toNat : Int), .int .u64 (a5h.toNat : Int), .int .u64 (a5l.toNat : Int)] 27 (0, 0)))
    replace HB := Lib.hid (below_alloc1 HB.out HB.out.size (.cells #[.int .u8 (a5f.toNat : Int), .int .u64 (a5h.toNat : Int), .int .u64 (a5l.toNat : Int)] 27 (0, 0)))
    obtain ⟨Wb, hW⟩ : ∃ W, W = w8.alloc (.cells #[.int .u8 (a5f.toNat : Int), .int .u64 (a5h.toNat : Int), .int .u64 (a5l.toNat : Int)] 27 (0, 0)) := ⟨_, rfl⟩
    rw [← hW] at HB X5 X6 X7 X8
    have x := X5.out
    have yX50 : ∀ zz : Later Wb.heap.size Wb, zz.val.cell? ⟨w5.heap.size, 0, none⟩ = some (.int .u8 (a4f.toNat : Int)) := fun zz => Later.cell (by rw [blk_cell x]; rfl) (blk_lt x) zz
    have yX51 : ∀ zz : Later Wb.heap.size Wb, zz.val.cell? ⟨w5.heap.size, 1, none⟩ = some (.int .u64 (a4h.toNat : Int)) := fun zz => Later.cell (by rw [blk_cell x]; rfl) (blk_lt x) zz
    have yX52 : ∀ zz : Later Wb.heap.size Wb, zz.val.cell? ⟨w5.heap.size, 2, none⟩ = some (.int .u64 (a4l.toNat : Int)) := fun zz => Later.cell (by rw [blk_cell x]; rfl) (blk_lt x) zz
    clear x
    have x := X6.out
    have yX60 : ∀ zz : Later Wb.heap.size Wb, zz.val.cell? ⟨w6.heap.size, 0, none⟩ = some (.int .u8 (a4f.toNat : Int)) := fun zz => Later.cell (by rw [blk_cell x]; rfl) (blk_lt x) zz
    have yX61 : ∀ zz : Later Wb.heap.size Wb, zz.val.cell? ⟨w6.heap.size, 1, none⟩ = some (.int .u64 (a4h.toNat : Int)) := fun zz => Later.cell (by rw [blk_cell x]; rfl) (blk_lt x) zz
    have yX62 : ∀ zz : Later Wb.heap.size Wb, zz.val.cell? ⟨w6.heap.size, 2, none⟩ = some (.int .u64 (a4l.toNat : Int)) := fun zz => Later.cell (by rw [blk_cell x]; rfl) (blk_lt x) zz
    clear x
    have x := X7.out
    have yX70 : ∀ zz : Later Wb.heap.size Wb, zz.val.cell? ⟨w7.heap.size, 0, none⟩ = some (.int .u8 (a5f.toNat : Int)) := fun zz => Later.cell (by rw [blk_cell x]; rfl) (blk_lt x) zz
    have yX71 : ∀ zz : Later Wb.heap.size Wb, zz.val.cell? ⟨w7.heap.size, 1, none⟩ = some (.int .u64 (a5h.toNat : Int)) := fun zz => Later.cell (by rw [blk_cell x]; rfl) (blk_lt x) zz
    have yX72 : ∀ zz : Later Wb.heap.size Wb, zz.val.cell? ⟨w7.heap.size, 2, none⟩ = some (.int .u64 (a5l.toNat : Int)) := fun zz => Later.cell (by rw [blk_cell x]; rfl) (blk_lt x) zz
    clear x
    have x := X8.out
    have yX80 : ∀ zz : Later Wb.heap.size Wb, zz.val.cell? ⟨w8.heap.size, 0, none⟩ = some (.int .u8 (a5f.toNat : Int)) := fun zz => Later.cell (by rw [blk_cell x]; rfl) (blk_lt x) zz
    have yX81 : ∀ zz : Later Wb.heap.size Wb, zz.val.cell? ⟨w8.heap.size, 1, none⟩ = some (.int .u64 (a5h.toNat : Int)) := fun zz => Later.cell (by rw [blk_cell x]; rfl) (blk_lt x) zz
    have yX82 : ∀ zz : Later Wb.heap.size Wb, zz.val.cell? ⟨w8.heap.size, 2, none⟩ = some (.int .u64 (a5l.toNat : Int)) := fun zz => Later.cell (by rw [blk_cell x]; rfl) (blk_lt x) zz
    clear x
    go_wp2_with fail
    try rw [← hW]
    refine wp_region_later Wb.heap.size (by kernel_rfl) (by kernel_rfl) ?_
    repeat (go_big_quiet_step (first
      | (go_at_call 10; (with_reducible exact Later.calls (Nat.le_refl _) (Ga4.out _)))
      | (go_at_call 10; (with_reducible exact Later.calls (Nat.le_refl _) (Ga5.out _)))))
    refine wpQuiet_nil ?_
    rintro wq ⟨zz, rfl⟩
    replace HB := Lib.hid (below_step HB.out zz.prop HB.out.size)
    clear yX50 yX51 yX52 yX60 yX61 yX62 yX70 yX71 yX72 yX80 yX81 yX82
    obtain ⟨Vb, hV⟩ : ∃ V, V = zz.val := ⟨_, rfl⟩
    rw [← hV] at HB ⊢
    clear hV zz hW X5 X6 X7 X8
    go_wp2_with fail
    refine (H9.out _).mono ?_
    rintro e w9 ⟨rfl, hb⟩
    replace HB := Lib.hid (below_step HB.out hb HB.out.size)
    clear hb
    have X9 := Lib.hid (heap_alloc_new w9 (.cells #[.int .u8 (a6f.toNat : Int), .int .u64 (a6h.toNat : Int), .int .u64 (a6l.toNat : Int)] 24 (0, 0)))
    replace HB := Lib.hid (below_alloc1 HB.out HB.out.size (.cells #[.int .u8 (a6f.toNat : Int), .int .u64 (a6h.toNat : Int), .int .u64 (a6l.toNat : Int)] 24 (0, 0)))
    go_wp2_with fail
    refine (H10.out _).mono ?_
    rintro e w10 ⟨rfl, hb⟩
    replace HB := Lib.hid (below_step HB.out hb HB.out.size)
    replace X9 := Lib.hid (blk_kept hb X9.out)
    clear hb
    replace X9 := Lib.hid (blk_alloc X9.out (.cells #[.int .u8 (a6f.toNat : Int), .int .u64 (a6h.toNat : Int), .int .u64 (a6l.toNat : Int)] 27 (0, 0)))
    have X10 := Lib.hid (heap_alloc_new w10 (.cells #[.int .u8 (a6f.toNat : Int), .int .u64 (a6h.toNat : Int), .int .u64 (a6l.toNat : Int)] 27 (0, 0)))
    replace HB := Lib.hid (below_alloc1 HB.out HB.out.size (.cells #[.int .u8 (a6f.toNat : Int), .int .u64 (a6h.toNat : Int), .int .u64 (a6l.toNat : Int)] 27 (0, 0)))
    go_wp2_with fail
    refine (H11.out _).mono ?_
    rintro e w11 ⟨rfl, hb⟩
    replace HB := Lib.hid (below_step HB.out hb HB.out.size)
    replace X9 := Lib.hid (blk_kept hb X9.out)
    replace X10 := Lib.hid (blk_kept hb X10.out)
    clear hb
    go_wp2_with fail
    refine (H12.out _).mono ?_
    rintro e w12 ⟨rfl, hb⟩
    replace HB := Lib.hid (below_step HB.out hb HB.out.size)
    replace X9 := Lib.hid (blk_kept hb X9.out)
    replace X10 := Lib.hid (blk_kept hb X10.out)
    clear hb
    obtain ⟨Wc, hW⟩ : ∃ W, W = w12 := ⟨_, rfl⟩
    rw [← hW] at HB X9 X10
    have x := X9.out
    have yX90 : ∀ zz : Later Wc.heap.size Wc, zz.val.cell? ⟨w9.heap.size, 0, none⟩ = some (.int .u8 (a6f.toNat : Int)) := fun zz => Later.cell (by rw [blk_cell x]; rfl) (blk_lt x) zz
    have yX91 : ∀ zz : Later Wc.heap.size Wc, zz.val.cell? ⟨w9.heap.size, 1, none⟩ = some (.int .u64 (a6h.toNat : Int)) := fun zz => Later.cell (by rw [blk_cell x]; rfl) (blk_lt x) zz
    have yX92 : ∀ zz : Later Wc.heap.size Wc, zz.val.cell? ⟨w9.heap.size, 2, none⟩ = some (.int .u64 (a6l.toNat : Int)) := fun zz => Later.cell (by rw [blk_cell x]; rfl) (blk_lt x) zz
    clear x
    have x := X10.out
    have yX100 : ∀ zz : Later Wc.heap.size Wc, zz.val.cell? ⟨w10.heap.size, 0, none⟩ = some (.int .u8 (a6f.toNat : Int)) := fun zz => Later.cell (by rw [blk_cell x]; rfl) (blk_lt x) zz
    have yX101 : ∀ zz : Later Wc.heap.size Wc, zz.val.cell? ⟨w10.heap.size, 1, none⟩ = some (.int .u64 (a6h.toNat : Int)) := fun zz => Later.cell (by rw [blk_cell x]; rfl) (blk_lt x) zz
    have yX102 : ∀ zz : Later Wc.heap.size Wc, zz.val.cell? ⟨w10.heap.size, 2, none⟩ = some (.int .u64 (a6l.toNat : Int)) := fun zz => Later.cell (by rw [blk_cell x]; rfl) (blk_lt x) zz
    clear x
    have HMQ := Lib.hid (fun (zz : Later Wc.heap.size Wc) => max_kept HM.out (below_step HB.out zz.prop HB.out.size))
    go_wp2_with fail
    try rw [← hW]
    refine wp_region_later Wc.heap.size (by kernel_rfl) (by kernel_rfl) ?_
    repeat (go_big_quiet_step (first
      | (go_at_call 10; (with_reducible exact Later.calls (Nat.le_refl _) (Ga6.out _)))
      | (go_at_call 23; (with_reducible exact Later.calls (Nat.le_refl _) (HAW.out _ (HMQ.out _))))))
    refine wpQuiet_nil ?_
    rintro wq ⟨zz, rfl⟩
    replace HB := Lib.hid (below_step HB.out zz.prop HB.out.size)
    clear yX90 yX91 yX92 yX100 yX101 yX102 HMQ
    obtain ⟨Vc, hV⟩ : ∃ V, V = zz.val := ⟨_, rfl⟩
    rw [← hV] at HB ⊢
    clear hV zz hW X9 X10
    go_wp2_with fail
    go_ret
    exact ⟨rfl, HB.out⟩
  · have hx : k.size ≤ 1000000 := by omega
    obtain ⟨⟨⟨p2f, p2h, p2l⟩, p2n⟩, b2, h1, h2⟩ := pair_pool k hx
    obtain ⟨⟨⟨p3f, p3h, p3l⟩, p3n⟩, b3, h3, h4⟩ := pair_hold k hx
    obtain ⟨⟨a4f, a4h, a4l⟩, b4, h5, h6⟩ := pair_lse k hx
    obtain ⟨⟨a5f, a5h, a5l⟩, b5, h7, h8⟩ := pair_cnt k hx
    obtain ⟨⟨a6f, a6h, a6l⟩, n6, b6, h9, h10⟩ := pair_evt k hx
    obtain ⟨c7, b7, h11, h12⟩ := pair_cli k hx
    have H1 := Lib.hid h1
    have H2 := Lib.hid h2
    have H3 := Lib.hid h3
    have H4 := Lib.hid h4
    have H5 := Lib.hid h5
    have H6 := Lib.hid h6
    have H7 := Lib.hid h7
    have H8 := Lib.hid h8
    have H9 := Lib.hid h9
    have H10 := Lib.hid h10
    have H11 := Lib.hid h11
    have H12 := Lib.hid h12
    clear h1 h2 h3 h4 h5 h6 h7 h8 h9 h10 h11 h12
    have Gp2 := Lib.hid (fun (W : World) => show Calls Tryd.prog 9 #[.agg #[.int .u8 (p2f.toNat : Int), .int .u64 (p2h.toNat : Int), .int .u64 (p2l.toNat : Int), .int .i64 p2n]] W (fun e w' => e = .returned ((.agg #[.int .u8 (p2f.toNat : Int), .int .u64 (p2h.toNat : Int), .int .u64 (p2l.toNat : Int), .int .i64 p2n])) ∧ Below W.heap.size W w') from Pfx.given20 ((p2f, p2h, p2l), p2n) W)
    have qp2 : ∀ W, (binOp .neq 29 (.agg #[.int .u8 (p2f.toNat : Int), .int .u64 (p2h.toNat : Int), .int .u64 (p2l.toNat : Int), .int .i64 p2n]) (.agg #[.int .u8 (p2f.toNat : Int), .int .u64 (p2h.toNat : Int), .int .u64 (p2l.toNat : Int), .int .i64 p2n])).run Tryd.prog W = .ok (.bool false) W := run_neqRP ((p2f, p2h, p2l), p2n)
    have Gp3 := Lib.hid (fun (W : World) => show Calls Tryd.prog 9 #[.agg #[.int .u8 (p3f.toNat : Int), .int .u64 (p3h.toNat : Int), .int .u64 (p3l.toNat : Int), .int .i64 p3n]] W (fun e w' => e = .returned ((.agg #[.int .u8 (p3f.toNat : Int), .int .u64 (p3h.toNat : Int), .int .u64 (p3l.toNat : Int), .int .i64 p3n])) ∧ Below W.heap.size W w') from Pfx.given20 ((p3f, p3h, p3l), p3n) W)
    have qp3 : ∀ W, (binOp .neq 29 (.agg #[.int .u8 (p3f.toNat : Int), .int .u64 (p3h.toNat : Int), .int .u64 (p3l.toNat : Int), .int .i64 p3n]) (.agg #[.int .u8 (p3f.toNat : Int), .int .u64 (p3h.toNat : Int), .int .u64 (p3l.toNat : Int), .int .i64 p3n])).run Tryd.prog W = .ok (.bool false) W := run_neqRP ((p3f, p3h, p3l), p3n)
    have Ga4 := Lib.hid (fun (W : World) => show Calls Tryd.prog 10 #[.agg #[.int .u8 (a4f.toNat : Int), .int .u64 (a4h.toNat : Int), .int .u64 (a4l.toNat : Int)]] W (fun e w' => e = .returned ((.agg #[.int .u8 (a4f.toNat : Int), .int .u64 (a4h.toNat : Int), .int .u64 (a4l.toNat : Int)])) ∧ Below W.heap.size W w') from Pfx.given19 (a4f, a4h, a4l) W)
    have qa4 : ∀ W, (binOp .neq 27 (.agg #[.int .u8 (a4f.toNat : Int), .int .u64 (a4h.toNat : Int), .int .u64 (a4l.toNat : Int)]) (.agg #[.int .u8 (a4f.toNat : Int), .int .u64 (a4h.toNat : Int), .int .u64 (a4l.toNat : Int)])).run Tryd.prog W = .ok (.bool false) W := run_neqRA (a4f, a4h, a4l)
    have Ga5 := Lib.hid (fun (W : World) => show Calls Tryd.prog 10 #[.agg #[.int .u8 (a5f.toNat : Int), .int .u64 (a5h.toNat : Int), .int .u64 (a5l.toNat : Int)]] W (fun e w' => e = .returned ((.agg #[.int .u8 (a5f.toNat : Int), .int .u64 (a5h.toNat : Int), .int .u64 (a5l.toNat : Int)])) ∧ Below W.heap.size W w') from Pfx.given19 (a5f, a5h, a5l) W)
    have qa5 : ∀ W, (binOp .neq 27 (.agg #[.int .u8 (a5f.toNat : Int), .int .u64 (a5h.toNat : Int), .int .u64 (a5l.toNat : Int)]) (.agg #[.int .u8 (a5f.toNat : Int), .int .u64 (a5h.toNat : Int), .int .u64 (a5l.toNat : Int)])).run Tryd.prog W = .ok (.bool false) W := run_neqRA (a5f, a5h, a5l)
    have Ga6 := Lib.hid (fun (W : World) => show Calls Tryd.prog 10 #[.agg #[.int .u8 (a6f.toNat : Int), .int .u64 (a6h.toNat : Int), .int .u64 (a6l.toNat : Int)]] W (fun e w' => e = .returned ((.agg #[.int .u8 (a6f.toNat : Int), .int .u64 (a6h.toNat : Int), .int .u64 (a6l.toNat : Int)])) ∧ Below W.heap.size W w') from Pfx.given19 (a6f, a6h, a6l) W)
    have qa6 : ∀ W, (binOp .eql 27 (.agg #[.int .u8 (a6f.toNat : Int), .int .u64 (a6h.toNat : Int), .int .u64 (a6l.toNat : Int)]) (.agg #[.int .u8 (a6f.toNat : Int), .int .u64 (a6h.toNat : Int), .int .u64 (a6l.toNat : Int)])).run Tryd.prog W = .ok (.bool true) W := run_eqlRA (a6f, a6h, a6l)
    have eb2 : (b2 == b2) = true := by simp
    have eb3 : (b3 == b3) = true := by simp
    have eb4 : (b4 == b4) = true := by simp
    have eb5 : (b5 == b5) = true := by simp
    have eb6 : (b6 == b6) = true := by simp
    have eb7 : (b7 == b7) = true := by simp
    go_enter Tryd.func5, Tryd.ntmps5
    go_wp2_with fail
    refine (H1.out _).mono ?_
    rintro e w1 ⟨rfl, hb⟩
    have HB := Lib.hid hb
    clear hb
    have X1 := Lib.hid (heap_alloc_new w1 (.cells #[.int .u8 (p2f.toNat : Int), .int .u64 (p2h.toNat : Int), .int .u64 (p2l.toNat : Int), .int .i64 p2n] 26 (0, 0)))
    replace HB := Lib.hid (below_alloc1 HB.out HB.out.size (.cells #[.int .u8 (p2f.toNat : Int), .int .u64 (p2h.toNat : Int), .int .u64 (p2l.toNat : Int), .int .i64 p2n] 26 (0, 0)))
    go_wp2_with fail
    refine (H2.out _).mono ?_
    rintro e w2 ⟨rfl, hb⟩
    replace HB := Lib.hid (below_step HB.out hb HB.out.size)
    replace X1 := Lib.hid (blk_kept hb X1.out)
    clear hb
    replace X1 := Lib.hid (blk_alloc X1.out (.cells #[.int .u8 (p2f.toNat : Int), .int .u64 (p2h.toNat : Int), .int .u64 (p2l.toNat : Int), .int .i64 p2n] 29 (0, 0)))
    have X2 := Lib.hid (heap_alloc_new w2 (.cells #[.int .u8 (p2f.toNat : Int), .int .u64 (p2h.toNat : Int), .int .u64 (p2l.toNat : Int), .int .i64 p2n] 29 (0, 0)))
    replace HB := Lib.hid (below_alloc1 HB.out HB.out.size (.cells #[.int .u8 (p2f.toNat : Int), .int .u64 (p2h.toNat : Int), .int .u64 (p2l.toNat : Int), .int .i64 p2n] 29 (0, 0)))
    go_wp2_with fail
    refine (H3.out _).mono ?_
    rintro e w3 ⟨rfl, hb⟩
    replace HB := Lib.hid (below_step HB.out hb HB.out.size)
    replace X1 := Lib.hid (blk_kept hb X1.out)
    replace X2 := Lib.hid (blk_kept hb X2.out)
    clear hb
    replace X1 := Lib.hid (blk_alloc X1.out (.cells #[.int .u8 (p3f.toNat : Int), .int .u64 (p3h.toNat : Int), .int .u64 (p3l.toNat : Int), .int .i64 p3n] 26 (0, 0)))
    replace X2 := Lib.hid (blk_alloc X2.out (.cells #[.int .u8 (p3f.toNat : Int), .int .u64 (p3h.toNat : Int), .int .u64 (p3l.toNat : Int), .int .i64 p3n] 26 (0, 0)))
    have X3 := Lib.hid (heap_alloc_new w3 (.cells #[.int .u8 (p3f.toNat : Int), .int .u64 (p3h.toNat : Int), .int .u64 (p3l.toNat : Int), .int .i64 p3n] 26 (0, 0)))
    replace HB := Lib.hid (below_alloc1 HB.out HB.out.size (.cells #[.int .u8 (p3f.toNat : Int), .int .u64 (p3h.toNat : Int), .int .u64 (p3l.toNat : Int), .int .i64 p3n] 26 (0, 0)))
    go_wp2_with fail
    refine (H4.out _).mono ?_
    rintro e w4 ⟨rfl, hb⟩
    replace HB := Lib.hid (below_step HB.out hb HB.out.size)
    replace X1 := Lib.hid (blk_kept hb X1.out)
    replace X2 := Lib.hid (blk_kept hb X2.out)
    replace X3 := Lib.hid (blk_kept hb X3.out)
    clear hb
    replace X1 := Lib.hid (blk_alloc X1.out (.cells #[.int .u8 (p3f.toNat : Int), .int .u64 (p3h.toNat : Int), .int .u64 (p3l.toNat : Int), .int .i64 p3n] 29 (0, 0)))
    replace X2 := Lib.hid (blk_alloc X2.out (.cells #[.int .u8 (p3f.toNat : Int), .int .u64 (p3h.toNat : Int), .int .u64 (p3l.toNat : Int), .int .i64 p3n] 29 (0, 0)))
    replace X3 := Lib.hid (blk_alloc X3.out (.cells #[.int .u8 (p3f.toNat : Int), .int .u64 (p3h.toNat : Int), .int .u64 (p3l.toNat : Int), .int .i64 p3n] 29 (0, 0)))
    have X4 := Lib.hid (heap_alloc_new w4 (.cells #[.int .u8 (p3f.toNat : Int), .int .u64 (p3h.toNat : Int), .int .u64 (p3l.toNat : Int), .int .i64 p3n] 29 (0, 0)))
    replace HB := Lib.hid (below_alloc1 HB.out HB.out.size (.cells #[.int .u8 (p3f.toNat : Int), .int .u64 (p3h.toNat : Int), .int .u64 (p3l.toNat : Int), .int .i64 p3n] 29 (0, 0)))
    obtain ⟨Wa, hW⟩ : ∃ W, W = w4.alloc (.cells #[.int .u8 (p3f.toNat : Int), .int .u64 (p3h.toNat : Int), .int .u64 (p3l.toNat : Int), .int .i64 p3n] 29 (0, 0)) := ⟨_, rfl⟩
    rw [← hW] at HB X1 X2 X3 X4
    have x := X1.out
    have yX10 : ∀ zz : Later Wa.heap.size Wa, zz.val.cell? ⟨w1.heap.size, 0, none⟩ = some (.int .u8 (p2f.toNat : Int)) := fun zz => Later.cell (by rw [blk_cell x]; rfl) (blk_lt x) zz
    have yX11 : ∀ zz : Later Wa.heap.size Wa, zz.val.cell? ⟨w1.heap.size, 1, none⟩ = some (.int .u64 (p2h.toNat : Int)) := fun zz => Later.cell (by rw [blk_cell x]; rfl) (blk_lt x) zz
    have yX12 : ∀ zz : Later Wa.heap.size Wa, zz.val.cell? ⟨w1.heap.size, 2, none⟩ = some (.int .u64 (p2l.toNat : Int)) := fun zz => Later.cell (by rw [blk_cell x]; rfl) (blk_lt x) zz
    have yX13 : ∀ zz : Later Wa.heap.size Wa, zz.val.cell? ⟨w1.heap.size, 3, none⟩ = some (.int .i64 p2n) := fun zz => Later.cell (by rw [blk_cell x]; rfl) (blk_lt x) zz
    clear x
    have x := X2.out
    have yX20 : ∀ zz : Later Wa.heap.size Wa, zz.val.cell? ⟨w2.heap.size, 0, none⟩ = some (.int .u8 (p2f.toNat : Int)) := fun zz => Later.cell (by rw [blk_cell x]; rfl) (blk_lt x) zz
    have yX21 : ∀ zz : Later Wa.heap.size Wa, zz.val.cell? ⟨w2.heap.size, 1, none⟩ = some (.int .u64 (p2h.toNat : Int)) := fun zz => Later.cell (by rw [blk_cell x]; rfl) (blk_lt x) zz
    have yX22 : ∀ zz : Later Wa.heap.size Wa, zz.val.cell? ⟨w2.heap.size, 2, none⟩ = some (.int .u64 (p2l.toNat : Int)) := fun zz => Later.cell (by rw [blk_cell x]; rfl) (blk_lt x) zz
    have yX23 : ∀ zz : Later Wa.heap.size Wa, zz.val.cell? ⟨w2.heap.size, 3, none⟩ = some (.int .i64 p2n) := fun zz => Later.cell (by rw [blk_cell x]; rfl) (blk_lt x) zz
    clear x
    have x := X3.out
    have yX30 : ∀ zz : Later Wa.heap.size Wa, zz.val.cell? ⟨w3.heap.size, 0, none⟩ = some (.int .u8 (p3f.toNat : Int)) := fun zz => Later.cell (by rw [blk_cell x]; rfl) (blk_lt x) zz
    have yX31 : ∀ zz : Later Wa.heap.size Wa, zz.val.cell? ⟨w3.heap.size, 1, none⟩ = some (.int .u64 (p3h.toNat : Int)) := fun zz => Later.cell (by rw [blk_cell x]; rfl) (blk_lt x) zz
    have yX32 : ∀ zz : Later Wa.heap.size Wa, zz.val.cell? ⟨w3.heap.size, 2, none⟩ = some (.int .u64 (p3l.toNat : Int)) := fun zz => Later.cell (by rw [blk_cell x]; rfl) (blk_lt x) zz
    have yX33 : ∀ zz : Later Wa.heap.size Wa, zz.val.cell? ⟨w3.heap.size, 3, none⟩ = some (.int .i64 p3n) := fun zz => Later.cell (by rw [blk_cell x]; rfl) (blk_lt x) zz
    clear x
    have x := X4.out
    have yX40 : ∀ zz : Later Wa.heap.size Wa, zz.val.cell? ⟨w4.heap.size, 0, none⟩ = some (.int .u8 (p3f.toNat : Int)) := fun zz => Later.cell (by rw [blk_cell x]; rfl) (blk_lt x) zz
    have yX41 : ∀ zz : Later Wa.heap.size Wa, zz.val.cell? ⟨w4.heap.size, 1, none⟩ = some (.int .u64 (p3h.toNat : Int)) := fun zz => Later.cell (by rw [blk_cell x]; rfl) (blk_lt x) zz
    have yX42 : ∀ zz : Later Wa.heap.size Wa, zz.val.cell? ⟨w4.heap.size, 2, none⟩ = some (.int .u64 (p3l.toNat : Int)) := fun zz => Later.cell (by rw [blk_cell x]; rfl) (blk_lt x) zz
    have yX43 : ∀ zz : Later Wa.heap.size Wa, zz.val.cell? ⟨w4.heap.size, 3, none⟩ = some (.int .i64 p3n) := fun zz => Later.cell (by rw [blk_cell x]; rfl) (blk_lt x) zz
    clear x
    go_wp2_with fail
    try rw [← hW]
    refine wp_region_later Wa.heap.size (by kernel_rfl) (by kernel_rfl) ?_
    repeat (go_big_quiet_step (first
      | (go_at_call 9; (with_reducible exact Later.calls (Nat.le_refl _) (Gp2.out _)))
      | (go_at_call 9; (with_reducible exact Later.calls (Nat.le_refl _) (Gp3.out _)))))
    refine wpQuiet_nil ?_
    rintro wq ⟨zz, rfl⟩
    replace HB := Lib.hid (below_step HB.out zz.prop HB.out.size)
    clear yX10 yX11 yX12 yX13 yX20 yX21 yX22 yX23 yX30 yX31 yX32 yX33 yX40 yX41 yX42 yX43
    obtain ⟨Va, hV⟩ : ∃ V, V = zz.val := ⟨_, rfl⟩
    rw [← hV] at HB ⊢
    clear hV zz hW X1 X2 X3 X4
    go_wp2_with fail
    refine (H5.out _).mono ?_
    rintro e w5 ⟨rfl, hb⟩
    replace HB := Lib.hid (below_step HB.out hb HB.out.size)
    clear hb
    have X5 := Lib.hid (heap_alloc_new w5 (.cells #[.int .u8 (a4f.toNat : Int), .int .u64 (a4h.toNat : Int), .int .u64 (a4l.toNat : Int)] 24 (0, 0)))
    replace HB := Lib.hid (below_alloc1 HB.out HB.out.size (.cells #[.int .u8 (a4f.toNat : Int), .int .u64 (a4h.toNat : Int), .int .u64 (a4l.toNat : Int)] 24 (0, 0)))
    go_wp2_with fail
    refine (H6.out _).mono ?_
    rintro e w6 ⟨rfl, hb⟩
    replace HB := Lib.hid (below_step HB.out hb HB.out.size)
    replace X5 := Lib.hid (blk_kept hb X5.out)
    clear hb
    replace X5 := Lib.hid (blk_alloc X5.out (.cells #[.int .u8 (a4f.toNat : Int), .int .u64 (a4h.toNat : Int), .int .u64 (a4l.toNat : Int)] 27 (0, 0)))
    have X6 := Lib.hid (heap_alloc_new w6 (.cells #[.int .u8 (a4f.toNat : Int), .int .u64 (a4h.toNat : Int), .int .u64 (a4l.toNat : Int)] 27 (0, 0)))
    replace HB := Lib.hid (below_alloc1 HB.out HB.out.size (.cells #[.int .u8 (a4f.toNat : Int), .int .u64 (a4h.toNat : Int), .int .u64 (a4l.toNat : Int)] 27 (0, 0)))
    go_wp2_with fail
    refine (H7.out _).mono ?_
    rintro e w7 ⟨rfl, hb⟩
    replace HB := Lib.hid (below_step HB.out hb HB.out.size)
    replace X5 := Lib.hid (blk_kept hb X5.out)
    replace X6 := Lib.hid (blk_kept hb X6.out)
    clear hb
    replace X5 := Lib.hid (blk_alloc X5.out (.cells #[.int .u8 (a5f.toNat : Int), .int .u64 (a5h.toNat : Int), .int .u64 (a5l.toNat : Int)] 24 (0, 0)))
    replace X6 := Lib.hid (blk_alloc X6.out (.cells #[.int .u8 (a5f.toNat : Int), .int .u64 (a5h.toNat : Int), .int .u64 (a5l.toNat : Int)] 24 (0, 0)))
    have X7 := Lib.hid (heap_alloc_new w7 (.cells #[.int .u8 (a5f.toNat : Int), .int .u64 (a5h.toNat : Int), .int .u64 (a5l.toNat : Int)] 24 (0, 0)))
    replace HB := Lib.hid (below_alloc1 HB.out HB.out.size (.cells #[.int .u8 (a5f.toNat : Int), .int .u64 (a5h.toNat : Int), .int .u64 (a5l.toNat : Int)] 24 (0, 0)))
    go_wp2_with fail
    refine (H8.out _).mono ?_
    rintro e w8 ⟨rfl, hb⟩
    replace HB := Lib.hid (below_step HB.out hb HB.out.size)
    replace X5 := Lib.hid (blk_kept hb X5.out)
    replace X6 := Lib.hid (blk_kept hb X6.out)
    replace X7 := Lib.hid (blk_kept hb X7.out)
    clear hb
    replace X5 := Lib.hid (blk_alloc X5.out (.cells #[.int .u8 (a5f.toNat : Int), .int .u64 (a5h.toNat : Int), .int .u64 (a5l.toNat : Int)] 27 (0, 0)))
    replace X6 := Lib.hid (blk_alloc X6.out (.cells #[.int .u8 (a5f.toNat : Int), .int .u64 (a5h.toNat : Int), .int .u64 (a5l.toNat : Int)] 27 (0, 0)))
    replace X7 := Lib.hid (blk_alloc X7.out (.cells #[.int .u8 (a5f.toNat : Int), .int .u64 (a5h.toNat : Int), .int .u64 (a5l.toNat : Int)] 27 (0, 0)))
    have X8 := Lib.hid (heap_alloc_new w8 (.cells #[.int .u8 (a5f.toNat : Int), .int .u64 (a5h.toNat : Int), .int .u64 (a5l.toNat : Int)] 27 (0, 0)))
    replace HB := Lib.hid (below_alloc1 HB.out HB.out.size (.cells #[.int .u8 (a5f.toNat : Int), .int .u64 (a5h.toNat : Int), .int .u64 (a5l.toNat : Int)] 27 (0, 0)))
    obtain ⟨Wb, hW⟩ : ∃ W, W = w8.alloc (.cells #[.int .u8 (a5f.toNat : Int), .int .u64 (a5h.toNat : Int), .int .u64 (a5l.toNat : Int)] 27 (0, 0)) := ⟨_, rfl⟩
    rw [← hW] at HB X5 X6 X7 X8
    have x := X5.out
    have yX50 : ∀ zz : Later Wb.heap.size Wb, zz.val.cell? ⟨w5.heap.size, 0, none⟩ = some (.int .u8 (a4f.toNat : Int)) := fun zz => Later.cell (by rw [blk_cell x]; rfl) (blk_lt x) zz
    have yX51 : ∀ zz : Later Wb.heap.size Wb, zz.val.cell? ⟨w5.heap.size, 1, none⟩ = some (.int .u64 (a4h.toNat : Int)) := fun zz => Later.cell (by rw [blk_cell x]; rfl) (blk_lt x) zz
    have yX52 : ∀ zz : Later Wb.heap.size Wb, zz.val.cell? ⟨w5.heap.size, 2, none⟩ = some (.int .u64 (a4l.toNat : Int)) := fun zz => Later.cell (by rw [blk_cell x]; rfl) (blk_lt x) zz
    clear x
    have x := X6.out
    have yX60 : ∀ zz : Later Wb.heap.size Wb, zz.val.cell? ⟨w6.heap.size, 0, none⟩ = some (.int .u8 (a4f.toNat : Int)) := fun zz => Later.cell (by rw [blk_cell x]; rfl) (blk_lt x) zz
    have yX61 : ∀ zz : Later Wb.heap.size Wb, zz.val.cell? ⟨w6.heap.size, 1, none⟩ = some (.int .u64 (a4h.toNat : Int)) := fun zz => Later.cell (by rw [blk_cell x]; rfl) (blk_lt x) zz
    have yX62 : ∀ zz : Later Wb.heap.size Wb, zz.val.cell? ⟨w6.heap.size, 2, none⟩ = some (.int .u64 (a4l.toNat : Int)) := fun zz => Later.cell (by rw [blk_cell x]; rfl) (blk_lt x) zz
    clear x
    have x := X7.out
    have yX70 : ∀ zz : Later Wb.heap.size Wb, zz.val.cell? ⟨w7.heap.size, 0, none⟩ = some (.int .u8 (a5f.toNat : Int)) := fun zz => Later.cell (by rw [blk_cell x]; rfl) (blk_lt x) zz
    have yX71 : ∀ zz : Later Wb.heap.size Wb, zz.val.cell? ⟨w7.heap.size, 1, none⟩ = some (.int .u64 (a5h.toNat : Int)) := fun zz => Later.cell (by rw [blk_cell x]; rfl) (blk_lt x) zz
    have yX72 : ∀ zz : Later Wb.heap.size Wb, zz.val.cell? ⟨w7.heap.size, 2, none⟩ = some (.int .u64 (a5l.toNat : Int)) := fun zz => Later.cell (by rw [blk_cell x]; rfl) (blk_lt x) zz
    clear x
    have x := X8.out
    have yX80 : ∀ zz : Later Wb.heap.size Wb, zz.val.cell? ⟨w8.heap.size, 0, none⟩ = some (.int .u8 (a5f.toNat : Int)) := fun zz => Later.cell (by rw [blk_cell x]; rfl) (blk_lt x) zz
    have yX81 : ∀ zz : Later Wb.heap.size Wb, zz.val.cell? ⟨w8.heap.size, 1, none⟩ = some (.int .u64 (a5h.toNat : Int)) := fun zz => Later.cell (by rw [blk_cell x]; rfl) (blk_lt x) zz
    have yX82 : ∀ zz : Later Wb.heap.size Wb, zz.val.cell? ⟨w8.heap.size, 2, none⟩ = some (.int .u64 (a5l.toNat : Int)) := fun zz => Later.cell (by rw [blk_cell x]; rfl) (blk_lt x) zz
    clear x
    go_wp2_with fail
    try rw [← hW]
    refine wp_region_later Wb.heap.size (by kernel_rfl) (by kernel_rfl) ?_
    repeat (go_big_quiet_step (first
      | (go_at_call 10; (with_reducible exact Later.calls (Nat.le_refl _) (Ga4.out _)))
      | (go_at_call 10; (with_reducible exact Later.calls (Nat.le_refl _) (Ga5.out _)))))
    refine wpQuiet_nil ?_
    rintro wq ⟨zz, rfl⟩
    replace HB := Lib.hid (below_step HB.out zz.prop HB.out.size)
    clear yX50 yX51 yX52 yX60 yX61 yX62 yX70 yX71 yX72 yX80 yX81 yX82
    obtain ⟨Vb, hV⟩ : ∃ V, V = zz.val := ⟨_, rfl⟩
    rw [← hV] at HB ⊢
    clear hV zz hW X5 X6 X7 X8
    go_wp2_with fail
    refine (H9.out _).mono ?_
    rintro e w9 ⟨rfl, hb⟩
    replace HB := Lib.hid (below_step HB.out hb HB.out.size)
    clear hb
    have X9 := Lib.hid (heap_alloc_new w9 (.cells #[.int .u8 (a6f.toNat : Int), .int .u64 (a6h.toNat : Int), .int .u64 (a6l.toNat : Int)] 24 (0, 0)))
    replace HB := Lib.hid (below_alloc1 HB.out HB.out.size (.cells #[.int .u8 (a6f.toNat : Int), .int .u64 (a6h.toNat : Int), .int .u64 (a6l.toNat : Int)] 24 (0, 0)))
    go_wp2_with fail
    refine (H10.out _).mono ?_
    rintro e w10 ⟨rfl, hb⟩
    replace HB := Lib.hid (below_step HB.out hb HB.out.size)
    replace X9 := Lib.hid (blk_kept hb X9.out)
    clear hb
    replace X9 := Lib.hid (blk_alloc X9.out (.cells #[.int .u8 (a6f.toNat : Int), .int .u64 (a6h.toNat : Int), .int .u64 (a6l.toNat : Int)] 27 (0, 0)))
    have X10 := Lib.hid (heap_alloc_new w10 (.cells #[.int .u8 (a6f.toNat : Int), .int .u64 (a6h.toNat : Int), .int .u64 (a6l.toNat : Int)] 27 (0, 0)))
    replace HB := Lib.hid (below_alloc1 HB.out HB.out.size (.cells #[.int .u8 (a6f.toNat : Int), .int .u64 (a6h.toNat : Int), .int .u64 (a6l.toNat : Int)] 27 (0, 0)))
    go_wp2_with fail
    refine (H11.out _).mono ?_
    rintro e w11 ⟨rfl, hb⟩
    replace HB := Lib.hid (below_step HB.out hb HB.out.size)
    replace X9 := Lib.hid (blk_kept hb X9.out)
    replace X10 := Lib.hid (blk_kept hb X10.out)
    clear hb
    go_wp2_with fail
    refine (H12.out _).mono ?_
    rintro e w12 ⟨rfl, hb⟩
    replace HB := Lib.hid (below_step HB.out hb HB.out.size)
    replace X9 := Lib.hid (blk_kept hb X9.out)
    replace X10 := Lib.hid (blk_kept hb X10.out)
    clear hb
    obtain ⟨Wc, hW⟩ : ∃ W, W = w12 := ⟨_, rfl⟩
    rw [← hW] at HB X9 X10
    have x := X9.out
    have yX90 : ∀ zz : Later Wc.heap.size Wc, zz.val.cell? ⟨w9.heap.size, 0, none⟩ = some (.int .u8 (a6f.toNat : Int)) := fun zz => Later.cell (by rw [blk_cell x]; rfl) (blk_lt x) zz
    have yX91 : ∀ zz : Later Wc.heap.size Wc, zz.val.cell? ⟨w9.heap.size, 1, none⟩ = some (.int .u64 (a6h.toNat : Int)) := fun zz => Later.cell (by rw [blk_cell x]; rfl) (blk_lt x) zz
    have yX92 : ∀ zz : Later Wc.heap.size Wc, zz.val.cell? ⟨w9.heap.size, 2, none⟩ = some (.int .u64 (a6l.toNat : Int)) := fun zz => Later.cell (by rw [blk_cell x]; rfl) (blk_lt x) zz
    clear x
    have x := X10.out
    have yX100 : ∀ zz : Later Wc.heap.size Wc, zz.val.cell? ⟨w10.heap.size, 0, none⟩ = some (.int .u8 (a6f.toNat : Int)) := fun zz => Later.cell (by rw [blk_cell x]; rfl) (blk_lt x) zz
    have yX101 : ∀ zz : Later Wc.heap.size Wc, zz.val.cell? ⟨w10.heap.size, 1, none⟩ = some (.int .u64 (a6h.toNat : Int)) := fun zz => Later.cell (by rw [blk_cell x]; rfl) (blk_lt x) zz
    have yX102 : ∀ zz : Later Wc.heap.size Wc, zz.val.cell? ⟨w10.heap.size, 2, none⟩ = some (.int .u64 (a6l.toNat : Int)) := fun zz => Later.cell (by rw [blk_cell x]; rfl) (blk_lt x) zz
    clear x
    have HMQ := Lib.hid (fun (zz : Later Wc.heap.size Wc) => max_kept HM.out (below_step HB.out zz.prop HB.out.size))
    go_wp2_with fail
    try rw [← hW]
    refine wp_region_later Wc.heap.size (by kernel_rfl) (by kernel_rfl) ?_
    repeat (go_big_quiet_step (first
      | (go_at_call 10; (with_reducible exact Later.calls (Nat.le_refl _) (Ga6.out _)))
      | (go_at_call 23; (with_reducible exact Later.calls (Nat.le_refl _) (HAW.out _ (HMQ.out _))))))
    refine wpQuiet_nil ?_
    rintro wq ⟨zz, rfl⟩
    replace HB := Lib.hid (below_step HB.out zz.prop HB.out.size)
    clear yX90 yX91 yX92 yX100 yX101 yX102 HMQ
    obtain ⟨Vc, hV⟩ : ∃ V, V = zz.val := ⟨_, rfl⟩
    rw [← hV] at HB ⊢
    clear hV zz hW X9 X10
    go_wp2_with fail
    go_ret
    exact ⟨rfl, HB.out⟩
end Go.Proofs.Tryd.Rows
