/- The laws of rows: RowsApart's walk. -/
import Derived.Test.YtccopljpceolcaaDoorRpO
import Derived.Test.YtccopljpceolcaaDoorMF
import Derived.Deep.RegionHeldLaw
import Derived.Deep.DeepCutAuto
import Derived.Deep.CutBlock
set_option linter.unusedVariables false
set_option linter.unusedSimpArgs false
set_option maxRecDepth 100000
namespace Go.Proofs.Tryd.Rows
open Go.RowKit Go.Cph Go.Cph.Ok Go.Proofs.Tryd.Nu Go.Proofs.Tryd.Ok
open Go.Cph.Px (Ad Pf rightA bytesA rightP fromB fromOk lessA before)
open Go.Proofs.Tryd.Pfx (encA bcell)
theorem ba_ne3 {a b : ByteArray} (h : ¬ a = b) : (a.toList == b.toList) = false := by
  refine beq_eq_false_iff_ne.2 fun e => h (list_eq ?_)
  rw [← ByteArray.toList_eq, ← ByteArray.toList_eq, e]
theorem hold_eq {k : UInt64} {p q : Pf} (hp : rightP p = true) (hq : rightP q = true) : ((keyP k p).toList == (keyP k q).toList) = (p == q) := by
  by_cases h : p = q
  · rw [h]; simp
  · rw [ba_ne3 (fun e => h (keyP_inj hp hq e)), beq_eq_false_iff_ne.2 h]
theorem run_neqP26 (p : Pf) (w : World) : (binOp .neq 26 (Pfx.encP p) (Pfx.encP p)).run Tryd.prog w = .ok (.bool false) w := by
  go_simp
theorem run_eqlP26 (p q : Pf) (w : World) : (binOp .eql 26 (Pfx.encP p) (Pfx.encP q)).run Tryd.prog w = .ok (.bool (p == q)) w := by
  have hb : (p == q) = ((p.1.1.toNat : Int) == q.1.1.toNat && ((p.1.2.1.toNat : Int) == q.1.2.1.toNat && ((p.1.2.2.toNat : Int) == q.1.2.2.toNat && (p.2 == q.2)))) := by
    rw [Bool.eq_iff_iff, Pfx.pf_eq]
    simp only [Bool.and_eq_true, beq_iff_eq]
  rw [hb]
  cases b0 : ((p.1.1.toNat : Int) == q.1.1.toNat) <;> cases b1 : ((p.1.2.1.toNat : Int) == q.1.2.1.toNat) <;> cases b2 : ((p.1.2.2.toNat : Int) == q.1.2.2.toNat) <;> cases b3 : (p.2 == q.2) <;> go_simp
theorem run_neqA24 (a : Ad) (w : World) : (binOp .neq 24 (encA a) (encA a)).run Tryd.prog w = .ok (.bool false) w := by
  go_simp
theorem run_eqlA24 (p q : Ad) (w : World) : (binOp .eql 24 (encA p) (encA q)).run Tryd.prog w = .ok (.bool (p == q)) w := by
  have hb : (p == q) = ((p.1.toNat : Int) == q.1.toNat && ((p.2.1.toNat : Int) == q.2.1.toNat && ((p.2.2.toNat : Int) == q.2.2.toNat))) := by
    rw [Bool.eq_iff_iff, Pfx.ad_eq]
    simp only [Bool.and_eq_true, beq_iff_eq]
  rw [hb]
  cases b0 : ((p.1.toNat : Int) == q.1.toNat) <;> cases b1 : ((p.2.1.toNat : Int) == q.2.1.toNat) <;> cases b2 : ((p.2.2.toNat : Int) == q.2.2.toNat) <;> go_simp
set_option maxHeartbeats 32000000 in
theorem apart_law (p q : Pf) (a b : Ad) (n m' : UInt64) (c : UInt8) (m : Int) (w : World) (hm : MaxAt m w) :
    Calls Tryd.prog 8 #[Pfx.encP p, Pfx.encP q, encA a, encA b, .int .u64 (n.toNat : Int), .int .u64 (m'.toNat : Int), .int .u8 (c.toNat : Int)] w fun e w' => e = .returned (.bool true) ∧ Below w.heap.size w w' := by
  have HM := Lib.hid hm
  obtain ⟨⟨pf, ph, pl⟩, pn⟩ := p
  obtain ⟨⟨qf, qh, ql⟩, qn⟩ := q
  obtain ⟨af, ah, al⟩ := a
  obtain ⟨bf, bh, bl⟩ := b
  obtain ⟨W0, hW0⟩ : ∃ W, W = (((w.alloc (.cells #[.int .u8 (pf.toNat : Int), .int .u64 (ph.toNat : Int), .int .u64 (pl.toNat : Int), .int .i64 pn] 26 (0, 0))).alloc (.cells #[.int .u8 (qf.toNat : Int), .int .u64 (qh.toNat : Int), .int .u64 (ql.toNat : Int), .int .i64 qn] 26 (0, 0))).alloc (.cells #[.int .u8 (af.toNat : Int), .int .u64 (ah.toNat : Int), .int .u64 (al.toNat : Int)] 24 (0, 0))).alloc (.cells #[.int .u8 (bf.toNat : Int), .int .u64 (bh.toNat : Int), .int .u64 (bl.toNat : Int)] 24 (0, 0)) := ⟨_, rfl⟩
  have HBW := Lib.hid (show Below w.heap.size w W0 from by rw [hW0]; exact below_alloc2 (below_alloc2 (Below.refl _ _) (Nat.le_refl _) _ _) (below_alloc2 (Below.refl _ _) (Nat.le_refl _) _ _).size _ _)
  have HX := Lib.hid (show W0.heap[w.heap.size]? = some (.cells #[.int .u8 (pf.toNat : Int), .int .u64 (ph.toNat : Int), .int .u64 (pl.toNat : Int), .int .i64 pn] 26 (0, 0)) ∧ W0.heap[w.heap.size + 1]? = some (.cells #[.int .u8 (qf.toNat : Int), .int .u64 (qh.toNat : Int), .int .u64 (ql.toNat : Int), .int .i64 qn] 26 (0, 0)) ∧ W0.heap[w.heap.size + 1 + 1]? = some (.cells #[.int .u8 (af.toNat : Int), .int .u64 (ah.toNat : Int), .int .u64 (al.toNat : Int)] 24 (0, 0)) ∧ W0.heap[w.heap.size + 1 + 1 + 1]? = some (.cells #[.int .u8 (bf.toNat : Int), .int .u64 (bh.toNat : Int), .int .u64 (bl.toNat : Int)] 24 (0, 0)) from by
    rw [hW0]
    have s1 : (w.alloc (.cells #[.int .u8 (pf.toNat : Int), .int .u64 (ph.toNat : Int), .int .u64 (pl.toNat : Int), .int .i64 pn] 26 (0, 0))).heap.size = w.heap.size + 1 := World.size_alloc _ _
    have s2 : ((w.alloc (.cells #[.int .u8 (pf.toNat : Int), .int .u64 (ph.toNat : Int), .int .u64 (pl.toNat : Int), .int .i64 pn] 26 (0, 0))).alloc (.cells #[.int .u8 (qf.toNat : Int), .int .u64 (qh.toNat : Int), .int .u64 (ql.toNat : Int), .int .i64 qn] 26 (0, 0))).heap.size = w.heap.size + 1 + 1 := by rw [World.size_alloc, s1]
    have s3 : (((w.alloc (.cells #[.int .u8 (pf.toNat : Int), .int .u64 (ph.toNat : Int), .int .u64 (pl.toNat : Int), .int .i64 pn] 26 (0, 0))).alloc (.cells #[.int .u8 (qf.toNat : Int), .int .u64 (qh.toNat : Int), .int .u64 (ql.toNat : Int), .int .i64 qn] 26 (0, 0))).alloc (.cells #[.int .u8 (af.toNat : Int), .int .u64 (ah.toNat : Int), .int .u64 (al.toNat : Int)] 24 (0, 0))).heap.size = w.heap.size + 1 + 1 + 1 := by rw [World.size_alloc, s2]
    refine ⟨blk_alloc (blk_alloc (blk_alloc (heap_alloc_new w _) _) _) _, ?_, ?_, ?_⟩
    · have h := heap_alloc_new (w.alloc (.cells #[.int .u8 (pf.toNat : Int), .int .u64 (ph.toNat : Int), .int .u64 (pl.toNat : Int), .int .i64 pn] 26 (0, 0))) (.cells #[.int .u8 (qf.toNat : Int), .int .u64 (qh.toNat : Int), .int .u64 (ql.toNat : Int), .int .i64 qn] 26 (0, 0))
      rw [s1] at h
      exact blk_alloc (blk_alloc h _) _
    · have h := heap_alloc_new ((w.alloc (.cells #[.int .u8 (pf.toNat : Int), .int .u64 (ph.toNat : Int), .int .u64 (pl.toNat : Int), .int .i64 pn] 26 (0, 0))).alloc (.cells #[.int .u8 (qf.toNat : Int), .int .u64 (qh.toNat : Int), .int .u64 (ql.toNat : Int), .int .i64 qn] 26 (0, 0))) (.cells #[.int .u8 (af.toNat : Int), .int .u64 (ah.toNat : Int), .int .u64 (al.toNat : Int)] 24 (0, 0))
      rw [s2] at h
      exact blk_alloc h _
    · have h := heap_alloc_new (((w.alloc (.cells #[.int .u8 (pf.toNat : Int), .int .u64 (ph.toNat : Int), .int .u64 (pl.toNat : Int), .int .i64 pn] 26 (0, 0))).alloc (.cells #[.int .u8 (qf.toNat : Int), .int .u64 (qh.toNat : Int), .int .u64 (ql.toNat : Int), .int .i64 qn] 26 (0, 0))).alloc (.cells #[.int .u8 (af.toNat : Int), .int .u64 (ah.toNat : Int), .int .u64 (al.toNat : Int)] 24 (0, 0))) (.cells #[.int .u8 (bf.toNat : Int), .int .u64 (bh.toNat : Int), .int .u64 (bl.toNat : Int)] 24 (0, 0))
      rw [s3] at h
      exact h)
  have HXK := Lib.hid (fun W (hb : Below W0.heap.size W0 W) => show W.heap[w.heap.size]? = some (.cells #[.int .u8 (pf.toNat : Int), .int .u64 (ph.toNat : Int), .int .u64 (pl.toNat : Int), .int .i64 pn] 26 (0, 0)) ∧ W.heap[w.heap.size + 1]? = some (.cells #[.int .u8 (qf.toNat : Int), .int .u64 (qh.toNat : Int), .int .u64 (ql.toNat : Int), .int .i64 qn] 26 (0, 0)) ∧ W.heap[w.heap.size + 1 + 1]? = some (.cells #[.int .u8 (af.toNat : Int), .int .u64 (ah.toNat : Int), .int .u64 (al.toNat : Int)] 24 (0, 0)) ∧ W.heap[w.heap.size + 1 + 1 + 1]? = some (.cells #[.int .u8 (bf.toNat : Int), .int .u64 (bh.toNat : Int), .int .u64 (bl.toNat : Int)] 24 (0, 0)) from ⟨blk_kept hb HX.out.1, blk_kept hb HX.out.2.1, blk_kept hb HX.out.2.2.1, blk_kept hb HX.out.2.2.2⟩)
  have HMK := Lib.hid (fun W (hb : Below W0.heap.size W0 W) => max_kept HM.out (below_step HBW.out hb HBW.out.size))
  have HWK := Lib.hid (fun W (hb : Below W0.heap.size W0 W) => below_step HBW.out hb HBW.out.size)
  have HR0 := Lib.hid (Below.refl W0.heap.size W0)
  obtain ⟨K0, hK0⟩ : ∃ K, K = clockK := ⟨_, rfl⟩
  have HK0 := Lib.hid hK0
  obtain ⟨K1, hK1⟩ : ∃ K, K = keyP 2 ((pf, ph, pl), pn) := ⟨_, rfl⟩
  have HK1 := Lib.hid hK1
  obtain ⟨K2, hK2⟩ : ∃ K, K = keyP 3 ((pf, ph, pl), pn) := ⟨_, rfl⟩
  have HK2 := Lib.hid hK2
  obtain ⟨K3, hK3⟩ : ∃ K, K = keyA 4 (af, ah, al) [] := ⟨_, rfl⟩
  have HK3 := Lib.hid hK3
  obtain ⟨K4, hK4⟩ : ∃ K, K = keyA 5 (af, ah, al) [] := ⟨_, rfl⟩
  have HK4 := Lib.hid hK4
  obtain ⟨K5, hK5⟩ : ∃ K, K = keyA 6 (af, ah, al) [n] := ⟨_, rfl⟩
  have HK5 := Lib.hid hK5
  obtain ⟨K6, hK6⟩ : ∃ K, K = clientK c := ⟨_, rfl⟩
  have HK6 := Lib.hid hK6
  obtain ⟨L1, hL1⟩ : ∃ K, K = keyP 2 ((qf, qh, ql), qn) := ⟨_, rfl⟩
  have HL1 := Lib.hid hL1
  obtain ⟨L2, hL2⟩ : ∃ K, K = keyP 3 ((qf, qh, ql), qn) := ⟨_, rfl⟩
  have HL2 := Lib.hid hL2
  obtain ⟨L3, hL3⟩ : ∃ K, K = keyA 4 (bf, bh, bl) [] := ⟨_, rfl⟩
  have HL3 := Lib.hid hL3
  obtain ⟨L5, hL5⟩ : ∃ K, K = keyA 6 (bf, bh, bl) [m'] := ⟨_, rfl⟩
  have HL5 := Lib.hid hL5
  have C0 := Lib.hid (fun (W : World) (h : MaxAt m W) => show Calls Tryd.prog 21 #[] W (fun e w' => e = .returned (.string K0) ∧ Below W.heap.size W w') from by rw [HK0.out]; exact clockKey m W h)
  have C1 := Lib.hid (fun (W : World) (h : MaxAt m W) => show Calls Tryd.prog 11 #[.agg #[.int .u8 (pf.toNat : Int), .int .u64 (ph.toNat : Int), .int .u64 (pl.toNat : Int), .int .i64 pn]] W (fun e w' => e = .returned (.string K1) ∧ Below W.heap.size W w') from by rw [HK1.out]; exact poolKey ((pf, ph, pl), pn) m W h)
  have C2 := Lib.hid (fun (W : World) (h : MaxAt m W) => show Calls Tryd.prog 13 #[.agg #[.int .u8 (pf.toNat : Int), .int .u64 (ph.toNat : Int), .int .u64 (pl.toNat : Int), .int .i64 pn]] W (fun e w' => e = .returned (.string K2) ∧ Below W.heap.size W w') from by rw [HK2.out]; exact holdKey ((pf, ph, pl), pn) m W h)
  have C3 := Lib.hid (fun (W : World) (h : MaxAt m W) => show Calls Tryd.prog 14 #[.agg #[.int .u8 (af.toNat : Int), .int .u64 (ah.toNat : Int), .int .u64 (al.toNat : Int)]] W (fun e w' => e = .returned (.string K3) ∧ Below W.heap.size W w') from by rw [HK3.out]; exact leaseKey (af, ah, al) m W h)
  have C4 := Lib.hid (fun (W : World) (h : MaxAt m W) => show Calls Tryd.prog 16 #[.agg #[.int .u8 (af.toNat : Int), .int .u64 (ah.toNat : Int), .int .u64 (al.toNat : Int)]] W (fun e w' => e = .returned (.string K4) ∧ Below W.heap.size W w') from by rw [HK4.out]; exact countKey (af, ah, al) m W h)
  have C5 := Lib.hid (fun (W : World) (h : MaxAt m W) => show Calls Tryd.prog 17 #[.agg #[.int .u8 (af.toNat : Int), .int .u64 (ah.toNat : Int), .int .u64 (al.toNat : Int)], .int .u64 (n.toNat : Int)] W (fun e w' => e = .returned (.string K5) ∧ Below W.heap.size W w') from by rw [HK5.out]; exact eventKey (af, ah, al) n m W h)
  have C6 := Lib.hid (fun (W : World) (h : MaxAt m W) => show Calls Tryd.prog 19 #[.int .u8 (c.toNat : Int)] W (fun e w' => e = .returned (.string K6) ∧ Below W.heap.size W w') from by rw [HK6.out]; exact clientKey c m W h)
  have D1 := Lib.hid (fun (W : World) (h : MaxAt m W) => show Calls Tryd.prog 11 #[.agg #[.int .u8 (qf.toNat : Int), .int .u64 (qh.toNat : Int), .int .u64 (ql.toNat : Int), .int .i64 qn]] W (fun e w' => e = .returned (.string L1) ∧ Below W.heap.size W w') from by rw [HL1.out]; exact poolKey ((qf, qh, ql), qn) m W h)
  have D2 := Lib.hid (fun (W : World) (h : MaxAt m W) => show Calls Tryd.prog 13 #[.agg #[.int .u8 (qf.toNat : Int), .int .u64 (qh.toNat : Int), .int .u64 (ql.toNat : Int), .int .i64 qn]] W (fun e w' => e = .returned (.string L2) ∧ Below W.heap.size W w') from by rw [HL2.out]; exact holdKey ((qf, qh, ql), qn) m W h)
  have D3 := Lib.hid (fun (W : World) (h : MaxAt m W) => show Calls Tryd.prog 14 #[.agg #[.int .u8 (bf.toNat : Int), .int .u64 (bh.toNat : Int), .int .u64 (bl.toNat : Int)]] W (fun e w' => e = .returned (.string L3) ∧ Below W.heap.size W w') from by rw [HL3.out]; exact leaseKey (bf, bh, bl) m W h)
  have D5 := Lib.hid (fun (W : World) (h : MaxAt m W) => show Calls Tryd.prog 17 #[.agg #[.int .u8 (bf.toNat : Int), .int .u64 (bh.toNat : Int), .int .u64 (bl.toNat : Int)], .int .u64 (m'.toNat : Int)] W (fun e w' => e = .returned (.string L5) ∧ Below W.heap.size W w') from by rw [HL5.out]; exact eventKey (bf, bh, bl) m' m W h)
  have RP := Lib.hid (fun (W : World) => show Calls Tryd.prog 52 #[.agg #[.int .u8 (pf.toNat : Int), .int .u64 (ph.toNat : Int), .int .u64 (pl.toNat : Int), .int .i64 pn]] W (fun e w' => e = .returned (.bool (rightP ((pf, ph, pl), pn))) ∧ Below W.heap.size W w') from Pfx.rightP_any ((pf, ph, pl), pn) W)
  have RQ := Lib.hid (fun (W : World) => show Calls Tryd.prog 52 #[.agg #[.int .u8 (qf.toNat : Int), .int .u64 (qh.toNat : Int), .int .u64 (ql.toNat : Int), .int .i64 qn]] W (fun e w' => e = .returned (.bool (rightP ((qf, qh, ql), qn))) ∧ Below W.heap.size W w') from Pfx.rightP_any ((qf, qh, ql), qn) W)
  have RA := Lib.hid (fun (W : World) => show Calls Tryd.prog 53 #[.agg #[.int .u8 (af.toNat : Int), .int .u64 (ah.toNat : Int), .int .u64 (al.toNat : Int)]] W (fun e w' => e = .returned (.bool (rightA (af, ah, al))) ∧ Below W.heap.size W w') from Pfx.right (af, ah, al) W)
  have RB := Lib.hid (fun (W : World) => show Calls Tryd.prog 53 #[.agg #[.int .u8 (bf.toNat : Int), .int .u64 (bh.toNat : Int), .int .u64 (bl.toNat : Int)]] W (fun e w' => e = .returned (.bool (rightA (bf, bh, bl))) ∧ Below W.heap.size W w') from Pfx.right (bf, bh, bl) W)
  have BP := Lib.hid (fun (W : World) => show Calls Tryd.prog 54 #[.agg #[.int .u8 (pf.toNat : Int), .int .u64 (ph.toNat : Int), .int .u64 (pl.toNat : Int), .int .i64 pn], .agg #[.int .u8 (qf.toNat : Int), .int .u64 (qh.toNat : Int), .int .u64 (ql.toNat : Int), .int .i64 qn]] W (fun e w' => e = .returned (.bool (before ((pf, ph, pl), pn) ((qf, qh, ql), qn))) ∧ Below W.heap.size W w') from Pfx.before_any ((pf, ph, pl), pn) ((qf, qh, ql), qn) W)
  have LA := Lib.hid (fun (W : World) => show Calls Tryd.prog 55 #[.agg #[.int .u8 (af.toNat : Int), .int .u64 (ah.toNat : Int), .int .u64 (al.toNat : Int)], .agg #[.int .u8 (bf.toNat : Int), .int .u64 (bh.toNat : Int), .int .u64 (bl.toNat : Int)]] W (fun e w' => e = .returned (.bool (lessA (af, ah, al) (bf, bh, bl))) ∧ Below W.heap.size W w') from Pfx.less (af, ah, al) (bf, bh, bl) W)
  have HAW := Lib.hid (fun (W : World) (h : MaxAt m W) => awake_any m W h)
  have Z0 := Lib.hid (show K0.size ≤ 64 from by rw [hK0]; exact clockK_64)
  have Z1 := Lib.hid (show K1.size ≤ 64 from by rw [hK1]; exact keyP_64 (by decide) _)
  have Z2 := Lib.hid (show K2.size ≤ 64 from by rw [hK2]; exact keyP_64 (by decide) _)
  have Z3 := Lib.hid (show K3.size ≤ 64 from by rw [hK3]; exact keyA_64 (by decide) _ _ (by simp))
  have Z4 := Lib.hid (show K4.size ≤ 64 from by rw [hK4]; exact keyA_64 (by decide) _ _ (by simp))
  have Z5 := Lib.hid (show K5.size ≤ 64 from by rw [hK5]; exact keyA_64 (by decide) _ _ (by simp))
  have Z6 := Lib.hid (show K6.size ≤ 64 from by rw [hK6]; exact clientK_64 c)
  clear hm hK0 hK1 hK2 hK3 hK4 hK5 hK6 hL1 hL2 hL3 hL5
  go_enter Tryd.func8, Tryd.ntmps8
  go_wp2_with fail
  rw [← hW0]
  clear hW0
  have HS := Lib.hid (fun W (hb : Below W0.heap.size W0 W) => show W.cell? ⟨w.heap.size, 0, none⟩ = some (.int .u8 (pf.toNat : Int)) ∧ W.cell? ⟨w.heap.size, 1, none⟩ = some (.int .u64 (ph.toNat : Int)) ∧ W.cell? ⟨w.heap.size, 2, none⟩ = some (.int .u64 (pl.toNat : Int)) ∧ W.cell? ⟨w.heap.size, 3, none⟩ = some (.int .i64 pn) ∧ W.cell? ⟨w.heap.size + 1 + 1, 0, none⟩ = some (.int .u8 (af.toNat : Int)) ∧ W.cell? ⟨w.heap.size + 1 + 1, 1, none⟩ = some (.int .u64 (ah.toNat : Int)) ∧ W.cell? ⟨w.heap.size + 1 + 1, 2, none⟩ = some (.int .u64 (al.toNat : Int)) from ⟨by rw [blk_cell (HXK.out W hb).1]; rfl, by rw [blk_cell (HXK.out W hb).1]; rfl, by rw [blk_cell (HXK.out W hb).1]; rfl, by rw [blk_cell (HXK.out W hb).1]; rfl, by rw [blk_cell (HXK.out W hb).2.2.1]; rfl, by rw [blk_cell (HXK.out W hb).2.2.1]; rfl, by rw [blk_cell (HXK.out W hb).2.2.1]; rfl⟩)
  have HB := Lib.hid (show Below W0.heap.size W0 W0.drew from HR0.out.drew)
  go_cut [15] (fun v15 W => ∃ g, v15 = .slice (some ⟨g, 0, none⟩) 7 7 ∧ W.heap[g]? = some (.cells #[.string K0, .string K1, .string K2, .string K3, .string K4, .string K5, .string K6] 9 (0, 0)) ∧ Below W0.heap.size W0 W)
  case first =>
    go_region_held_law (fun W => W.cell? ⟨w.heap.size, 0, none⟩ = some (.int .u8 (pf.toNat : Int)) ∧ W.cell? ⟨w.heap.size, 1, none⟩ = some (.int .u64 (ph.toNat : Int)) ∧ W.cell? ⟨w.heap.size, 2, none⟩ = some (.int .u64 (pl.toNat : Int)) ∧ W.cell? ⟨w.heap.size, 3, none⟩ = some (.int .i64 pn) ∧ W.cell? ⟨w.heap.size + 1 + 1, 0, none⟩ = some (.int .u8 (af.toNat : Int)) ∧ W.cell? ⟨w.heap.size + 1 + 1, 1, none⟩ = some (.int .u64 (ah.toNat : Int)) ∧ W.cell? ⟨w.heap.size + 1 + 1, 2, none⟩ = some (.int .u64 (al.toNat : Int)))
      (((refine HS.out _ ?_); (first | exact HB.out | exact HB.out.drew | exact HB.out.alloc HB.out.size _)))
      (first
        | (go_at_call 21; refine (C0.out _ (HMK.out _ HB.out)).mono ?_; rintro r u ⟨rfl, hb⟩; replace HB := Lib.hid (HB.out.trans (hb.mono HB.out.size)); clear hb)
        | (go_at_call 11; refine (C1.out _ (HMK.out _ HB.out)).mono ?_; rintro r u ⟨rfl, hb⟩; replace HB := Lib.hid (HB.out.trans (hb.mono HB.out.size)); clear hb)
        | (go_at_call 13; refine (C2.out _ (HMK.out _ HB.out)).mono ?_; rintro r u ⟨rfl, hb⟩; replace HB := Lib.hid (HB.out.trans (hb.mono HB.out.size)); clear hb)
        | (go_at_call 14; refine (C3.out _ (HMK.out _ HB.out)).mono ?_; rintro r u ⟨rfl, hb⟩; replace HB := Lib.hid (HB.out.trans (hb.mono HB.out.size)); clear hb)
        | (go_at_call 16; refine (C4.out _ (HMK.out _ HB.out)).mono ?_; rintro r u ⟨rfl, hb⟩; replace HB := Lib.hid (HB.out.trans (hb.mono HB.out.size)); clear hb)
        | (go_at_call 17; refine (C5.out _ (HMK.out _ HB.out)).mono ?_; rintro r u ⟨rfl, hb⟩; replace HB := Lib.hid (HB.out.trans (hb.mono HB.out.size)); clear hb)
        | (go_at_call 19; refine (C6.out _ (HMK.out _ HB.out)).mono ?_; rintro r u ⟨rfl, hb⟩; replace HB := Lib.hid (HB.out.trans (hb.mono HB.out.size)); clear hb))
    all_goals
      go_wp2_with fail
      go_meet
      case rel => exact ⟨_, rfl, heap_alloc_new _ _, HB.out.alloc HB.out.size _⟩
  case rest =>
    obtain ⟨g, rfl, hk, hb⟩ := hcut
    rename World => W1
    have HK := Lib.hid hk
    have HB1 := Lib.hid hb
    clear HB hk hb HS
    have HKK := Lib.hid (fun W (hb : Below W1.heap.size W1 W) => blk_kept hb HK.out)
    have HB0 := Lib.hid (fun W (hb : Below W1.heap.size W1 W) => below_step HB1.out hb HB1.out.size)
    have HR1 := Lib.hid (Below.refl W1.heap.size W1)
    go_upto_block 0 with (fail)
    go_cut [16] from 16 to 210 (fun v16 W => Below W1.heap.size W1 W)
    case first =>
     go_wp2_with fail
     go_loopw [16] (fun v16 W => ∃ i : Nat, i ≤ 7 ∧ v16 = .int .i64 i ∧ Below W1.heap.size W1 W) (fun v16 _ => 7 - (intOf v16).toNat)
     case atStart => exact ⟨0, by decide, rfl, HR1.out⟩
     case round =>
       obtain ⟨i, hi, rfl, hb⟩ := hrel
       have HR := Lib.hid hb
       clear hb
       have h8 : i = 0 ∨ i = 1 ∨ i = 2 ∨ i = 3 ∨ i = 4 ∨ i = 5 ∨ i = 6 ∨ i = 7 := by omega
       clear hi
       rcases h8 with rfl | rfl | rfl | rfl | rfl | rfl | rfl | rfl
       ·
         clear_value *
         as_aux_lemma =>
           have R0 := Lib.hid (fun (W : World) => show Calls Tryd.prog 30 #[.string K0] W (fun e w' => e = .returned (.tuple #[.agg #[.int .u8 0, .int .u64 0, .int .u64 0, .int .i64 0], .bool false]) ∧ Below W.heap.size W w') from by have h := poolOf K0 W (by have := Z0.out; omega); rw [HK0.out] at h ⊢; rw [prefixK_of (ofK_clock 2 1)] at h; exact h)
           have R1 := Lib.hid (fun (W : World) => show Calls Tryd.prog 32 #[.string K0] W (fun e w' => e = .returned (.tuple #[.agg #[.int .u8 0, .int .u64 0, .int .u64 0, .int .i64 0], .bool false]) ∧ Below W.heap.size W w') from by have h := holdOf K0 W (by have := Z0.out; omega); rw [HK0.out] at h ⊢; rw [prefixK_of (ofK_clock 3 1)] at h; exact h)
           have R2 := Lib.hid (fun (W : World) => show Calls Tryd.prog 33 #[.string K0] W (fun e w' => e = .returned (.tuple #[.agg #[.int .u8 0, .int .u64 0, .int .u64 0], .bool false]) ∧ Below W.heap.size W w') from by have h := leaseOf K0 W (by have := Z0.out; omega); rw [HK0.out] at h ⊢; rw [ofK_clock 4 0] at h; exact h)
           have R3 := Lib.hid (fun (W : World) => show Calls Tryd.prog 35 #[.string K0] W (fun e w' => e = .returned (.tuple #[.agg #[.int .u8 0, .int .u64 0, .int .u64 0], .bool false]) ∧ Below W.heap.size W w') from by have h := countOf K0 W (by have := Z0.out; omega); rw [HK0.out] at h ⊢; rw [ofK_clock 5 0] at h; exact h)
           have R4 := Lib.hid (fun (W : World) => show Calls Tryd.prog 36 #[.string K0] W (fun e w' => e = .returned (.tuple #[.agg #[.int .u8 0, .int .u64 0, .int .u64 0], .int .u64 0, .bool false]) ∧ Below W.heap.size W w') from by have h := eventOf K0 W (by have := Z0.out; omega); rw [HK0.out] at h ⊢; rw [ofK_clock 6 1] at h; exact h)
           have R5 := Lib.hid (fun (W : World) => show Calls Tryd.prog 38 #[.string K0] W (fun e w' => e = .returned (.tuple #[.int .u8 0, .bool false]) ∧ Below W.heap.size W w') from by have h := clientOf K0 W (by have := Z0.out; omega); rw [HK0.out] at h ⊢; rw [client_clock] at h; exact h)
           have z1 : ¬ (64 : Int) < (K0.size : Int) := by have := Z0.out; omega
           have z2 : decide (64 < K0.size) = false := decide_eq_false (by have := Z0.out; omega)
           have kc : wr.cell? ⟨g, 0, none⟩ = some (.string K0) := by rw [blk_cell (HKK.out _ HR.out)]; rfl
           go_wp2_with fail
           refine (R0.out _).mono ?_
           rintro e w1 ⟨rfl, hb⟩
           clear kc
           replace HR := Lib.hid (below_step HR.out hb HR.out.size)
           clear hb
           replace HR := Lib.hid (below_alloc1 HR.out HR.out.size (.cells #[.int .u8 0, .int .u64 0, .int .u64 0, .int .i64 0] 26 (0, 0)))
           have kc : (w1.alloc (.cells #[.int .u8 0, .int .u64 0, .int .u64 0, .int .i64 0] 26 (0, 0))).cell? ⟨g, 0, none⟩ = some (.string K0) := by rw [blk_cell (HKK.out _ HR.out)]; rfl
           go_wp2_with fail
           refine (R1.out _).mono ?_
           rintro e w2 ⟨rfl, hb⟩
           clear kc
           replace HR := Lib.hid (below_step HR.out hb HR.out.size)
           clear hb
           replace HR := Lib.hid (below_alloc1 HR.out HR.out.size (.cells #[.int .u8 0, .int .u64 0, .int .u64 0, .int .i64 0] 26 (0, 0)))
           have kc : (w2.alloc (.cells #[.int .u8 0, .int .u64 0, .int .u64 0, .int .i64 0] 26 (0, 0))).cell? ⟨g, 0, none⟩ = some (.string K0) := by rw [blk_cell (HKK.out _ HR.out)]; rfl
           go_wp2_with fail
           refine (R2.out _).mono ?_
           rintro e w3 ⟨rfl, hb⟩
           clear kc
           replace HR := Lib.hid (below_step HR.out hb HR.out.size)
           clear hb
           replace HR := Lib.hid (below_alloc1 HR.out HR.out.size (.cells #[.int .u8 0, .int .u64 0, .int .u64 0] 24 (0, 0)))
           have kc : (w3.alloc (.cells #[.int .u8 0, .int .u64 0, .int .u64 0] 24 (0, 0))).cell? ⟨g, 0, none⟩ = some (.string K0) := by rw [blk_cell (HKK.out _ HR.out)]; rfl
           go_wp2_with fail
           refine (R3.out _).mono ?_
           rintro e w4 ⟨rfl, hb⟩
           clear kc
           replace HR := Lib.hid (below_step HR.out hb HR.out.size)
           clear hb
           replace HR := Lib.hid (below_alloc1 HR.out HR.out.size (.cells #[.int .u8 0, .int .u64 0, .int .u64 0] 24 (0, 0)))
           have kc : (w4.alloc (.cells #[.int .u8 0, .int .u64 0, .int .u64 0] 24 (0, 0))).cell? ⟨g, 0, none⟩ = some (.string K0) := by rw [blk_cell (HKK.out _ HR.out)]; rfl
           go_wp2_with fail
           refine (R4.out _).mono ?_
           rintro e w5 ⟨rfl, hb⟩
           clear kc
           replace HR := Lib.hid (below_step HR.out hb HR.out.size)
           clear hb
           replace HR := Lib.hid (below_alloc1 HR.out HR.out.size (.cells #[.int .u8 0, .int .u64 0, .int .u64 0] 24 (0, 0)))
           have kc : (w5.alloc (.cells #[.int .u8 0, .int .u64 0, .int .u64 0] 24 (0, 0))).cell? ⟨g, 0, none⟩ = some (.string K0) := by rw [blk_cell (HKK.out _ HR.out)]; rfl
           go_wp2_with fail
           refine (R5.out _).mono ?_
           rintro e w6 ⟨rfl, hb⟩
           clear kc
           replace HR := Lib.hid (below_step HR.out hb HR.out.size)
           clear hb
           go_wp2_with fail
           go_roundw
           case rel => exact ⟨1, by decide, by first | rfl | go_num, HR.out⟩
           case measure => simp [intOf]
       · cases hp : rightP ((pf, ph, pl), pn) with
         | false =>
           clear_value *
           as_aux_lemma =>
             have R0 := Lib.hid (fun (W : World) => show Calls Tryd.prog 30 #[.string K1] W (fun e w' => e = .returned (.tuple #[.agg #[.int .u8 0, .int .u64 0, .int .u64 0, .int .i64 0], .bool false]) ∧ Below W.heap.size W w') from by have h := poolOf K1 W (by have := Z1.out; omega); rw [HK1.out] at h ⊢; rw [prefixK_wrong 2 hp] at h; exact h)
             have R1 := Lib.hid (fun (W : World) => show Calls Tryd.prog 32 #[.string K1] W (fun e w' => e = .returned (.tuple #[.agg #[.int .u8 0, .int .u64 0, .int .u64 0, .int .i64 0], .bool false]) ∧ Below W.heap.size W w') from by have h := holdOf K1 W (by have := Z1.out; omega); rw [HK1.out] at h ⊢; rw [prefixK_other (by decide)] at h; exact h)
             have R2 := Lib.hid (fun (W : World) => show Calls Tryd.prog 33 #[.string K1] W (fun e w' => e = .returned (.tuple #[.agg #[.int .u8 0, .int .u64 0, .int .u64 0], .bool false]) ∧ Below W.heap.size W w') from by have h := leaseOf K1 W (by have := Z1.out; omega); rw [HK1.out] at h ⊢; rw [ofK_keyP (by decide)] at h; exact h)
             have R3 := Lib.hid (fun (W : World) => show Calls Tryd.prog 35 #[.string K1] W (fun e w' => e = .returned (.tuple #[.agg #[.int .u8 0, .int .u64 0, .int .u64 0], .bool false]) ∧ Below W.heap.size W w') from by have h := countOf K1 W (by have := Z1.out; omega); rw [HK1.out] at h ⊢; rw [ofK_keyP (by decide)] at h; exact h)
             have R4 := Lib.hid (fun (W : World) => show Calls Tryd.prog 36 #[.string K1] W (fun e w' => e = .returned (.tuple #[.agg #[.int .u8 0, .int .u64 0, .int .u64 0], .int .u64 0, .bool false]) ∧ Below W.heap.size W w') from by have h := eventOf K1 W (by have := Z1.out; omega); rw [HK1.out] at h ⊢; rw [ofK_keyP (by decide)] at h; exact h)
             have R5 := Lib.hid (fun (W : World) => show Calls Tryd.prog 38 #[.string K1] W (fun e w' => e = .returned (.tuple #[.int .u8 0, .bool false]) ∧ Below W.heap.size W w') from by have h := clientOf K1 W (by have := Z1.out; omega); rw [HK1.out] at h ⊢; rw [client_keyP _ _] at h; exact h)
             rw [hp] at RP
             clear hp
             have z1 : ¬ (64 : Int) < (K1.size : Int) := by have := Z1.out; omega
             have z2 : decide (64 < K1.size) = false := decide_eq_false (by have := Z1.out; omega)
             have kc : wr.cell? ⟨g, 1, none⟩ = some (.string K1) := by rw [blk_cell (HKK.out _ HR.out)]; rfl
             go_wp2_with fail
             refine (R0.out _).mono ?_
             rintro e w1 ⟨rfl, hb⟩
             clear kc
             replace HR := Lib.hid (below_step HR.out hb HR.out.size)
             clear hb
             replace HR := Lib.hid (below_alloc1 HR.out HR.out.size (.cells #[.int .u8 0, .int .u64 0, .int .u64 0, .int .i64 0] 26 (0, 0)))
             have kc : (w1.alloc (.cells #[.int .u8 0, .int .u64 0, .int .u64 0, .int .i64 0] 26 (0, 0))).cell? ⟨g, 1, none⟩ = some (.string K1) := by rw [blk_cell (HKK.out _ HR.out)]; rfl
             go_wp2_with fail
             refine (R1.out _).mono ?_
             rintro e w2 ⟨rfl, hb⟩
             clear kc
             replace HR := Lib.hid (below_step HR.out hb HR.out.size)
             clear hb
             replace HR := Lib.hid (below_alloc1 HR.out HR.out.size (.cells #[.int .u8 0, .int .u64 0, .int .u64 0, .int .i64 0] 26 (0, 0)))
             have kc : (w2.alloc (.cells #[.int .u8 0, .int .u64 0, .int .u64 0, .int .i64 0] 26 (0, 0))).cell? ⟨g, 1, none⟩ = some (.string K1) := by rw [blk_cell (HKK.out _ HR.out)]; rfl
             go_wp2_with fail
             refine (R2.out _).mono ?_
             rintro e w3 ⟨rfl, hb⟩
             clear kc
             replace HR := Lib.hid (below_step HR.out hb HR.out.size)
             clear hb
             replace HR := Lib.hid (below_alloc1 HR.out HR.out.size (.cells #[.int .u8 0, .int .u64 0, .int .u64 0] 24 (0, 0)))
             have kc : (w3.alloc (.cells #[.int .u8 0, .int .u64 0, .int .u64 0] 24 (0, 0))).cell? ⟨g, 1, none⟩ = some (.string K1) := by rw [blk_cell (HKK.out _ HR.out)]; rfl
             go_wp2_with fail
             refine (R3.out _).mono ?_
             rintro e w4 ⟨rfl, hb⟩
             clear kc
             replace HR := Lib.hid (below_step HR.out hb HR.out.size)
             clear hb
             replace HR := Lib.hid (below_alloc1 HR.out HR.out.size (.cells #[.int .u8 0, .int .u64 0, .int .u64 0] 24 (0, 0)))
             have kc : (w4.alloc (.cells #[.int .u8 0, .int .u64 0, .int .u64 0] 24 (0, 0))).cell? ⟨g, 1, none⟩ = some (.string K1) := by rw [blk_cell (HKK.out _ HR.out)]; rfl
             go_wp2_with fail
             refine (R4.out _).mono ?_
             rintro e w5 ⟨rfl, hb⟩
             clear kc
             replace HR := Lib.hid (below_step HR.out hb HR.out.size)
             clear hb
             replace HR := Lib.hid (below_alloc1 HR.out HR.out.size (.cells #[.int .u8 0, .int .u64 0, .int .u64 0] 24 (0, 0)))
             have kc : (w5.alloc (.cells #[.int .u8 0, .int .u64 0, .int .u64 0] 24 (0, 0))).cell? ⟨g, 1, none⟩ = some (.string K1) := by rw [blk_cell (HKK.out _ HR.out)]; rfl
             go_wp2_with fail
             refine (R5.out _).mono ?_
             rintro e w6 ⟨rfl, hb⟩
             clear kc
             replace HR := Lib.hid (below_step HR.out hb HR.out.size)
             clear hb
             have y0 : w6.cell? ⟨w.heap.size, 0, none⟩ = some (.int .u8 (pf.toNat : Int)) := by rw [blk_cell (HXK.out _ (HB0.out _ HR.out)).1]; rfl
             have y1 : w6.cell? ⟨w.heap.size, 1, none⟩ = some (.int .u64 (ph.toNat : Int)) := by rw [blk_cell (HXK.out _ (HB0.out _ HR.out)).1]; rfl
             have y2 : w6.cell? ⟨w.heap.size, 2, none⟩ = some (.int .u64 (pl.toNat : Int)) := by rw [blk_cell (HXK.out _ (HB0.out _ HR.out)).1]; rfl
             have y3 : w6.cell? ⟨w.heap.size, 3, none⟩ = some (.int .i64 pn) := by rw [blk_cell (HXK.out _ (HB0.out _ HR.out)).1]; rfl
             go_wp2_with fail
             refine (RP.out _).mono ?_
             rintro e w7 ⟨rfl, hb⟩
             replace HR := Lib.hid (below_step HR.out hb HR.out.size)
             clear hb y0 y1 y2 y3
             have y0 : w7.cell? ⟨w.heap.size, 0, none⟩ = some (.int .u8 (pf.toNat : Int)) := by rw [blk_cell (HXK.out _ (HB0.out _ HR.out)).1]; rfl
             have y1 : w7.cell? ⟨w.heap.size, 1, none⟩ = some (.int .u64 (ph.toNat : Int)) := by rw [blk_cell (HXK.out _ (HB0.out _ HR.out)).1]; rfl
             have y2 : w7.cell? ⟨w.heap.size, 2, none⟩ = some (.int .u64 (pl.toNat : Int)) := by rw [blk_cell (HXK.out _ (HB0.out _ HR.out)).1]; rfl
             have y3 : w7.cell? ⟨w.heap.size, 3, none⟩ = some (.int .i64 pn) := by rw [blk_cell (HXK.out _ (HB0.out _ HR.out)).1]; rfl
             go_wp2_with fail
             go_roundw
             case rel => exact ⟨2, by decide, by first | rfl | go_num, HR.out⟩
             case measure => simp [intOf]
         | true =>
           clear_value *
           as_aux_lemma =>
             have R0 := Lib.hid (fun (W : World) => show Calls Tryd.prog 30 #[.string K1] W (fun e w' => e = .returned (.tuple #[.agg #[.int .u8 (pf.toNat : Int), .int .u64 (ph.toNat : Int), .int .u64 (pl.toNat : Int), .int .i64 pn], .bool true]) ∧ Below W.heap.size W w') from by have h := poolOf K1 W (by have := Z1.out; omega); rw [HK1.out] at h ⊢; rw [prefixK_key hp] at h; exact h)
             have R1 := Lib.hid (fun (W : World) => show Calls Tryd.prog 32 #[.string K1] W (fun e w' => e = .returned (.tuple #[.agg #[.int .u8 0, .int .u64 0, .int .u64 0, .int .i64 0], .bool false]) ∧ Below W.heap.size W w') from by have h := holdOf K1 W (by have := Z1.out; omega); rw [HK1.out] at h ⊢; rw [prefixK_other (by decide)] at h; exact h)
             have R2 := Lib.hid (fun (W : World) => show Calls Tryd.prog 33 #[.string K1] W (fun e w' => e = .returned (.tuple #[.agg #[.int .u8 0, .int .u64 0, .int .u64 0], .bool false]) ∧ Below W.heap.size W w') from by have h := leaseOf K1 W (by have := Z1.out; omega); rw [HK1.out] at h ⊢; rw [ofK_keyP (by decide)] at h; exact h)
             have R3 := Lib.hid (fun (W : World) => show Calls Tryd.prog 35 #[.string K1] W (fun e w' => e = .returned (.tuple #[.agg #[.int .u8 0, .int .u64 0, .int .u64 0], .bool false]) ∧ Below W.heap.size W w') from by have h := countOf K1 W (by have := Z1.out; omega); rw [HK1.out] at h ⊢; rw [ofK_keyP (by decide)] at h; exact h)
             have R4 := Lib.hid (fun (W : World) => show Calls Tryd.prog 36 #[.string K1] W (fun e w' => e = .returned (.tuple #[.agg #[.int .u8 0, .int .u64 0, .int .u64 0], .int .u64 0, .bool false]) ∧ Below W.heap.size W w') from by have h := eventOf K1 W (by have := Z1.out; omega); rw [HK1.out] at h ⊢; rw [ofK_keyP (by decide)] at h; exact h)
             have R5 := Lib.hid (fun (W : World) => show Calls Tryd.prog 38 #[.string K1] W (fun e w' => e = .returned (.tuple #[.int .u8 0, .bool false]) ∧ Below W.heap.size W w') from by have h := clientOf K1 W (by have := Z1.out; omega); rw [HK1.out] at h ⊢; rw [client_keyP _ _] at h; exact h)
             rw [hp] at RP
             clear hp
             have z1 : ¬ (64 : Int) < (K1.size : Int) := by have := Z1.out; omega
             have z2 : decide (64 < K1.size) = false := decide_eq_false (by have := Z1.out; omega)
             have rn : ∀ W, (binOp .neq 26 (.agg #[.int .u8 (pf.toNat : Int), .int .u64 (ph.toNat : Int), .int .u64 (pl.toNat : Int), .int .i64 pn]) (.agg #[.int .u8 (pf.toNat : Int), .int .u64 (ph.toNat : Int), .int .u64 (pl.toNat : Int), .int .i64 pn])).run Tryd.prog W = .ok (.bool false) W := run_neqP26 ((pf, ph, pl), pn)
             have kc : wr.cell? ⟨g, 1, none⟩ = some (.string K1) := by rw [blk_cell (HKK.out _ HR.out)]; rfl
             go_wp2_with fail
             refine (R0.out _).mono ?_
             rintro e w1 ⟨rfl, hb⟩
             clear kc
             replace HR := Lib.hid (below_step HR.out hb HR.out.size)
             clear hb
             replace HR := Lib.hid (below_alloc1 HR.out HR.out.size (.cells #[.int .u8 (pf.toNat : Int), .int .u64 (ph.toNat : Int), .int .u64 (pl.toNat : Int), .int .i64 pn] 26 (0, 0)))
             have XH := Lib.hid (heap_alloc_new w1 (.cells #[.int .u8 (pf.toNat : Int), .int .u64 (ph.toNat : Int), .int .u64 (pl.toNat : Int), .int .i64 pn] 26 (0, 0)))
             have kc : (w1.alloc (.cells #[.int .u8 (pf.toNat : Int), .int .u64 (ph.toNat : Int), .int .u64 (pl.toNat : Int), .int .i64 pn] 26 (0, 0))).cell? ⟨g, 1, none⟩ = some (.string K1) := by rw [blk_cell (HKK.out _ HR.out)]; rfl
             go_wp2_with fail
             refine (R1.out _).mono ?_
             rintro e w2 ⟨rfl, hb⟩
             clear kc
             replace HR := Lib.hid (below_step HR.out hb HR.out.size)
             replace XH := Lib.hid (blk_kept hb XH.out)
             clear hb
             replace XH := Lib.hid (blk_alloc XH.out (.cells #[.int .u8 0, .int .u64 0, .int .u64 0, .int .i64 0] 26 (0, 0)))
             replace HR := Lib.hid (below_alloc1 HR.out HR.out.size (.cells #[.int .u8 0, .int .u64 0, .int .u64 0, .int .i64 0] 26 (0, 0)))
             have kc : (w2.alloc (.cells #[.int .u8 0, .int .u64 0, .int .u64 0, .int .i64 0] 26 (0, 0))).cell? ⟨g, 1, none⟩ = some (.string K1) := by rw [blk_cell (HKK.out _ HR.out)]; rfl
             go_wp2_with fail
             refine (R2.out _).mono ?_
             rintro e w3 ⟨rfl, hb⟩
             clear kc
             replace HR := Lib.hid (below_step HR.out hb HR.out.size)
             replace XH := Lib.hid (blk_kept hb XH.out)
             clear hb
             replace XH := Lib.hid (blk_alloc XH.out (.cells #[.int .u8 0, .int .u64 0, .int .u64 0] 24 (0, 0)))
             replace HR := Lib.hid (below_alloc1 HR.out HR.out.size (.cells #[.int .u8 0, .int .u64 0, .int .u64 0] 24 (0, 0)))
             have kc : (w3.alloc (.cells #[.int .u8 0, .int .u64 0, .int .u64 0] 24 (0, 0))).cell? ⟨g, 1, none⟩ = some (.string K1) := by rw [blk_cell (HKK.out _ HR.out)]; rfl
             go_wp2_with fail
             refine (R3.out _).mono ?_
             rintro e w4 ⟨rfl, hb⟩
             clear kc
             replace HR := Lib.hid (below_step HR.out hb HR.out.size)
             replace XH := Lib.hid (blk_kept hb XH.out)
             clear hb
             replace XH := Lib.hid (blk_alloc XH.out (.cells #[.int .u8 0, .int .u64 0, .int .u64 0] 24 (0, 0)))
             replace HR := Lib.hid (below_alloc1 HR.out HR.out.size (.cells #[.int .u8 0, .int .u64 0, .int .u64 0] 24 (0, 0)))
             have kc : (w4.alloc (.cells #[.int .u8 0, .int .u64 0, .int .u64 0] 24 (0, 0))).cell? ⟨g, 1, none⟩ = some (.string K1) := by rw [blk_cell (HKK.out _ HR.out)]; rfl
             go_wp2_with fail
             refine (R4.out _).mono ?_
             rintro e w5 ⟨rfl, hb⟩
             clear kc
             replace HR := Lib.hid (below_step HR.out hb HR.out.size)
             replace XH := Lib.hid (blk_kept hb XH.out)
             clear hb
             replace XH := Lib.hid (blk_alloc XH.out (.cells #[.int .u8 0, .int .u64 0, .int .u64 0] 24 (0, 0)))
             replace HR := Lib.hid (below_alloc1 HR.out HR.out.size (.cells #[.int .u8 0, .int .u64 0, .int .u64 0] 24 (0, 0)))
             have kc : (w5.alloc (.cells #[.int .u8 0, .int .u64 0, .int .u64 0] 24 (0, 0))).cell? ⟨g, 1, none⟩ = some (.string K1) := by rw [blk_cell (HKK.out _ HR.out)]; rfl
             go_wp2_with fail
             refine (R5.out _).mono ?_
             rintro e w6 ⟨rfl, hb⟩
             clear kc
             replace HR := Lib.hid (below_step HR.out hb HR.out.size)
             replace XH := Lib.hid (blk_kept hb XH.out)
             clear hb
             have y0 : w6.cell? ⟨w.heap.size, 0, none⟩ = some (.int .u8 (pf.toNat : Int)) := by rw [blk_cell (HXK.out _ (HB0.out _ HR.out)).1]; rfl
             have y1 : w6.cell? ⟨w.heap.size, 1, none⟩ = some (.int .u64 (ph.toNat : Int)) := by rw [blk_cell (HXK.out _ (HB0.out _ HR.out)).1]; rfl
             have y2 : w6.cell? ⟨w.heap.size, 2, none⟩ = some (.int .u64 (pl.toNat : Int)) := by rw [blk_cell (HXK.out _ (HB0.out _ HR.out)).1]; rfl
             have y3 : w6.cell? ⟨w.heap.size, 3, none⟩ = some (.int .i64 pn) := by rw [blk_cell (HXK.out _ (HB0.out _ HR.out)).1]; rfl
             have x0 : w6.cell? ⟨w1.heap.size, 0, none⟩ = some (.int .u8 (pf.toNat : Int)) := by rw [blk_cell XH.out]; rfl
             have x1 : w6.cell? ⟨w1.heap.size, 1, none⟩ = some (.int .u64 (ph.toNat : Int)) := by rw [blk_cell XH.out]; rfl
             have x2 : w6.cell? ⟨w1.heap.size, 2, none⟩ = some (.int .u64 (pl.toNat : Int)) := by rw [blk_cell XH.out]; rfl
             have x3 : w6.cell? ⟨w1.heap.size, 3, none⟩ = some (.int .i64 pn) := by rw [blk_cell XH.out]; rfl
             go_wp2_with fail
             refine (RP.out _).mono ?_
             rintro e w7 ⟨rfl, hb⟩
             replace HR := Lib.hid (below_step HR.out hb HR.out.size)
             replace XH := Lib.hid (blk_kept hb XH.out)
             clear hb y0 y1 y2 y3 x0 x1 x2 x3
             have y0 : w7.cell? ⟨w.heap.size, 0, none⟩ = some (.int .u8 (pf.toNat : Int)) := by rw [blk_cell (HXK.out _ (HB0.out _ HR.out)).1]; rfl
             have y1 : w7.cell? ⟨w.heap.size, 1, none⟩ = some (.int .u64 (ph.toNat : Int)) := by rw [blk_cell (HXK.out _ (HB0.out _ HR.out)).1]; rfl
             have y2 : w7.cell? ⟨w.heap.size, 2, none⟩ = some (.int .u64 (pl.toNat : Int)) := by rw [blk_cell (HXK.out _ (HB0.out _ HR.out)).1]; rfl
             have y3 : w7.cell? ⟨w.heap.size, 3, none⟩ = some (.int .i64 pn) := by rw [blk_cell (HXK.out _ (HB0.out _ HR.out)).1]; rfl
             have x0 : w7.cell? ⟨w1.heap.size, 0, none⟩ = some (.int .u8 (pf.toNat : Int)) := by rw [blk_cell XH.out]; rfl
             have x1 : w7.cell? ⟨w1.heap.size, 1, none⟩ = some (.int .u64 (ph.toNat : Int)) := by rw [blk_cell XH.out]; rfl
             have x2 : w7.cell? ⟨w1.heap.size, 2, none⟩ = some (.int .u64 (pl.toNat : Int)) := by rw [blk_cell XH.out]; rfl
             have x3 : w7.cell? ⟨w1.heap.size, 3, none⟩ = some (.int .i64 pn) := by rw [blk_cell XH.out]; rfl
             go_wp2_with fail
             go_roundw
             case rel => exact ⟨2, by decide, by first | rfl | go_num, HR.out⟩
             case measure => simp [intOf]
       · cases hp : rightP ((pf, ph, pl), pn) with
         | false =>
           clear_value *
           as_aux_lemma =>
             have R0 := Lib.hid (fun (W : World) => show Calls Tryd.prog 30 #[.string K2] W (fun e w' => e = .returned (.tuple #[.agg #[.int .u8 0, .int .u64 0, .int .u64 0, .int .i64 0], .bool false]) ∧ Below W.heap.size W w') from by have h := poolOf K2 W (by have := Z2.out; omega); rw [HK2.out] at h ⊢; rw [prefixK_other (by decide)] at h; exact h)
             have R1 := Lib.hid (fun (W : World) => show Calls Tryd.prog 32 #[.string K2] W (fun e w' => e = .returned (.tuple #[.agg #[.int .u8 0, .int .u64 0, .int .u64 0, .int .i64 0], .bool false]) ∧ Below W.heap.size W w') from by have h := holdOf K2 W (by have := Z2.out; omega); rw [HK2.out] at h ⊢; rw [prefixK_wrong 3 hp] at h; exact h)
             have R2 := Lib.hid (fun (W : World) => show Calls Tryd.prog 33 #[.string K2] W (fun e w' => e = .returned (.tuple #[.agg #[.int .u8 0, .int .u64 0, .int .u64 0], .bool false]) ∧ Below W.heap.size W w') from by have h := leaseOf K2 W (by have := Z2.out; omega); rw [HK2.out] at h ⊢; rw [ofK_keyP (by decide)] at h; exact h)
             have R3 := Lib.hid (fun (W : World) => show Calls Tryd.prog 35 #[.string K2] W (fun e w' => e = .returned (.tuple #[.agg #[.int .u8 0, .int .u64 0, .int .u64 0], .bool false]) ∧ Below W.heap.size W w') from by have h := countOf K2 W (by have := Z2.out; omega); rw [HK2.out] at h ⊢; rw [ofK_keyP (by decide)] at h; exact h)
             have R4 := Lib.hid (fun (W : World) => show Calls Tryd.prog 36 #[.string K2] W (fun e w' => e = .returned (.tuple #[.agg #[.int .u8 0, .int .u64 0, .int .u64 0], .int .u64 0, .bool false]) ∧ Below W.heap.size W w') from by have h := eventOf K2 W (by have := Z2.out; omega); rw [HK2.out] at h ⊢; rw [ofK_keyP (by decide)] at h; exact h)
             have R5 := Lib.hid (fun (W : World) => show Calls Tryd.prog 38 #[.string K2] W (fun e w' => e = .returned (.tuple #[.int .u8 0, .bool false]) ∧ Below W.heap.size W w') from by have h := clientOf K2 W (by have := Z2.out; omega); rw [HK2.out] at h ⊢; rw [client_keyP _ _] at h; exact h)
             rw [hp] at RP
             clear hp
             have z1 : ¬ (64 : Int) < (K2.size : Int) := by have := Z2.out; omega
             have z2 : decide (64 < K2.size) = false := decide_eq_false (by have := Z2.out; omega)
             have kc : wr.cell? ⟨g, 2, none⟩ = some (.string K2) := by rw [blk_cell (HKK.out _ HR.out)]; rfl
             go_wp2_with fail
             refine (R0.out _).mono ?_
             rintro e w1 ⟨rfl, hb⟩
             clear kc
             replace HR := Lib.hid (below_step HR.out hb HR.out.size)
             clear hb
             replace HR := Lib.hid (below_alloc1 HR.out HR.out.size (.cells #[.int .u8 0, .int .u64 0, .int .u64 0, .int .i64 0] 26 (0, 0)))
             have kc : (w1.alloc (.cells #[.int .u8 0, .int .u64 0, .int .u64 0, .int .i64 0] 26 (0, 0))).cell? ⟨g, 2, none⟩ = some (.string K2) := by rw [blk_cell (HKK.out _ HR.out)]; rfl
             go_wp2_with fail
             refine (R1.out _).mono ?_
             rintro e w2 ⟨rfl, hb⟩
             clear kc
             replace HR := Lib.hid (below_step HR.out hb HR.out.size)
             clear hb
             replace HR := Lib.hid (below_alloc1 HR.out HR.out.size (.cells #[.int .u8 0, .int .u64 0, .int .u64 0, .int .i64 0] 26 (0, 0)))
             have kc : (w2.alloc (.cells #[.int .u8 0, .int .u64 0, .int .u64 0, .int .i64 0] 26 (0, 0))).cell? ⟨g, 2, none⟩ = some (.string K2) := by rw [blk_cell (HKK.out _ HR.out)]; rfl
             go_wp2_with fail
             refine (R2.out _).mono ?_
             rintro e w3 ⟨rfl, hb⟩
             clear kc
             replace HR := Lib.hid (below_step HR.out hb HR.out.size)
             clear hb
             replace HR := Lib.hid (below_alloc1 HR.out HR.out.size (.cells #[.int .u8 0, .int .u64 0, .int .u64 0] 24 (0, 0)))
             have kc : (w3.alloc (.cells #[.int .u8 0, .int .u64 0, .int .u64 0] 24 (0, 0))).cell? ⟨g, 2, none⟩ = some (.string K2) := by rw [blk_cell (HKK.out _ HR.out)]; rfl
             go_wp2_with fail
             refine (R3.out _).mono ?_
             rintro e w4 ⟨rfl, hb⟩
             clear kc
             replace HR := Lib.hid (below_step HR.out hb HR.out.size)
             clear hb
             replace HR := Lib.hid (below_alloc1 HR.out HR.out.size (.cells #[.int .u8 0, .int .u64 0, .int .u64 0] 24 (0, 0)))
             have kc : (w4.alloc (.cells #[.int .u8 0, .int .u64 0, .int .u64 0] 24 (0, 0))).cell? ⟨g, 2, none⟩ = some (.string K2) := by rw [blk_cell (HKK.out _ HR.out)]; rfl
             go_wp2_with fail
             refine (R4.out _).mono ?_
             rintro e w5 ⟨rfl, hb⟩
             clear kc
             replace HR := Lib.hid (below_step HR.out hb HR.out.size)
             clear hb
             replace HR := Lib.hid (below_alloc1 HR.out HR.out.size (.cells #[.int .u8 0, .int .u64 0, .int .u64 0] 24 (0, 0)))
             have kc : (w5.alloc (.cells #[.int .u8 0, .int .u64 0, .int .u64 0] 24 (0, 0))).cell? ⟨g, 2, none⟩ = some (.string K2) := by rw [blk_cell (HKK.out _ HR.out)]; rfl
             go_wp2_with fail
             refine (R5.out _).mono ?_
             rintro e w6 ⟨rfl, hb⟩
             clear kc
             replace HR := Lib.hid (below_step HR.out hb HR.out.size)
             clear hb
             have y0 : w6.cell? ⟨w.heap.size, 0, none⟩ = some (.int .u8 (pf.toNat : Int)) := by rw [blk_cell (HXK.out _ (HB0.out _ HR.out)).1]; rfl
             have y1 : w6.cell? ⟨w.heap.size, 1, none⟩ = some (.int .u64 (ph.toNat : Int)) := by rw [blk_cell (HXK.out _ (HB0.out _ HR.out)).1]; rfl
             have y2 : w6.cell? ⟨w.heap.size, 2, none⟩ = some (.int .u64 (pl.toNat : Int)) := by rw [blk_cell (HXK.out _ (HB0.out _ HR.out)).1]; rfl
             have y3 : w6.cell? ⟨w.heap.size, 3, none⟩ = some (.int .i64 pn) := by rw [blk_cell (HXK.out _ (HB0.out _ HR.out)).1]; rfl
             go_wp2_with fail
             refine (RP.out _).mono ?_
             rintro e w7 ⟨rfl, hb⟩
             replace HR := Lib.hid (below_step HR.out hb HR.out.size)
             clear hb y0 y1 y2 y3
             have y0 : w7.cell? ⟨w.heap.size, 0, none⟩ = some (.int .u8 (pf.toNat : Int)) := by rw [blk_cell (HXK.out _ (HB0.out _ HR.out)).1]; rfl
             have y1 : w7.cell? ⟨w.heap.size, 1, none⟩ = some (.int .u64 (ph.toNat : Int)) := by rw [blk_cell (HXK.out _ (HB0.out _ HR.out)).1]; rfl
             have y2 : w7.cell? ⟨w.heap.size, 2, none⟩ = some (.int .u64 (pl.toNat : Int)) := by rw [blk_cell (HXK.out _ (HB0.out _ HR.out)).1]; rfl
             have y3 : w7.cell? ⟨w.heap.size, 3, none⟩ = some (.int .i64 pn) := by rw [blk_cell (HXK.out _ (HB0.out _ HR.out)).1]; rfl
             go_wp2_with fail
             go_roundw
             case rel => exact ⟨3, by decide, by first | rfl | go_num, HR.out⟩
             case measure => simp [intOf]
         | true =>
           clear_value *
           as_aux_lemma =>
             have R0 := Lib.hid (fun (W : World) => show Calls Tryd.prog 30 #[.string K2] W (fun e w' => e = .returned (.tuple #[.agg #[.int .u8 0, .int .u64 0, .int .u64 0, .int .i64 0], .bool false]) ∧ Below W.heap.size W w') from by have h := poolOf K2 W (by have := Z2.out; omega); rw [HK2.out] at h ⊢; rw [prefixK_other (by decide)] at h; exact h)
             have R1 := Lib.hid (fun (W : World) => show Calls Tryd.prog 32 #[.string K2] W (fun e w' => e = .returned (.tuple #[.agg #[.int .u8 (pf.toNat : Int), .int .u64 (ph.toNat : Int), .int .u64 (pl.toNat : Int), .int .i64 pn], .bool true]) ∧ Below W.heap.size W w') from by have h := holdOf K2 W (by have := Z2.out; omega); rw [HK2.out] at h ⊢; rw [prefixK_key hp] at h; exact h)
             have R2 := Lib.hid (fun (W : World) => show Calls Tryd.prog 33 #[.string K2] W (fun e w' => e = .returned (.tuple #[.agg #[.int .u8 0, .int .u64 0, .int .u64 0], .bool false]) ∧ Below W.heap.size W w') from by have h := leaseOf K2 W (by have := Z2.out; omega); rw [HK2.out] at h ⊢; rw [ofK_keyP (by decide)] at h; exact h)
             have R3 := Lib.hid (fun (W : World) => show Calls Tryd.prog 35 #[.string K2] W (fun e w' => e = .returned (.tuple #[.agg #[.int .u8 0, .int .u64 0, .int .u64 0], .bool false]) ∧ Below W.heap.size W w') from by have h := countOf K2 W (by have := Z2.out; omega); rw [HK2.out] at h ⊢; rw [ofK_keyP (by decide)] at h; exact h)
             have R4 := Lib.hid (fun (W : World) => show Calls Tryd.prog 36 #[.string K2] W (fun e w' => e = .returned (.tuple #[.agg #[.int .u8 0, .int .u64 0, .int .u64 0], .int .u64 0, .bool false]) ∧ Below W.heap.size W w') from by have h := eventOf K2 W (by have := Z2.out; omega); rw [HK2.out] at h ⊢; rw [ofK_keyP (by decide)] at h; exact h)
             have R5 := Lib.hid (fun (W : World) => show Calls Tryd.prog 38 #[.string K2] W (fun e w' => e = .returned (.tuple #[.int .u8 0, .bool false]) ∧ Below W.heap.size W w') from by have h := clientOf K2 W (by have := Z2.out; omega); rw [HK2.out] at h ⊢; rw [client_keyP _ _] at h; exact h)
             rw [hp] at RP
             clear hp
             have z1 : ¬ (64 : Int) < (K2.size : Int) := by have := Z2.out; omega
             have z2 : decide (64 < K2.size) = false := decide_eq_false (by have := Z2.out; omega)
             have rn : ∀ W, (binOp .neq 26 (.agg #[.int .u8 (pf.toNat : Int), .int .u64 (ph.toNat : Int), .int .u64 (pl.toNat : Int), .int .i64 pn]) (.agg #[.int .u8 (pf.toNat : Int), .int .u64 (ph.toNat : Int), .int .u64 (pl.toNat : Int), .int .i64 pn])).run Tryd.prog W = .ok (.bool false) W := run_neqP26 ((pf, ph, pl), pn)
             have kc : wr.cell? ⟨g, 2, none⟩ = some (.string K2) := by rw [blk_cell (HKK.out _ HR.out)]; rfl
             go_wp2_with fail
             refine (R0.out _).mono ?_
             rintro e w1 ⟨rfl, hb⟩
             clear kc
             replace HR := Lib.hid (below_step HR.out hb HR.out.size)
             clear hb
             replace HR := Lib.hid (below_alloc1 HR.out HR.out.size (.cells #[.int .u8 0, .int .u64 0, .int .u64 0, .int .i64 0] 26 (0, 0)))
             have kc : (w1.alloc (.cells #[.int .u8 0, .int .u64 0, .int .u64 0, .int .i64 0] 26 (0, 0))).cell? ⟨g, 2, none⟩ = some (.string K2) := by rw [blk_cell (HKK.out _ HR.out)]; rfl
             go_wp2_with fail
             refine (R1.out _).mono ?_
             rintro e w2 ⟨rfl, hb⟩
             clear kc
             replace HR := Lib.hid (below_step HR.out hb HR.out.size)
             clear hb
             replace HR := Lib.hid (below_alloc1 HR.out HR.out.size (.cells #[.int .u8 (pf.toNat : Int), .int .u64 (ph.toNat : Int), .int .u64 (pl.toNat : Int), .int .i64 pn] 26 (0, 0)))
             have XH := Lib.hid (heap_alloc_new w2 (.cells #[.int .u8 (pf.toNat : Int), .int .u64 (ph.toNat : Int), .int .u64 (pl.toNat : Int), .int .i64 pn] 26 (0, 0)))
             have kc : (w2.alloc (.cells #[.int .u8 (pf.toNat : Int), .int .u64 (ph.toNat : Int), .int .u64 (pl.toNat : Int), .int .i64 pn] 26 (0, 0))).cell? ⟨g, 2, none⟩ = some (.string K2) := by rw [blk_cell (HKK.out _ HR.out)]; rfl
             go_wp2_with fail
             refine (R2.out _).mono ?_
             rintro e w3 ⟨rfl, hb⟩
             clear kc
             replace HR := Lib.hid (below_step HR.out hb HR.out.size)
             replace XH := Lib.hid (blk_kept hb XH.out)
             clear hb
             replace XH := Lib.hid (blk_alloc XH.out (.cells #[.int .u8 0, .int .u64 0, .int .u64 0] 24 (0, 0)))
             replace HR := Lib.hid (below_alloc1 HR.out HR.out.size (.cells #[.int .u8 0, .int .u64 0, .int .u64 0] 24 (0, 0)))
             have kc : (w3.alloc (.cells #[.int .u8 0, .int .u64 0, .int .u64 0] 24 (0, 0))).cell? ⟨g, 2, none⟩ = some (.string K2) := by rw [blk_cell (HKK.out _ HR.out)]; rfl
             go_wp2_with fail
             refine (R3.out _).mono ?_
             rintro e w4 ⟨rfl, hb⟩
             clear kc
             replace HR := Lib.hid (below_step HR.out hb HR.out.size)
             replace XH := Lib.hid (blk_kept hb XH.out)
             clear hb
             replace XH := Lib.hid (blk_alloc XH.out (.cells #[.int .u8 0, .int .u64 0, .int .u64 0] 24 (0, 0)))
             replace HR := Lib.hid (below_alloc1 HR.out HR.out.size (.cells #[.int .u8 0, .int .u64 0, .int .u64 0] 24 (0, 0)))
             have kc : (w4.alloc (.cells #[.int .u8 0, .int .u64 0, .int .u64 0] 24 (0, 0))).cell? ⟨g, 2, none⟩ = some (.string K2) := by rw [blk_cell (HKK.out _ HR.out)]; rfl
             go_wp2_with fail
             refine (R4.out _).mono ?_
             rintro e w5 ⟨rfl, hb⟩
             clear kc
             replace HR := Lib.hid (below_step HR.out hb HR.out.size)
             replace XH := Lib.hid (blk_kept hb XH.out)
             clear hb
             replace XH := Lib.hid (blk_alloc XH.out (.cells #[.int .u8 0, .int .u64 0, .int .u64 0] 24 (0, 0)))
             replace HR := Lib.hid (below_alloc1 HR.out HR.out.size (.cells #[.int .u8 0, .int .u64 0, .int .u64 0] 24 (0, 0)))
             have kc : (w5.alloc (.cells #[.int .u8 0, .int .u64 0, .int .u64 0] 24 (0, 0))).cell? ⟨g, 2, none⟩ = some (.string K2) := by rw [blk_cell (HKK.out _ HR.out)]; rfl
             go_wp2_with fail
             refine (R5.out _).mono ?_
             rintro e w6 ⟨rfl, hb⟩
             clear kc
             replace HR := Lib.hid (below_step HR.out hb HR.out.size)
             replace XH := Lib.hid (blk_kept hb XH.out)
             clear hb
             have y0 : w6.cell? ⟨w.heap.size, 0, none⟩ = some (.int .u8 (pf.toNat : Int)) := by rw [blk_cell (HXK.out _ (HB0.out _ HR.out)).1]; rfl
             have y1 : w6.cell? ⟨w.heap.size, 1, none⟩ = some (.int .u64 (ph.toNat : Int)) := by rw [blk_cell (HXK.out _ (HB0.out _ HR.out)).1]; rfl
             have y2 : w6.cell? ⟨w.heap.size, 2, none⟩ = some (.int .u64 (pl.toNat : Int)) := by rw [blk_cell (HXK.out _ (HB0.out _ HR.out)).1]; rfl
             have y3 : w6.cell? ⟨w.heap.size, 3, none⟩ = some (.int .i64 pn) := by rw [blk_cell (HXK.out _ (HB0.out _ HR.out)).1]; rfl
             have x0 : w6.cell? ⟨w2.heap.size, 0, none⟩ = some (.int .u8 (pf.toNat : Int)) := by rw [blk_cell XH.out]; rfl
             have x1 : w6.cell? ⟨w2.heap.size, 1, none⟩ = some (.int .u64 (ph.toNat : Int)) := by rw [blk_cell XH.out]; rfl
             have x2 : w6.cell? ⟨w2.heap.size, 2, none⟩ = some (.int .u64 (pl.toNat : Int)) := by rw [blk_cell XH.out]; rfl
             have x3 : w6.cell? ⟨w2.heap.size, 3, none⟩ = some (.int .i64 pn) := by rw [blk_cell XH.out]; rfl
             go_wp2_with fail
             refine (RP.out _).mono ?_
             rintro e w7 ⟨rfl, hb⟩
             replace HR := Lib.hid (below_step HR.out hb HR.out.size)
             replace XH := Lib.hid (blk_kept hb XH.out)
             clear hb y0 y1 y2 y3 x0 x1 x2 x3
             have y0 : w7.cell? ⟨w.heap.size, 0, none⟩ = some (.int .u8 (pf.toNat : Int)) := by rw [blk_cell (HXK.out _ (HB0.out _ HR.out)).1]; rfl
             have y1 : w7.cell? ⟨w.heap.size, 1, none⟩ = some (.int .u64 (ph.toNat : Int)) := by rw [blk_cell (HXK.out _ (HB0.out _ HR.out)).1]; rfl
             have y2 : w7.cell? ⟨w.heap.size, 2, none⟩ = some (.int .u64 (pl.toNat : Int)) := by rw [blk_cell (HXK.out _ (HB0.out _ HR.out)).1]; rfl
             have y3 : w7.cell? ⟨w.heap.size, 3, none⟩ = some (.int .i64 pn) := by rw [blk_cell (HXK.out _ (HB0.out _ HR.out)).1]; rfl
             have x0 : w7.cell? ⟨w2.heap.size, 0, none⟩ = some (.int .u8 (pf.toNat : Int)) := by rw [blk_cell XH.out]; rfl
             have x1 : w7.cell? ⟨w2.heap.size, 1, none⟩ = some (.int .u64 (ph.toNat : Int)) := by rw [blk_cell XH.out]; rfl
             have x2 : w7.cell? ⟨w2.heap.size, 2, none⟩ = some (.int .u64 (pl.toNat : Int)) := by rw [blk_cell XH.out]; rfl
             have x3 : w7.cell? ⟨w2.heap.size, 3, none⟩ = some (.int .i64 pn) := by rw [blk_cell XH.out]; rfl
             go_wp2_with fail
             go_roundw
             case rel => exact ⟨3, by decide, by first | rfl | go_num, HR.out⟩
             case measure => simp [intOf]
       · cases hp : rightA (af, ah, al) with
         | false =>
           clear_value *
           as_aux_lemma =>
             have R0 := Lib.hid (fun (W : World) => show Calls Tryd.prog 30 #[.string K3] W (fun e w' => e = .returned (.tuple #[.agg #[.int .u8 0, .int .u64 0, .int .u64 0, .int .i64 0], .bool false]) ∧ Below W.heap.size W w') from by have h := poolOf K3 W (by have := Z3.out; omega); rw [HK3.out] at h ⊢; rw [prefixK_of (ofK_other (by decide))] at h; exact h)
             have R1 := Lib.hid (fun (W : World) => show Calls Tryd.prog 32 #[.string K3] W (fun e w' => e = .returned (.tuple #[.agg #[.int .u8 0, .int .u64 0, .int .u64 0, .int .i64 0], .bool false]) ∧ Below W.heap.size W w') from by have h := holdOf K3 W (by have := Z3.out; omega); rw [HK3.out] at h ⊢; rw [prefixK_of (ofK_other (by decide))] at h; exact h)
             have R2 := Lib.hid (fun (W : World) => show Calls Tryd.prog 33 #[.string K3] W (fun e w' => e = .returned (.tuple #[.agg #[.int .u8 0, .int .u64 0, .int .u64 0], .bool false]) ∧ Below W.heap.size W w') from by have h := leaseOf K3 W (by have := Z3.out; omega); rw [HK3.out] at h ⊢; rw [ofK_wrong 4 hp] at h; exact h)
             have R3 := Lib.hid (fun (W : World) => show Calls Tryd.prog 35 #[.string K3] W (fun e w' => e = .returned (.tuple #[.agg #[.int .u8 0, .int .u64 0, .int .u64 0], .bool false]) ∧ Below W.heap.size W w') from by have h := countOf K3 W (by have := Z3.out; omega); rw [HK3.out] at h ⊢; rw [ofK_other (by decide)] at h; exact h)
             have R4 := Lib.hid (fun (W : World) => show Calls Tryd.prog 36 #[.string K3] W (fun e w' => e = .returned (.tuple #[.agg #[.int .u8 0, .int .u64 0, .int .u64 0], .int .u64 0, .bool false]) ∧ Below W.heap.size W w') from by have h := eventOf K3 W (by have := Z3.out; omega); rw [HK3.out] at h ⊢; rw [ofK_other (by decide)] at h; exact h)
             have R5 := Lib.hid (fun (W : World) => show Calls Tryd.prog 38 #[.string K3] W (fun e w' => e = .returned (.tuple #[.int .u8 0, .bool false]) ∧ Below W.heap.size W w') from by have h := clientOf K3 W (by have := Z3.out; omega); rw [HK3.out] at h ⊢; rw [client_keyA _ _ _] at h; exact h)
             rw [hp] at RA
             clear hp
             have z1 : ¬ (64 : Int) < (K3.size : Int) := by have := Z3.out; omega
             have z2 : decide (64 < K3.size) = false := decide_eq_false (by have := Z3.out; omega)
             have kc : wr.cell? ⟨g, 3, none⟩ = some (.string K3) := by rw [blk_cell (HKK.out _ HR.out)]; rfl
             go_wp2_with fail
             refine (R0.out _).mono ?_
             rintro e w1 ⟨rfl, hb⟩
             clear kc
             replace HR := Lib.hid (below_step HR.out hb HR.out.size)
             clear hb
             replace HR := Lib.hid (below_alloc1 HR.out HR.out.size (.cells #[.int .u8 0, .int .u64 0, .int .u64 0, .int .i64 0] 26 (0, 0)))
             have kc : (w1.alloc (.cells #[.int .u8 0, .int .u64 0, .int .u64 0, .int .i64 0] 26 (0, 0))).cell? ⟨g, 3, none⟩ = some (.string K3) := by rw [blk_cell (HKK.out _ HR.out)]; rfl
             go_wp2_with fail
             refine (R1.out _).mono ?_
             rintro e w2 ⟨rfl, hb⟩
             clear kc
             replace HR := Lib.hid (below_step HR.out hb HR.out.size)
             clear hb
             replace HR := Lib.hid (below_alloc1 HR.out HR.out.size (.cells #[.int .u8 0, .int .u64 0, .int .u64 0, .int .i64 0] 26 (0, 0)))
             have kc : (w2.alloc (.cells #[.int .u8 0, .int .u64 0, .int .u64 0, .int .i64 0] 26 (0, 0))).cell? ⟨g, 3, none⟩ = some (.string K3) := by rw [blk_cell (HKK.out _ HR.out)]; rfl
             go_wp2_with fail
             refine (R2.out _).mono ?_
             rintro e w3 ⟨rfl, hb⟩
             clear kc
             replace HR := Lib.hid (below_step HR.out hb HR.out.size)
             clear hb
             replace HR := Lib.hid (below_alloc1 HR.out HR.out.size (.cells #[.int .u8 0, .int .u64 0, .int .u64 0] 24 (0, 0)))
             have kc : (w3.alloc (.cells #[.int .u8 0, .int .u64 0, .int .u64 0] 24 (0, 0))).cell? ⟨g, 3, none⟩ = some (.string K3) := by rw [blk_cell (HKK.out _ HR.out)]; rfl
             go_wp2_with fail
             refine (R3.out _).mono ?_
             rintro e w4 ⟨rfl, hb⟩
             clear kc
             replace HR := Lib.hid (below_step HR.out hb HR.out.size)
             clear hb
             replace HR := Lib.hid (below_alloc1 HR.out HR.out.size (.cells #[.int .u8 0, .int .u64 0, .int .u64 0] 24 (0, 0)))
             have kc : (w4.alloc (.cells #[.int .u8 0, .int .u64 0, .int .u64 0] 24 (0, 0))).cell? ⟨g, 3, none⟩ = some (.string K3) := by rw [blk_cell (HKK.out _ HR.out)]; rfl
             go_wp2_with fail
             refine (R4.out _).mono ?_
             rintro e w5 ⟨rfl, hb⟩
             clear kc
             replace HR := Lib.hid (below_step HR.out hb HR.out.size)
             clear hb
             replace HR := Lib.hid (below_alloc1 HR.out HR.out.size (.cells #[.int .u8 0, .int .u64 0, .int .u64 0] 24 (0, 0)))
             have kc : (w5.alloc (.cells #[.int .u8 0, .int .u64 0, .int .u64 0] 24 (0, 0))).cell? ⟨g, 3, none⟩ = some (.string K3) := by rw [blk_cell (HKK.out _ HR.out)]; rfl
             go_wp2_with fail
             refine (R5.out _).mono ?_
             rintro e w6 ⟨rfl, hb⟩
             clear kc
             replace HR := Lib.hid (below_step HR.out hb HR.out.size)
             clear hb
             have y0 : w6.cell? ⟨w.heap.size + 1 + 1, 0, none⟩ = some (.int .u8 (af.toNat : Int)) := by rw [blk_cell (HXK.out _ (HB0.out _ HR.out)).2.2.1]; rfl
             have y1 : w6.cell? ⟨w.heap.size + 1 + 1, 1, none⟩ = some (.int .u64 (ah.toNat : Int)) := by rw [blk_cell (HXK.out _ (HB0.out _ HR.out)).2.2.1]; rfl
             have y2 : w6.cell? ⟨w.heap.size + 1 + 1, 2, none⟩ = some (.int .u64 (al.toNat : Int)) := by rw [blk_cell (HXK.out _ (HB0.out _ HR.out)).2.2.1]; rfl
             go_wp2_with fail
             refine (RA.out _).mono ?_
             rintro e w7 ⟨rfl, hb⟩
             replace HR := Lib.hid (below_step HR.out hb HR.out.size)
             clear hb y0 y1 y2
             have y0 : w7.cell? ⟨w.heap.size + 1 + 1, 0, none⟩ = some (.int .u8 (af.toNat : Int)) := by rw [blk_cell (HXK.out _ (HB0.out _ HR.out)).2.2.1]; rfl
             have y1 : w7.cell? ⟨w.heap.size + 1 + 1, 1, none⟩ = some (.int .u64 (ah.toNat : Int)) := by rw [blk_cell (HXK.out _ (HB0.out _ HR.out)).2.2.1]; rfl
             have y2 : w7.cell? ⟨w.heap.size + 1 + 1, 2, none⟩ = some (.int .u64 (al.toNat : Int)) := by rw [blk_cell (HXK.out _ (HB0.out _ HR.out)).2.2.1]; rfl
             go_wp2_with fail
             go_roundw
             case rel => exact ⟨4, by decide, by first | rfl | go_num, HR.out⟩
             case measure => simp [intOf]
         | true =>
           clear_value *
           as_aux_lemma =>
             have R0 := Lib.hid (fun (W : World) => show Calls Tryd.prog 30 #[.string K3] W (fun e w' => e = .returned (.tuple #[.agg #[.int .u8 0, .int .u64 0, .int .u64 0, .int .i64 0], .bool false]) ∧ Below W.heap.size W w') from by have h := poolOf K3 W (by have := Z3.out; omega); rw [HK3.out] at h ⊢; rw [prefixK_of (ofK_other (by decide))] at h; exact h)
             have R1 := Lib.hid (fun (W : World) => show Calls Tryd.prog 32 #[.string K3] W (fun e w' => e = .returned (.tuple #[.agg #[.int .u8 0, .int .u64 0, .int .u64 0, .int .i64 0], .bool false]) ∧ Below W.heap.size W w') from by have h := holdOf K3 W (by have := Z3.out; omega); rw [HK3.out] at h ⊢; rw [prefixK_of (ofK_other (by decide))] at h; exact h)
             have R2 := Lib.hid (fun (W : World) => show Calls Tryd.prog 33 #[.string K3] W (fun e w' => e = .returned (.tuple #[.agg #[.int .u8 (af.toNat : Int), .int .u64 (ah.toNat : Int), .int .u64 (al.toNat : Int)], .bool true]) ∧ Below W.heap.size W w') from by have h := leaseOf K3 W (by have := Z3.out; omega); rw [HK3.out] at h ⊢; rw [ofK_key0 4 hp] at h; exact h)
             have R3 := Lib.hid (fun (W : World) => show Calls Tryd.prog 35 #[.string K3] W (fun e w' => e = .returned (.tuple #[.agg #[.int .u8 0, .int .u64 0, .int .u64 0], .bool false]) ∧ Below W.heap.size W w') from by have h := countOf K3 W (by have := Z3.out; omega); rw [HK3.out] at h ⊢; rw [ofK_other (by decide)] at h; exact h)
             have R4 := Lib.hid (fun (W : World) => show Calls Tryd.prog 36 #[.string K3] W (fun e w' => e = .returned (.tuple #[.agg #[.int .u8 0, .int .u64 0, .int .u64 0], .int .u64 0, .bool false]) ∧ Below W.heap.size W w') from by have h := eventOf K3 W (by have := Z3.out; omega); rw [HK3.out] at h ⊢; rw [ofK_other (by decide)] at h; exact h)
             have R5 := Lib.hid (fun (W : World) => show Calls Tryd.prog 38 #[.string K3] W (fun e w' => e = .returned (.tuple #[.int .u8 0, .bool false]) ∧ Below W.heap.size W w') from by have h := clientOf K3 W (by have := Z3.out; omega); rw [HK3.out] at h ⊢; rw [client_keyA _ _ _] at h; exact h)
             rw [hp] at RA
             clear hp
             have z1 : ¬ (64 : Int) < (K3.size : Int) := by have := Z3.out; omega
             have z2 : decide (64 < K3.size) = false := decide_eq_false (by have := Z3.out; omega)
             have rn : ∀ W, (binOp .neq 24 (.agg #[.int .u8 (af.toNat : Int), .int .u64 (ah.toNat : Int), .int .u64 (al.toNat : Int)]) (.agg #[.int .u8 (af.toNat : Int), .int .u64 (ah.toNat : Int), .int .u64 (al.toNat : Int)])).run Tryd.prog W = .ok (.bool false) W := run_neqA24 (af, ah, al)
             have kc : wr.cell? ⟨g, 3, none⟩ = some (.string K3) := by rw [blk_cell (HKK.out _ HR.out)]; rfl
             go_wp2_with fail
             refine (R0.out _).mono ?_
             rintro e w1 ⟨rfl, hb⟩
             clear kc
             replace HR := Lib.hid (below_step HR.out hb HR.out.size)
             clear hb
             replace HR := Lib.hid (below_alloc1 HR.out HR.out.size (.cells #[.int .u8 0, .int .u64 0, .int .u64 0, .int .i64 0] 26 (0, 0)))
             have kc : (w1.alloc (.cells #[.int .u8 0, .int .u64 0, .int .u64 0, .int .i64 0] 26 (0, 0))).cell? ⟨g, 3, none⟩ = some (.string K3) := by rw [blk_cell (HKK.out _ HR.out)]; rfl
             go_wp2_with fail
             refine (R1.out _).mono ?_
             rintro e w2 ⟨rfl, hb⟩
             clear kc
             replace HR := Lib.hid (below_step HR.out hb HR.out.size)
             clear hb
             replace HR := Lib.hid (below_alloc1 HR.out HR.out.size (.cells #[.int .u8 0, .int .u64 0, .int .u64 0, .int .i64 0] 26 (0, 0)))
             have kc : (w2.alloc (.cells #[.int .u8 0, .int .u64 0, .int .u64 0, .int .i64 0] 26 (0, 0))).cell? ⟨g, 3, none⟩ = some (.string K3) := by rw [blk_cell (HKK.out _ HR.out)]; rfl
             go_wp2_with fail
             refine (R2.out _).mono ?_
             rintro e w3 ⟨rfl, hb⟩
             clear kc
             replace HR := Lib.hid (below_step HR.out hb HR.out.size)
             clear hb
             replace HR := Lib.hid (below_alloc1 HR.out HR.out.size (.cells #[.int .u8 (af.toNat : Int), .int .u64 (ah.toNat : Int), .int .u64 (al.toNat : Int)] 24 (0, 0)))
             have XH := Lib.hid (heap_alloc_new w3 (.cells #[.int .u8 (af.toNat : Int), .int .u64 (ah.toNat : Int), .int .u64 (al.toNat : Int)] 24 (0, 0)))
             have kc : (w3.alloc (.cells #[.int .u8 (af.toNat : Int), .int .u64 (ah.toNat : Int), .int .u64 (al.toNat : Int)] 24 (0, 0))).cell? ⟨g, 3, none⟩ = some (.string K3) := by rw [blk_cell (HKK.out _ HR.out)]; rfl
             go_wp2_with fail
             refine (R3.out _).mono ?_
             rintro e w4 ⟨rfl, hb⟩
             clear kc
             replace HR := Lib.hid (below_step HR.out hb HR.out.size)
             replace XH := Lib.hid (blk_kept hb XH.out)
             clear hb
             replace XH := Lib.hid (blk_alloc XH.out (.cells #[.int .u8 0, .int .u64 0, .int .u64 0] 24 (0, 0)))
             replace HR := Lib.hid (below_alloc1 HR.out HR.out.size (.cells #[.int .u8 0, .int .u64 0, .int .u64 0] 24 (0, 0)))
             have kc : (w4.alloc (.cells #[.int .u8 0, .int .u64 0, .int .u64 0] 24 (0, 0))).cell? ⟨g, 3, none⟩ = some (.string K3) := by rw [blk_cell (HKK.out _ HR.out)]; rfl
             go_wp2_with fail
             refine (R4.out _).mono ?_
             rintro e w5 ⟨rfl, hb⟩
             clear kc
             replace HR := Lib.hid (below_step HR.out hb HR.out.size)
             replace XH := Lib.hid (blk_kept hb XH.out)
             clear hb
             replace XH := Lib.hid (blk_alloc XH.out (.cells #[.int .u8 0, .int .u64 0, .int .u64 0] 24 (0, 0)))
             replace HR := Lib.hid (below_alloc1 HR.out HR.out.size (.cells #[.int .u8 0, .int .u64 0, .int .u64 0] 24 (0, 0)))
             have kc : (w5.alloc (.cells #[.int .u8 0, .int .u64 0, .int .u64 0] 24 (0, 0))).cell? ⟨g, 3, none⟩ = some (.string K3) := by rw [blk_cell (HKK.out _ HR.out)]; rfl
             go_wp2_with fail
             refine (R5.out _).mono ?_
             rintro e w6 ⟨rfl, hb⟩
             clear kc
             replace HR := Lib.hid (below_step HR.out hb HR.out.size)
             replace XH := Lib.hid (blk_kept hb XH.out)
             clear hb
             have y0 : w6.cell? ⟨w.heap.size + 1 + 1, 0, none⟩ = some (.int .u8 (af.toNat : Int)) := by rw [blk_cell (HXK.out _ (HB0.out _ HR.out)).2.2.1]; rfl
             have y1 : w6.cell? ⟨w.heap.size + 1 + 1, 1, none⟩ = some (.int .u64 (ah.toNat : Int)) := by rw [blk_cell (HXK.out _ (HB0.out _ HR.out)).2.2.1]; rfl
             have y2 : w6.cell? ⟨w.heap.size + 1 + 1, 2, none⟩ = some (.int .u64 (al.toNat : Int)) := by rw [blk_cell (HXK.out _ (HB0.out _ HR.out)).2.2.1]; rfl
             have x0 : w6.cell? ⟨w3.heap.size, 0, none⟩ = some (.int .u8 (af.toNat : Int)) := by rw [blk_cell XH.out]; rfl
             have x1 : w6.cell? ⟨w3.heap.size, 1, none⟩ = some (.int .u64 (ah.toNat : Int)) := by rw [blk_cell XH.out]; rfl
             have x2 : w6.cell? ⟨w3.heap.size, 2, none⟩ = some (.int .u64 (al.toNat : Int)) := by rw [blk_cell XH.out]; rfl
             go_wp2_with fail
             refine (RA.out _).mono ?_
             rintro e w7 ⟨rfl, hb⟩
             replace HR := Lib.hid (below_step HR.out hb HR.out.size)
             replace XH := Lib.hid (blk_kept hb XH.out)
             clear hb y0 y1 y2 x0 x1 x2
             have y0 : w7.cell? ⟨w.heap.size + 1 + 1, 0, none⟩ = some (.int .u8 (af.toNat : Int)) := by rw [blk_cell (HXK.out _ (HB0.out _ HR.out)).2.2.1]; rfl
             have y1 : w7.cell? ⟨w.heap.size + 1 + 1, 1, none⟩ = some (.int .u64 (ah.toNat : Int)) := by rw [blk_cell (HXK.out _ (HB0.out _ HR.out)).2.2.1]; rfl
             have y2 : w7.cell? ⟨w.heap.size + 1 + 1, 2, none⟩ = some (.int .u64 (al.toNat : Int)) := by rw [blk_cell (HXK.out _ (HB0.out _ HR.out)).2.2.1]; rfl
             have x0 : w7.cell? ⟨w3.heap.size, 0, none⟩ = some (.int .u8 (af.toNat : Int)) := by rw [blk_cell XH.out]; rfl
             have x1 : w7.cell? ⟨w3.heap.size, 1, none⟩ = some (.int .u64 (ah.toNat : Int)) := by rw [blk_cell XH.out]; rfl
             have x2 : w7.cell? ⟨w3.heap.size, 2, none⟩ = some (.int .u64 (al.toNat : Int)) := by rw [blk_cell XH.out]; rfl
             go_wp2_with fail
             go_roundw
             case rel => exact ⟨4, by decide, by first | rfl | go_num, HR.out⟩
             case measure => simp [intOf]
       · cases hp : rightA (af, ah, al) with
         | false =>
           clear_value *
           as_aux_lemma =>
             have R0 := Lib.hid (fun (W : World) => show Calls Tryd.prog 30 #[.string K4] W (fun e w' => e = .returned (.tuple #[.agg #[.int .u8 0, .int .u64 0, .int .u64 0, .int .i64 0], .bool false]) ∧ Below W.heap.size W w') from by have h := poolOf K4 W (by have := Z4.out; omega); rw [HK4.out] at h ⊢; rw [prefixK_of (ofK_other (by decide))] at h; exact h)
             have R1 := Lib.hid (fun (W : World) => show Calls Tryd.prog 32 #[.string K4] W (fun e w' => e = .returned (.tuple #[.agg #[.int .u8 0, .int .u64 0, .int .u64 0, .int .i64 0], .bool false]) ∧ Below W.heap.size W w') from by have h := holdOf K4 W (by have := Z4.out; omega); rw [HK4.out] at h ⊢; rw [prefixK_of (ofK_other (by decide))] at h; exact h)
             have R2 := Lib.hid (fun (W : World) => show Calls Tryd.prog 33 #[.string K4] W (fun e w' => e = .returned (.tuple #[.agg #[.int .u8 0, .int .u64 0, .int .u64 0], .bool false]) ∧ Below W.heap.size W w') from by have h := leaseOf K4 W (by have := Z4.out; omega); rw [HK4.out] at h ⊢; rw [ofK_other (by decide)] at h; exact h)
             have R3 := Lib.hid (fun (W : World) => show Calls Tryd.prog 35 #[.string K4] W (fun e w' => e = .returned (.tuple #[.agg #[.int .u8 0, .int .u64 0, .int .u64 0], .bool false]) ∧ Below W.heap.size W w') from by have h := countOf K4 W (by have := Z4.out; omega); rw [HK4.out] at h ⊢; rw [ofK_wrong 5 hp] at h; exact h)
             have R4 := Lib.hid (fun (W : World) => show Calls Tryd.prog 36 #[.string K4] W (fun e w' => e = .returned (.tuple #[.agg #[.int .u8 0, .int .u64 0, .int .u64 0], .int .u64 0, .bool false]) ∧ Below W.heap.size W w') from by have h := eventOf K4 W (by have := Z4.out; omega); rw [HK4.out] at h ⊢; rw [ofK_other (by decide)] at h; exact h)
             have R5 := Lib.hid (fun (W : World) => show Calls Tryd.prog 38 #[.string K4] W (fun e w' => e = .returned (.tuple #[.int .u8 0, .bool false]) ∧ Below W.heap.size W w') from by have h := clientOf K4 W (by have := Z4.out; omega); rw [HK4.out] at h ⊢; rw [client_keyA _ _ _] at h; exact h)
             rw [hp] at RA
             clear hp
             have z1 : ¬ (64 : Int) < (K4.size : Int) := by have := Z4.out; omega
             have z2 : decide (64 < K4.size) = false := decide_eq_false (by have := Z4.out; omega)
             have kc : wr.cell? ⟨g, 4, none⟩ = some (.string K4) := by rw [blk_cell (HKK.out _ HR.out)]; rfl
             go_wp2_with fail
             refine (R0.out _).mono ?_
             rintro e w1 ⟨rfl, hb⟩
             clear kc
             replace HR := Lib.hid (below_step HR.out hb HR.out.size)
             clear hb
             replace HR := Lib.hid (below_alloc1 HR.out HR.out.size (.cells #[.int .u8 0, .int .u64 0, .int .u64 0, .int .i64 0] 26 (0, 0)))
             have kc : (w1.alloc (.cells #[.int .u8 0, .int .u64 0, .int .u64 0, .int .i64 0] 26 (0, 0))).cell? ⟨g, 4, none⟩ = some (.string K4) := by rw [blk_cell (HKK.out _ HR.out)]; rfl
             go_wp2_with fail
             refine (R1.out _).mono ?_
             rintro e w2 ⟨rfl, hb⟩
             clear kc
             replace HR := Lib.hid (below_step HR.out hb HR.out.size)
             clear hb
             replace HR := Lib.hid (below_alloc1 HR.out HR.out.size (.cells #[.int .u8 0, .int .u64 0, .int .u64 0, .int .i64 0] 26 (0, 0)))
             have kc : (w2.alloc (.cells #[.int .u8 0, .int .u64 0, .int .u64 0, .int .i64 0] 26 (0, 0))).cell? ⟨g, 4, none⟩ = some (.string K4) := by rw [blk_cell (HKK.out _ HR.out)]; rfl
             go_wp2_with fail
             refine (R2.out _).mono ?_
             rintro e w3 ⟨rfl, hb⟩
             clear kc
             replace HR := Lib.hid (below_step HR.out hb HR.out.size)
             clear hb
             replace HR := Lib.hid (below_alloc1 HR.out HR.out.size (.cells #[.int .u8 0, .int .u64 0, .int .u64 0] 24 (0, 0)))
             have kc : (w3.alloc (.cells #[.int .u8 0, .int .u64 0, .int .u64 0] 24 (0, 0))).cell? ⟨g, 4, none⟩ = some (.string K4) := by rw [blk_cell (HKK.out _ HR.out)]; rfl
             go_wp2_with fail
             refine (R3.out _).mono ?_
             rintro e w4 ⟨rfl, hb⟩
             clear kc
             replace HR := Lib.hid (below_step HR.out hb HR.out.size)
             clear hb
             replace HR := Lib.hid (below_alloc1 HR.out HR.out.size (.cells #[.int .u8 0, .int .u64 0, .int .u64 0] 24 (0, 0)))
             have kc : (w4.alloc (.cells #[.int .u8 0, .int .u64 0, .int .u64 0] 24 (0, 0))).cell? ⟨g, 4, none⟩ = some (.string K4) := by rw [blk_cell (HKK.out _ HR.out)]; rfl
             go_wp2_with fail
             refine (R4.out _).mono ?_
             rintro e w5 ⟨rfl, hb⟩
             clear kc
             replace HR := Lib.hid (below_step HR.out hb HR.out.size)
             clear hb
             replace HR := Lib.hid (below_alloc1 HR.out HR.out.size (.cells #[.int .u8 0, .int .u64 0, .int .u64 0] 24 (0, 0)))
             have kc : (w5.alloc (.cells #[.int .u8 0, .int .u64 0, .int .u64 0] 24 (0, 0))).cell? ⟨g, 4, none⟩ = some (.string K4) := by rw [blk_cell (HKK.out _ HR.out)]; rfl
             go_wp2_with fail
             refine (R5.out _).mono ?_
             rintro e w6 ⟨rfl, hb⟩
             clear kc
             replace HR := Lib.hid (below_step HR.out hb HR.out.size)
             clear hb
             have y0 : w6.cell? ⟨w.heap.size + 1 + 1, 0, none⟩ = some (.int .u8 (af.toNat : Int)) := by rw [blk_cell (HXK.out _ (HB0.out _ HR.out)).2.2.1]; rfl
             have y1 : w6.cell? ⟨w.heap.size + 1 + 1, 1, none⟩ = some (.int .u64 (ah.toNat : Int)) := by rw [blk_cell (HXK.out _ (HB0.out _ HR.out)).2.2.1]; rfl
             have y2 : w6.cell? ⟨w.heap.size + 1 + 1, 2, none⟩ = some (.int .u64 (al.toNat : Int)) := by rw [blk_cell (HXK.out _ (HB0.out _ HR.out)).2.2.1]; rfl
             go_wp2_with fail
             refine (RA.out _).mono ?_
             rintro e w7 ⟨rfl, hb⟩
             replace HR := Lib.hid (below_step HR.out hb HR.out.size)
             clear hb y0 y1 y2
             have y0 : w7.cell? ⟨w.heap.size + 1 + 1, 0, none⟩ = some (.int .u8 (af.toNat : Int)) := by rw [blk_cell (HXK.out _ (HB0.out _ HR.out)).2.2.1]; rfl
             have y1 : w7.cell? ⟨w.heap.size + 1 + 1, 1, none⟩ = some (.int .u64 (ah.toNat : Int)) := by rw [blk_cell (HXK.out _ (HB0.out _ HR.out)).2.2.1]; rfl
             have y2 : w7.cell? ⟨w.heap.size + 1 + 1, 2, none⟩ = some (.int .u64 (al.toNat : Int)) := by rw [blk_cell (HXK.out _ (HB0.out _ HR.out)).2.2.1]; rfl
             go_wp2_with fail
             go_roundw
             case rel => exact ⟨5, by decide, by first | rfl | go_num, HR.out⟩
             case measure => simp [intOf]
         | true =>
           clear_value *
           as_aux_lemma =>
             have R0 := Lib.hid (fun (W : World) => show Calls Tryd.prog 30 #[.string K4] W (fun e w' => e = .returned (.tuple #[.agg #[.int .u8 0, .int .u64 0, .int .u64 0, .int .i64 0], .bool false]) ∧ Below W.heap.size W w') from by have h := poolOf K4 W (by have := Z4.out; omega); rw [HK4.out] at h ⊢; rw [prefixK_of (ofK_other (by decide))] at h; exact h)
             have R1 := Lib.hid (fun (W : World) => show Calls Tryd.prog 32 #[.string K4] W (fun e w' => e = .returned (.tuple #[.agg #[.int .u8 0, .int .u64 0, .int .u64 0, .int .i64 0], .bool false]) ∧ Below W.heap.size W w') from by have h := holdOf K4 W (by have := Z4.out; omega); rw [HK4.out] at h ⊢; rw [prefixK_of (ofK_other (by decide))] at h; exact h)
             have R2 := Lib.hid (fun (W : World) => show Calls Tryd.prog 33 #[.string K4] W (fun e w' => e = .returned (.tuple #[.agg #[.int .u8 0, .int .u64 0, .int .u64 0], .bool false]) ∧ Below W.heap.size W w') from by have h := leaseOf K4 W (by have := Z4.out; omega); rw [HK4.out] at h ⊢; rw [ofK_other (by decide)] at h; exact h)
             have R3 := Lib.hid (fun (W : World) => show Calls Tryd.prog 35 #[.string K4] W (fun e w' => e = .returned (.tuple #[.agg #[.int .u8 (af.toNat : Int), .int .u64 (ah.toNat : Int), .int .u64 (al.toNat : Int)], .bool true]) ∧ Below W.heap.size W w') from by have h := countOf K4 W (by have := Z4.out; omega); rw [HK4.out] at h ⊢; rw [ofK_key0 5 hp] at h; exact h)
             have R4 := Lib.hid (fun (W : World) => show Calls Tryd.prog 36 #[.string K4] W (fun e w' => e = .returned (.tuple #[.agg #[.int .u8 0, .int .u64 0, .int .u64 0], .int .u64 0, .bool false]) ∧ Below W.heap.size W w') from by have h := eventOf K4 W (by have := Z4.out; omega); rw [HK4.out] at h ⊢; rw [ofK_other (by decide)] at h; exact h)
             have R5 := Lib.hid (fun (W : World) => show Calls Tryd.prog 38 #[.string K4] W (fun e w' => e = .returned (.tuple #[.int .u8 0, .bool false]) ∧ Below W.heap.size W w') from by have h := clientOf K4 W (by have := Z4.out; omega); rw [HK4.out] at h ⊢; rw [client_keyA _ _ _] at h; exact h)
             rw [hp] at RA
             clear hp
             have z1 : ¬ (64 : Int) < (K4.size : Int) := by have := Z4.out; omega
             have z2 : decide (64 < K4.size) = false := decide_eq_false (by have := Z4.out; omega)
             have rn : ∀ W, (binOp .neq 24 (.agg #[.int .u8 (af.toNat : Int), .int .u64 (ah.toNat : Int), .int .u64 (al.toNat : Int)]) (.agg #[.int .u8 (af.toNat : Int), .int .u64 (ah.toNat : Int), .int .u64 (al.toNat : Int)])).run Tryd.prog W = .ok (.bool false) W := run_neqA24 (af, ah, al)
             have kc : wr.cell? ⟨g, 4, none⟩ = some (.string K4) := by rw [blk_cell (HKK.out _ HR.out)]; rfl
             go_wp2_with fail
             refine (R0.out _).mono ?_
             rintro e w1 ⟨rfl, hb⟩
             clear kc
             replace HR := Lib.hid (below_step HR.out hb HR.out.size)
             clear hb
             replace HR := Lib.hid (below_alloc1 HR.out HR.out.size (.cells #[.int .u8 0, .int .u64 0, .int .u64 0, .int .i64 0] 26 (0, 0)))
             have kc : (w1.alloc (.cells #[.int .u8 0, .int .u64 0, .int .u64 0, .int .i64 0] 26 (0, 0))).cell? ⟨g, 4, none⟩ = some (.string K4) := by rw [blk_cell (HKK.out _ HR.out)]; rfl
             go_wp2_with fail
             refine (R1.out _).mono ?_
             rintro e w2 ⟨rfl, hb⟩
             clear kc
             replace HR := Lib.hid (below_step HR.out hb HR.out.size)
             clear hb
             replace HR := Lib.hid (below_alloc1 HR.out HR.out.size (.cells #[.int .u8 0, .int .u64 0, .int .u64 0, .int .i64 0] 26 (0, 0)))
             have kc : (w2.alloc (.cells #[.int .u8 0, .int .u64 0, .int .u64 0, .int .i64 0] 26 (0, 0))).cell? ⟨g, 4, none⟩ = some (.string K4) := by rw [blk_cell (HKK.out _ HR.out)]; rfl
             go_wp2_with fail
             refine (R2.out _).mono ?_
             rintro e w3 ⟨rfl, hb⟩
             clear kc
             replace HR := Lib.hid (below_step HR.out hb HR.out.size)
             clear hb
             replace HR := Lib.hid (below_alloc1 HR.out HR.out.size (.cells #[.int .u8 0, .int .u64 0, .int .u64 0] 24 (0, 0)))
             have kc : (w3.alloc (.cells #[.int .u8 0, .int .u64 0, .int .u64 0] 24 (0, 0))).cell? ⟨g, 4, none⟩ = some (.string K4) := by rw [blk_cell (HKK.out _ HR.out)]; rfl
             go_wp2_with fail
             refine (R3.out _).mono ?_
             rintro e w4 ⟨rfl, hb⟩
             clear kc
             replace HR := Lib.hid (below_step HR.out hb HR.out.size)
             clear hb
             replace HR := Lib.hid (below_alloc1 HR.out HR.out.size (.cells #[.int .u8 (af.toNat : Int), .int .u64 (ah.toNat : Int), .int .u64 (al.toNat : Int)] 24 (0, 0)))
             have XH := Lib.hid (heap_alloc_new w4 (.cells #[.int .u8 (af.toNat : Int), .int .u64 (ah.toNat : Int), .int .u64 (al.toNat : Int)] 24 (0, 0)))
             have kc : (w4.alloc (.cells #[.int .u8 (af.toNat : Int), .int .u64 (ah.toNat : Int), .int .u64 (al.toNat : Int)] 24 (0, 0))).cell? ⟨g, 4, none⟩ = some (.string K4) := by rw [blk_cell (HKK.out _ HR.out)]; rfl
             go_wp2_with fail
             refine (R4.out _).mono ?_
             rintro e w5 ⟨rfl, hb⟩
             clear kc
             replace HR := Lib.hid (below_step HR.out hb HR.out.size)
             replace XH := Lib.hid (blk_kept hb XH.out)
             clear hb
             replace XH := Lib.hid (blk_alloc XH.out (.cells #[.int .u8 0, .int .u64 0, .int .u64 0] 24 (0, 0)))
             replace HR := Lib.hid (below_alloc1 HR.out HR.out.size (.cells #[.int .u8 0, .int .u64 0, .int .u64 0] 24 (0, 0)))
             have kc : (w5.alloc (.cells #[.int .u8 0, .int .u64 0, .int .u64 0] 24 (0, 0))).cell? ⟨g, 4, none⟩ = some (.string K4) := by rw [blk_cell (HKK.out _ HR.out)]; rfl
             go_wp2_with fail
             refine (R5.out _).mono ?_
             rintro e w6 ⟨rfl, hb⟩
             clear kc
             replace HR := Lib.hid (below_step HR.out hb HR.out.size)
             replace XH := Lib.hid (blk_kept hb XH.out)
             clear hb
             have y0 : w6.cell? ⟨w.heap.size + 1 + 1, 0, none⟩ = some (.int .u8 (af.toNat : Int)) := by rw [blk_cell (HXK.out _ (HB0.out _ HR.out)).2.2.1]; rfl
             have y1 : w6.cell? ⟨w.heap.size + 1 + 1, 1, none⟩ = some (.int .u64 (ah.toNat : Int)) := by rw [blk_cell (HXK.out _ (HB0.out _ HR.out)).2.2.1]; rfl
             have y2 : w6.cell? ⟨w.heap.size + 1 + 1, 2, none⟩ = some (.int .u64 (al.toNat : Int)) := by rw [blk_cell (HXK.out _ (HB0.out _ HR.out)).2.2.1]; rfl
             have x0 : w6.cell? ⟨w4.heap.size, 0, none⟩ = some (.int .u8 (af.toNat : Int)) := by rw [blk_cell XH.out]; rfl
             have x1 : w6.cell? ⟨w4.heap.size, 1, none⟩ = some (.int .u64 (ah.toNat : Int)) := by rw [blk_cell XH.out]; rfl
             have x2 : w6.cell? ⟨w4.heap.size, 2, none⟩ = some (.int .u64 (al.toNat : Int)) := by rw [blk_cell XH.out]; rfl
             go_wp2_with fail
             refine (RA.out _).mono ?_
             rintro e w7 ⟨rfl, hb⟩
             replace HR := Lib.hid (below_step HR.out hb HR.out.size)
             replace XH := Lib.hid (blk_kept hb XH.out)
             clear hb y0 y1 y2 x0 x1 x2
             have y0 : w7.cell? ⟨w.heap.size + 1 + 1, 0, none⟩ = some (.int .u8 (af.toNat : Int)) := by rw [blk_cell (HXK.out _ (HB0.out _ HR.out)).2.2.1]; rfl
             have y1 : w7.cell? ⟨w.heap.size + 1 + 1, 1, none⟩ = some (.int .u64 (ah.toNat : Int)) := by rw [blk_cell (HXK.out _ (HB0.out _ HR.out)).2.2.1]; rfl
             have y2 : w7.cell? ⟨w.heap.size + 1 + 1, 2, none⟩ = some (.int .u64 (al.toNat : Int)) := by rw [blk_cell (HXK.out _ (HB0.out _ HR.out)).2.2.1]; rfl
             have x0 : w7.cell? ⟨w4.heap.size, 0, none⟩ = some (.int .u8 (af.toNat : Int)) := by rw [blk_cell XH.out]; rfl
             have x1 : w7.cell? ⟨w4.heap.size, 1, none⟩ = some (.int .u64 (ah.toNat : Int)) := by rw [blk_cell XH.out]; rfl
             have x2 : w7.cell? ⟨w4.heap.size, 2, none⟩ = some (.int .u64 (al.toNat : Int)) := by rw [blk_cell XH.out]; rfl
             go_wp2_with fail
             go_roundw
             case rel => exact ⟨5, by decide, by first | rfl | go_num, HR.out⟩
             case measure => simp [intOf]
       · cases hp : rightA (af, ah, al) with
         | false =>
           clear_value *
           as_aux_lemma =>
             have R0 := Lib.hid (fun (W : World) => show Calls Tryd.prog 30 #[.string K5] W (fun e w' => e = .returned (.tuple #[.agg #[.int .u8 0, .int .u64 0, .int .u64 0, .int .i64 0], .bool false]) ∧ Below W.heap.size W w') from by have h := poolOf K5 W (by have := Z5.out; omega); rw [HK5.out] at h ⊢; rw [prefixK_of (ofK_other (by decide))] at h; exact h)
             have R1 := Lib.hid (fun (W : World) => show Calls Tryd.prog 32 #[.string K5] W (fun e w' => e = .returned (.tuple #[.agg #[.int .u8 0, .int .u64 0, .int .u64 0, .int .i64 0], .bool false]) ∧ Below W.heap.size W w') from by have h := holdOf K5 W (by have := Z5.out; omega); rw [HK5.out] at h ⊢; rw [prefixK_of (ofK_other (by decide))] at h; exact h)
             have R2 := Lib.hid (fun (W : World) => show Calls Tryd.prog 33 #[.string K5] W (fun e w' => e = .returned (.tuple #[.agg #[.int .u8 0, .int .u64 0, .int .u64 0], .bool false]) ∧ Below W.heap.size W w') from by have h := leaseOf K5 W (by have := Z5.out; omega); rw [HK5.out] at h ⊢; rw [ofK_other (by decide)] at h; exact h)
             have R3 := Lib.hid (fun (W : World) => show Calls Tryd.prog 35 #[.string K5] W (fun e w' => e = .returned (.tuple #[.agg #[.int .u8 0, .int .u64 0, .int .u64 0], .bool false]) ∧ Below W.heap.size W w') from by have h := countOf K5 W (by have := Z5.out; omega); rw [HK5.out] at h ⊢; rw [ofK_other (by decide)] at h; exact h)
             have R4 := Lib.hid (fun (W : World) => show Calls Tryd.prog 36 #[.string K5] W (fun e w' => e = .returned (.tuple #[.agg #[.int .u8 0, .int .u64 0, .int .u64 0], .int .u64 0, .bool false]) ∧ Below W.heap.size W w') from by have h := eventOf K5 W (by have := Z5.out; omega); rw [HK5.out] at h ⊢; rw [ofK_wrong 6 hp] at h; exact h)
             have R5 := Lib.hid (fun (W : World) => show Calls Tryd.prog 38 #[.string K5] W (fun e w' => e = .returned (.tuple #[.int .u8 0, .bool false]) ∧ Below W.heap.size W w') from by have h := clientOf K5 W (by have := Z5.out; omega); rw [HK5.out] at h ⊢; rw [client_keyA _ _ _] at h; exact h)
             rw [hp] at RA
             clear hp
             have z1 : ¬ (64 : Int) < (K5.size : Int) := by have := Z5.out; omega
             have z2 : decide (64 < K5.size) = false := decide_eq_false (by have := Z5.out; omega)
             have kc : wr.cell? ⟨g, 5, none⟩ = some (.string K5) := by rw [blk_cell (HKK.out _ HR.out)]; rfl
             go_wp2_with fail
             refine (R0.out _).mono ?_
             rintro e w1 ⟨rfl, hb⟩
             clear kc
             replace HR := Lib.hid (below_step HR.out hb HR.out.size)
             clear hb
             replace HR := Lib.hid (below_alloc1 HR.out HR.out.size (.cells #[.int .u8 0, .int .u64 0, .int .u64 0, .int .i64 0] 26 (0, 0)))
             have kc : (w1.alloc (.cells #[.int .u8 0, .int .u64 0, .int .u64 0, .int .i64 0] 26 (0, 0))).cell? ⟨g, 5, none⟩ = some (.string K5) := by rw [blk_cell (HKK.out _ HR.out)]; rfl
             go_wp2_with fail
             refine (R1.out _).mono ?_
             rintro e w2 ⟨rfl, hb⟩
             clear kc
             replace HR := Lib.hid (below_step HR.out hb HR.out.size)
             clear hb
             replace HR := Lib.hid (below_alloc1 HR.out HR.out.size (.cells #[.int .u8 0, .int .u64 0, .int .u64 0, .int .i64 0] 26 (0, 0)))
             have kc : (w2.alloc (.cells #[.int .u8 0, .int .u64 0, .int .u64 0, .int .i64 0] 26 (0, 0))).cell? ⟨g, 5, none⟩ = some (.string K5) := by rw [blk_cell (HKK.out _ HR.out)]; rfl
             go_wp2_with fail
             refine (R2.out _).mono ?_
             rintro e w3 ⟨rfl, hb⟩
             clear kc
             replace HR := Lib.hid (below_step HR.out hb HR.out.size)
             clear hb
             replace HR := Lib.hid (below_alloc1 HR.out HR.out.size (.cells #[.int .u8 0, .int .u64 0, .int .u64 0] 24 (0, 0)))
             have kc : (w3.alloc (.cells #[.int .u8 0, .int .u64 0, .int .u64 0] 24 (0, 0))).cell? ⟨g, 5, none⟩ = some (.string K5) := by rw [blk_cell (HKK.out _ HR.out)]; rfl
             go_wp2_with fail
             refine (R3.out _).mono ?_
             rintro e w4 ⟨rfl, hb⟩
             clear kc
             replace HR := Lib.hid (below_step HR.out hb HR.out.size)
             clear hb
             replace HR := Lib.hid (below_alloc1 HR.out HR.out.size (.cells #[.int .u8 0, .int .u64 0, .int .u64 0] 24 (0, 0)))
             have kc : (w4.alloc (.cells #[.int .u8 0, .int .u64 0, .int .u64 0] 24 (0, 0))).cell? ⟨g, 5, none⟩ = some (.string K5) := by rw [blk_cell (HKK.out _ HR.out)]; rfl
             go_wp2_with fail
             refine (R4.out _).mono ?_
             rintro e w5 ⟨rfl, hb⟩
             clear kc
             replace HR := Lib.hid (below_step HR.out hb HR.out.size)
             clear hb
             replace HR := Lib.hid (below_alloc1 HR.out HR.out.size (.cells #[.int .u8 0, .int .u64 0, .int .u64 0] 24 (0, 0)))
             have kc : (w5.alloc (.cells #[.int .u8 0, .int .u64 0, .int .u64 0] 24 (0, 0))).cell? ⟨g, 5, none⟩ = some (.string K5) := by rw [blk_cell (HKK.out _ HR.out)]; rfl
             go_wp2_with fail
             refine (R5.out _).mono ?_
             rintro e w6 ⟨rfl, hb⟩
             clear kc
             replace HR := Lib.hid (below_step HR.out hb HR.out.size)
             clear hb
             have y0 : w6.cell? ⟨w.heap.size + 1 + 1, 0, none⟩ = some (.int .u8 (af.toNat : Int)) := by rw [blk_cell (HXK.out _ (HB0.out _ HR.out)).2.2.1]; rfl
             have y1 : w6.cell? ⟨w.heap.size + 1 + 1, 1, none⟩ = some (.int .u64 (ah.toNat : Int)) := by rw [blk_cell (HXK.out _ (HB0.out _ HR.out)).2.2.1]; rfl
             have y2 : w6.cell? ⟨w.heap.size + 1 + 1, 2, none⟩ = some (.int .u64 (al.toNat : Int)) := by rw [blk_cell (HXK.out _ (HB0.out _ HR.out)).2.2.1]; rfl
             go_wp2_with fail
             refine (RA.out _).mono ?_
             rintro e w7 ⟨rfl, hb⟩
             replace HR := Lib.hid (below_step HR.out hb HR.out.size)
             clear hb y0 y1 y2
             have y0 : w7.cell? ⟨w.heap.size + 1 + 1, 0, none⟩ = some (.int .u8 (af.toNat : Int)) := by rw [blk_cell (HXK.out _ (HB0.out _ HR.out)).2.2.1]; rfl
             have y1 : w7.cell? ⟨w.heap.size + 1 + 1, 1, none⟩ = some (.int .u64 (ah.toNat : Int)) := by rw [blk_cell (HXK.out _ (HB0.out _ HR.out)).2.2.1]; rfl
             have y2 : w7.cell? ⟨w.heap.size + 1 + 1, 2, none⟩ = some (.int .u64 (al.toNat : Int)) := by rw [blk_cell (HXK.out _ (HB0.out _ HR.out)).2.2.1]; rfl
             go_wp2_with fail
             go_roundw
             case rel => exact ⟨6, by decide, by first | rfl | go_num, HR.out⟩
             case measure => simp [intOf]
         | true =>
           clear_value *
           as_aux_lemma =>
             have R0 := Lib.hid (fun (W : World) => show Calls Tryd.prog 30 #[.string K5] W (fun e w' => e = .returned (.tuple #[.agg #[.int .u8 0, .int .u64 0, .int .u64 0, .int .i64 0], .bool false]) ∧ Below W.heap.size W w') from by have h := poolOf K5 W (by have := Z5.out; omega); rw [HK5.out] at h ⊢; rw [prefixK_of (ofK_other (by decide))] at h; exact h)
             have R1 := Lib.hid (fun (W : World) => show Calls Tryd.prog 32 #[.string K5] W (fun e w' => e = .returned (.tuple #[.agg #[.int .u8 0, .int .u64 0, .int .u64 0, .int .i64 0], .bool false]) ∧ Below W.heap.size W w') from by have h := holdOf K5 W (by have := Z5.out; omega); rw [HK5.out] at h ⊢; rw [prefixK_of (ofK_other (by decide))] at h; exact h)
             have R2 := Lib.hid (fun (W : World) => show Calls Tryd.prog 33 #[.string K5] W (fun e w' => e = .returned (.tuple #[.agg #[.int .u8 0, .int .u64 0, .int .u64 0], .bool false]) ∧ Below W.heap.size W w') from by have h := leaseOf K5 W (by have := Z5.out; omega); rw [HK5.out] at h ⊢; rw [ofK_other (by decide)] at h; exact h)
             have R3 := Lib.hid (fun (W : World) => show Calls Tryd.prog 35 #[.string K5] W (fun e w' => e = .returned (.tuple #[.agg #[.int .u8 0, .int .u64 0, .int .u64 0], .bool false]) ∧ Below W.heap.size W w') from by have h := countOf K5 W (by have := Z5.out; omega); rw [HK5.out] at h ⊢; rw [ofK_other (by decide)] at h; exact h)
             have R4 := Lib.hid (fun (W : World) => show Calls Tryd.prog 36 #[.string K5] W (fun e w' => e = .returned (.tuple #[.agg #[.int .u8 (af.toNat : Int), .int .u64 (ah.toNat : Int), .int .u64 (al.toNat : Int)], .int .u64 (n.toNat : Int), .bool true]) ∧ Below W.heap.size W w') from by have h := eventOf K5 W (by have := Z5.out; omega); rw [HK5.out] at h ⊢; rw [ofK_key1 6 n hp] at h; exact h)
             have R5 := Lib.hid (fun (W : World) => show Calls Tryd.prog 38 #[.string K5] W (fun e w' => e = .returned (.tuple #[.int .u8 0, .bool false]) ∧ Below W.heap.size W w') from by have h := clientOf K5 W (by have := Z5.out; omega); rw [HK5.out] at h ⊢; rw [client_keyA _ _ _] at h; exact h)
             rw [hp] at RA
             clear hp
             have z1 : ¬ (64 : Int) < (K5.size : Int) := by have := Z5.out; omega
             have z2 : decide (64 < K5.size) = false := decide_eq_false (by have := Z5.out; omega)
             have rn : ∀ W, (binOp .neq 24 (.agg #[.int .u8 (af.toNat : Int), .int .u64 (ah.toNat : Int), .int .u64 (al.toNat : Int)]) (.agg #[.int .u8 (af.toNat : Int), .int .u64 (ah.toNat : Int), .int .u64 (al.toNat : Int)])).run Tryd.prog W = .ok (.bool false) W := run_neqA24 (af, ah, al)
             have kc : wr.cell? ⟨g, 5, none⟩ = some (.string K5) := by rw [blk_cell (HKK.out _ HR.out)]; rfl
             go_wp2_with fail
             refine (R0.out _).mono ?_
             rintro e w1 ⟨rfl, hb⟩
             clear kc
             replace HR := Lib.hid (below_step HR.out hb HR.out.size)
             clear hb
             replace HR := Lib.hid (below_alloc1 HR.out HR.out.size (.cells #[.int .u8 0, .int .u64 0, .int .u64 0, .int .i64 0] 26 (0, 0)))
             have kc : (w1.alloc (.cells #[.int .u8 0, .int .u64 0, .int .u64 0, .int .i64 0] 26 (0, 0))).cell? ⟨g, 5, none⟩ = some (.string K5) := by rw [blk_cell (HKK.out _ HR.out)]; rfl
             go_wp2_with fail
             refine (R1.out _).mono ?_
             rintro e w2 ⟨rfl, hb⟩
             clear kc
             replace HR := Lib.hid (below_step HR.out hb HR.out.size)
             clear hb
             replace HR := Lib.hid (below_alloc1 HR.out HR.out.size (.cells #[.int .u8 0, .int .u64 0, .int .u64 0, .int .i64 0] 26 (0, 0)))
             have kc : (w2.alloc (.cells #[.int .u8 0, .int .u64 0, .int .u64 0, .int .i64 0] 26 (0, 0))).cell? ⟨g, 5, none⟩ = some (.string K5) := by rw [blk_cell (HKK.out _ HR.out)]; rfl
             go_wp2_with fail
             refine (R2.out _).mono ?_
             rintro e w3 ⟨rfl, hb⟩
             clear kc
             replace HR := Lib.hid (below_step HR.out hb HR.out.size)
             clear hb
             replace HR := Lib.hid (below_alloc1 HR.out HR.out.size (.cells #[.int .u8 0, .int .u64 0, .int .u64 0] 24 (0, 0)))
             have kc : (w3.alloc (.cells #[.int .u8 0, .int .u64 0, .int .u64 0] 24 (0, 0))).cell? ⟨g, 5, none⟩ = some (.string K5) := by rw [blk_cell (HKK.out _ HR.out)]; rfl
             go_wp2_with fail
             refine (R3.out _).mono ?_
             rintro e w4 ⟨rfl, hb⟩
             clear kc
             replace HR := Lib.hid (below_step HR.out hb HR.out.size)
             clear hb
             replace HR := Lib.hid (below_alloc1 HR.out HR.out.size (.cells #[.int .u8 0, .int .u64 0, .int .u64 0] 24 (0, 0)))
             have kc : (w4.alloc (.cells #[.int .u8 0, .int .u64 0, .int .u64 0] 24 (0, 0))).cell? ⟨g, 5, none⟩ = some (.string K5) := by rw [blk_cell (HKK.out _ HR.out)]; rfl
             go_wp2_with fail
             refine (R4.out _).mono ?_
             rintro e w5 ⟨rfl, hb⟩
             clear kc
             replace HR := Lib.hid (below_step HR.out hb HR.out.size)
             clear hb
             replace HR := Lib.hid (below_alloc1 HR.out HR.out.size (.cells #[.int .u8 (af.toNat : Int), .int .u64 (ah.toNat : Int), .int .u64 (al.toNat : Int)] 24 (0, 0)))
             have XH := Lib.hid (heap_alloc_new w5 (.cells #[.int .u8 (af.toNat : Int), .int .u64 (ah.toNat : Int), .int .u64 (al.toNat : Int)] 24 (0, 0)))
             have kc : (w5.alloc (.cells #[.int .u8 (af.toNat : Int), .int .u64 (ah.toNat : Int), .int .u64 (al.toNat : Int)] 24 (0, 0))).cell? ⟨g, 5, none⟩ = some (.string K5) := by rw [blk_cell (HKK.out _ HR.out)]; rfl
             go_wp2_with fail
             refine (R5.out _).mono ?_
             rintro e w6 ⟨rfl, hb⟩
             clear kc
             replace HR := Lib.hid (below_step HR.out hb HR.out.size)
             replace XH := Lib.hid (blk_kept hb XH.out)
             clear hb
             have y0 : w6.cell? ⟨w.heap.size + 1 + 1, 0, none⟩ = some (.int .u8 (af.toNat : Int)) := by rw [blk_cell (HXK.out _ (HB0.out _ HR.out)).2.2.1]; rfl
             have y1 : w6.cell? ⟨w.heap.size + 1 + 1, 1, none⟩ = some (.int .u64 (ah.toNat : Int)) := by rw [blk_cell (HXK.out _ (HB0.out _ HR.out)).2.2.1]; rfl
             have y2 : w6.cell? ⟨w.heap.size + 1 + 1, 2, none⟩ = some (.int .u64 (al.toNat : Int)) := by rw [blk_cell (HXK.out _ (HB0.out _ HR.out)).2.2.1]; rfl
             have x0 : w6.cell? ⟨w5.heap.size, 0, none⟩ = some (.int .u8 (af.toNat : Int)) := by rw [blk_cell XH.out]; rfl
             have x1 : w6.cell? ⟨w5.heap.size, 1, none⟩ = some (.int .u64 (ah.toNat : Int)) := by rw [blk_cell XH.out]; rfl
             have x2 : w6.cell? ⟨w5.heap.size, 2, none⟩ = some (.int .u64 (al.toNat : Int)) := by rw [blk_cell XH.out]; rfl
             go_wp2_with fail
             refine (RA.out _).mono ?_
             rintro e w7 ⟨rfl, hb⟩
             replace HR := Lib.hid (below_step HR.out hb HR.out.size)
             replace XH := Lib.hid (blk_kept hb XH.out)
             clear hb y0 y1 y2 x0 x1 x2
             have y0 : w7.cell? ⟨w.heap.size + 1 + 1, 0, none⟩ = some (.int .u8 (af.toNat : Int)) := by rw [blk_cell (HXK.out _ (HB0.out _ HR.out)).2.2.1]; rfl
             have y1 : w7.cell? ⟨w.heap.size + 1 + 1, 1, none⟩ = some (.int .u64 (ah.toNat : Int)) := by rw [blk_cell (HXK.out _ (HB0.out _ HR.out)).2.2.1]; rfl
             have y2 : w7.cell? ⟨w.heap.size + 1 + 1, 2, none⟩ = some (.int .u64 (al.toNat : Int)) := by rw [blk_cell (HXK.out _ (HB0.out _ HR.out)).2.2.1]; rfl
             have x0 : w7.cell? ⟨w5.heap.size, 0, none⟩ = some (.int .u8 (af.toNat : Int)) := by rw [blk_cell XH.out]; rfl
             have x1 : w7.cell? ⟨w5.heap.size, 1, none⟩ = some (.int .u64 (ah.toNat : Int)) := by rw [blk_cell XH.out]; rfl
             have x2 : w7.cell? ⟨w5.heap.size, 2, none⟩ = some (.int .u64 (al.toNat : Int)) := by rw [blk_cell XH.out]; rfl
             go_wp2_with fail
             go_roundw
             case rel => exact ⟨6, by decide, by first | rfl | go_num, HR.out⟩
             case measure => simp [intOf]
       ·
         clear_value *
         as_aux_lemma =>
           have R0 := Lib.hid (fun (W : World) => show Calls Tryd.prog 30 #[.string K6] W (fun e w' => e = .returned (.tuple #[.agg #[.int .u8 0, .int .u64 0, .int .u64 0, .int .i64 0], .bool false]) ∧ Below W.heap.size W w') from by have h := poolOf K6 W (by have := Z6.out; omega); rw [HK6.out] at h ⊢; rw [prefixK_of (ofK_client 2 1 c)] at h; exact h)
           have R1 := Lib.hid (fun (W : World) => show Calls Tryd.prog 32 #[.string K6] W (fun e w' => e = .returned (.tuple #[.agg #[.int .u8 0, .int .u64 0, .int .u64 0, .int .i64 0], .bool false]) ∧ Below W.heap.size W w') from by have h := holdOf K6 W (by have := Z6.out; omega); rw [HK6.out] at h ⊢; rw [prefixK_of (ofK_client 3 1 c)] at h; exact h)
           have R2 := Lib.hid (fun (W : World) => show Calls Tryd.prog 33 #[.string K6] W (fun e w' => e = .returned (.tuple #[.agg #[.int .u8 0, .int .u64 0, .int .u64 0], .bool false]) ∧ Below W.heap.size W w') from by have h := leaseOf K6 W (by have := Z6.out; omega); rw [HK6.out] at h ⊢; rw [ofK_client 4 0 c] at h; exact h)
           have R3 := Lib.hid (fun (W : World) => show Calls Tryd.prog 35 #[.string K6] W (fun e w' => e = .returned (.tuple #[.agg #[.int .u8 0, .int .u64 0, .int .u64 0], .bool false]) ∧ Below W.heap.size W w') from by have h := countOf K6 W (by have := Z6.out; omega); rw [HK6.out] at h ⊢; rw [ofK_client 5 0 c] at h; exact h)
           have R4 := Lib.hid (fun (W : World) => show Calls Tryd.prog 36 #[.string K6] W (fun e w' => e = .returned (.tuple #[.agg #[.int .u8 0, .int .u64 0, .int .u64 0], .int .u64 0, .bool false]) ∧ Below W.heap.size W w') from by have h := eventOf K6 W (by have := Z6.out; omega); rw [HK6.out] at h ⊢; rw [ofK_client 6 1 c] at h; exact h)
           have R5 := Lib.hid (fun (W : World) => show Calls Tryd.prog 38 #[.string K6] W (fun e w' => e = .returned (.tuple #[.int .u8 (c.toNat : Int), .bool true]) ∧ Below W.heap.size W w') from by have h := clientOf K6 W (by have := Z6.out; omega); rw [HK6.out] at h ⊢; rw [client_key c] at h; exact h)
           have z1 : ¬ (64 : Int) < (K6.size : Int) := by have := Z6.out; omega
           have z2 : decide (64 < K6.size) = false := decide_eq_false (by have := Z6.out; omega)
           have kc : wr.cell? ⟨g, 6, none⟩ = some (.string K6) := by rw [blk_cell (HKK.out _ HR.out)]; rfl
           go_wp2_with fail
           refine (R0.out _).mono ?_
           rintro e w1 ⟨rfl, hb⟩
           clear kc
           replace HR := Lib.hid (below_step HR.out hb HR.out.size)
           clear hb
           replace HR := Lib.hid (below_alloc1 HR.out HR.out.size (.cells #[.int .u8 0, .int .u64 0, .int .u64 0, .int .i64 0] 26 (0, 0)))
           have kc : (w1.alloc (.cells #[.int .u8 0, .int .u64 0, .int .u64 0, .int .i64 0] 26 (0, 0))).cell? ⟨g, 6, none⟩ = some (.string K6) := by rw [blk_cell (HKK.out _ HR.out)]; rfl
           go_wp2_with fail
           refine (R1.out _).mono ?_
           rintro e w2 ⟨rfl, hb⟩
           clear kc
           replace HR := Lib.hid (below_step HR.out hb HR.out.size)
           clear hb
           replace HR := Lib.hid (below_alloc1 HR.out HR.out.size (.cells #[.int .u8 0, .int .u64 0, .int .u64 0, .int .i64 0] 26 (0, 0)))
           have kc : (w2.alloc (.cells #[.int .u8 0, .int .u64 0, .int .u64 0, .int .i64 0] 26 (0, 0))).cell? ⟨g, 6, none⟩ = some (.string K6) := by rw [blk_cell (HKK.out _ HR.out)]; rfl
           go_wp2_with fail
           refine (R2.out _).mono ?_
           rintro e w3 ⟨rfl, hb⟩
           clear kc
           replace HR := Lib.hid (below_step HR.out hb HR.out.size)
           clear hb
           replace HR := Lib.hid (below_alloc1 HR.out HR.out.size (.cells #[.int .u8 0, .int .u64 0, .int .u64 0] 24 (0, 0)))
           have kc : (w3.alloc (.cells #[.int .u8 0, .int .u64 0, .int .u64 0] 24 (0, 0))).cell? ⟨g, 6, none⟩ = some (.string K6) := by rw [blk_cell (HKK.out _ HR.out)]; rfl
           go_wp2_with fail
           refine (R3.out _).mono ?_
           rintro e w4 ⟨rfl, hb⟩
           clear kc
           replace HR := Lib.hid (below_step HR.out hb HR.out.size)
           clear hb
           replace HR := Lib.hid (below_alloc1 HR.out HR.out.size (.cells #[.int .u8 0, .int .u64 0, .int .u64 0] 24 (0, 0)))
           have kc : (w4.alloc (.cells #[.int .u8 0, .int .u64 0, .int .u64 0] 24 (0, 0))).cell? ⟨g, 6, none⟩ = some (.string K6) := by rw [blk_cell (HKK.out _ HR.out)]; rfl
           go_wp2_with fail
           refine (R4.out _).mono ?_
           rintro e w5 ⟨rfl, hb⟩
           clear kc
           replace HR := Lib.hid (below_step HR.out hb HR.out.size)
           clear hb
           replace HR := Lib.hid (below_alloc1 HR.out HR.out.size (.cells #[.int .u8 0, .int .u64 0, .int .u64 0] 24 (0, 0)))
           have kc : (w5.alloc (.cells #[.int .u8 0, .int .u64 0, .int .u64 0] 24 (0, 0))).cell? ⟨g, 6, none⟩ = some (.string K6) := by rw [blk_cell (HKK.out _ HR.out)]; rfl
           go_wp2_with fail
           refine (R5.out _).mono ?_
           rintro e w6 ⟨rfl, hb⟩
           clear kc
           replace HR := Lib.hid (below_step HR.out hb HR.out.size)
           clear hb
           go_wp2_with fail
           go_roundw
           case rel => exact ⟨7, by decide, by first | rfl | go_num, HR.out⟩
           case measure => simp [intOf]
       · go_wp2_with fail
         go_meet
         case rel => exact HR.out
    case rest =>
      rename World => W4
      have HR := Lib.hid hcut
      clear hcut
      go_wp2_with fail
      have xx := (HXK.out _ (HB0.out _ HR.out)).1
      have tp0 : ∀ zz : Later W4.heap.size W4, zz.val.cell? ⟨w.heap.size, 0, none⟩ = some (.int .u8 (pf.toNat : Int)) := fun zz => Later.cell (by rw [blk_cell xx]; rfl) (blk_lt xx) zz
      have tp1 : ∀ zz : Later W4.heap.size W4, zz.val.cell? ⟨w.heap.size, 1, none⟩ = some (.int .u64 (ph.toNat : Int)) := fun zz => Later.cell (by rw [blk_cell xx]; rfl) (blk_lt xx) zz
      have tp2 : ∀ zz : Later W4.heap.size W4, zz.val.cell? ⟨w.heap.size, 2, none⟩ = some (.int .u64 (pl.toNat : Int)) := fun zz => Later.cell (by rw [blk_cell xx]; rfl) (blk_lt xx) zz
      have tp3 : ∀ zz : Later W4.heap.size W4, zz.val.cell? ⟨w.heap.size, 3, none⟩ = some (.int .i64 pn) := fun zz => Later.cell (by rw [blk_cell xx]; rfl) (blk_lt xx) zz
      clear xx
      have xx := (HXK.out _ (HB0.out _ HR.out)).2.1
      have tq0 : ∀ zz : Later W4.heap.size W4, zz.val.cell? ⟨w.heap.size + 1, 0, none⟩ = some (.int .u8 (qf.toNat : Int)) := fun zz => Later.cell (by rw [blk_cell xx]; rfl) (blk_lt xx) zz
      have tq1 : ∀ zz : Later W4.heap.size W4, zz.val.cell? ⟨w.heap.size + 1, 1, none⟩ = some (.int .u64 (qh.toNat : Int)) := fun zz => Later.cell (by rw [blk_cell xx]; rfl) (blk_lt xx) zz
      have tq2 : ∀ zz : Later W4.heap.size W4, zz.val.cell? ⟨w.heap.size + 1, 2, none⟩ = some (.int .u64 (ql.toNat : Int)) := fun zz => Later.cell (by rw [blk_cell xx]; rfl) (blk_lt xx) zz
      have tq3 : ∀ zz : Later W4.heap.size W4, zz.val.cell? ⟨w.heap.size + 1, 3, none⟩ = some (.int .i64 qn) := fun zz => Later.cell (by rw [blk_cell xx]; rfl) (blk_lt xx) zz
      clear xx
      have tM := Lib.hid (fun (zz : Later W4.heap.size W4) => HMK.out _ (HB0.out _ (below_step HR.out zz.prop HR.out.size)))
      go_cut [238] (fun v W => v = .bool false ∧ Below W1.heap.size W1 W)
      case first =>
        try clear_value *
        as_aux_lemma =>
          cases hp : rightP ((pf, ph, pl), pn) with
          | false =>
            rw [hp] at RP
            clear hp
            refine wp_region_later W4.heap.size (by kernel_rfl) (by kernel_rfl) ?_
            repeat (go_big_quiet_step (first
              | (go_at_call 52; (with_reducible exact Later.calls (Nat.le_refl _) (RP.out _)))
              | (go_at_call 52; (with_reducible exact Later.calls (Nat.le_refl _) (RQ.out _)))
              | (go_at_call 11; (with_reducible exact Later.calls (Nat.le_refl _) (C1.out _ (tM.out _))))
              | (go_at_call 11; (with_reducible exact Later.calls (Nat.le_refl _) (D1.out _ (tM.out _))))
              | (go_at_call 13; (with_reducible exact Later.calls (Nat.le_refl _) (C2.out _ (tM.out _))))
              | (go_at_call 13; (with_reducible exact Later.calls (Nat.le_refl _) (D2.out _ (tM.out _))))
              | (go_at_call 54; (with_reducible exact Later.calls (Nat.le_refl _) (BP.out _)))))
            refine wpQuiet_nil ?_
            rintro wq ⟨zz, rfl⟩
            have HRQ := Lib.hid (below_step HR.out zz.prop HR.out.size)
            go_wp2_with fail
            go_meet
            case rel => exact ⟨rfl, HRQ.out⟩
          | true =>
            cases hq : rightP ((qf, qh, ql), qn) with
            | false =>
              rw [hp] at RP
              rw [hq] at RQ
              clear hp hq
              refine wp_region_later W4.heap.size (by kernel_rfl) (by kernel_rfl) ?_
              repeat (go_big_quiet_step (first
                | (go_at_call 52; (with_reducible exact Later.calls (Nat.le_refl _) (RP.out _)))
                | (go_at_call 52; (with_reducible exact Later.calls (Nat.le_refl _) (RQ.out _)))
                | (go_at_call 11; (with_reducible exact Later.calls (Nat.le_refl _) (C1.out _ (tM.out _))))
                | (go_at_call 11; (with_reducible exact Later.calls (Nat.le_refl _) (D1.out _ (tM.out _))))
                | (go_at_call 13; (with_reducible exact Later.calls (Nat.le_refl _) (C2.out _ (tM.out _))))
                | (go_at_call 13; (with_reducible exact Later.calls (Nat.le_refl _) (D2.out _ (tM.out _))))
                | (go_at_call 54; (with_reducible exact Later.calls (Nat.le_refl _) (BP.out _)))))
              refine wpQuiet_nil ?_
              rintro wq ⟨zz, rfl⟩
              have HRQ := Lib.hid (below_step HR.out zz.prop HR.out.size)
              go_wp2_with fail
              go_meet
              case rel => exact ⟨rfl, HRQ.out⟩
            | true =>
              have l2 := prefix_less (k := 2) hp hq
              have e3 := hold_eq (k := 3) hp hq
              rw [← HK1.out, ← HL1.out] at l2
              rw [← HK2.out, ← HL2.out] at e3
              have re : ∀ W, (binOp .eql 26 (.agg #[.int .u8 (pf.toNat : Int), .int .u64 (ph.toNat : Int), .int .u64 (pl.toNat : Int), .int .i64 pn]) (.agg #[.int .u8 (qf.toNat : Int), .int .u64 (qh.toNat : Int), .int .u64 (ql.toNat : Int), .int .i64 qn])).run Tryd.prog W = .ok (.bool (((pf, ph, pl), pn) == ((qf, qh, ql), qn))) W := run_eqlP26 ((pf, ph, pl), pn) ((qf, qh, ql), qn)
              obtain ⟨bv, hbv⟩ : ∃ b, b = before ((pf, ph, pl), pn) ((qf, qh, ql), qn) := ⟨_, rfl⟩
              obtain ⟨ev, hev⟩ : ∃ b, b = (((pf, ph, pl), pn) == ((qf, qh, ql), qn)) := ⟨_, rfl⟩
              rw [← hbv] at l2 BP
              rw [← hev] at e3 re
              rw [hp] at RP
              rw [hq] at RQ
              clear hp hq hbv hev
              have b1 : (bv == bv) = true := by simp
              have b2 : (ev == ev) = true := by simp
              refine wp_region_later W4.heap.size (by kernel_rfl) (by kernel_rfl) ?_
              repeat (go_big_quiet_step (first
                | (go_at_call 52; (with_reducible exact Later.calls (Nat.le_refl _) (RP.out _)))
                | (go_at_call 52; (with_reducible exact Later.calls (Nat.le_refl _) (RQ.out _)))
                | (go_at_call 11; (with_reducible exact Later.calls (Nat.le_refl _) (C1.out _ (tM.out _))))
                | (go_at_call 11; (with_reducible exact Later.calls (Nat.le_refl _) (D1.out _ (tM.out _))))
                | (go_at_call 13; (with_reducible exact Later.calls (Nat.le_refl _) (C2.out _ (tM.out _))))
                | (go_at_call 13; (with_reducible exact Later.calls (Nat.le_refl _) (D2.out _ (tM.out _))))
                | (go_at_call 54; (with_reducible exact Later.calls (Nat.le_refl _) (BP.out _)))))
              refine wpQuiet_nil ?_
              rintro wq ⟨zz, rfl⟩
              have HRQ := Lib.hid (below_step HR.out zz.prop HR.out.size)
              go_wp2_with fail
              go_meet
              case rel => exact ⟨rfl, HRQ.out⟩
      case rest =>
        obtain ⟨rfl, hb⟩ := hcut
        rename World => W2
        replace HR := Lib.hid hb
        clear hb tp0 tp1 tp2 tp3 tq0 tq1 tq2 tq3 tM
        go_wp2_with fail
        have xx := (HXK.out _ (HB0.out _ HR.out)).2.2.1
        have ta0 : ∀ zz : Later W2.heap.size W2, zz.val.cell? ⟨w.heap.size + 1 + 1, 0, none⟩ = some (.int .u8 (af.toNat : Int)) := fun zz => Later.cell (by rw [blk_cell xx]; rfl) (blk_lt xx) zz
        have ta1 : ∀ zz : Later W2.heap.size W2, zz.val.cell? ⟨w.heap.size + 1 + 1, 1, none⟩ = some (.int .u64 (ah.toNat : Int)) := fun zz => Later.cell (by rw [blk_cell xx]; rfl) (blk_lt xx) zz
        have ta2 : ∀ zz : Later W2.heap.size W2, zz.val.cell? ⟨w.heap.size + 1 + 1, 2, none⟩ = some (.int .u64 (al.toNat : Int)) := fun zz => Later.cell (by rw [blk_cell xx]; rfl) (blk_lt xx) zz
        clear xx
        have xx := (HXK.out _ (HB0.out _ HR.out)).2.2.2
        have tb0 : ∀ zz : Later W2.heap.size W2, zz.val.cell? ⟨w.heap.size + 1 + 1 + 1, 0, none⟩ = some (.int .u8 (bf.toNat : Int)) := fun zz => Later.cell (by rw [blk_cell xx]; rfl) (blk_lt xx) zz
        have tb1 : ∀ zz : Later W2.heap.size W2, zz.val.cell? ⟨w.heap.size + 1 + 1 + 1, 1, none⟩ = some (.int .u64 (bh.toNat : Int)) := fun zz => Later.cell (by rw [blk_cell xx]; rfl) (blk_lt xx) zz
        have tb2 : ∀ zz : Later W2.heap.size W2, zz.val.cell? ⟨w.heap.size + 1 + 1 + 1, 2, none⟩ = some (.int .u64 (bl.toNat : Int)) := fun zz => Later.cell (by rw [blk_cell xx]; rfl) (blk_lt xx) zz
        clear xx
        have tM := Lib.hid (fun (zz : Later W2.heap.size W2) => HMK.out _ (HB0.out _ (below_step HR.out zz.prop HR.out.size)))
        go_cut [278] (fun v W => v = .bool false ∧ Below W1.heap.size W1 W)
        case first =>
          try clear_value *
          as_aux_lemma =>
          cases hp : rightA (af, ah, al) with
          | false =>
            rw [hp] at RA
            clear hp
            refine wp_region_later W2.heap.size (by kernel_rfl) (by kernel_rfl) ?_
            repeat (go_big_quiet_step (first
              | (go_at_call 53; (with_reducible exact Later.calls (Nat.le_refl _) (RA.out _)))
              | (go_at_call 53; (with_reducible exact Later.calls (Nat.le_refl _) (RB.out _)))
              | (go_at_call 14; (with_reducible exact Later.calls (Nat.le_refl _) (C3.out _ (tM.out _))))
              | (go_at_call 14; (with_reducible exact Later.calls (Nat.le_refl _) (D3.out _ (tM.out _))))
              | (go_at_call 17; (with_reducible exact Later.calls (Nat.le_refl _) (C5.out _ (tM.out _))))
              | (go_at_call 17; (with_reducible exact Later.calls (Nat.le_refl _) (D5.out _ (tM.out _))))
              | (go_at_call 55; (with_reducible exact Later.calls (Nat.le_refl _) (LA.out _)))))
            refine wpQuiet_nil ?_
            rintro wq ⟨zz, rfl⟩
            have HRQ := Lib.hid (below_step HR.out zz.prop HR.out.size)
            go_wp2_with fail
            go_meet
            case rel => exact ⟨rfl, HRQ.out⟩
          | true =>
            cases hq : rightA (bf, bh, bl) with
            | false =>
              rw [hp] at RA
              rw [hq] at RB
              clear hp hq
              refine wp_region_later W2.heap.size (by kernel_rfl) (by kernel_rfl) ?_
              repeat (go_big_quiet_step (first
                | (go_at_call 53; (with_reducible exact Later.calls (Nat.le_refl _) (RA.out _)))
                | (go_at_call 53; (with_reducible exact Later.calls (Nat.le_refl _) (RB.out _)))
                | (go_at_call 14; (with_reducible exact Later.calls (Nat.le_refl _) (C3.out _ (tM.out _))))
                | (go_at_call 14; (with_reducible exact Later.calls (Nat.le_refl _) (D3.out _ (tM.out _))))
                | (go_at_call 17; (with_reducible exact Later.calls (Nat.le_refl _) (C5.out _ (tM.out _))))
                | (go_at_call 17; (with_reducible exact Later.calls (Nat.le_refl _) (D5.out _ (tM.out _))))
                | (go_at_call 55; (with_reducible exact Later.calls (Nat.le_refl _) (LA.out _)))))
              refine wpQuiet_nil ?_
              rintro wq ⟨zz, rfl⟩
              have HRQ := Lib.hid (below_step HR.out zz.prop HR.out.size)
              go_wp2_with fail
              go_meet
              case rel => exact ⟨rfl, HRQ.out⟩
            | true =>
              have l3 := lease_less (k := 4) hp hq
              have l6 := event_less (k := 6) n m' hp hq
              rw [← HK3.out, ← HL3.out] at l3
              rw [← HK5.out, ← HL5.out] at l6
              have re : ∀ W, (binOp .eql 24 (.agg #[.int .u8 (af.toNat : Int), .int .u64 (ah.toNat : Int), .int .u64 (al.toNat : Int)]) (.agg #[.int .u8 (bf.toNat : Int), .int .u64 (bh.toNat : Int), .int .u64 (bl.toNat : Int)])).run Tryd.prog W = .ok (.bool ((af, ah, al) == (bf, bh, bl))) W := run_eqlA24 (af, ah, al) (bf, bh, bl)
              obtain ⟨lv, hlv⟩ : ∃ b, b = lessA (af, ah, al) (bf, bh, bl) := ⟨_, rfl⟩
              obtain ⟨ev, hev⟩ : ∃ b, b = ((af, ah, al) == (bf, bh, bl)) := ⟨_, rfl⟩
              rw [← hlv] at l3 l6 LA
              rw [← hev] at l6 re
              rw [hp] at RA
              rw [hq] at RB
              clear hp hq hlv hev
              cases lv
              · cases ev
                · have l6 : Op.bytesLess K5.toList L5.toList = false := l6
                  refine wp_region_later W2.heap.size (by kernel_rfl) (by kernel_rfl) ?_
                  repeat (go_big_quiet_step (first
                    | (go_at_call 53; (with_reducible exact Later.calls (Nat.le_refl _) (RA.out _)))
                    | (go_at_call 53; (with_reducible exact Later.calls (Nat.le_refl _) (RB.out _)))
                    | (go_at_call 14; (with_reducible exact Later.calls (Nat.le_refl _) (C3.out _ (tM.out _))))
                    | (go_at_call 14; (with_reducible exact Later.calls (Nat.le_refl _) (D3.out _ (tM.out _))))
                    | (go_at_call 17; (with_reducible exact Later.calls (Nat.le_refl _) (C5.out _ (tM.out _))))
                    | (go_at_call 17; (with_reducible exact Later.calls (Nat.le_refl _) (D5.out _ (tM.out _))))
                    | (go_at_call 55; (with_reducible exact Later.calls (Nat.le_refl _) (LA.out _)))))
                  refine wpQuiet_nil ?_
                  rintro wq ⟨zz, rfl⟩
                  have HRQ := Lib.hid (below_step HR.out zz.prop HR.out.size)
                  go_wp2_with fail
                  go_meet
                  case rel => exact ⟨rfl, HRQ.out⟩
                · by_cases hnm : n.toNat < m'.toNat
                  · have l6 : Op.bytesLess K5.toList L5.toList = true := l6.trans (decide_eq_true hnm)
                    have n1 : (n.toNat : Int) < (m'.toNat : Int) := by omega
                    have n2 : decide (n.toNat < m'.toNat) = true := decide_eq_true hnm
                    clear hnm
                    refine wp_region_later W2.heap.size (by kernel_rfl) (by kernel_rfl) ?_
                    repeat (go_big_quiet_step (first
                      | (go_at_call 53; (with_reducible exact Later.calls (Nat.le_refl _) (RA.out _)))
                      | (go_at_call 53; (with_reducible exact Later.calls (Nat.le_refl _) (RB.out _)))
                      | (go_at_call 14; (with_reducible exact Later.calls (Nat.le_refl _) (C3.out _ (tM.out _))))
                      | (go_at_call 14; (with_reducible exact Later.calls (Nat.le_refl _) (D3.out _ (tM.out _))))
                      | (go_at_call 17; (with_reducible exact Later.calls (Nat.le_refl _) (C5.out _ (tM.out _))))
                      | (go_at_call 17; (with_reducible exact Later.calls (Nat.le_refl _) (D5.out _ (tM.out _))))
                      | (go_at_call 55; (with_reducible exact Later.calls (Nat.le_refl _) (LA.out _)))))
                    refine wpQuiet_nil ?_
                    rintro wq ⟨zz, rfl⟩
                    have HRQ := Lib.hid (below_step HR.out zz.prop HR.out.size)
                    go_wp2_with fail
                    go_meet
                    case rel => exact ⟨rfl, HRQ.out⟩
                  · have l6 : Op.bytesLess K5.toList L5.toList = false := l6.trans (decide_eq_false hnm)
                    have n1 : ¬ (n.toNat : Int) < (m'.toNat : Int) := by omega
                    have n2 : decide (n.toNat < m'.toNat) = false := decide_eq_false hnm
                    clear hnm
                    refine wp_region_later W2.heap.size (by kernel_rfl) (by kernel_rfl) ?_
                    repeat (go_big_quiet_step (first
                      | (go_at_call 53; (with_reducible exact Later.calls (Nat.le_refl _) (RA.out _)))
                      | (go_at_call 53; (with_reducible exact Later.calls (Nat.le_refl _) (RB.out _)))
                      | (go_at_call 14; (with_reducible exact Later.calls (Nat.le_refl _) (C3.out _ (tM.out _))))
                      | (go_at_call 14; (with_reducible exact Later.calls (Nat.le_refl _) (D3.out _ (tM.out _))))
                      | (go_at_call 17; (with_reducible exact Later.calls (Nat.le_refl _) (C5.out _ (tM.out _))))
                      | (go_at_call 17; (with_reducible exact Later.calls (Nat.le_refl _) (D5.out _ (tM.out _))))
                      | (go_at_call 55; (with_reducible exact Later.calls (Nat.le_refl _) (LA.out _)))))
                    refine wpQuiet_nil ?_
                    rintro wq ⟨zz, rfl⟩
                    have HRQ := Lib.hid (below_step HR.out zz.prop HR.out.size)
                    go_wp2_with fail
                    go_meet
                    case rel => exact ⟨rfl, HRQ.out⟩
              · have l6 : Op.bytesLess K5.toList L5.toList = true := l6
                refine wp_region_later W2.heap.size (by kernel_rfl) (by kernel_rfl) ?_
                repeat (go_big_quiet_step (first
                  | (go_at_call 53; (with_reducible exact Later.calls (Nat.le_refl _) (RA.out _)))
                  | (go_at_call 53; (with_reducible exact Later.calls (Nat.le_refl _) (RB.out _)))
                  | (go_at_call 14; (with_reducible exact Later.calls (Nat.le_refl _) (C3.out _ (tM.out _))))
                  | (go_at_call 14; (with_reducible exact Later.calls (Nat.le_refl _) (D3.out _ (tM.out _))))
                  | (go_at_call 17; (with_reducible exact Later.calls (Nat.le_refl _) (C5.out _ (tM.out _))))
                  | (go_at_call 17; (with_reducible exact Later.calls (Nat.le_refl _) (D5.out _ (tM.out _))))
                  | (go_at_call 55; (with_reducible exact Later.calls (Nat.le_refl _) (LA.out _)))))
                refine wpQuiet_nil ?_
                rintro wq ⟨zz, rfl⟩
                have HRQ := Lib.hid (below_step HR.out zz.prop HR.out.size)
                go_wp2_with fail
                go_meet
                case rel => exact ⟨rfl, HRQ.out⟩
        case rest =>
          obtain ⟨rfl, hb⟩ := hcut
          rename World => W3
          have HB3 := Lib.hid (HB0.out _ hb)
          clear hb
          go_wp2_with fail
          refine (HAW.out _ (HMK.out _ HB3.out)).mono ?_
          rintro e w9 ⟨rfl, hb⟩
          have HB9 := Lib.hid (below_step (HWK.out _ HB3.out) hb (HWK.out _ HB3.out).size)
          clear hb
          go_wp2_with fail
          go_ret
          exact ⟨rfl, HB9.out⟩
end Go.Proofs.Tryd.Rows
