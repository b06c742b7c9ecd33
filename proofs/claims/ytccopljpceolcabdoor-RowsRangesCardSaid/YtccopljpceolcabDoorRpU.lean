/- The laws of rows: RowsRanges' walk. -/
import Derived.Test.YtccopljpceolcabDoorRpT
import Derived.Deep.RegionHeldLaw
import Derived.Deep.DeepCutAuto
import Derived.Deep.CutBlock
set_option linter.unusedVariables false
set_option linter.unusedSimpArgs false
set_option maxRecDepth 100000
namespace Go.Proofs.Tryd.Rows
open Go.RowKit Go.Cph Go.Cph.Ok Go.Proofs.Tryd.Nu Go.Proofs.Tryd.Ok
open Go.Cph.Px (Ad Pf rightA bytesA rightP fromB fromOk lessA before)
open Go.Proofs.Tryd.Pfx (encA bcell)
theorem run_eqlA2 (p q : Ad) (w : World) : (binOp .eql 40 (encA p) (encA q)).run Tryd.prog w = .ok (.bool (p == q)) w := by
  have hb : (p == q) = ((p.1.toNat : Int) == q.1.toNat && ((p.2.1.toNat : Int) == q.2.1.toNat && ((p.2.2.toNat : Int) == q.2.2.toNat))) := by
    rw [Bool.eq_iff_iff, Pfx.ad_eq]
    simp only [Bool.and_eq_true, beq_iff_eq]
  rw [hb]
  cases b0 : ((p.1.toNat : Int) == q.1.toNat) <;> cases b1 : ((p.2.1.toNat : Int) == q.2.1.toNat) <;> cases b2 : ((p.2.2.toNat : Int) == q.2.2.toNat) <;> go_simp
theorem five_boxes (w : World) (o0 : Obj) (o1 : Obj) (o2 : Obj) (o3 : Obj) (o4 : Obj) : let W := ((((w.alloc o0).alloc o1).alloc o2).alloc o3).alloc o4; W.heap[w.heap.size]? = some o0 ∧ W.heap[w.heap.size + 1]? = some o1 ∧ W.heap[w.heap.size + 1 + 1]? = some o2 ∧ W.heap[w.heap.size + 1 + 1 + 1]? = some o3 ∧ W.heap[w.heap.size + 1 + 1 + 1 + 1]? = some o4 ∧ Below w.heap.size w W := by
  intro W
  have s1 : (w.alloc o0).heap.size = w.heap.size + 1 := World.size_alloc _ _
  have s2 : ((w.alloc o0).alloc o1).heap.size = w.heap.size + 1 + 1 := by rw [World.size_alloc, s1]
  have s3 : (((w.alloc o0).alloc o1).alloc o2).heap.size = w.heap.size + 1 + 1 + 1 := by rw [World.size_alloc, s2]
  have s4 : ((((w.alloc o0).alloc o1).alloc o2).alloc o3).heap.size = w.heap.size + 1 + 1 + 1 + 1 := by rw [World.size_alloc, s3]
  have h1 := heap_alloc_new (w.alloc o0) o1
  have h2 := heap_alloc_new ((w.alloc o0).alloc o1) o2
  have h3 := heap_alloc_new (((w.alloc o0).alloc o1).alloc o2) o3
  have h4 := heap_alloc_new ((((w.alloc o0).alloc o1).alloc o2).alloc o3) o4
  rw [s1] at h1
  rw [s2] at h2
  rw [s3] at h3
  rw [s4] at h4
  refine ⟨blk_alloc (blk_alloc (blk_alloc (blk_alloc (heap_alloc_new w o0) _) _) _) _, blk_alloc (blk_alloc (blk_alloc h1 _) _) _, blk_alloc (blk_alloc h2 _) _, blk_alloc h3 _, h4, ?_⟩
  have b1 := below_alloc2 (Below.refl w.heap.size w) (Nat.le_refl _) o0 o1
  have b2 := below_alloc2 b1 b1.size o2 o3
  exact b2.alloc b2.size o4
set_option maxHeartbeats 32000000 in
theorem ranges_law (p q : Pf) (a b c : Ad) (n m' : UInt64) (s : ByteArray) (m : Int) (w : World) (hm : MaxAt m w) :
    Calls Tryd.prog 4 #[Pfx.encP p, Pfx.encP q, encA a, encA b, encA c, .int .u64 (n.toNat : Int), .int .u64 (m'.toNat : Int), .string s] w fun e w' => e = .returned (.bool true) ∧ Below w.heap.size w w' := by
  have HM := Lib.hid hm
  obtain ⟨⟨pf, ph, pl⟩, pn⟩ := p
  obtain ⟨⟨qf, qh, ql⟩, qn⟩ := q
  obtain ⟨af, ah, al⟩ := a
  obtain ⟨bf, bh, bl⟩ := b
  obtain ⟨cf, ch, cl⟩ := c
  obtain ⟨W0, hW0⟩ : ∃ W, W = (((((w.alloc (.cells #[.int .u8 (pf.toNat : Int), .int .u64 (ph.toNat : Int), .int .u64 (pl.toNat : Int), .int .i64 pn] 42 (0, 0))).alloc (.cells #[.int .u8 (qf.toNat : Int), .int .u64 (qh.toNat : Int), .int .u64 (ql.toNat : Int), .int .i64 qn] 42 (0, 0))).alloc (.cells #[.int .u8 (af.toNat : Int), .int .u64 (ah.toNat : Int), .int .u64 (al.toNat : Int)] 40 (0, 0))).alloc (.cells #[.int .u8 (bf.toNat : Int), .int .u64 (bh.toNat : Int), .int .u64 (bl.toNat : Int)] 40 (0, 0))).alloc (.cells #[.int .u8 (cf.toNat : Int), .int .u64 (ch.toNat : Int), .int .u64 (cl.toNat : Int)] 40 (0, 0))) := ⟨_, rfl⟩
  have hfb := five_boxes w (.cells #[.int .u8 (pf.toNat : Int), .int .u64 (ph.toNat : Int), .int .u64 (pl.toNat : Int), .int .i64 pn] 42 (0, 0)) (.cells #[.int .u8 (qf.toNat : Int), .int .u64 (qh.toNat : Int), .int .u64 (ql.toNat : Int), .int .i64 qn] 42 (0, 0)) (.cells #[.int .u8 (af.toNat : Int), .int .u64 (ah.toNat : Int), .int .u64 (al.toNat : Int)] 40 (0, 0)) (.cells #[.int .u8 (bf.toNat : Int), .int .u64 (bh.toNat : Int), .int .u64 (bl.toNat : Int)] 40 (0, 0)) (.cells #[.int .u8 (cf.toNat : Int), .int .u64 (ch.toNat : Int), .int .u64 (cl.toNat : Int)] 40 (0, 0))
  dsimp only at hfb
  rw [← hW0] at hfb
  have HBW := Lib.hid hfb.2.2.2.2.2
  have HX := Lib.hid (show W0.heap[w.heap.size]? = some (.cells #[.int .u8 (pf.toNat : Int), .int .u64 (ph.toNat : Int), .int .u64 (pl.toNat : Int), .int .i64 pn] 42 (0, 0)) ∧ W0.heap[w.heap.size + 1]? = some (.cells #[.int .u8 (qf.toNat : Int), .int .u64 (qh.toNat : Int), .int .u64 (ql.toNat : Int), .int .i64 qn] 42 (0, 0)) ∧ W0.heap[w.heap.size + 1 + 1]? = some (.cells #[.int .u8 (af.toNat : Int), .int .u64 (ah.toNat : Int), .int .u64 (al.toNat : Int)] 40 (0, 0)) ∧ W0.heap[w.heap.size + 1 + 1 + 1]? = some (.cells #[.int .u8 (bf.toNat : Int), .int .u64 (bh.toNat : Int), .int .u64 (bl.toNat : Int)] 40 (0, 0)) ∧ W0.heap[w.heap.size + 1 + 1 + 1 + 1]? = some (.cells #[.int .u8 (cf.toNat : Int), .int .u64 (ch.toNat : Int), .int .u64 (cl.toNat : Int)] 40 (0, 0)) from ⟨hfb.1, hfb.2.1, hfb.2.2.1, hfb.2.2.2.1, hfb.2.2.2.2.1⟩)
  clear hfb
  have HXK := Lib.hid (fun W (hb : Below W0.heap.size W0 W) => show W.heap[w.heap.size]? = some (.cells #[.int .u8 (pf.toNat : Int), .int .u64 (ph.toNat : Int), .int .u64 (pl.toNat : Int), .int .i64 pn] 42 (0, 0)) ∧ W.heap[w.heap.size + 1]? = some (.cells #[.int .u8 (qf.toNat : Int), .int .u64 (qh.toNat : Int), .int .u64 (ql.toNat : Int), .int .i64 qn] 42 (0, 0)) ∧ W.heap[w.heap.size + 1 + 1]? = some (.cells #[.int .u8 (af.toNat : Int), .int .u64 (ah.toNat : Int), .int .u64 (al.toNat : Int)] 40 (0, 0)) ∧ W.heap[w.heap.size + 1 + 1 + 1]? = some (.cells #[.int .u8 (bf.toNat : Int), .int .u64 (bh.toNat : Int), .int .u64 (bl.toNat : Int)] 40 (0, 0)) ∧ W.heap[w.heap.size + 1 + 1 + 1 + 1]? = some (.cells #[.int .u8 (cf.toNat : Int), .int .u64 (ch.toNat : Int), .int .u64 (cl.toNat : Int)] 40 (0, 0)) from ⟨blk_kept hb HX.out.1, blk_kept hb HX.out.2.1, blk_kept hb HX.out.2.2.1, blk_kept hb HX.out.2.2.2.1, blk_kept hb HX.out.2.2.2.2⟩)
  have HMK := Lib.hid (fun W (hb : Below W0.heap.size W0 W) => max_kept HM.out (below_step HBW.out hb HBW.out.size))
  have HWK := Lib.hid (fun W (hb : Below W0.heap.size W0 W) => below_step HBW.out hb HBW.out.size)
  have HR0 := Lib.hid (Below.refl W0.heap.size W0)
  obtain ⟨K0, hK0⟩ : ∃ K, K = clockK := ⟨_, rfl⟩
  have HK0 := Lib.hid hK0
  obtain ⟨K1, hK1⟩ : ∃ K, K = keyP 2 ((qf, qh, ql), qn) := ⟨_, rfl⟩
  have HK1 := Lib.hid hK1
  obtain ⟨K2, hK2⟩ : ∃ K, K = keyP 3 ((qf, qh, ql), qn) := ⟨_, rfl⟩
  have HK2 := Lib.hid hK2
  obtain ⟨K3, hK3⟩ : ∃ K, K = keyA 4 (cf, ch, cl) [] := ⟨_, rfl⟩
  have HK3 := Lib.hid hK3
  obtain ⟨K4, hK4⟩ : ∃ K, K = keyA 5 (cf, ch, cl) [] := ⟨_, rfl⟩
  have HK4 := Lib.hid hK4
  obtain ⟨K5, hK5⟩ : ∃ K, K = keyA 6 (cf, ch, cl) [m'] := ⟨_, rfl⟩
  have HK5 := Lib.hid hK5
  obtain ⟨K6, hK6⟩ : ∃ K, K = clientK n.toUInt8 := ⟨_, rfl⟩
  have HK6 := Lib.hid hK6
  obtain ⟨PF, hPF⟩ : ∃ K, K = (poolsR 2 ((pf, ph, pl), pn)).1 := ⟨_, rfl⟩
  have HPF := Lib.hid hPF
  obtain ⟨PE, hPE⟩ : ∃ K, K = (poolsR 2 ((pf, ph, pl), pn)).2 := ⟨_, rfl⟩
  have HPE := Lib.hid hPE
  obtain ⟨HF, hHF⟩ : ∃ K, K = (poolsR 3 ((pf, ph, pl), pn)).1 := ⟨_, rfl⟩
  have HHF := Lib.hid hHF
  obtain ⟨HE, hHE⟩ : ∃ K, K = (poolsR 3 ((pf, ph, pl), pn)).2 := ⟨_, rfl⟩
  have HHE := Lib.hid hHE
  obtain ⟨LX, hLX⟩ : ∃ K, K = (leasesR (af, ah, al) (bf, bh, bl)).1 := ⟨_, rfl⟩
  have HLX := Lib.hid hLX
  obtain ⟨LY, hLY⟩ : ∃ K, K = (leasesR (af, ah, al) (bf, bh, bl)).2 := ⟨_, rfl⟩
  have HLY := Lib.hid hLY
  obtain ⟨EU, hEU⟩ : ∃ K, K = (eventsR (af, ah, al) n).1 := ⟨_, rfl⟩
  have HEU := Lib.hid hEU
  obtain ⟨EV, hEV⟩ : ∃ K, K = (eventsR (af, ah, al) n).2 := ⟨_, rfl⟩
  have HEV := Lib.hid hEV
  have C0 := Lib.hid (fun (W : World) (h : MaxAt m W) => show Calls Tryd.prog 27 #[] W (fun e w' => e = .returned (.string K0) ∧ Below W.heap.size W w') from by rw [HK0.out]; exact clockKey m W h)
  have C1 := Lib.hid (fun (W : World) (h : MaxAt m W) => show Calls Tryd.prog 19 #[.agg #[.int .u8 (qf.toNat : Int), .int .u64 (qh.toNat : Int), .int .u64 (ql.toNat : Int), .int .i64 qn]] W (fun e w' => e = .returned (.string K1) ∧ Below W.heap.size W w') from by rw [HK1.out]; exact poolKey ((qf, qh, ql), qn) m W h)
  have C2 := Lib.hid (fun (W : World) (h : MaxAt m W) => show Calls Tryd.prog 20 #[.agg #[.int .u8 (qf.toNat : Int), .int .u64 (qh.toNat : Int), .int .u64 (ql.toNat : Int), .int .i64 qn]] W (fun e w' => e = .returned (.string K2) ∧ Below W.heap.size W w') from by rw [HK2.out]; exact holdKey ((qf, qh, ql), qn) m W h)
  have C3 := Lib.hid (fun (W : World) (h : MaxAt m W) => show Calls Tryd.prog 22 #[.agg #[.int .u8 (cf.toNat : Int), .int .u64 (ch.toNat : Int), .int .u64 (cl.toNat : Int)]] W (fun e w' => e = .returned (.string K3) ∧ Below W.heap.size W w') from by rw [HK3.out]; exact leaseKey (cf, ch, cl) m W h)
  have C4 := Lib.hid (fun (W : World) (h : MaxAt m W) => show Calls Tryd.prog 28 #[.agg #[.int .u8 (cf.toNat : Int), .int .u64 (ch.toNat : Int), .int .u64 (cl.toNat : Int)]] W (fun e w' => e = .returned (.string K4) ∧ Below W.heap.size W w') from by rw [HK4.out]; exact countKey (cf, ch, cl) m W h)
  have C5 := Lib.hid (fun (W : World) (h : MaxAt m W) => show Calls Tryd.prog 26 #[.agg #[.int .u8 (cf.toNat : Int), .int .u64 (ch.toNat : Int), .int .u64 (cl.toNat : Int)], .int .u64 (m'.toNat : Int)] W (fun e w' => e = .returned (.string K5) ∧ Below W.heap.size W w') from by rw [HK5.out]; exact eventKey (cf, ch, cl) m' m W h)
  have C6 := Lib.hid (fun (W : World) (h : MaxAt m W) => show Calls Tryd.prog 29 #[.int .u8 (n.toUInt8.toNat : Int)] W (fun e w' => e = .returned (.string K6) ∧ Below W.heap.size W w') from by rw [HK6.out]; exact clientKey n.toUInt8 m W h)
  have G1 := Lib.hid (fun (W : World) (h : MaxAt m W) => show Calls Tryd.prog 14 #[.agg #[.int .u8 (pf.toNat : Int), .int .u64 (ph.toNat : Int), .int .u64 (pl.toNat : Int), .int .i64 pn]] W (fun e w' => e = .returned (.tuple #[.string PF, .string PE]) ∧ Below W.heap.size W w') from by rw [HPF.out, HPE.out]; exact pools_any ((pf, ph, pl), pn) m W h)
  have G2 := Lib.hid (fun (W : World) (h : MaxAt m W) => show Calls Tryd.prog 15 #[.agg #[.int .u8 (pf.toNat : Int), .int .u64 (ph.toNat : Int), .int .u64 (pl.toNat : Int), .int .i64 pn]] W (fun e w' => e = .returned (.tuple #[.string HF, .string HE]) ∧ Below W.heap.size W w') from by rw [HHF.out, HHE.out]; exact holds_any ((pf, ph, pl), pn) m W h)
  have G3 := Lib.hid (fun (W : World) (h : MaxAt m W) => show Calls Tryd.prog 21 #[.agg #[.int .u8 (af.toNat : Int), .int .u64 (ah.toNat : Int), .int .u64 (al.toNat : Int)], .agg #[.int .u8 (bf.toNat : Int), .int .u64 (bh.toNat : Int), .int .u64 (bl.toNat : Int)]] W (fun e w' => e = .returned (.tuple #[.string LX, .string LY]) ∧ Below W.heap.size W w') from by rw [HLX.out, HLY.out]; exact leases_any (af, ah, al) (bf, bh, bl) m W h)
  have G4 := Lib.hid (fun (W : World) (h : MaxAt m W) => show Calls Tryd.prog 25 #[.agg #[.int .u8 (af.toNat : Int), .int .u64 (ah.toNat : Int), .int .u64 (al.toNat : Int)], .int .u64 (n.toNat : Int)] W (fun e w' => e = .returned (.tuple #[.string EU, .string EV]) ∧ Below W.heap.size W w') from by rw [HEU.out, HEV.out]; exact events_any (af, ah, al) n m W h)
  have RP := Lib.hid (fun (W : World) => show Calls Tryd.prog 16 #[.agg #[.int .u8 (pf.toNat : Int), .int .u64 (ph.toNat : Int), .int .u64 (pl.toNat : Int), .int .i64 pn]] W (fun e w' => e = .returned (.bool (rightP ((pf, ph, pl), pn))) ∧ Below W.heap.size W w') from Pfx.rightP_any ((pf, ph, pl), pn) W)
  have RQ := Lib.hid (fun (W : World) => show Calls Tryd.prog 16 #[.agg #[.int .u8 (qf.toNat : Int), .int .u64 (qh.toNat : Int), .int .u64 (ql.toNat : Int), .int .i64 qn]] W (fun e w' => e = .returned (.bool (rightP ((qf, qh, ql), qn))) ∧ Below W.heap.size W w') from Pfx.rightP_any ((qf, qh, ql), qn) W)
  have RA := Lib.hid (fun (W : World) => show Calls Tryd.prog 23 #[.agg #[.int .u8 (af.toNat : Int), .int .u64 (ah.toNat : Int), .int .u64 (al.toNat : Int)]] W (fun e w' => e = .returned (.bool (rightA (af, ah, al))) ∧ Below W.heap.size W w') from Pfx.right (af, ah, al) W)
  have RB := Lib.hid (fun (W : World) => show Calls Tryd.prog 23 #[.agg #[.int .u8 (bf.toNat : Int), .int .u64 (bh.toNat : Int), .int .u64 (bl.toNat : Int)]] W (fun e w' => e = .returned (.bool (rightA (bf, bh, bl))) ∧ Below W.heap.size W w') from Pfx.right (bf, bh, bl) W)
  have RC := Lib.hid (fun (W : World) => show Calls Tryd.prog 23 #[.agg #[.int .u8 (cf.toNat : Int), .int .u64 (ch.toNat : Int), .int .u64 (cl.toNat : Int)]] W (fun e w' => e = .returned (.bool (rightA (cf, ch, cl))) ∧ Below W.heap.size W w') from Pfx.right (cf, ch, cl) W)
  have BQP := Lib.hid (fun (W : World) => show Calls Tryd.prog 17 #[.agg #[.int .u8 (qf.toNat : Int), .int .u64 (qh.toNat : Int), .int .u64 (ql.toNat : Int), .int .i64 qn], .agg #[.int .u8 (pf.toNat : Int), .int .u64 (ph.toNat : Int), .int .u64 (pl.toNat : Int), .int .i64 pn]] W (fun e w' => e = .returned (.bool (before ((qf, qh, ql), qn) ((pf, ph, pl), pn))) ∧ Below W.heap.size W w') from Pfx.before_any ((qf, qh, ql), qn) ((pf, ph, pl), pn) W)
  have LCA := Lib.hid (fun (W : World) => show Calls Tryd.prog 24 #[.agg #[.int .u8 (cf.toNat : Int), .int .u64 (ch.toNat : Int), .int .u64 (cl.toNat : Int)], .agg #[.int .u8 (af.toNat : Int), .int .u64 (ah.toNat : Int), .int .u64 (al.toNat : Int)]] W (fun e w' => e = .returned (.bool (lessA (cf, ch, cl) (af, ah, al))) ∧ Below W.heap.size W w') from Pfx.less (cf, ch, cl) (af, ah, al) W)
  have LBC := Lib.hid (fun (W : World) => show Calls Tryd.prog 24 #[.agg #[.int .u8 (bf.toNat : Int), .int .u64 (bh.toNat : Int), .int .u64 (bl.toNat : Int)], .agg #[.int .u8 (cf.toNat : Int), .int .u64 (ch.toNat : Int), .int .u64 (cl.toNat : Int)]] W (fun e w' => e = .returned (.bool (lessA (bf, bh, bl) (cf, ch, cl))) ∧ Below W.heap.size W w') from Pfx.less (bf, bh, bl) (cf, ch, cl) W)
  have HAW := Lib.hid (fun (W : World) (h : MaxAt m W) => awake_any m W h)
  have I1 := Lib.hid (fun (W : World) => show Calls Tryd.prog 18 #[.string K1, .string PF, .string PE] W (fun e w' => e = .returned (.bool (rightP ((qf, qh, ql), qn) && (!rightP ((pf, ph, pl), pn) || !before ((qf, qh, ql), qn) ((pf, ph, pl), pn)))) ∧ Below W.heap.size W w') from by have h := in_any K1 PF PE W; rw [show inB K1 PF PE = (rightP ((qf, qh, ql), qn) && (!rightP ((pf, ph, pl), pn) || !before ((qf, qh, ql), qn) ((pf, ph, pl), pn))) from by rw [HK1.out, HPF.out, HPE.out]; exact in_pools 2 _ _] at h; exact h)
  have I2 := Lib.hid (fun (W : World) => show Calls Tryd.prog 18 #[.string K2, .string HF, .string HE] W (fun e w' => e = .returned (.bool (rightP ((qf, qh, ql), qn) && (!rightP ((pf, ph, pl), pn) || !before ((qf, qh, ql), qn) ((pf, ph, pl), pn)))) ∧ Below W.heap.size W w') from by have h := in_any K2 HF HE W; rw [show inB K2 HF HE = (rightP ((qf, qh, ql), qn) && (!rightP ((pf, ph, pl), pn) || !before ((qf, qh, ql), qn) ((pf, ph, pl), pn))) from by rw [HK2.out, HHF.out, HHE.out]; exact in_pools 3 _ _] at h; exact h)
  have I3 := Lib.hid (fun (W : World) => show Calls Tryd.prog 18 #[.string K3, .string LX, .string LY] W (fun e w' => e = .returned (.bool (rightA (af, ah, al) && (rightA (bf, bh, bl) && (rightA (cf, ch, cl) && (!lessA (cf, ch, cl) (af, ah, al) && !lessA (bf, bh, bl) (cf, ch, cl)))))) ∧ Below W.heap.size W w') from by have h := in_any K3 LX LY W; rw [show inB K3 LX LY = (rightA (af, ah, al) && (rightA (bf, bh, bl) && (rightA (cf, ch, cl) && (!lessA (cf, ch, cl) (af, ah, al) && !lessA (bf, bh, bl) (cf, ch, cl))))) from by rw [HK3.out, HLX.out, HLY.out]; exact in_leases _ _ _] at h; exact h)
  have I5 := Lib.hid (fun (W : World) => show Calls Tryd.prog 18 #[.string K5, .string EU, .string EV] W (fun e w' => e = .returned (.bool (rightA (af, ah, al) && ((af, ah, al) == (cf, ch, cl) && decide (n.toNat ≤ m'.toNat)))) ∧ Below W.heap.size W w') from by have h := in_any K5 EU EV W; rw [show inB K5 EU EV = (rightA (af, ah, al) && ((af, ah, al) == (cf, ch, cl) && decide (n.toNat ≤ m'.toNat))) from by rw [HK5.out, HEU.out, HEV.out]; exact in_events _ _ _ _] at h; exact h)
  have JK01 := Lib.hid (fun (W : World) => show Calls Tryd.prog 18 #[.string K0, .string PF, .string PE] W (fun e w' => e = .returned (.bool (false)) ∧ Below W.heap.size W w') from by have h := in_any K0 PF PE W; rw [show inB K0 PF PE = (false) from by rw [HK0.out, HPF.out, HPE.out]; exact pools_clock 2 _ (by decide)] at h; exact h)
  have JK02 := Lib.hid (fun (W : World) => show Calls Tryd.prog 18 #[.string K0, .string HF, .string HE] W (fun e w' => e = .returned (.bool (false)) ∧ Below W.heap.size W w') from by have h := in_any K0 HF HE W; rw [show inB K0 HF HE = (false) from by rw [HK0.out, HHF.out, HHE.out]; exact pools_clock 3 _ (by decide)] at h; exact h)
  have JK03 := Lib.hid (fun (W : World) => show Calls Tryd.prog 18 #[.string K0, .string LX, .string LY] W (fun e w' => e = .returned (.bool (false)) ∧ Below W.heap.size W w') from by have h := in_any K0 LX LY W; rw [show inB K0 LX LY = (false) from by rw [HK0.out, HLX.out, HLY.out]; exact leases_clock _ _] at h; exact h)
  have JK04 := Lib.hid (fun (W : World) => show Calls Tryd.prog 18 #[.string K0, .string EU, .string EV] W (fun e w' => e = .returned (.bool (false)) ∧ Below W.heap.size W w') from by have h := in_any K0 EU EV W; rw [show inB K0 EU EV = (false) from by rw [HK0.out, HEU.out, HEV.out]; exact events_clock _ _] at h; exact h)
  have JK41 := Lib.hid (fun (W : World) => show Calls Tryd.prog 18 #[.string K4, .string PF, .string PE] W (fun e w' => e = .returned (.bool (false)) ∧ Below W.heap.size W w') from by have h := in_any K4 PF PE W; rw [show inB K4 PF PE = (false) from by rw [HK4.out, HPF.out, HPE.out]; exact pools_keyA 5 2 _ _ _ (by decide)] at h; exact h)
  have JK42 := Lib.hid (fun (W : World) => show Calls Tryd.prog 18 #[.string K4, .string HF, .string HE] W (fun e w' => e = .returned (.bool (false)) ∧ Below W.heap.size W w') from by have h := in_any K4 HF HE W; rw [show inB K4 HF HE = (false) from by rw [HK4.out, HHF.out, HHE.out]; exact pools_keyA 5 3 _ _ _ (by decide)] at h; exact h)
  have JK43 := Lib.hid (fun (W : World) => show Calls Tryd.prog 18 #[.string K4, .string LX, .string LY] W (fun e w' => e = .returned (.bool (false)) ∧ Below W.heap.size W w') from by have h := in_any K4 LX LY W; rw [show inB K4 LX LY = (false) from by rw [HK4.out, HLX.out, HLY.out]; exact leases_count _ _ _] at h; exact h)
  have JK44 := Lib.hid (fun (W : World) => show Calls Tryd.prog 18 #[.string K4, .string EU, .string EV] W (fun e w' => e = .returned (.bool (false)) ∧ Below W.heap.size W w') from by have h := in_any K4 EU EV W; rw [show inB K4 EU EV = (false) from by rw [HK4.out, HEU.out, HEV.out]; exact events_count _ _ _] at h; exact h)
  have JK61 := Lib.hid (fun (W : World) => show Calls Tryd.prog 18 #[.string K6, .string PF, .string PE] W (fun e w' => e = .returned (.bool (false)) ∧ Below W.heap.size W w') from by have h := in_any K6 PF PE W; rw [show inB K6 PF PE = (false) from by rw [HK6.out, HPF.out, HPE.out]; exact pools_client 2 _ _ (by decide)] at h; exact h)
  have JK62 := Lib.hid (fun (W : World) => show Calls Tryd.prog 18 #[.string K6, .string HF, .string HE] W (fun e w' => e = .returned (.bool (false)) ∧ Below W.heap.size W w') from by have h := in_any K6 HF HE W; rw [show inB K6 HF HE = (false) from by rw [HK6.out, HHF.out, HHE.out]; exact pools_client 3 _ _ (by decide)] at h; exact h)
  have JK63 := Lib.hid (fun (W : World) => show Calls Tryd.prog 18 #[.string K6, .string LX, .string LY] W (fun e w' => e = .returned (.bool (false)) ∧ Below W.heap.size W w') from by have h := in_any K6 LX LY W; rw [show inB K6 LX LY = (false) from by rw [HK6.out, HLX.out, HLY.out]; exact leases_client _ _ _] at h; exact h)
  have JK64 := Lib.hid (fun (W : World) => show Calls Tryd.prog 18 #[.string K6, .string EU, .string EV] W (fun e w' => e = .returned (.bool (false)) ∧ Below W.heap.size W w') from by have h := in_any K6 EU EV W; rw [show inB K6 EU EV = (false) from by rw [HK6.out, HEU.out, HEV.out]; exact events_client _ _ _] at h; exact h)
  clear hm hK0 hK1 hK2 hK3 hK4 hK5 hK6 hPF hPE hHF hHE hLX hLY hEU hEV
  obtain ⟨lb, hlb⟩ : ∃ lb : Bool, lb = decide (500 < s.size) := ⟨_, rfl⟩
  have HLB := Lib.hid hlb
  have hl2 := hlb.symm
  have hl3 : decide ((500 : Int) < (s.size : Int)) = lb := by rw [hlb]; exact decide_eq_decide.2 (by omega)
  clear hlb
  have ku : IntKind.u8.wrap (n.toNat : Int) = (n.toUInt8.toNat : Int) := u8_conv n
  go_enter Tryd.func4, Tryd.ntmps4
  go_upto_if 34 with (fail)
  rw [← hW0]
  clear hW0 hl2 hl3
  go_cut [7] (fun v7 W => ∃ S : ByteArray, v7 = .string S ∧ S.size ≤ 500 ∧ Below W0.heap.size W0 W)
  case first =>
    cases lb with
    | true =>
      have h5 : 500 < s.size := of_decide_eq_true HLB.out.symm
      have h6 : (500 : Int) ≤ (s.size : Int) := by omega
      go_wp2_with fail
      go_meet
      case rel => exact ⟨_, rfl, by rw [ByteArray.size_extract]; omega, HR0.out⟩
    | false =>
      have h5 : ¬ 500 < s.size := of_decide_eq_false HLB.out.symm
      go_wp2_with fail
      go_meet
      case rel => exact ⟨_, rfl, by omega, HR0.out⟩
  case rest => as_aux_lemma =>
    obtain ⟨S, rfl, hS, hw⟩ := hcut
    rename World => W1
    have HS := Lib.hid hS
    have HR := Lib.hid hw
    clear hS hw
    have yp0 : W1.cell? ⟨w.heap.size, 0, none⟩ = some (.int .u8 (pf.toNat : Int)) := by rw [blk_cell (HXK.out _ HR.out).1]; rfl
    have yp1 : W1.cell? ⟨w.heap.size, 1, none⟩ = some (.int .u64 (ph.toNat : Int)) := by rw [blk_cell (HXK.out _ HR.out).1]; rfl
    have yp2 : W1.cell? ⟨w.heap.size, 2, none⟩ = some (.int .u64 (pl.toNat : Int)) := by rw [blk_cell (HXK.out _ HR.out).1]; rfl
    have yp3 : W1.cell? ⟨w.heap.size, 3, none⟩ = some (.int .i64 pn) := by rw [blk_cell (HXK.out _ HR.out).1]; rfl
    have yq0 : W1.cell? ⟨w.heap.size + 1, 0, none⟩ = some (.int .u8 (qf.toNat : Int)) := by rw [blk_cell (HXK.out _ HR.out).2.1]; rfl
    have yq1 : W1.cell? ⟨w.heap.size + 1, 1, none⟩ = some (.int .u64 (qh.toNat : Int)) := by rw [blk_cell (HXK.out _ HR.out).2.1]; rfl
    have yq2 : W1.cell? ⟨w.heap.size + 1, 2, none⟩ = some (.int .u64 (ql.toNat : Int)) := by rw [blk_cell (HXK.out _ HR.out).2.1]; rfl
    have yq3 : W1.cell? ⟨w.heap.size + 1, 3, none⟩ = some (.int .i64 qn) := by rw [blk_cell (HXK.out _ HR.out).2.1]; rfl
    go_wp2_with fail
    refine (G1.out _ (HMK.out _ HR.out)).mono ?_
    rintro e w1 ⟨rfl, hb⟩
    replace HR := Lib.hid (below_step HR.out hb HR.out.size)
    clear hb
    clear yp0 yp1 yp2 yp3 yq0 yq1 yq2 yq3
    have yp0 : w1.cell? ⟨w.heap.size, 0, none⟩ = some (.int .u8 (pf.toNat : Int)) := by rw [blk_cell (HXK.out _ HR.out).1]; rfl
    have yp1 : w1.cell? ⟨w.heap.size, 1, none⟩ = some (.int .u64 (ph.toNat : Int)) := by rw [blk_cell (HXK.out _ HR.out).1]; rfl
    have yp2 : w1.cell? ⟨w.heap.size, 2, none⟩ = some (.int .u64 (pl.toNat : Int)) := by rw [blk_cell (HXK.out _ HR.out).1]; rfl
    have yp3 : w1.cell? ⟨w.heap.size, 3, none⟩ = some (.int .i64 pn) := by rw [blk_cell (HXK.out _ HR.out).1]; rfl
    go_wp2_with fail
    refine (G2.out _ (HMK.out _ HR.out)).mono ?_
    rintro e w2 ⟨rfl, hb⟩
    replace HR := Lib.hid (below_step HR.out hb HR.out.size)
    clear hb
    clear yp0 yp1 yp2 yp3
    obtain ⟨wh, hwh⟩ : ∃ wh, wh = (rightP ((qf, qh, ql), qn) && (!rightP ((pf, ph, pl), pn) || !before ((qf, qh, ql), qn) ((pf, ph, pl), pn))) := ⟨_, rfl⟩
    have HWH := Lib.hid hwh
    rw [← hwh] at I1 I2
    clear hwh
    go_upto_region 5 with (fail)
    go_cut [21] (fun v W => v = .bool wh ∧ Below W0.heap.size W0 W)
    case first =>
      try clear_value *
      as_aux_lemma =>
        have yq0 : w2.cell? ⟨w.heap.size + 1, 0, none⟩ = some (.int .u8 (qf.toNat : Int)) := by rw [blk_cell (HXK.out _ HR.out).2.1]; rfl
        have yq1 : w2.cell? ⟨w.heap.size + 1, 1, none⟩ = some (.int .u64 (qh.toNat : Int)) := by rw [blk_cell (HXK.out _ HR.out).2.1]; rfl
        have yq2 : w2.cell? ⟨w.heap.size + 1, 2, none⟩ = some (.int .u64 (ql.toNat : Int)) := by rw [blk_cell (HXK.out _ HR.out).2.1]; rfl
        have yq3 : w2.cell? ⟨w.heap.size + 1, 3, none⟩ = some (.int .i64 qn) := by rw [blk_cell (HXK.out _ HR.out).2.1]; rfl
        cases hq : rightP ((qf, qh, ql), qn) with
        | false =>
          have hwv : wh = false := by rw [HWH.out, hq]; rfl
          subst hwv
          rw [hq] at RQ
          clear hq
          go_wp2_with fail
          refine (RQ.out _).mono ?_
          rintro e w3 ⟨rfl, hb⟩
          replace HR := Lib.hid (below_step HR.out hb HR.out.size)
          clear hb
          clear yq0 yq1 yq2 yq3
          go_wp2_with fail
          go_meet
          case rel => exact ⟨rfl, HR.out⟩
        | true =>
          cases hp : rightP ((pf, ph, pl), pn) with
          | false =>
            have hwv : wh = true := by rw [HWH.out, hq, hp]; rfl
            subst hwv
            rw [hq] at RQ
            rw [hp] at RP
            clear hq hp
            go_wp2_with fail
            refine (RQ.out _).mono ?_
            rintro e w3 ⟨rfl, hb⟩
            replace HR := Lib.hid (below_step HR.out hb HR.out.size)
            clear hb
            clear yq0 yq1 yq2 yq3
            have yp0 : w3.cell? ⟨w.heap.size, 0, none⟩ = some (.int .u8 (pf.toNat : Int)) := by rw [blk_cell (HXK.out _ HR.out).1]; rfl
            have yp1 : w3.cell? ⟨w.heap.size, 1, none⟩ = some (.int .u64 (ph.toNat : Int)) := by rw [blk_cell (HXK.out _ HR.out).1]; rfl
            have yp2 : w3.cell? ⟨w.heap.size, 2, none⟩ = some (.int .u64 (pl.toNat : Int)) := by rw [blk_cell (HXK.out _ HR.out).1]; rfl
            have yp3 : w3.cell? ⟨w.heap.size, 3, none⟩ = some (.int .i64 pn) := by rw [blk_cell (HXK.out _ HR.out).1]; rfl
            go_wp2_with fail
            refine (RP.out _).mono ?_
            rintro e w4 ⟨rfl, hb⟩
            replace HR := Lib.hid (below_step HR.out hb HR.out.size)
            clear hb
            clear yp0 yp1 yp2 yp3
            go_wp2_with fail
            go_meet
            case rel => exact ⟨rfl, HR.out⟩
          | true =>
            have hwv : wh = !before ((qf, qh, ql), qn) ((pf, ph, pl), pn) := by rw [HWH.out, hq, hp]; rfl
            rw [hq] at RQ
            rw [hp] at RP
            clear hq hp
            go_wp2_with fail
            refine (RQ.out _).mono ?_
            rintro e w3 ⟨rfl, hb⟩
            replace HR := Lib.hid (below_step HR.out hb HR.out.size)
            clear hb
            clear yq0 yq1 yq2 yq3
            have yp0 : w3.cell? ⟨w.heap.size, 0, none⟩ = some (.int .u8 (pf.toNat : Int)) := by rw [blk_cell (HXK.out _ HR.out).1]; rfl
            have yp1 : w3.cell? ⟨w.heap.size, 1, none⟩ = some (.int .u64 (ph.toNat : Int)) := by rw [blk_cell (HXK.out _ HR.out).1]; rfl
            have yp2 : w3.cell? ⟨w.heap.size, 2, none⟩ = some (.int .u64 (pl.toNat : Int)) := by rw [blk_cell (HXK.out _ HR.out).1]; rfl
            have yp3 : w3.cell? ⟨w.heap.size, 3, none⟩ = some (.int .i64 pn) := by rw [blk_cell (HXK.out _ HR.out).1]; rfl
            go_wp2_with fail
            refine (RP.out _).mono ?_
            rintro e w4 ⟨rfl, hb⟩
            replace HR := Lib.hid (below_step HR.out hb HR.out.size)
            clear hb
            clear yp0 yp1 yp2 yp3
            have yp0 : w4.cell? ⟨w.heap.size, 0, none⟩ = some (.int .u8 (pf.toNat : Int)) := by rw [blk_cell (HXK.out _ HR.out).1]; rfl
            have yp1 : w4.cell? ⟨w.heap.size, 1, none⟩ = some (.int .u64 (ph.toNat : Int)) := by rw [blk_cell (HXK.out _ HR.out).1]; rfl
            have yp2 : w4.cell? ⟨w.heap.size, 2, none⟩ = some (.int .u64 (pl.toNat : Int)) := by rw [blk_cell (HXK.out _ HR.out).1]; rfl
            have yp3 : w4.cell? ⟨w.heap.size, 3, none⟩ = some (.int .i64 pn) := by rw [blk_cell (HXK.out _ HR.out).1]; rfl
            have yq0 : w4.cell? ⟨w.heap.size + 1, 0, none⟩ = some (.int .u8 (qf.toNat : Int)) := by rw [blk_cell (HXK.out _ HR.out).2.1]; rfl
            have yq1 : w4.cell? ⟨w.heap.size + 1, 1, none⟩ = some (.int .u64 (qh.toNat : Int)) := by rw [blk_cell (HXK.out _ HR.out).2.1]; rfl
            have yq2 : w4.cell? ⟨w.heap.size + 1, 2, none⟩ = some (.int .u64 (ql.toNat : Int)) := by rw [blk_cell (HXK.out _ HR.out).2.1]; rfl
            have yq3 : w4.cell? ⟨w.heap.size + 1, 3, none⟩ = some (.int .i64 qn) := by rw [blk_cell (HXK.out _ HR.out).2.1]; rfl
            go_wp2_with fail
            refine (BQP.out _).mono ?_
            rintro e w5 ⟨rfl, hb⟩
            replace HR := Lib.hid (below_step HR.out hb HR.out.size)
            clear hb
            clear yp0 yp1 yp2 yp3 yq0 yq1 yq2 yq3
            go_wp2_with fail
            go_meet
            case rel => exact ⟨by rw [hwv], HR.out⟩
    case rest => as_aux_lemma =>
      obtain ⟨rfl, hb⟩ := hcut
      rename World => W5
      replace HR := Lib.hid hb
      clear hb
      have ewh : (wh == wh) = true := by simp
      have yq0 : W5.cell? ⟨w.heap.size + 1, 0, none⟩ = some (.int .u8 (qf.toNat : Int)) := by rw [blk_cell (HXK.out _ HR.out).2.1]; rfl
      have yq1 : W5.cell? ⟨w.heap.size + 1, 1, none⟩ = some (.int .u64 (qh.toNat : Int)) := by rw [blk_cell (HXK.out _ HR.out).2.1]; rfl
      have yq2 : W5.cell? ⟨w.heap.size + 1, 2, none⟩ = some (.int .u64 (ql.toNat : Int)) := by rw [blk_cell (HXK.out _ HR.out).2.1]; rfl
      have yq3 : W5.cell? ⟨w.heap.size + 1, 3, none⟩ = some (.int .i64 qn) := by rw [blk_cell (HXK.out _ HR.out).2.1]; rfl
      go_wp2_with fail
      refine (C1.out _ (HMK.out _ HR.out)).mono ?_
      rintro e w11 ⟨rfl, hb⟩
      replace HR := Lib.hid (below_step HR.out hb HR.out.size)
      clear hb
      clear yq0 yq1 yq2 yq3
      go_wp2_with fail
      refine (I1.out _).mono ?_
      rintro e w12 ⟨rfl, hb⟩
      replace HR := Lib.hid (below_step HR.out hb HR.out.size)
      clear hb
      have yq0 : w12.cell? ⟨w.heap.size + 1, 0, none⟩ = some (.int .u8 (qf.toNat : Int)) := by rw [blk_cell (HXK.out _ HR.out).2.1]; rfl
      have yq1 : w12.cell? ⟨w.heap.size + 1, 1, none⟩ = some (.int .u64 (qh.toNat : Int)) := by rw [blk_cell (HXK.out _ HR.out).2.1]; rfl
      have yq2 : w12.cell? ⟨w.heap.size + 1, 2, none⟩ = some (.int .u64 (ql.toNat : Int)) := by rw [blk_cell (HXK.out _ HR.out).2.1]; rfl
      have yq3 : w12.cell? ⟨w.heap.size + 1, 3, none⟩ = some (.int .i64 qn) := by rw [blk_cell (HXK.out _ HR.out).2.1]; rfl
      go_wp2_with fail
      refine (C2.out _ (HMK.out _ HR.out)).mono ?_
      rintro e w13 ⟨rfl, hb⟩
      replace HR := Lib.hid (below_step HR.out hb HR.out.size)
      clear hb
      clear yq0 yq1 yq2 yq3
      go_wp2_with fail
      refine (I2.out _).mono ?_
      rintro e w14 ⟨rfl, hb⟩
      replace HR := Lib.hid (below_step HR.out hb HR.out.size)
      clear hb
      have ya0 : w14.cell? ⟨w.heap.size + 1 + 1, 0, none⟩ = some (.int .u8 (af.toNat : Int)) := by rw [blk_cell (HXK.out _ HR.out).2.2.1]; rfl
      have ya1 : w14.cell? ⟨w.heap.size + 1 + 1, 1, none⟩ = some (.int .u64 (ah.toNat : Int)) := by rw [blk_cell (HXK.out _ HR.out).2.2.1]; rfl
      have ya2 : w14.cell? ⟨w.heap.size + 1 + 1, 2, none⟩ = some (.int .u64 (al.toNat : Int)) := by rw [blk_cell (HXK.out _ HR.out).2.2.1]; rfl
      have yb0 : w14.cell? ⟨w.heap.size + 1 + 1 + 1, 0, none⟩ = some (.int .u8 (bf.toNat : Int)) := by rw [blk_cell (HXK.out _ HR.out).2.2.2.1]; rfl
      have yb1 : w14.cell? ⟨w.heap.size + 1 + 1 + 1, 1, none⟩ = some (.int .u64 (bh.toNat : Int)) := by rw [blk_cell (HXK.out _ HR.out).2.2.2.1]; rfl
      have yb2 : w14.cell? ⟨w.heap.size + 1 + 1 + 1, 2, none⟩ = some (.int .u64 (bl.toNat : Int)) := by rw [blk_cell (HXK.out _ HR.out).2.2.2.1]; rfl
      go_wp2_with fail
      refine (G3.out _ (HMK.out _ HR.out)).mono ?_
      rintro e w15 ⟨rfl, hb⟩
      replace HR := Lib.hid (below_step HR.out hb HR.out.size)
      clear hb
      clear ya0 ya1 ya2 yb0 yb1 yb2
      have xx := (HXK.out _ HR.out).2.2.1
      have ta0 : ∀ zz : Later w15.heap.size w15, zz.val.cell? ⟨w.heap.size + 1 + 1, 0, none⟩ = some (.int .u8 (af.toNat : Int)) := fun zz => Later.cell (by rw [blk_cell xx]; rfl) (blk_lt xx) zz
      have ta1 : ∀ zz : Later w15.heap.size w15, zz.val.cell? ⟨w.heap.size + 1 + 1, 1, none⟩ = some (.int .u64 (ah.toNat : Int)) := fun zz => Later.cell (by rw [blk_cell xx]; rfl) (blk_lt xx) zz
      have ta2 : ∀ zz : Later w15.heap.size w15, zz.val.cell? ⟨w.heap.size + 1 + 1, 2, none⟩ = some (.int .u64 (al.toNat : Int)) := fun zz => Later.cell (by rw [blk_cell xx]; rfl) (blk_lt xx) zz
      clear xx
      have xx := (HXK.out _ HR.out).2.2.2.1
      have tb0 : ∀ zz : Later w15.heap.size w15, zz.val.cell? ⟨w.heap.size + 1 + 1 + 1, 0, none⟩ = some (.int .u8 (bf.toNat : Int)) := fun zz => Later.cell (by rw [blk_cell xx]; rfl) (blk_lt xx) zz
      have tb1 : ∀ zz : Later w15.heap.size w15, zz.val.cell? ⟨w.heap.size + 1 + 1 + 1, 1, none⟩ = some (.int .u64 (bh.toNat : Int)) := fun zz => Later.cell (by rw [blk_cell xx]; rfl) (blk_lt xx) zz
      have tb2 : ∀ zz : Later w15.heap.size w15, zz.val.cell? ⟨w.heap.size + 1 + 1 + 1, 2, none⟩ = some (.int .u64 (bl.toNat : Int)) := fun zz => Later.cell (by rw [blk_cell xx]; rfl) (blk_lt xx) zz
      clear xx
      have xx := (HXK.out _ HR.out).2.2.2.2
      have tc0 : ∀ zz : Later w15.heap.size w15, zz.val.cell? ⟨w.heap.size + 1 + 1 + 1 + 1, 0, none⟩ = some (.int .u8 (cf.toNat : Int)) := fun zz => Later.cell (by rw [blk_cell xx]; rfl) (blk_lt xx) zz
      have tc1 : ∀ zz : Later w15.heap.size w15, zz.val.cell? ⟨w.heap.size + 1 + 1 + 1 + 1, 1, none⟩ = some (.int .u64 (ch.toNat : Int)) := fun zz => Later.cell (by rw [blk_cell xx]; rfl) (blk_lt xx) zz
      have tc2 : ∀ zz : Later w15.heap.size w15, zz.val.cell? ⟨w.heap.size + 1 + 1 + 1 + 1, 2, none⟩ = some (.int .u64 (cl.toNat : Int)) := fun zz => Later.cell (by rw [blk_cell xx]; rfl) (blk_lt xx) zz
      clear xx
      have tM := Lib.hid (fun (zz : Later w15.heap.size w15) => HMK.out _ (below_step HR.out zz.prop HR.out.size))
      go_upto_region 9 with (fail)
      go_cut [109] (fun v W => v = .bool false ∧ Below W0.heap.size W0 W)
      case first =>
        try clear_value *
        as_aux_lemma =>
          cases ha : rightA (af, ah, al) with
          | false =>
            rw [ha] at RA I3
            clear ha
            refine wp_region_later w15.heap.size (by kernel_rfl) (by kernel_rfl) ?_
            repeat (go_big_quiet_step (first
              | (go_at_call 22; (with_reducible exact Later.calls (Nat.le_refl _) (C3.out _ (tM.out _))))
              | (go_at_call 18; (with_reducible exact Later.calls (Nat.le_refl _) (I3.out _)))
              | (go_at_call 23; (with_reducible exact Later.calls (Nat.le_refl _) (RA.out _)))
              | (go_at_call 23; (with_reducible exact Later.calls (Nat.le_refl _) (RB.out _)))
              | (go_at_call 23; (with_reducible exact Later.calls (Nat.le_refl _) (RC.out _)))
              | (go_at_call 24; (with_reducible exact Later.calls (Nat.le_refl _) (LCA.out _)))
              | (go_at_call 24; (with_reducible exact Later.calls (Nat.le_refl _) (LBC.out _)))))
            refine wpQuiet_nil ?_
            rintro wq ⟨zz, rfl⟩
            have HRQ := Lib.hid (below_step HR.out zz.prop HR.out.size)
            go_wp2_with fail
            go_meet
            case rel => exact ⟨rfl, HRQ.out⟩
          | true =>
            cases hb : rightA (bf, bh, bl) with
            | false =>
              rw [ha] at RA I3
              rw [hb] at RB I3
              clear ha hb
              refine wp_region_later w15.heap.size (by kernel_rfl) (by kernel_rfl) ?_
              repeat (go_big_quiet_step (first
                | (go_at_call 22; (with_reducible exact Later.calls (Nat.le_refl _) (C3.out _ (tM.out _))))
                | (go_at_call 18; (with_reducible exact Later.calls (Nat.le_refl _) (I3.out _)))
                | (go_at_call 23; (with_reducible exact Later.calls (Nat.le_refl _) (RA.out _)))
                | (go_at_call 23; (with_reducible exact Later.calls (Nat.le_refl _) (RB.out _)))
                | (go_at_call 23; (with_reducible exact Later.calls (Nat.le_refl _) (RC.out _)))
                | (go_at_call 24; (with_reducible exact Later.calls (Nat.le_refl _) (LCA.out _)))
                | (go_at_call 24; (with_reducible exact Later.calls (Nat.le_refl _) (LBC.out _)))))
              refine wpQuiet_nil ?_
              rintro wq ⟨zz, rfl⟩
              have HRQ := Lib.hid (below_step HR.out zz.prop HR.out.size)
              go_wp2_with fail
              go_meet
              case rel => exact ⟨rfl, HRQ.out⟩
            | true =>
              cases hc : rightA (cf, ch, cl) with
              | false =>
                rw [ha] at RA I3
                rw [hb] at RB I3
                rw [hc] at RC I3
                clear ha hb hc
                refine wp_region_later w15.heap.size (by kernel_rfl) (by kernel_rfl) ?_
                repeat (go_big_quiet_step (first
                  | (go_at_call 22; (with_reducible exact Later.calls (Nat.le_refl _) (C3.out _ (tM.out _))))
                  | (go_at_call 18; (with_reducible exact Later.calls (Nat.le_refl _) (I3.out _)))
                  | (go_at_call 23; (with_reducible exact Later.calls (Nat.le_refl _) (RA.out _)))
                  | (go_at_call 23; (with_reducible exact Later.calls (Nat.le_refl _) (RB.out _)))
                  | (go_at_call 23; (with_reducible exact Later.calls (Nat.le_refl _) (RC.out _)))
                  | (go_at_call 24; (with_reducible exact Later.calls (Nat.le_refl _) (LCA.out _)))
                  | (go_at_call 24; (with_reducible exact Later.calls (Nat.le_refl _) (LBC.out _)))))
                refine wpQuiet_nil ?_
                rintro wq ⟨zz, rfl⟩
                have HRQ := Lib.hid (below_step HR.out zz.prop HR.out.size)
                go_wp2_with fail
                go_meet
                case rel => exact ⟨rfl, HRQ.out⟩
              | true =>
                cases hl : lessA (cf, ch, cl) (af, ah, al) with
                | true =>
                  rw [ha] at RA I3
                  rw [hb] at RB I3
                  rw [hc] at RC I3
                  rw [hl] at LCA I3
                  clear ha hb hc hl
                  refine wp_region_later w15.heap.size (by kernel_rfl) (by kernel_rfl) ?_
                  repeat (go_big_quiet_step (first
                    | (go_at_call 22; (with_reducible exact Later.calls (Nat.le_refl _) (C3.out _ (tM.out _))))
                    | (go_at_call 18; (with_reducible exact Later.calls (Nat.le_refl _) (I3.out _)))
                    | (go_at_call 23; (with_reducible exact Later.calls (Nat.le_refl _) (RA.out _)))
                    | (go_at_call 23; (with_reducible exact Later.calls (Nat.le_refl _) (RB.out _)))
                    | (go_at_call 23; (with_reducible exact Later.calls (Nat.le_refl _) (RC.out _)))
                    | (go_at_call 24; (with_reducible exact Later.calls (Nat.le_refl _) (LCA.out _)))
                    | (go_at_call 24; (with_reducible exact Later.calls (Nat.le_refl _) (LBC.out _)))))
                  refine wpQuiet_nil ?_
                  rintro wq ⟨zz, rfl⟩
                  have HRQ := Lib.hid (below_step HR.out zz.prop HR.out.size)
                  go_wp2_with fail
                  go_meet
                  case rel => exact ⟨rfl, HRQ.out⟩
                | false =>
                  obtain ⟨lv, hlv⟩ : ∃ lv, lv = lessA (bf, bh, bl) (cf, ch, cl) := ⟨_, rfl⟩
                  rw [← hlv] at LBC I3
                  rw [ha] at RA I3
                  rw [hb] at RB I3
                  rw [hc] at RC I3
                  rw [hl] at LCA I3
                  clear ha hb hc hl hlv
                  cases lv
                  · skip
                    refine wp_region_later w15.heap.size (by kernel_rfl) (by kernel_rfl) ?_
                    repeat (go_big_quiet_step (first
                      | (go_at_call 22; (with_reducible exact Later.calls (Nat.le_refl _) (C3.out _ (tM.out _))))
                      | (go_at_call 18; (with_reducible exact Later.calls (Nat.le_refl _) (I3.out _)))
                      | (go_at_call 23; (with_reducible exact Later.calls (Nat.le_refl _) (RA.out _)))
                      | (go_at_call 23; (with_reducible exact Later.calls (Nat.le_refl _) (RB.out _)))
                      | (go_at_call 23; (with_reducible exact Later.calls (Nat.le_refl _) (RC.out _)))
                      | (go_at_call 24; (with_reducible exact Later.calls (Nat.le_refl _) (LCA.out _)))
                      | (go_at_call 24; (with_reducible exact Later.calls (Nat.le_refl _) (LBC.out _)))))
                    refine wpQuiet_nil ?_
                    rintro wq ⟨zz, rfl⟩
                    have HRQ := Lib.hid (below_step HR.out zz.prop HR.out.size)
                    go_wp2_with fail
                    go_meet
                    case rel => exact ⟨rfl, HRQ.out⟩
                  · skip
                    refine wp_region_later w15.heap.size (by kernel_rfl) (by kernel_rfl) ?_
                    repeat (go_big_quiet_step (first
                      | (go_at_call 22; (with_reducible exact Later.calls (Nat.le_refl _) (C3.out _ (tM.out _))))
                      | (go_at_call 18; (with_reducible exact Later.calls (Nat.le_refl _) (I3.out _)))
                      | (go_at_call 23; (with_reducible exact Later.calls (Nat.le_refl _) (RA.out _)))
                      | (go_at_call 23; (with_reducible exact Later.calls (Nat.le_refl _) (RB.out _)))
                      | (go_at_call 23; (with_reducible exact Later.calls (Nat.le_refl _) (RC.out _)))
                      | (go_at_call 24; (with_reducible exact Later.calls (Nat.le_refl _) (LCA.out _)))
                      | (go_at_call 24; (with_reducible exact Later.calls (Nat.le_refl _) (LBC.out _)))))
                    refine wpQuiet_nil ?_
                    rintro wq ⟨zz, rfl⟩
                    have HRQ := Lib.hid (below_step HR.out zz.prop HR.out.size)
                    go_wp2_with fail
                    go_meet
                    case rel => exact ⟨rfl, HRQ.out⟩
      case rest => as_aux_lemma =>
        obtain ⟨rfl, hb⟩ := hcut
        rename World => W9
        replace HR := Lib.hid hb
        clear hb tM ta0 ta1 ta2 tb0 tb1 tb2 tc0 tc1 tc2
        have ya0 : W9.cell? ⟨w.heap.size + 1 + 1, 0, none⟩ = some (.int .u8 (af.toNat : Int)) := by rw [blk_cell (HXK.out _ HR.out).2.2.1]; rfl
        have ya1 : W9.cell? ⟨w.heap.size + 1 + 1, 1, none⟩ = some (.int .u64 (ah.toNat : Int)) := by rw [blk_cell (HXK.out _ HR.out).2.2.1]; rfl
        have ya2 : W9.cell? ⟨w.heap.size + 1 + 1, 2, none⟩ = some (.int .u64 (al.toNat : Int)) := by rw [blk_cell (HXK.out _ HR.out).2.2.1]; rfl
        go_wp2_with fail
        refine (G4.out _ (HMK.out _ HR.out)).mono ?_
        rintro e w16 ⟨rfl, hb⟩
        replace HR := Lib.hid (below_step HR.out hb HR.out.size)
        clear hb
        clear ya0 ya1 ya2
        have xx := (HXK.out _ HR.out).2.2.1
        have ta0 : ∀ zz : Later w16.heap.size w16, zz.val.cell? ⟨w.heap.size + 1 + 1, 0, none⟩ = some (.int .u8 (af.toNat : Int)) := fun zz => Later.cell (by rw [blk_cell xx]; rfl) (blk_lt xx) zz
        have ta1 : ∀ zz : Later w16.heap.size w16, zz.val.cell? ⟨w.heap.size + 1 + 1, 1, none⟩ = some (.int .u64 (ah.toNat : Int)) := fun zz => Later.cell (by rw [blk_cell xx]; rfl) (blk_lt xx) zz
        have ta2 : ∀ zz : Later w16.heap.size w16, zz.val.cell? ⟨w.heap.size + 1 + 1, 2, none⟩ = some (.int .u64 (al.toNat : Int)) := fun zz => Later.cell (by rw [blk_cell xx]; rfl) (blk_lt xx) zz
        clear xx
        have xx := (HXK.out _ HR.out).2.2.2.2
        have tc0 : ∀ zz : Later w16.heap.size w16, zz.val.cell? ⟨w.heap.size + 1 + 1 + 1 + 1, 0, none⟩ = some (.int .u8 (cf.toNat : Int)) := fun zz => Later.cell (by rw [blk_cell xx]; rfl) (blk_lt xx) zz
        have tc1 : ∀ zz : Later w16.heap.size w16, zz.val.cell? ⟨w.heap.size + 1 + 1 + 1 + 1, 1, none⟩ = some (.int .u64 (ch.toNat : Int)) := fun zz => Later.cell (by rw [blk_cell xx]; rfl) (blk_lt xx) zz
        have tc2 : ∀ zz : Later w16.heap.size w16, zz.val.cell? ⟨w.heap.size + 1 + 1 + 1 + 1, 2, none⟩ = some (.int .u64 (cl.toNat : Int)) := fun zz => Later.cell (by rw [blk_cell xx]; rfl) (blk_lt xx) zz
        clear xx
        have tM := Lib.hid (fun (zz : Later w16.heap.size w16) => HMK.out _ (below_step HR.out zz.prop HR.out.size))
        go_upto_region 12 with (fail)
        go_cut [134] (fun v W => v = .bool false ∧ Below W0.heap.size W0 W)
        case first =>
          try clear_value *
          as_aux_lemma =>
            have re : ∀ W, (binOp .eql 40 (.agg #[.int .u8 (af.toNat : Int), .int .u64 (ah.toNat : Int), .int .u64 (al.toNat : Int)]) (.agg #[.int .u8 (cf.toNat : Int), .int .u64 (ch.toNat : Int), .int .u64 (cl.toNat : Int)])).run Tryd.prog W = .ok (.bool ((af, ah, al) == (cf, ch, cl))) W := run_eqlA2 (af, ah, al) (cf, ch, cl)
            obtain ⟨ev, hev⟩ : ∃ ev, ev = ((af, ah, al) == (cf, ch, cl)) := ⟨_, rfl⟩
            rw [← hev] at re I5
            clear hev
            cases ha : rightA (af, ah, al) with
            | false =>
              rw [ha] at RA I5
              clear ha
              refine wp_region_later w16.heap.size (by kernel_rfl) (by kernel_rfl) ?_
              repeat (go_big_quiet_step (first
                | (go_at_call 26; (with_reducible exact Later.calls (Nat.le_refl _) (C5.out _ (tM.out _))))
                | (go_at_call 18; (with_reducible exact Later.calls (Nat.le_refl _) (I5.out _)))
                | (go_at_call 23; (with_reducible exact Later.calls (Nat.le_refl _) (RA.out _)))))
              refine wpQuiet_nil ?_
              rintro wq ⟨zz, rfl⟩
              have HRQ := Lib.hid (below_step HR.out zz.prop HR.out.size)
              go_wp2_with fail
              go_meet
              case rel => exact ⟨rfl, HRQ.out⟩
            | true =>
              rw [ha] at RA I5
              clear ha
              cases ev
              · skip
                refine wp_region_later w16.heap.size (by kernel_rfl) (by kernel_rfl) ?_
                repeat (go_big_quiet_step (first
                  | (go_at_call 26; (with_reducible exact Later.calls (Nat.le_refl _) (C5.out _ (tM.out _))))
                  | (go_at_call 18; (with_reducible exact Later.calls (Nat.le_refl _) (I5.out _)))
                  | (go_at_call 23; (with_reducible exact Later.calls (Nat.le_refl _) (RA.out _)))))
                refine wpQuiet_nil ?_
                rintro wq ⟨zz, rfl⟩
                have HRQ := Lib.hid (below_step HR.out zz.prop HR.out.size)
                go_wp2_with fail
                go_meet
                case rel => exact ⟨rfl, HRQ.out⟩
              · by_cases hnm : n.toNat ≤ m'.toNat
                · have n1 : (n.toNat : Int) ≤ (m'.toNat : Int) := by omega
                  have n2 : decide (n.toNat ≤ m'.toNat) = true := decide_eq_true hnm
                  rw [n2] at I5
                  clear hnm
                  refine wp_region_later w16.heap.size (by kernel_rfl) (by kernel_rfl) ?_
                  repeat (go_big_quiet_step (first
                    | (go_at_call 26; (with_reducible exact Later.calls (Nat.le_refl _) (C5.out _ (tM.out _))))
                    | (go_at_call 18; (with_reducible exact Later.calls (Nat.le_refl _) (I5.out _)))
                    | (go_at_call 23; (with_reducible exact Later.calls (Nat.le_refl _) (RA.out _)))))
                  refine wpQuiet_nil ?_
                  rintro wq ⟨zz, rfl⟩
                  have HRQ := Lib.hid (below_step HR.out zz.prop HR.out.size)
                  go_wp2_with fail
                  go_meet
                  case rel => exact ⟨rfl, HRQ.out⟩
                · have n1 : ¬ (n.toNat : Int) ≤ (m'.toNat : Int) := by omega
                  have n2 : decide (n.toNat ≤ m'.toNat) = false := decide_eq_false hnm
                  rw [n2] at I5
                  clear hnm
                  refine wp_region_later w16.heap.size (by kernel_rfl) (by kernel_rfl) ?_
                  repeat (go_big_quiet_step (first
                    | (go_at_call 26; (with_reducible exact Later.calls (Nat.le_refl _) (C5.out _ (tM.out _))))
                    | (go_at_call 18; (with_reducible exact Later.calls (Nat.le_refl _) (I5.out _)))
                    | (go_at_call 23; (with_reducible exact Later.calls (Nat.le_refl _) (RA.out _)))))
                  refine wpQuiet_nil ?_
                  rintro wq ⟨zz, rfl⟩
                  have HRQ := Lib.hid (below_step HR.out zz.prop HR.out.size)
                  go_wp2_with fail
                  go_meet
                  case rel => exact ⟨rfl, HRQ.out⟩
        case rest => as_aux_lemma =>
          obtain ⟨rfl, hb⟩ := hcut
          rename World => W12
          replace HR := Lib.hid hb
          clear hb tM ta0 ta1 ta2 tc0 tc1 tc2
          have HCS := Lib.hid (fun W (hb : Below W0.heap.size W0 W) => show W.cell? ⟨w.heap.size + 1 + 1 + 1 + 1, 0, none⟩ = some (.int .u8 (cf.toNat : Int)) ∧ W.cell? ⟨w.heap.size + 1 + 1 + 1 + 1, 1, none⟩ = some (.int .u64 (ch.toNat : Int)) ∧ W.cell? ⟨w.heap.size + 1 + 1 + 1 + 1, 2, none⟩ = some (.int .u64 (cl.toNat : Int)) from ⟨by rw [blk_cell (HXK.out W hb).2.2.2.2]; rfl, by rw [blk_cell (HXK.out W hb).2.2.2.2]; rfl, by rw [blk_cell (HXK.out W hb).2.2.2.2]; rfl⟩)
          go_upto_region 14 with (fail)
          have HRD := Lib.hid (show Below W0.heap.size W0 W12.drew from HR.out.drew)
          go_cut [26] (fun v W => ∃ g, v = .slice (some ⟨g, 0, none⟩) 3 3 ∧ W.heap[g]? = some (.cells #[.string K0, .string K4, .string K6] 9 (0, 0)) ∧ Below W0.heap.size W0 W)
          case first =>
            have HB := HRD
            clear HRD
            go_region_held_law (fun W => W.cell? ⟨w.heap.size + 1 + 1 + 1 + 1, 0, none⟩ = some (.int .u8 (cf.toNat : Int)) ∧ W.cell? ⟨w.heap.size + 1 + 1 + 1 + 1, 1, none⟩ = some (.int .u64 (ch.toNat : Int)) ∧ W.cell? ⟨w.heap.size + 1 + 1 + 1 + 1, 2, none⟩ = some (.int .u64 (cl.toNat : Int)))
              (((refine HCS.out _ ?_); (first | exact HB.out | exact HB.out.drew | exact HB.out.alloc HB.out.size _)))
              (first
                | (go_at_call 27; refine (C0.out _ (HMK.out _ HB.out)).mono ?_; rintro r u ⟨rfl, hb⟩; replace HB := Lib.hid (HB.out.trans (hb.mono HB.out.size)); clear hb)
                | (go_at_call 28; refine (C4.out _ (HMK.out _ HB.out)).mono ?_; rintro r u ⟨rfl, hb⟩; replace HB := Lib.hid (HB.out.trans (hb.mono HB.out.size)); clear hb)
                | (go_at_call 29; refine (C6.out _ (HMK.out _ HB.out)).mono ?_; rintro r u ⟨rfl, hb⟩; replace HB := Lib.hid (HB.out.trans (hb.mono HB.out.size)); clear hb))
            all_goals
              go_wp2_with fail
              go_meet
              case rel => exact ⟨_, rfl, heap_alloc_new _ _, HB.out.alloc HB.out.size _⟩
          case rest => as_aux_lemma =>
            obtain ⟨g, rfl, hk, hb⟩ := hcut
            rename World => W14
            have HK := Lib.hid hk
            replace HR := Lib.hid hb
            have HKK := Lib.hid (fun W (hb : Below W14.heap.size W14 W) => blk_kept hb HK.out)
            have HR14 := HR
            have HRR := Lib.hid (Below.refl W14.heap.size W14)
            clear hb hk HRD HCS
            go_upto_block 0 with (fail)
            go_cut [27] from 27 to 181 (fun v27 W => Below W14.heap.size W14 W)
            case first =>
              go_wp2_with fail
              go_loopw [27] (fun v27 W => ∃ i : Nat, i ≤ 3 ∧ v27 = .int .i64 i ∧ Below W14.heap.size W14 W) (fun v27 _ => 3 - (intOf v27).toNat)
              case atStart => exact ⟨0, by decide, rfl, HRR.out⟩
              case round =>
                obtain ⟨i, hi, rfl, hb⟩ := hrel
                replace HR := Lib.hid hb
                clear hb
                have h8 : i = 0 ∨ i = 1 ∨ i = 2 ∨ i = 3 := by omega
                clear hi
                rcases h8 with rfl | rfl | rfl | rfl
                ·
                  clear_value *
                  as_aux_lemma =>
                    have kc : wr.cell? ⟨g, 0, none⟩ = some (.string K0) := by rw [blk_cell (HKK.out _ HR.out)]; rfl
                    go_wp2_with fail
                    refine (JK01.out _).mono ?_
                    rintro e w17 ⟨rfl, hb⟩
                    clear kc
                    replace HR := Lib.hid (below_step HR.out hb HR.out.size)
                    clear hb
                    have kc : w17.cell? ⟨g, 0, none⟩ = some (.string K0) := by rw [blk_cell (HKK.out _ HR.out)]; rfl
                    go_wp2_with fail
                    refine (JK02.out _).mono ?_
                    rintro e w18 ⟨rfl, hb⟩
                    clear kc
                    replace HR := Lib.hid (below_step HR.out hb HR.out.size)
                    clear hb
                    have kc : w18.cell? ⟨g, 0, none⟩ = some (.string K0) := by rw [blk_cell (HKK.out _ HR.out)]; rfl
                    go_wp2_with fail
                    refine (JK03.out _).mono ?_
                    rintro e w19 ⟨rfl, hb⟩
                    clear kc
                    replace HR := Lib.hid (below_step HR.out hb HR.out.size)
                    clear hb
                    have kc : w19.cell? ⟨g, 0, none⟩ = some (.string K0) := by rw [blk_cell (HKK.out _ HR.out)]; rfl
                    go_wp2_with fail
                    refine (JK04.out _).mono ?_
                    rintro e w20 ⟨rfl, hb⟩
                    clear kc
                    replace HR := Lib.hid (below_step HR.out hb HR.out.size)
                    clear hb
                    have kc : w20.cell? ⟨g, 0, none⟩ = some (.string K0) := by rw [blk_cell (HKK.out _ HR.out)]; rfl
                    go_wp2_with fail
                    go_roundw
                    case rel => exact ⟨1, by decide, by first | rfl | go_num, HR.out⟩
                    case measure => simp [intOf]
                ·
                  clear_value *
                  as_aux_lemma =>
                    have kc : wr.cell? ⟨g, 1, none⟩ = some (.string K4) := by rw [blk_cell (HKK.out _ HR.out)]; rfl
                    go_wp2_with fail
                    refine (JK41.out _).mono ?_
                    rintro e w21 ⟨rfl, hb⟩
                    clear kc
                    replace HR := Lib.hid (below_step HR.out hb HR.out.size)
                    clear hb
                    have kc : w21.cell? ⟨g, 1, none⟩ = some (.string K4) := by rw [blk_cell (HKK.out _ HR.out)]; rfl
                    go_wp2_with fail
                    refine (JK42.out _).mono ?_
                    rintro e w22 ⟨rfl, hb⟩
                    clear kc
                    replace HR := Lib.hid (below_step HR.out hb HR.out.size)
                    clear hb
                    have kc : w22.cell? ⟨g, 1, none⟩ = some (.string K4) := by rw [blk_cell (HKK.out _ HR.out)]; rfl
                    go_wp2_with fail
                    refine (JK43.out _).mono ?_
                    rintro e w23 ⟨rfl, hb⟩
                    clear kc
                    replace HR := Lib.hid (below_step HR.out hb HR.out.size)
                    clear hb
                    have kc : w23.cell? ⟨g, 1, none⟩ = some (.string K4) := by rw [blk_cell (HKK.out _ HR.out)]; rfl
                    go_wp2_with fail
                    refine (JK44.out _).mono ?_
                    rintro e w24 ⟨rfl, hb⟩
                    clear kc
                    replace HR := Lib.hid (below_step HR.out hb HR.out.size)
                    clear hb
                    have kc : w24.cell? ⟨g, 1, none⟩ = some (.string K4) := by rw [blk_cell (HKK.out _ HR.out)]; rfl
                    go_wp2_with fail
                    go_roundw
                    case rel => exact ⟨2, by decide, by first | rfl | go_num, HR.out⟩
                    case measure => simp [intOf]
                ·
                  clear_value *
                  as_aux_lemma =>
                    have kc : wr.cell? ⟨g, 2, none⟩ = some (.string K6) := by rw [blk_cell (HKK.out _ HR.out)]; rfl
                    go_wp2_with fail
                    refine (JK61.out _).mono ?_
                    rintro e w25 ⟨rfl, hb⟩
                    clear kc
                    replace HR := Lib.hid (below_step HR.out hb HR.out.size)
                    clear hb
                    have kc : w25.cell? ⟨g, 2, none⟩ = some (.string K6) := by rw [blk_cell (HKK.out _ HR.out)]; rfl
                    go_wp2_with fail
                    refine (JK62.out _).mono ?_
                    rintro e w26 ⟨rfl, hb⟩
                    clear kc
                    replace HR := Lib.hid (below_step HR.out hb HR.out.size)
                    clear hb
                    have kc : w26.cell? ⟨g, 2, none⟩ = some (.string K6) := by rw [blk_cell (HKK.out _ HR.out)]; rfl
                    go_wp2_with fail
                    refine (JK63.out _).mono ?_
                    rintro e w27 ⟨rfl, hb⟩
                    clear kc
                    replace HR := Lib.hid (below_step HR.out hb HR.out.size)
                    clear hb
                    have kc : w27.cell? ⟨g, 2, none⟩ = some (.string K6) := by rw [blk_cell (HKK.out _ HR.out)]; rfl
                    go_wp2_with fail
                    refine (JK64.out _).mono ?_
                    rintro e w28 ⟨rfl, hb⟩
                    clear kc
                    replace HR := Lib.hid (below_step HR.out hb HR.out.size)
                    clear hb
                    have kc : w28.cell? ⟨g, 2, none⟩ = some (.string K6) := by rw [blk_cell (HKK.out _ HR.out)]; rfl
                    go_wp2_with fail
                    go_roundw
                    case rel => exact ⟨3, by decide, by first | rfl | go_num, HR.out⟩
                    case measure => simp [intOf]
                · go_wp2_with fail
                  go_meet
                  case rel => exact HR.out
            case rest => as_aux_lemma =>
              rename World => W15
              replace HR := Lib.hid (below_step HR14.out hcut HR14.out.size)
              clear hcut HKK HK HRR HR14
              have HP0 := Lib.hid (fun W => poolOf S W (by have := HS.out; omega))
              have HL0 := Lib.hid (fun W => leaseOf S W (by have := HS.out; omega))
              have HIS := Lib.hid (fun W => in_any S PF PE W)
              have HIL := Lib.hid (fun W => in_any S LX LY W)
              cases hpo : prefixK 2 S with
              | some r =>
                obtain ⟨⟨rf, rh, rl⟩, rn⟩ := r
                obtain ⟨hr1, hr2⟩ := prefixK_back hpo
                have hno : ofK 4 0 S = none := by rw [hr2]; exact ofK_keyP (by decide)
                rw [hpo] at HP0
                rw [hno] at HL0
                have HP1 := Lib.hid (fun (W : World) => show Calls Tryd.prog 30 #[.string S] W (fun e w' => e = .returned (.tuple #[.agg #[.int .u8 (rf.toNat : Int), .int .u64 (rh.toNat : Int), .int .u64 (rl.toNat : Int), .int .i64 rn], .bool true]) ∧ Below W.heap.size W w') from HP0.out W)
                have HL1 := Lib.hid (fun (W : World) => show Calls Tryd.prog 31 #[.string S] W (fun e w' => e = .returned (.tuple #[.agg #[.int .u8 0, .int .u64 0, .int .u64 0], .bool false]) ∧ Below W.heap.size W w') from HL0.out W)
                have hin : inB S PF PE = (!rightP ((pf, ph, pl), pn) || !before ((rf, rh, rl), rn) ((pf, ph, pl), pn)) := by
                  rw [HPF.out, HPE.out, hr2, in_pools 2 _ _, hr1]; rfl
                rw [hin] at HIS
                have BRP := Lib.hid (fun (W : World) => show Calls Tryd.prog 17 #[.agg #[.int .u8 (rf.toNat : Int), .int .u64 (rh.toNat : Int), .int .u64 (rl.toNat : Int), .int .i64 rn], .agg #[.int .u8 (pf.toNat : Int), .int .u64 (ph.toNat : Int), .int .u64 (pl.toNat : Int), .int .i64 pn]] W (fun e w' => e = .returned (.bool (before ((rf, rh, rl), rn) ((pf, ph, pl), pn))) ∧ Below W.heap.size W w') from Pfx.before_any ((rf, rh, rl), rn) ((pf, ph, pl), pn) W)
                obtain ⟨bv, hbv⟩ : ∃ bv, bv = before ((rf, rh, rl), rn) ((pf, ph, pl), pn) := ⟨_, rfl⟩
                rw [← hbv] at HIS BRP
                clear hpo hr1 hr2 hno hin hbv HP0 HL0
                cases hp : rightP ((pf, ph, pl), pn) with
                | false =>
                  rw [hp] at RP HIS
                  have HIS1 := Lib.hid (fun (W : World) => show Calls Tryd.prog 18 #[.string S, .string PF, .string PE] W (fun e w' => e = .returned (.bool true) ∧ Below W.heap.size W w') from HIS.out W)
                  clear hp
                  go_wp2_with fail
                  refine (HP1.out _).mono ?_
                  rintro e w29 ⟨rfl, hb⟩
                  replace HR := Lib.hid (below_step HR.out hb HR.out.size)
                  clear hb
                  have X28 := Lib.hid (heap_alloc_new w29 (.cells #[.int .u8 (rf.toNat : Int), .int .u64 (rh.toNat : Int), .int .u64 (rl.toNat : Int), .int .i64 rn] 42 (0, 0)))
                  replace HR := Lib.hid (below_alloc1 HR.out HR.out.size (.cells #[.int .u8 (rf.toNat : Int), .int .u64 (rh.toNat : Int), .int .u64 (rl.toNat : Int), .int .i64 rn] 42 (0, 0)))
                  go_wp2_with fail
                  refine (HL1.out _).mono ?_
                  rintro e w30 ⟨rfl, hb⟩
                  replace HR := Lib.hid (below_step HR.out hb HR.out.size)
                  replace X28 := Lib.hid (blk_kept hb X28.out)
                  clear hb
                  replace X28 := Lib.hid (blk_alloc X28.out (.cells #[.int .u8 0, .int .u64 0, .int .u64 0] 40 (0, 0)))
                  have X30 := Lib.hid (heap_alloc_new w30 (.cells #[.int .u8 0, .int .u64 0, .int .u64 0] 40 (0, 0)))
                  replace HR := Lib.hid (below_alloc1 HR.out HR.out.size (.cells #[.int .u8 0, .int .u64 0, .int .u64 0] 40 (0, 0)))
                  obtain ⟨WE, hWE⟩ : ∃ W, W = w30.alloc (.cells #[.int .u8 0, .int .u64 0, .int .u64 0] 40 (0, 0)) := ⟨_, rfl⟩
                  rw [← hWE] at HR X28 X30
                  have xx := (HXK.out _ HR.out).1
                  have tp0 : ∀ zz : Later WE.heap.size WE, zz.val.cell? ⟨w.heap.size, 0, none⟩ = some (.int .u8 (pf.toNat : Int)) := fun zz => Later.cell (by rw [blk_cell xx]; rfl) (blk_lt xx) zz
                  have tp1 : ∀ zz : Later WE.heap.size WE, zz.val.cell? ⟨w.heap.size, 1, none⟩ = some (.int .u64 (ph.toNat : Int)) := fun zz => Later.cell (by rw [blk_cell xx]; rfl) (blk_lt xx) zz
                  have tp2 : ∀ zz : Later WE.heap.size WE, zz.val.cell? ⟨w.heap.size, 2, none⟩ = some (.int .u64 (pl.toNat : Int)) := fun zz => Later.cell (by rw [blk_cell xx]; rfl) (blk_lt xx) zz
                  have tp3 : ∀ zz : Later WE.heap.size WE, zz.val.cell? ⟨w.heap.size, 3, none⟩ = some (.int .i64 pn) := fun zz => Later.cell (by rw [blk_cell xx]; rfl) (blk_lt xx) zz
                  clear xx
                  have xx := (HXK.out _ HR.out).2.2.1
                  have ta0 : ∀ zz : Later WE.heap.size WE, zz.val.cell? ⟨w.heap.size + 1 + 1, 0, none⟩ = some (.int .u8 (af.toNat : Int)) := fun zz => Later.cell (by rw [blk_cell xx]; rfl) (blk_lt xx) zz
                  have ta1 : ∀ zz : Later WE.heap.size WE, zz.val.cell? ⟨w.heap.size + 1 + 1, 1, none⟩ = some (.int .u64 (ah.toNat : Int)) := fun zz => Later.cell (by rw [blk_cell xx]; rfl) (blk_lt xx) zz
                  have ta2 : ∀ zz : Later WE.heap.size WE, zz.val.cell? ⟨w.heap.size + 1 + 1, 2, none⟩ = some (.int .u64 (al.toNat : Int)) := fun zz => Later.cell (by rw [blk_cell xx]; rfl) (blk_lt xx) zz
                  clear xx
                  have xx := (HXK.out _ HR.out).2.2.2.1
                  have tb0 : ∀ zz : Later WE.heap.size WE, zz.val.cell? ⟨w.heap.size + 1 + 1 + 1, 0, none⟩ = some (.int .u8 (bf.toNat : Int)) := fun zz => Later.cell (by rw [blk_cell xx]; rfl) (blk_lt xx) zz
                  have tb1 : ∀ zz : Later WE.heap.size WE, zz.val.cell? ⟨w.heap.size + 1 + 1 + 1, 1, none⟩ = some (.int .u64 (bh.toNat : Int)) := fun zz => Later.cell (by rw [blk_cell xx]; rfl) (blk_lt xx) zz
                  have tb2 : ∀ zz : Later WE.heap.size WE, zz.val.cell? ⟨w.heap.size + 1 + 1 + 1, 2, none⟩ = some (.int .u64 (bl.toNat : Int)) := fun zz => Later.cell (by rw [blk_cell xx]; rfl) (blk_lt xx) zz
                  clear xx
                  have tM := Lib.hid (fun (zz : Later WE.heap.size WE) => HMK.out _ (below_step HR.out zz.prop HR.out.size))
                  have xx := X28.out
                  have tX280 : ∀ zz : Later WE.heap.size WE, zz.val.cell? ⟨w29.heap.size, 0, none⟩ = some (.int .u8 (rf.toNat : Int)) := fun zz => Later.cell (by rw [blk_cell xx]; rfl) (blk_lt xx) zz
                  have tX281 : ∀ zz : Later WE.heap.size WE, zz.val.cell? ⟨w29.heap.size, 1, none⟩ = some (.int .u64 (rh.toNat : Int)) := fun zz => Later.cell (by rw [blk_cell xx]; rfl) (blk_lt xx) zz
                  have tX282 : ∀ zz : Later WE.heap.size WE, zz.val.cell? ⟨w29.heap.size, 2, none⟩ = some (.int .u64 (rl.toNat : Int)) := fun zz => Later.cell (by rw [blk_cell xx]; rfl) (blk_lt xx) zz
                  have tX283 : ∀ zz : Later WE.heap.size WE, zz.val.cell? ⟨w29.heap.size, 3, none⟩ = some (.int .i64 rn) := fun zz => Later.cell (by rw [blk_cell xx]; rfl) (blk_lt xx) zz
                  clear xx
                  go_wp2_with fail
                  try rw [← hWE]
                  refine wp_region_later WE.heap.size (by kernel_rfl) (by kernel_rfl) ?_
                  repeat (go_big_quiet_step (first
                    | (go_at_call 18; (with_reducible exact Later.calls (Nat.le_refl _) (HIS1.out _)))
                    | (go_at_call 16; (with_reducible exact Later.calls (Nat.le_refl _) (RP.out _)))
                    | (go_at_call 17; (with_reducible exact Later.calls (Nat.le_refl _) (BRP.out _)))
                    | (go_at_call 5; (with_reducible exact Later.calls (Nat.le_refl _) (HAW.out _ (tM.out _))))))
                  refine wpQuiet_nil ?_
                  rintro wq ⟨zz, rfl⟩
                  have HRQ := Lib.hid (HWK.out _ (below_step HR.out zz.prop HR.out.size))
                  go_wp2_with fail
                  go_ret
                  exact ⟨rfl, HRQ.out⟩
                | true =>
                  rw [hp] at RP HIS
                  have HIS1 := Lib.hid (fun (W : World) => show Calls Tryd.prog 18 #[.string S, .string PF, .string PE] W (fun e w' => e = .returned (.bool (!bv)) ∧ Below W.heap.size W w') from HIS.out W)
                  clear hp
                  cases bv
                  · skip
                    go_wp2_with fail
                    refine (HP1.out _).mono ?_
                    rintro e w29 ⟨rfl, hb⟩
                    replace HR := Lib.hid (below_step HR.out hb HR.out.size)
                    clear hb
                    have X28 := Lib.hid (heap_alloc_new w29 (.cells #[.int .u8 (rf.toNat : Int), .int .u64 (rh.toNat : Int), .int .u64 (rl.toNat : Int), .int .i64 rn] 42 (0, 0)))
                    replace HR := Lib.hid (below_alloc1 HR.out HR.out.size (.cells #[.int .u8 (rf.toNat : Int), .int .u64 (rh.toNat : Int), .int .u64 (rl.toNat : Int), .int .i64 rn] 42 (0, 0)))
                    go_wp2_with fail
                    refine (HL1.out _).mono ?_
                    rintro e w30 ⟨rfl, hb⟩
                    replace HR := Lib.hid (below_step HR.out hb HR.out.size)
                    replace X28 := Lib.hid (blk_kept hb X28.out)
                    clear hb
                    replace X28 := Lib.hid (blk_alloc X28.out (.cells #[.int .u8 0, .int .u64 0, .int .u64 0] 40 (0, 0)))
                    have X30 := Lib.hid (heap_alloc_new w30 (.cells #[.int .u8 0, .int .u64 0, .int .u64 0] 40 (0, 0)))
                    replace HR := Lib.hid (below_alloc1 HR.out HR.out.size (.cells #[.int .u8 0, .int .u64 0, .int .u64 0] 40 (0, 0)))
                    obtain ⟨WE, hWE⟩ : ∃ W, W = w30.alloc (.cells #[.int .u8 0, .int .u64 0, .int .u64 0] 40 (0, 0)) := ⟨_, rfl⟩
                    rw [← hWE] at HR X28 X30
                    have xx := (HXK.out _ HR.out).1
                    have tp0 : ∀ zz : Later WE.heap.size WE, zz.val.cell? ⟨w.heap.size, 0, none⟩ = some (.int .u8 (pf.toNat : Int)) := fun zz => Later.cell (by rw [blk_cell xx]; rfl) (blk_lt xx) zz
                    have tp1 : ∀ zz : Later WE.heap.size WE, zz.val.cell? ⟨w.heap.size, 1, none⟩ = some (.int .u64 (ph.toNat : Int)) := fun zz => Later.cell (by rw [blk_cell xx]; rfl) (blk_lt xx) zz
                    have tp2 : ∀ zz : Later WE.heap.size WE, zz.val.cell? ⟨w.heap.size, 2, none⟩ = some (.int .u64 (pl.toNat : Int)) := fun zz => Later.cell (by rw [blk_cell xx]; rfl) (blk_lt xx) zz
                    have tp3 : ∀ zz : Later WE.heap.size WE, zz.val.cell? ⟨w.heap.size, 3, none⟩ = some (.int .i64 pn) := fun zz => Later.cell (by rw [blk_cell xx]; rfl) (blk_lt xx) zz
                    clear xx
                    have xx := (HXK.out _ HR.out).2.2.1
                    have ta0 : ∀ zz : Later WE.heap.size WE, zz.val.cell? ⟨w.heap.size + 1 + 1, 0, none⟩ = some (.int .u8 (af.toNat : Int)) := fun zz => Later.cell (by rw [blk_cell xx]; rfl) (blk_lt xx) zz
                    have ta1 : ∀ zz : Later WE.heap.size WE, zz.val.cell? ⟨w.heap.size + 1 + 1, 1, none⟩ = some (.int .u64 (ah.toNat : Int)) := fun zz => Later.cell (by rw [blk_cell xx]; rfl) (blk_lt xx) zz
                    have ta2 : ∀ zz : Later WE.heap.size WE, zz.val.cell? ⟨w.heap.size + 1 + 1, 2, none⟩ = some (.int .u64 (al.toNat : Int)) := fun zz => Later.cell (by rw [blk_cell xx]; rfl) (blk_lt xx) zz
                    clear xx
                    have xx := (HXK.out _ HR.out).2.2.2.1
                    have tb0 : ∀ zz : Later WE.heap.size WE, zz.val.cell? ⟨w.heap.size + 1 + 1 + 1, 0, none⟩ = some (.int .u8 (bf.toNat : Int)) := fun zz => Later.cell (by rw [blk_cell xx]; rfl) (blk_lt xx) zz
                    have tb1 : ∀ zz : Later WE.heap.size WE, zz.val.cell? ⟨w.heap.size + 1 + 1 + 1, 1, none⟩ = some (.int .u64 (bh.toNat : Int)) := fun zz => Later.cell (by rw [blk_cell xx]; rfl) (blk_lt xx) zz
                    have tb2 : ∀ zz : Later WE.heap.size WE, zz.val.cell? ⟨w.heap.size + 1 + 1 + 1, 2, none⟩ = some (.int .u64 (bl.toNat : Int)) := fun zz => Later.cell (by rw [blk_cell xx]; rfl) (blk_lt xx) zz
                    clear xx
                    have tM := Lib.hid (fun (zz : Later WE.heap.size WE) => HMK.out _ (below_step HR.out zz.prop HR.out.size))
                    have xx := X28.out
                    have tX280 : ∀ zz : Later WE.heap.size WE, zz.val.cell? ⟨w29.heap.size, 0, none⟩ = some (.int .u8 (rf.toNat : Int)) := fun zz => Later.cell (by rw [blk_cell xx]; rfl) (blk_lt xx) zz
                    have tX281 : ∀ zz : Later WE.heap.size WE, zz.val.cell? ⟨w29.heap.size, 1, none⟩ = some (.int .u64 (rh.toNat : Int)) := fun zz => Later.cell (by rw [blk_cell xx]; rfl) (blk_lt xx) zz
                    have tX282 : ∀ zz : Later WE.heap.size WE, zz.val.cell? ⟨w29.heap.size, 2, none⟩ = some (.int .u64 (rl.toNat : Int)) := fun zz => Later.cell (by rw [blk_cell xx]; rfl) (blk_lt xx) zz
                    have tX283 : ∀ zz : Later WE.heap.size WE, zz.val.cell? ⟨w29.heap.size, 3, none⟩ = some (.int .i64 rn) := fun zz => Later.cell (by rw [blk_cell xx]; rfl) (blk_lt xx) zz
                    clear xx
                    go_wp2_with fail
                    try rw [← hWE]
                    refine wp_region_later WE.heap.size (by kernel_rfl) (by kernel_rfl) ?_
                    repeat (go_big_quiet_step (first
                      | (go_at_call 18; (with_reducible exact Later.calls (Nat.le_refl _) (HIS1.out _)))
                      | (go_at_call 16; (with_reducible exact Later.calls (Nat.le_refl _) (RP.out _)))
                      | (go_at_call 17; (with_reducible exact Later.calls (Nat.le_refl _) (BRP.out _)))
                      | (go_at_call 5; (with_reducible exact Later.calls (Nat.le_refl _) (HAW.out _ (tM.out _))))))
                    refine wpQuiet_nil ?_
                    rintro wq ⟨zz, rfl⟩
                    have HRQ := Lib.hid (HWK.out _ (below_step HR.out zz.prop HR.out.size))
                    go_wp2_with fail
                    go_ret
                    exact ⟨rfl, HRQ.out⟩
                  · skip
                    go_wp2_with fail
                    refine (HP1.out _).mono ?_
                    rintro e w29 ⟨rfl, hb⟩
                    replace HR := Lib.hid (below_step HR.out hb HR.out.size)
                    clear hb
                    have X28 := Lib.hid (heap_alloc_new w29 (.cells #[.int .u8 (rf.toNat : Int), .int .u64 (rh.toNat : Int), .int .u64 (rl.toNat : Int), .int .i64 rn] 42 (0, 0)))
                    replace HR := Lib.hid (below_alloc1 HR.out HR.out.size (.cells #[.int .u8 (rf.toNat : Int), .int .u64 (rh.toNat : Int), .int .u64 (rl.toNat : Int), .int .i64 rn] 42 (0, 0)))
                    go_wp2_with fail
                    refine (HL1.out _).mono ?_
                    rintro e w30 ⟨rfl, hb⟩
                    replace HR := Lib.hid (below_step HR.out hb HR.out.size)
                    replace X28 := Lib.hid (blk_kept hb X28.out)
                    clear hb
                    replace X28 := Lib.hid (blk_alloc X28.out (.cells #[.int .u8 0, .int .u64 0, .int .u64 0] 40 (0, 0)))
                    have X30 := Lib.hid (heap_alloc_new w30 (.cells #[.int .u8 0, .int .u64 0, .int .u64 0] 40 (0, 0)))
                    replace HR := Lib.hid (below_alloc1 HR.out HR.out.size (.cells #[.int .u8 0, .int .u64 0, .int .u64 0] 40 (0, 0)))
                    obtain ⟨WE, hWE⟩ : ∃ W, W = w30.alloc (.cells #[.int .u8 0, .int .u64 0, .int .u64 0] 40 (0, 0)) := ⟨_, rfl⟩
                    rw [← hWE] at HR X28 X30
                    have xx := (HXK.out _ HR.out).1
                    have tp0 : ∀ zz : Later WE.heap.size WE, zz.val.cell? ⟨w.heap.size, 0, none⟩ = some (.int .u8 (pf.toNat : Int)) := fun zz => Later.cell (by rw [blk_cell xx]; rfl) (blk_lt xx) zz
                    have tp1 : ∀ zz : Later WE.heap.size WE, zz.val.cell? ⟨w.heap.size, 1, none⟩ = some (.int .u64 (ph.toNat : Int)) := fun zz => Later.cell (by rw [blk_cell xx]; rfl) (blk_lt xx) zz
                    have tp2 : ∀ zz : Later WE.heap.size WE, zz.val.cell? ⟨w.heap.size, 2, none⟩ = some (.int .u64 (pl.toNat : Int)) := fun zz => Later.cell (by rw [blk_cell xx]; rfl) (blk_lt xx) zz
                    have tp3 : ∀ zz : Later WE.heap.size WE, zz.val.cell? ⟨w.heap.size, 3, none⟩ = some (.int .i64 pn) := fun zz => Later.cell (by rw [blk_cell xx]; rfl) (blk_lt xx) zz
                    clear xx
                    have xx := (HXK.out _ HR.out).2.2.1
                    have ta0 : ∀ zz : Later WE.heap.size WE, zz.val.cell? ⟨w.heap.size + 1 + 1, 0, none⟩ = some (.int .u8 (af.toNat : Int)) := fun zz => Later.cell (by rw [blk_cell xx]; rfl) (blk_lt xx) zz
                    have ta1 : ∀ zz : Later WE.heap.size WE, zz.val.cell? ⟨w.heap.size + 1 + 1, 1, none⟩ = some (.int .u64 (ah.toNat : Int)) := fun zz => Later.cell (by rw [blk_cell xx]; rfl) (blk_lt xx) zz
                    have ta2 : ∀ zz : Later WE.heap.size WE, zz.val.cell? ⟨w.heap.size + 1 + 1, 2, none⟩ = some (.int .u64 (al.toNat : Int)) := fun zz => Later.cell (by rw [blk_cell xx]; rfl) (blk_lt xx) zz
                    clear xx
                    have xx := (HXK.out _ HR.out).2.2.2.1
                    have tb0 : ∀ zz : Later WE.heap.size WE, zz.val.cell? ⟨w.heap.size + 1 + 1 + 1, 0, none⟩ = some (.int .u8 (bf.toNat : Int)) := fun zz => Later.cell (by rw [blk_cell xx]; rfl) (blk_lt xx) zz
                    have tb1 : ∀ zz : Later WE.heap.size WE, zz.val.cell? ⟨w.heap.size + 1 + 1 + 1, 1, none⟩ = some (.int .u64 (bh.toNat : Int)) := fun zz => Later.cell (by rw [blk_cell xx]; rfl) (blk_lt xx) zz
                    have tb2 : ∀ zz : Later WE.heap.size WE, zz.val.cell? ⟨w.heap.size + 1 + 1 + 1, 2, none⟩ = some (.int .u64 (bl.toNat : Int)) := fun zz => Later.cell (by rw [blk_cell xx]; rfl) (blk_lt xx) zz
                    clear xx
                    have tM := Lib.hid (fun (zz : Later WE.heap.size WE) => HMK.out _ (below_step HR.out zz.prop HR.out.size))
                    have xx := X28.out
                    have tX280 : ∀ zz : Later WE.heap.size WE, zz.val.cell? ⟨w29.heap.size, 0, none⟩ = some (.int .u8 (rf.toNat : Int)) := fun zz => Later.cell (by rw [blk_cell xx]; rfl) (blk_lt xx) zz
                    have tX281 : ∀ zz : Later WE.heap.size WE, zz.val.cell? ⟨w29.heap.size, 1, none⟩ = some (.int .u64 (rh.toNat : Int)) := fun zz => Later.cell (by rw [blk_cell xx]; rfl) (blk_lt xx) zz
                    have tX282 : ∀ zz : Later WE.heap.size WE, zz.val.cell? ⟨w29.heap.size, 2, none⟩ = some (.int .u64 (rl.toNat : Int)) := fun zz => Later.cell (by rw [blk_cell xx]; rfl) (blk_lt xx) zz
                    have tX283 : ∀ zz : Later WE.heap.size WE, zz.val.cell? ⟨w29.heap.size, 3, none⟩ = some (.int .i64 rn) := fun zz => Later.cell (by rw [blk_cell xx]; rfl) (blk_lt xx) zz
                    clear xx
                    go_wp2_with fail
                    try rw [← hWE]
                    refine wp_region_later WE.heap.size (by kernel_rfl) (by kernel_rfl) ?_
                    repeat (go_big_quiet_step (first
                      | (go_at_call 18; (with_reducible exact Later.calls (Nat.le_refl _) (HIS1.out _)))
                      | (go_at_call 16; (with_reducible exact Later.calls (Nat.le_refl _) (RP.out _)))
                      | (go_at_call 17; (with_reducible exact Later.calls (Nat.le_refl _) (BRP.out _)))
                      | (go_at_call 5; (with_reducible exact Later.calls (Nat.le_refl _) (HAW.out _ (tM.out _))))))
                    refine wpQuiet_nil ?_
                    rintro wq ⟨zz, rfl⟩
                    have HRQ := Lib.hid (HWK.out _ (below_step HR.out zz.prop HR.out.size))
                    go_wp2_with fail
                    go_ret
                    exact ⟨rfl, HRQ.out⟩
              | none =>
                rw [hpo] at HP0
                have HP1 := Lib.hid (fun (W : World) => show Calls Tryd.prog 30 #[.string S] W (fun e w' => e = .returned (.tuple #[.agg #[.int .u8 0, .int .u64 0, .int .u64 0, .int .i64 0], .bool false]) ∧ Below W.heap.size W w') from HP0.out W)
                clear hpo HP0
                cases hof : ofK 4 0 S with
                | none =>
                  rw [hof] at HL0
                  have HL1 := Lib.hid (fun (W : World) => show Calls Tryd.prog 31 #[.string S] W (fun e w' => e = .returned (.tuple #[.agg #[.int .u8 0, .int .u64 0, .int .u64 0], .bool false]) ∧ Below W.heap.size W w') from HL0.out W)
                  clear hof HL0
                  go_wp2_with fail
                  refine (HP1.out _).mono ?_
                  rintro e w29 ⟨rfl, hb⟩
                  replace HR := Lib.hid (below_step HR.out hb HR.out.size)
                  clear hb
                  have X28 := Lib.hid (heap_alloc_new w29 (.cells #[.int .u8 0, .int .u64 0, .int .u64 0, .int .i64 0] 42 (0, 0)))
                  replace HR := Lib.hid (below_alloc1 HR.out HR.out.size (.cells #[.int .u8 0, .int .u64 0, .int .u64 0, .int .i64 0] 42 (0, 0)))
                  go_wp2_with fail
                  refine (HL1.out _).mono ?_
                  rintro e w30 ⟨rfl, hb⟩
                  replace HR := Lib.hid (below_step HR.out hb HR.out.size)
                  replace X28 := Lib.hid (blk_kept hb X28.out)
                  clear hb
                  replace X28 := Lib.hid (blk_alloc X28.out (.cells #[.int .u8 0, .int .u64 0, .int .u64 0] 40 (0, 0)))
                  have X30 := Lib.hid (heap_alloc_new w30 (.cells #[.int .u8 0, .int .u64 0, .int .u64 0] 40 (0, 0)))
                  replace HR := Lib.hid (below_alloc1 HR.out HR.out.size (.cells #[.int .u8 0, .int .u64 0, .int .u64 0] 40 (0, 0)))
                  obtain ⟨WE, hWE⟩ : ∃ W, W = w30.alloc (.cells #[.int .u8 0, .int .u64 0, .int .u64 0] 40 (0, 0)) := ⟨_, rfl⟩
                  rw [← hWE] at HR X28 X30
                  have xx := (HXK.out _ HR.out).1
                  have tp0 : ∀ zz : Later WE.heap.size WE, zz.val.cell? ⟨w.heap.size, 0, none⟩ = some (.int .u8 (pf.toNat : Int)) := fun zz => Later.cell (by rw [blk_cell xx]; rfl) (blk_lt xx) zz
                  have tp1 : ∀ zz : Later WE.heap.size WE, zz.val.cell? ⟨w.heap.size, 1, none⟩ = some (.int .u64 (ph.toNat : Int)) := fun zz => Later.cell (by rw [blk_cell xx]; rfl) (blk_lt xx) zz
                  have tp2 : ∀ zz : Later WE.heap.size WE, zz.val.cell? ⟨w.heap.size, 2, none⟩ = some (.int .u64 (pl.toNat : Int)) := fun zz => Later.cell (by rw [blk_cell xx]; rfl) (blk_lt xx) zz
                  have tp3 : ∀ zz : Later WE.heap.size WE, zz.val.cell? ⟨w.heap.size, 3, none⟩ = some (.int .i64 pn) := fun zz => Later.cell (by rw [blk_cell xx]; rfl) (blk_lt xx) zz
                  clear xx
                  have xx := (HXK.out _ HR.out).2.2.1
                  have ta0 : ∀ zz : Later WE.heap.size WE, zz.val.cell? ⟨w.heap.size + 1 + 1, 0, none⟩ = some (.int .u8 (af.toNat : Int)) := fun zz => Later.cell (by rw [blk_cell xx]; rfl) (blk_lt xx) zz
                  have ta1 : ∀ zz : Later WE.heap.size WE, zz.val.cell? ⟨w.heap.size + 1 + 1, 1, none⟩ = some (.int .u64 (ah.toNat : Int)) := fun zz => Later.cell (by rw [blk_cell xx]; rfl) (blk_lt xx) zz
                  have ta2 : ∀ zz : Later WE.heap.size WE, zz.val.cell? ⟨w.heap.size + 1 + 1, 2, none⟩ = some (.int .u64 (al.toNat : Int)) := fun zz => Later.cell (by rw [blk_cell xx]; rfl) (blk_lt xx) zz
                  clear xx
                  have xx := (HXK.out _ HR.out).2.2.2.1
                  have tb0 : ∀ zz : Later WE.heap.size WE, zz.val.cell? ⟨w.heap.size + 1 + 1 + 1, 0, none⟩ = some (.int .u8 (bf.toNat : Int)) := fun zz => Later.cell (by rw [blk_cell xx]; rfl) (blk_lt xx) zz
                  have tb1 : ∀ zz : Later WE.heap.size WE, zz.val.cell? ⟨w.heap.size + 1 + 1 + 1, 1, none⟩ = some (.int .u64 (bh.toNat : Int)) := fun zz => Later.cell (by rw [blk_cell xx]; rfl) (blk_lt xx) zz
                  have tb2 : ∀ zz : Later WE.heap.size WE, zz.val.cell? ⟨w.heap.size + 1 + 1 + 1, 2, none⟩ = some (.int .u64 (bl.toNat : Int)) := fun zz => Later.cell (by rw [blk_cell xx]; rfl) (blk_lt xx) zz
                  clear xx
                  have tM := Lib.hid (fun (zz : Later WE.heap.size WE) => HMK.out _ (below_step HR.out zz.prop HR.out.size))
                  go_wp2_with fail
                  try rw [← hWE]
                  refine wp_region_later WE.heap.size (by kernel_rfl) (by kernel_rfl) ?_
                  repeat (go_big_quiet_step (first
                    | (go_at_call 5; (with_reducible exact Later.calls (Nat.le_refl _) (HAW.out _ (tM.out _))))))
                  refine wpQuiet_nil ?_
                  rintro wq ⟨zz, rfl⟩
                  have HRQ := Lib.hid (HWK.out _ (below_step HR.out zz.prop HR.out.size))
                  go_wp2_with fail
                  go_ret
                  exact ⟨rfl, HRQ.out⟩
                | some d =>
                  obtain ⟨⟨df, dh, dl⟩, dn⟩ := d
                  obtain ⟨hd1, hd2, -⟩ := ofK_back0 hof
                  rw [hof] at HL0
                  have HL1 := Lib.hid (fun (W : World) => show Calls Tryd.prog 31 #[.string S] W (fun e w' => e = .returned (.tuple #[.agg #[.int .u8 (df.toNat : Int), .int .u64 (dh.toNat : Int), .int .u64 (dl.toNat : Int)], .bool true]) ∧ Below W.heap.size W w') from HL0.out W)
                  have hin : inB S LX LY = (rightA (af, ah, al) && (rightA (bf, bh, bl) && (!lessA (df, dh, dl) (af, ah, al) && !lessA (bf, bh, bl) (df, dh, dl)))) := by
                    rw [HLX.out, HLY.out, hd2, in_leases, hd1]; rfl
                  rw [hin] at HIL
                  have LDA := Lib.hid (fun (W : World) => show Calls Tryd.prog 24 #[.agg #[.int .u8 (df.toNat : Int), .int .u64 (dh.toNat : Int), .int .u64 (dl.toNat : Int)], .agg #[.int .u8 (af.toNat : Int), .int .u64 (ah.toNat : Int), .int .u64 (al.toNat : Int)]] W (fun e w' => e = .returned (.bool (lessA (df, dh, dl) (af, ah, al))) ∧ Below W.heap.size W w') from Pfx.less (df, dh, dl) (af, ah, al) W)
                  have LBD := Lib.hid (fun (W : World) => show Calls Tryd.prog 24 #[.agg #[.int .u8 (bf.toNat : Int), .int .u64 (bh.toNat : Int), .int .u64 (bl.toNat : Int)], .agg #[.int .u8 (df.toNat : Int), .int .u64 (dh.toNat : Int), .int .u64 (dl.toNat : Int)]] W (fun e w' => e = .returned (.bool (lessA (bf, bh, bl) (df, dh, dl))) ∧ Below W.heap.size W w') from Pfx.less (bf, bh, bl) (df, dh, dl) W)
                  obtain ⟨x1, hx1⟩ : ∃ x, x = rightA (af, ah, al) := ⟨_, rfl⟩
                  obtain ⟨x2, hx2⟩ : ∃ x, x = rightA (bf, bh, bl) := ⟨_, rfl⟩
                  obtain ⟨x3, hx3⟩ : ∃ x, x = lessA (df, dh, dl) (af, ah, al) := ⟨_, rfl⟩
                  obtain ⟨x4, hx4⟩ : ∃ x, x = lessA (bf, bh, bl) (df, dh, dl) := ⟨_, rfl⟩
                  rw [← hx1] at HIL RA
                  rw [← hx2] at HIL RB
                  rw [← hx3] at HIL LDA
                  rw [← hx4] at HIL LBD
                  clear hof HL0 hd1 hd2 hin hx1 hx2 hx3 hx4
                  cases x1
                  · have HIL1 := Lib.hid (fun (W : World) => show Calls Tryd.prog 18 #[.string S, .string LX, .string LY] W (fun e w' => e = .returned (.bool false) ∧ Below W.heap.size W w') from HIL.out W)
                    go_wp2_with fail
                    refine (HP1.out _).mono ?_
                    rintro e w29 ⟨rfl, hb⟩
                    replace HR := Lib.hid (below_step HR.out hb HR.out.size)
                    clear hb
                    have X28 := Lib.hid (heap_alloc_new w29 (.cells #[.int .u8 0, .int .u64 0, .int .u64 0, .int .i64 0] 42 (0, 0)))
                    replace HR := Lib.hid (below_alloc1 HR.out HR.out.size (.cells #[.int .u8 0, .int .u64 0, .int .u64 0, .int .i64 0] 42 (0, 0)))
                    go_wp2_with fail
                    refine (HL1.out _).mono ?_
                    rintro e w30 ⟨rfl, hb⟩
                    replace HR := Lib.hid (below_step HR.out hb HR.out.size)
                    replace X28 := Lib.hid (blk_kept hb X28.out)
                    clear hb
                    replace X28 := Lib.hid (blk_alloc X28.out (.cells #[.int .u8 (df.toNat : Int), .int .u64 (dh.toNat : Int), .int .u64 (dl.toNat : Int)] 40 (0, 0)))
                    have X30 := Lib.hid (heap_alloc_new w30 (.cells #[.int .u8 (df.toNat : Int), .int .u64 (dh.toNat : Int), .int .u64 (dl.toNat : Int)] 40 (0, 0)))
                    replace HR := Lib.hid (below_alloc1 HR.out HR.out.size (.cells #[.int .u8 (df.toNat : Int), .int .u64 (dh.toNat : Int), .int .u64 (dl.toNat : Int)] 40 (0, 0)))
                    obtain ⟨WE, hWE⟩ : ∃ W, W = w30.alloc (.cells #[.int .u8 (df.toNat : Int), .int .u64 (dh.toNat : Int), .int .u64 (dl.toNat : Int)] 40 (0, 0)) := ⟨_, rfl⟩
                    rw [← hWE] at HR X28 X30
                    have xx := (HXK.out _ HR.out).1
                    have tp0 : ∀ zz : Later WE.heap.size WE, zz.val.cell? ⟨w.heap.size, 0, none⟩ = some (.int .u8 (pf.toNat : Int)) := fun zz => Later.cell (by rw [blk_cell xx]; rfl) (blk_lt xx) zz
                    have tp1 : ∀ zz : Later WE.heap.size WE, zz.val.cell? ⟨w.heap.size, 1, none⟩ = some (.int .u64 (ph.toNat : Int)) := fun zz => Later.cell (by rw [blk_cell xx]; rfl) (blk_lt xx) zz
                    have tp2 : ∀ zz : Later WE.heap.size WE, zz.val.cell? ⟨w.heap.size, 2, none⟩ = some (.int .u64 (pl.toNat : Int)) := fun zz => Later.cell (by rw [blk_cell xx]; rfl) (blk_lt xx) zz
                    have tp3 : ∀ zz : Later WE.heap.size WE, zz.val.cell? ⟨w.heap.size, 3, none⟩ = some (.int .i64 pn) := fun zz => Later.cell (by rw [blk_cell xx]; rfl) (blk_lt xx) zz
                    clear xx
                    have xx := (HXK.out _ HR.out).2.2.1
                    have ta0 : ∀ zz : Later WE.heap.size WE, zz.val.cell? ⟨w.heap.size + 1 + 1, 0, none⟩ = some (.int .u8 (af.toNat : Int)) := fun zz => Later.cell (by rw [blk_cell xx]; rfl) (blk_lt xx) zz
                    have ta1 : ∀ zz : Later WE.heap.size WE, zz.val.cell? ⟨w.heap.size + 1 + 1, 1, none⟩ = some (.int .u64 (ah.toNat : Int)) := fun zz => Later.cell (by rw [blk_cell xx]; rfl) (blk_lt xx) zz
                    have ta2 : ∀ zz : Later WE.heap.size WE, zz.val.cell? ⟨w.heap.size + 1 + 1, 2, none⟩ = some (.int .u64 (al.toNat : Int)) := fun zz => Later.cell (by rw [blk_cell xx]; rfl) (blk_lt xx) zz
                    clear xx
                    have xx := (HXK.out _ HR.out).2.2.2.1
                    have tb0 : ∀ zz : Later WE.heap.size WE, zz.val.cell? ⟨w.heap.size + 1 + 1 + 1, 0, none⟩ = some (.int .u8 (bf.toNat : Int)) := fun zz => Later.cell (by rw [blk_cell xx]; rfl) (blk_lt xx) zz
                    have tb1 : ∀ zz : Later WE.heap.size WE, zz.val.cell? ⟨w.heap.size + 1 + 1 + 1, 1, none⟩ = some (.int .u64 (bh.toNat : Int)) := fun zz => Later.cell (by rw [blk_cell xx]; rfl) (blk_lt xx) zz
                    have tb2 : ∀ zz : Later WE.heap.size WE, zz.val.cell? ⟨w.heap.size + 1 + 1 + 1, 2, none⟩ = some (.int .u64 (bl.toNat : Int)) := fun zz => Later.cell (by rw [blk_cell xx]; rfl) (blk_lt xx) zz
                    clear xx
                    have tM := Lib.hid (fun (zz : Later WE.heap.size WE) => HMK.out _ (below_step HR.out zz.prop HR.out.size))
                    have xx := X30.out
                    have tX300 : ∀ zz : Later WE.heap.size WE, zz.val.cell? ⟨w30.heap.size, 0, none⟩ = some (.int .u8 (df.toNat : Int)) := fun zz => Later.cell (by rw [blk_cell xx]; rfl) (blk_lt xx) zz
                    have tX301 : ∀ zz : Later WE.heap.size WE, zz.val.cell? ⟨w30.heap.size, 1, none⟩ = some (.int .u64 (dh.toNat : Int)) := fun zz => Later.cell (by rw [blk_cell xx]; rfl) (blk_lt xx) zz
                    have tX302 : ∀ zz : Later WE.heap.size WE, zz.val.cell? ⟨w30.heap.size, 2, none⟩ = some (.int .u64 (dl.toNat : Int)) := fun zz => Later.cell (by rw [blk_cell xx]; rfl) (blk_lt xx) zz
                    clear xx
                    go_wp2_with fail
                    try rw [← hWE]
                    refine wp_region_later WE.heap.size (by kernel_rfl) (by kernel_rfl) ?_
                    repeat (go_big_quiet_step (first
                      | (go_at_call 18; (with_reducible exact Later.calls (Nat.le_refl _) (HIL1.out _)))
                      | (go_at_call 23; (with_reducible exact Later.calls (Nat.le_refl _) (RA.out _)))
                      | (go_at_call 23; (with_reducible exact Later.calls (Nat.le_refl _) (RB.out _)))
                      | (go_at_call 24; (with_reducible exact Later.calls (Nat.le_refl _) (LDA.out _)))
                      | (go_at_call 24; (with_reducible exact Later.calls (Nat.le_refl _) (LBD.out _)))
                      | (go_at_call 5; (with_reducible exact Later.calls (Nat.le_refl _) (HAW.out _ (tM.out _))))))
                    refine wpQuiet_nil ?_
                    rintro wq ⟨zz, rfl⟩
                    have HRQ := Lib.hid (HWK.out _ (below_step HR.out zz.prop HR.out.size))
                    go_wp2_with fail
                    go_ret
                    exact ⟨rfl, HRQ.out⟩
                  · cases x2
                    · have HIL1 := Lib.hid (fun (W : World) => show Calls Tryd.prog 18 #[.string S, .string LX, .string LY] W (fun e w' => e = .returned (.bool false) ∧ Below W.heap.size W w') from HIL.out W)
                      go_wp2_with fail
                      refine (HP1.out _).mono ?_
                      rintro e w29 ⟨rfl, hb⟩
                      replace HR := Lib.hid (below_step HR.out hb HR.out.size)
                      clear hb
                      have X28 := Lib.hid (heap_alloc_new w29 (.cells #[.int .u8 0, .int .u64 0, .int .u64 0, .int .i64 0] 42 (0, 0)))
                      replace HR := Lib.hid (below_alloc1 HR.out HR.out.size (.cells #[.int .u8 0, .int .u64 0, .int .u64 0, .int .i64 0] 42 (0, 0)))
                      go_wp2_with fail
                      refine (HL1.out _).mono ?_
                      rintro e w30 ⟨rfl, hb⟩
                      replace HR := Lib.hid (below_step HR.out hb HR.out.size)
                      replace X28 := Lib.hid (blk_kept hb X28.out)
                      clear hb
                      replace X28 := Lib.hid (blk_alloc X28.out (.cells #[.int .u8 (df.toNat : Int), .int .u64 (dh.toNat : Int), .int .u64 (dl.toNat : Int)] 40 (0, 0)))
                      have X30 := Lib.hid (heap_alloc_new w30 (.cells #[.int .u8 (df.toNat : Int), .int .u64 (dh.toNat : Int), .int .u64 (dl.toNat : Int)] 40 (0, 0)))
                      replace HR := Lib.hid (below_alloc1 HR.out HR.out.size (.cells #[.int .u8 (df.toNat : Int), .int .u64 (dh.toNat : Int), .int .u64 (dl.toNat : Int)] 40 (0, 0)))
                      obtain ⟨WE, hWE⟩ : ∃ W, W = w30.alloc (.cells #[.int .u8 (df.toNat : Int), .int .u64 (dh.toNat : Int), .int .u64 (dl.toNat : Int)] 40 (0, 0)) := ⟨_, rfl⟩
                      rw [← hWE] at HR X28 X30
                      have xx := (HXK.out _ HR.out).1
                      have tp0 : ∀ zz : Later WE.heap.size WE, zz.val.cell? ⟨w.heap.size, 0, none⟩ = some (.int .u8 (pf.toNat : Int)) := fun zz => Later.cell (by rw [blk_cell xx]; rfl) (blk_lt xx) zz
                      have tp1 : ∀ zz : Later WE.heap.size WE, zz.val.cell? ⟨w.heap.size, 1, none⟩ = some (.int .u64 (ph.toNat : Int)) := fun zz => Later.cell (by rw [blk_cell xx]; rfl) (blk_lt xx) zz
                      have tp2 : ∀ zz : Later WE.heap.size WE, zz.val.cell? ⟨w.heap.size, 2, none⟩ = some (.int .u64 (pl.toNat : Int)) := fun zz => Later.cell (by rw [blk_cell xx]; rfl) (blk_lt xx) zz
                      have tp3 : ∀ zz : Later WE.heap.size WE, zz.val.cell? ⟨w.heap.size, 3, none⟩ = some (.int .i64 pn) := fun zz => Later.cell (by rw [blk_cell xx]; rfl) (blk_lt xx) zz
                      clear xx
                      have xx := (HXK.out _ HR.out).2.2.1
                      have ta0 : ∀ zz : Later WE.heap.size WE, zz.val.cell? ⟨w.heap.size + 1 + 1, 0, none⟩ = some (.int .u8 (af.toNat : Int)) := fun zz => Later.cell (by rw [blk_cell xx]; rfl) (blk_lt xx) zz
                      have ta1 : ∀ zz : Later WE.heap.size WE, zz.val.cell? ⟨w.heap.size + 1 + 1, 1, none⟩ = some (.int .u64 (ah.toNat : Int)) := fun zz => Later.cell (by rw [blk_cell xx]; rfl) (blk_lt xx) zz
                      have ta2 : ∀ zz : Later WE.heap.size WE, zz.val.cell? ⟨w.heap.size + 1 + 1, 2, none⟩ = some (.int .u64 (al.toNat : Int)) := fun zz => Later.cell (by rw [blk_cell xx]; rfl) (blk_lt xx) zz
                      clear xx
                      have xx := (HXK.out _ HR.out).2.2.2.1
                      have tb0 : ∀ zz : Later WE.heap.size WE, zz.val.cell? ⟨w.heap.size + 1 + 1 + 1, 0, none⟩ = some (.int .u8 (bf.toNat : Int)) := fun zz => Later.cell (by rw [blk_cell xx]; rfl) (blk_lt xx) zz
                      have tb1 : ∀ zz : Later WE.heap.size WE, zz.val.cell? ⟨w.heap.size + 1 + 1 + 1, 1, none⟩ = some (.int .u64 (bh.toNat : Int)) := fun zz => Later.cell (by rw [blk_cell xx]; rfl) (blk_lt xx) zz
                      have tb2 : ∀ zz : Later WE.heap.size WE, zz.val.cell? ⟨w.heap.size + 1 + 1 + 1, 2, none⟩ = some (.int .u64 (bl.toNat : Int)) := fun zz => Later.cell (by rw [blk_cell xx]; rfl) (blk_lt xx) zz
                      clear xx
                      have tM := Lib.hid (fun (zz : Later WE.heap.size WE) => HMK.out _ (below_step HR.out zz.prop HR.out.size))
                      have xx := X30.out
                      have tX300 : ∀ zz : Later WE.heap.size WE, zz.val.cell? ⟨w30.heap.size, 0, none⟩ = some (.int .u8 (df.toNat : Int)) := fun zz => Later.cell (by rw [blk_cell xx]; rfl) (blk_lt xx) zz
                      have tX301 : ∀ zz : Later WE.heap.size WE, zz.val.cell? ⟨w30.heap.size, 1, none⟩ = some (.int .u64 (dh.toNat : Int)) := fun zz => Later.cell (by rw [blk_cell xx]; rfl) (blk_lt xx) zz
                      have tX302 : ∀ zz : Later WE.heap.size WE, zz.val.cell? ⟨w30.heap.size, 2, none⟩ = some (.int .u64 (dl.toNat : Int)) := fun zz => Later.cell (by rw [blk_cell xx]; rfl) (blk_lt xx) zz
                      clear xx
                      go_wp2_with fail
                      try rw [← hWE]
                      refine wp_region_later WE.heap.size (by kernel_rfl) (by kernel_rfl) ?_
                      repeat (go_big_quiet_step (first
                        | (go_at_call 18; (with_reducible exact Later.calls (Nat.le_refl _) (HIL1.out _)))
                        | (go_at_call 23; (with_reducible exact Later.calls (Nat.le_refl _) (RA.out _)))
                        | (go_at_call 23; (with_reducible exact Later.calls (Nat.le_refl _) (RB.out _)))
                        | (go_at_call 24; (with_reducible exact Later.calls (Nat.le_refl _) (LDA.out _)))
                        | (go_at_call 24; (with_reducible exact Later.calls (Nat.le_refl _) (LBD.out _)))
                        | (go_at_call 5; (with_reducible exact Later.calls (Nat.le_refl _) (HAW.out _ (tM.out _))))))
                      refine wpQuiet_nil ?_
                      rintro wq ⟨zz, rfl⟩
                      have HRQ := Lib.hid (HWK.out _ (below_step HR.out zz.prop HR.out.size))
                      go_wp2_with fail
                      go_ret
                      exact ⟨rfl, HRQ.out⟩
                    · cases x3
                      · cases x4
                        · have HIL1 := Lib.hid (fun (W : World) => show Calls Tryd.prog 18 #[.string S, .string LX, .string LY] W (fun e w' => e = .returned (.bool true) ∧ Below W.heap.size W w') from HIL.out W)
                          go_wp2_with fail
                          refine (HP1.out _).mono ?_
                          rintro e w29 ⟨rfl, hb⟩
                          replace HR := Lib.hid (below_step HR.out hb HR.out.size)
                          clear hb
                          have X28 := Lib.hid (heap_alloc_new w29 (.cells #[.int .u8 0, .int .u64 0, .int .u64 0, .int .i64 0] 42 (0, 0)))
                          replace HR := Lib.hid (below_alloc1 HR.out HR.out.size (.cells #[.int .u8 0, .int .u64 0, .int .u64 0, .int .i64 0] 42 (0, 0)))
                          go_wp2_with fail
                          refine (HL1.out _).mono ?_
                          rintro e w30 ⟨rfl, hb⟩
                          replace HR := Lib.hid (below_step HR.out hb HR.out.size)
                          replace X28 := Lib.hid (blk_kept hb X28.out)
                          clear hb
                          replace X28 := Lib.hid (blk_alloc X28.out (.cells #[.int .u8 (df.toNat : Int), .int .u64 (dh.toNat : Int), .int .u64 (dl.toNat : Int)] 40 (0, 0)))
                          have X30 := Lib.hid (heap_alloc_new w30 (.cells #[.int .u8 (df.toNat : Int), .int .u64 (dh.toNat : Int), .int .u64 (dl.toNat : Int)] 40 (0, 0)))
                          replace HR := Lib.hid (below_alloc1 HR.out HR.out.size (.cells #[.int .u8 (df.toNat : Int), .int .u64 (dh.toNat : Int), .int .u64 (dl.toNat : Int)] 40 (0, 0)))
                          obtain ⟨WE, hWE⟩ : ∃ W, W = w30.alloc (.cells #[.int .u8 (df.toNat : Int), .int .u64 (dh.toNat : Int), .int .u64 (dl.toNat : Int)] 40 (0, 0)) := ⟨_, rfl⟩
                          rw [← hWE] at HR X28 X30
                          have xx := (HXK.out _ HR.out).1
                          have tp0 : ∀ zz : Later WE.heap.size WE, zz.val.cell? ⟨w.heap.size, 0, none⟩ = some (.int .u8 (pf.toNat : Int)) := fun zz => Later.cell (by rw [blk_cell xx]; rfl) (blk_lt xx) zz
                          have tp1 : ∀ zz : Later WE.heap.size WE, zz.val.cell? ⟨w.heap.size, 1, none⟩ = some (.int .u64 (ph.toNat : Int)) := fun zz => Later.cell (by rw [blk_cell xx]; rfl) (blk_lt xx) zz
                          have tp2 : ∀ zz : Later WE.heap.size WE, zz.val.cell? ⟨w.heap.size, 2, none⟩ = some (.int .u64 (pl.toNat : Int)) := fun zz => Later.cell (by rw [blk_cell xx]; rfl) (blk_lt xx) zz
                          have tp3 : ∀ zz : Later WE.heap.size WE, zz.val.cell? ⟨w.heap.size, 3, none⟩ = some (.int .i64 pn) := fun zz => Later.cell (by rw [blk_cell xx]; rfl) (blk_lt xx) zz
                          clear xx
                          have xx := (HXK.out _ HR.out).2.2.1
                          have ta0 : ∀ zz : Later WE.heap.size WE, zz.val.cell? ⟨w.heap.size + 1 + 1, 0, none⟩ = some (.int .u8 (af.toNat : Int)) := fun zz => Later.cell (by rw [blk_cell xx]; rfl) (blk_lt xx) zz
                          have ta1 : ∀ zz : Later WE.heap.size WE, zz.val.cell? ⟨w.heap.size + 1 + 1, 1, none⟩ = some (.int .u64 (ah.toNat : Int)) := fun zz => Later.cell (by rw [blk_cell xx]; rfl) (blk_lt xx) zz
                          have ta2 : ∀ zz : Later WE.heap.size WE, zz.val.cell? ⟨w.heap.size + 1 + 1, 2, none⟩ = some (.int .u64 (al.toNat : Int)) := fun zz => Later.cell (by rw [blk_cell xx]; rfl) (blk_lt xx) zz
                          clear xx
                          have xx := (HXK.out _ HR.out).2.2.2.1
                          have tb0 : ∀ zz : Later WE.heap.size WE, zz.val.cell? ⟨w.heap.size + 1 + 1 + 1, 0, none⟩ = some (.int .u8 (bf.toNat : Int)) := fun zz => Later.cell (by rw [blk_cell xx]; rfl) (blk_lt xx) zz
                          have tb1 : ∀ zz : Later WE.heap.size WE, zz.val.cell? ⟨w.heap.size + 1 + 1 + 1, 1, none⟩ = some (.int .u64 (bh.toNat : Int)) := fun zz => Later.cell (by rw [blk_cell xx]; rfl) (blk_lt xx) zz
                          have tb2 : ∀ zz : Later WE.heap.size WE, zz.val.cell? ⟨w.heap.size + 1 + 1 + 1, 2, none⟩ = some (.int .u64 (bl.toNat : Int)) := fun zz => Later.cell (by rw [blk_cell xx]; rfl) (blk_lt xx) zz
                          clear xx
                          have tM := Lib.hid (fun (zz : Later WE.heap.size WE) => HMK.out _ (below_step HR.out zz.prop HR.out.size))
                          have xx := X30.out
                          have tX300 : ∀ zz : Later WE.heap.size WE, zz.val.cell? ⟨w30.heap.size, 0, none⟩ = some (.int .u8 (df.toNat : Int)) := fun zz => Later.cell (by rw [blk_cell xx]; rfl) (blk_lt xx) zz
                          have tX301 : ∀ zz : Later WE.heap.size WE, zz.val.cell? ⟨w30.heap.size, 1, none⟩ = some (.int .u64 (dh.toNat : Int)) := fun zz => Later.cell (by rw [blk_cell xx]; rfl) (blk_lt xx) zz
                          have tX302 : ∀ zz : Later WE.heap.size WE, zz.val.cell? ⟨w30.heap.size, 2, none⟩ = some (.int .u64 (dl.toNat : Int)) := fun zz => Later.cell (by rw [blk_cell xx]; rfl) (blk_lt xx) zz
                          clear xx
                          go_wp2_with fail
                          try rw [← hWE]
                          refine wp_region_later WE.heap.size (by kernel_rfl) (by kernel_rfl) ?_
                          repeat (go_big_quiet_step (first
                            | (go_at_call 18; (with_reducible exact Later.calls (Nat.le_refl _) (HIL1.out _)))
                            | (go_at_call 23; (with_reducible exact Later.calls (Nat.le_refl _) (RA.out _)))
                            | (go_at_call 23; (with_reducible exact Later.calls (Nat.le_refl _) (RB.out _)))
                            | (go_at_call 24; (with_reducible exact Later.calls (Nat.le_refl _) (LDA.out _)))
                            | (go_at_call 24; (with_reducible exact Later.calls (Nat.le_refl _) (LBD.out _)))
                            | (go_at_call 5; (with_reducible exact Later.calls (Nat.le_refl _) (HAW.out _ (tM.out _))))))
                          refine wpQuiet_nil ?_
                          rintro wq ⟨zz, rfl⟩
                          have HRQ := Lib.hid (HWK.out _ (below_step HR.out zz.prop HR.out.size))
                          go_wp2_with fail
                          go_ret
                          exact ⟨rfl, HRQ.out⟩
                        · have HIL1 := Lib.hid (fun (W : World) => show Calls Tryd.prog 18 #[.string S, .string LX, .string LY] W (fun e w' => e = .returned (.bool false) ∧ Below W.heap.size W w') from HIL.out W)
                          go_wp2_with fail
                          refine (HP1.out _).mono ?_
                          rintro e w29 ⟨rfl, hb⟩
                          replace HR := Lib.hid (below_step HR.out hb HR.out.size)
                          clear hb
                          have X28 := Lib.hid (heap_alloc_new w29 (.cells #[.int .u8 0, .int .u64 0, .int .u64 0, .int .i64 0] 42 (0, 0)))
                          replace HR := Lib.hid (below_alloc1 HR.out HR.out.size (.cells #[.int .u8 0, .int .u64 0, .int .u64 0, .int .i64 0] 42 (0, 0)))
                          go_wp2_with fail
                          refine (HL1.out _).mono ?_
                          rintro e w30 ⟨rfl, hb⟩
                          replace HR := Lib.hid (below_step HR.out hb HR.out.size)
                          replace X28 := Lib.hid (blk_kept hb X28.out)
                          clear hb
                          replace X28 := Lib.hid (blk_alloc X28.out (.cells #[.int .u8 (df.toNat : Int), .int .u64 (dh.toNat : Int), .int .u64 (dl.toNat : Int)] 40 (0, 0)))
                          have X30 := Lib.hid (heap_alloc_new w30 (.cells #[.int .u8 (df.toNat : Int), .int .u64 (dh.toNat : Int), .int .u64 (dl.toNat : Int)] 40 (0, 0)))
                          replace HR := Lib.hid (below_alloc1 HR.out HR.out.size (.cells #[.int .u8 (df.toNat : Int), .int .u64 (dh.toNat : Int), .int .u64 (dl.toNat : Int)] 40 (0, 0)))
                          obtain ⟨WE, hWE⟩ : ∃ W, W = w30.alloc (.cells #[.int .u8 (df.toNat : Int), .int .u64 (dh.toNat : Int), .int .u64 (dl.toNat : Int)] 40 (0, 0)) := ⟨_, rfl⟩
                          rw [← hWE] at HR X28 X30
                          have xx := (HXK.out _ HR.out).1
                          have tp0 : ∀ zz : Later WE.heap.size WE, zz.val.cell? ⟨w.heap.size, 0, none⟩ = some (.int .u8 (pf.toNat : Int)) := fun zz => Later.cell (by rw [blk_cell xx]; rfl) (blk_lt xx) zz
                          have tp1 : ∀ zz : Later WE.heap.size WE, zz.val.cell? ⟨w.heap.size, 1, none⟩ = some (.int .u64 (ph.toNat : Int)) := fun zz => Later.cell (by rw [blk_cell xx]; rfl) (blk_lt xx) zz
                          have tp2 : ∀ zz : Later WE.heap.size WE, zz.val.cell? ⟨w.heap.size, 2, none⟩ = some (.int .u64 (pl.toNat : Int)) := fun zz => Later.cell (by rw [blk_cell xx]; rfl) (blk_lt xx) zz
                          have tp3 : ∀ zz : Later WE.heap.size WE, zz.val.cell? ⟨w.heap.size, 3, none⟩ = some (.int .i64 pn) := fun zz => Later.cell (by rw [blk_cell xx]; rfl) (blk_lt xx) zz
                          clear xx
                          have xx := (HXK.out _ HR.out).2.2.1
                          have ta0 : ∀ zz : Later WE.heap.size WE, zz.val.cell? ⟨w.heap.size + 1 + 1, 0, none⟩ = some (.int .u8 (af.toNat : Int)) := fun zz => Later.cell (by rw [blk_cell xx]; rfl) (blk_lt xx) zz
                          have ta1 : ∀ zz : Later WE.heap.size WE, zz.val.cell? ⟨w.heap.size + 1 + 1, 1, none⟩ = some (.int .u64 (ah.toNat : Int)) := fun zz => Later.cell (by rw [blk_cell xx]; rfl) (blk_lt xx) zz
                          have ta2 : ∀ zz : Later WE.heap.size WE, zz.val.cell? ⟨w.heap.size + 1 + 1, 2, none⟩ = some (.int .u64 (al.toNat : Int)) := fun zz => Later.cell (by rw [blk_cell xx]; rfl) (blk_lt xx) zz
                          clear xx
                          have xx := (HXK.out _ HR.out).2.2.2.1
                          have tb0 : ∀ zz : Later WE.heap.size WE, zz.val.cell? ⟨w.heap.size + 1 + 1 + 1, 0, none⟩ = some (.int .u8 (bf.toNat : Int)) := fun zz => Later.cell (by rw [blk_cell xx]; rfl) (blk_lt xx) zz
                          have tb1 : ∀ zz : Later WE.heap.size WE, zz.val.cell? ⟨w.heap.size + 1 + 1 + 1, 1, none⟩ = some (.int .u64 (bh.toNat : Int)) := fun zz => Later.cell (by rw [blk_cell xx]; rfl) (blk_lt xx) zz
                          have tb2 : ∀ zz : Later WE.heap.size WE, zz.val.cell? ⟨w.heap.size + 1 + 1 + 1, 2, none⟩ = some (.int .u64 (bl.toNat : Int)) := fun zz => Later.cell (by rw [blk_cell xx]; rfl) (blk_lt xx) zz
                          clear xx
                          have tM := Lib.hid (fun (zz : Later WE.heap.size WE) => HMK.out _ (below_step HR.out zz.prop HR.out.size))
                          have xx := X30.out
                          have tX300 : ∀ zz : Later WE.heap.size WE, zz.val.cell? ⟨w30.heap.size, 0, none⟩ = some (.int .u8 (df.toNat : Int)) := fun zz => Later.cell (by rw [blk_cell xx]; rfl) (blk_lt xx) zz
                          have tX301 : ∀ zz : Later WE.heap.size WE, zz.val.cell? ⟨w30.heap.size, 1, none⟩ = some (.int .u64 (dh.toNat : Int)) := fun zz => Later.cell (by rw [blk_cell xx]; rfl) (blk_lt xx) zz
                          have tX302 : ∀ zz : Later WE.heap.size WE, zz.val.cell? ⟨w30.heap.size, 2, none⟩ = some (.int .u64 (dl.toNat : Int)) := fun zz => Later.cell (by rw [blk_cell xx]; rfl) (blk_lt xx) zz
                          clear xx
                          go_wp2_with fail
                          try rw [← hWE]
                          refine wp_region_later WE.heap.size (by kernel_rfl) (by kernel_rfl) ?_
                          repeat (go_big_quiet_step (first
                            | (go_at_call 18; (with_reducible exact Later.calls (Nat.le_refl _) (HIL1.out _)))
                            | (go_at_call 23; (with_reducible exact Later.calls (Nat.le_refl _) (RA.out _)))
                            | (go_at_call 23; (with_reducible exact Later.calls (Nat.le_refl _) (RB.out _)))
                            | (go_at_call 24; (with_reducible exact Later.calls (Nat.le_refl _) (LDA.out _)))
                            | (go_at_call 24; (with_reducible exact Later.calls (Nat.le_refl _) (LBD.out _)))
                            | (go_at_call 5; (with_reducible exact Later.calls (Nat.le_refl _) (HAW.out _ (tM.out _))))))
                          refine wpQuiet_nil ?_
                          rintro wq ⟨zz, rfl⟩
                          have HRQ := Lib.hid (HWK.out _ (below_step HR.out zz.prop HR.out.size))
                          go_wp2_with fail
                          go_ret
                          exact ⟨rfl, HRQ.out⟩
                      · have HIL1 := Lib.hid (fun (W : World) => show Calls Tryd.prog 18 #[.string S, .string LX, .string LY] W (fun e w' => e = .returned (.bool false) ∧ Below W.heap.size W w') from HIL.out W)
                        go_wp2_with fail
                        refine (HP1.out _).mono ?_
                        rintro e w29 ⟨rfl, hb⟩
                        replace HR := Lib.hid (below_step HR.out hb HR.out.size)
                        clear hb
                        have X28 := Lib.hid (heap_alloc_new w29 (.cells #[.int .u8 0, .int .u64 0, .int .u64 0, .int .i64 0] 42 (0, 0)))
                        replace HR := Lib.hid (below_alloc1 HR.out HR.out.size (.cells #[.int .u8 0, .int .u64 0, .int .u64 0, .int .i64 0] 42 (0, 0)))
                        go_wp2_with fail
                        refine (HL1.out _).mono ?_
                        rintro e w30 ⟨rfl, hb⟩
                        replace HR := Lib.hid (below_step HR.out hb HR.out.size)
                        replace X28 := Lib.hid (blk_kept hb X28.out)
                        clear hb
                        replace X28 := Lib.hid (blk_alloc X28.out (.cells #[.int .u8 (df.toNat : Int), .int .u64 (dh.toNat : Int), .int .u64 (dl.toNat : Int)] 40 (0, 0)))
                        have X30 := Lib.hid (heap_alloc_new w30 (.cells #[.int .u8 (df.toNat : Int), .int .u64 (dh.toNat : Int), .int .u64 (dl.toNat : Int)] 40 (0, 0)))
                        replace HR := Lib.hid (below_alloc1 HR.out HR.out.size (.cells #[.int .u8 (df.toNat : Int), .int .u64 (dh.toNat : Int), .int .u64 (dl.toNat : Int)] 40 (0, 0)))
                        obtain ⟨WE, hWE⟩ : ∃ W, W = w30.alloc (.cells #[.int .u8 (df.toNat : Int), .int .u64 (dh.toNat : Int), .int .u64 (dl.toNat : Int)] 40 (0, 0)) := ⟨_, rfl⟩
                        rw [← hWE] at HR X28 X30
                        have xx := (HXK.out _ HR.out).1
                        have tp0 : ∀ zz : Later WE.heap.size WE, zz.val.cell? ⟨w.heap.size, 0, none⟩ = some (.int .u8 (pf.toNat : Int)) := fun zz => Later.cell (by rw [blk_cell xx]; rfl) (blk_lt xx) zz
                        have tp1 : ∀ zz : Later WE.heap.size WE, zz.val.cell? ⟨w.heap.size, 1, none⟩ = some (.int .u64 (ph.toNat : Int)) := fun zz => Later.cell (by rw [blk_cell xx]; rfl) (blk_lt xx) zz
                        have tp2 : ∀ zz : Later WE.heap.size WE, zz.val.cell? ⟨w.heap.size, 2, none⟩ = some (.int .u64 (pl.toNat : Int)) := fun zz => Later.cell (by rw [blk_cell xx]; rfl) (blk_lt xx) zz
                        have tp3 : ∀ zz : Later WE.heap.size WE, zz.val.cell? ⟨w.heap.size, 3, none⟩ = some (.int .i64 pn) := fun zz => Later.cell (by rw [blk_cell xx]; rfl) (blk_lt xx) zz
                        clear xx
                        have xx := (HXK.out _ HR.out).2.2.1
                        have ta0 : ∀ zz : Later WE.heap.size WE, zz.val.cell? ⟨w.heap.size + 1 + 1, 0, none⟩ = some (.int .u8 (af.toNat : Int)) := fun zz => Later.cell (by rw [blk_cell xx]; rfl) (blk_lt xx) zz
                        have ta1 : ∀ zz : Later WE.heap.size WE, zz.val.cell? ⟨w.heap.size + 1 + 1, 1, none⟩ = some (.int .u64 (ah.toNat : Int)) := fun zz => Later.cell (by rw [blk_cell xx]; rfl) (blk_lt xx) zz
                        have ta2 : ∀ zz : Later WE.heap.size WE, zz.val.cell? ⟨w.heap.size + 1 + 1, 2, none⟩ = some (.int .u64 (al.toNat : Int)) := fun zz => Later.cell (by rw [blk_cell xx]; rfl) (blk_lt xx) zz
                        clear xx
                        have xx := (HXK.out _ HR.out).2.2.2.1
                        have tb0 : ∀ zz : Later WE.heap.size WE, zz.val.cell? ⟨w.heap.size + 1 + 1 + 1, 0, none⟩ = some (.int .u8 (bf.toNat : Int)) := fun zz => Later.cell (by rw [blk_cell xx]; rfl) (blk_lt xx) zz
                        have tb1 : ∀ zz : Later WE.heap.size WE, zz.val.cell? ⟨w.heap.size + 1 + 1 + 1, 1, none⟩ = some (.int .u64 (bh.toNat : Int)) := fun zz => Later.cell (by rw [blk_cell xx]; rfl) (blk_lt xx) zz
                        have tb2 : ∀ zz : Later WE.heap.size WE, zz.val.cell? ⟨w.heap.size + 1 + 1 + 1, 2, none⟩ = some (.int .u64 (bl.toNat : Int)) := fun zz => Later.cell (by rw [blk_cell xx]; rfl) (blk_lt xx) zz
                        clear xx
                        have tM := Lib.hid (fun (zz : Later WE.heap.size WE) => HMK.out _ (below_step HR.out zz.prop HR.out.size))
                        have xx := X30.out
                        have tX300 : ∀ zz : Later WE.heap.size WE, zz.val.cell? ⟨w30.heap.size, 0, none⟩ = some (.int .u8 (df.toNat : Int)) := fun zz => Later.cell (by rw [blk_cell xx]; rfl) (blk_lt xx) zz
                        have tX301 : ∀ zz : Later WE.heap.size WE, zz.val.cell? ⟨w30.heap.size, 1, none⟩ = some (.int .u64 (dh.toNat : Int)) := fun zz => Later.cell (by rw [blk_cell xx]; rfl) (blk_lt xx) zz
                        have tX302 : ∀ zz : Later WE.heap.size WE, zz.val.cell? ⟨w30.heap.size, 2, none⟩ = some (.int .u64 (dl.toNat : Int)) := fun zz => Later.cell (by rw [blk_cell xx]; rfl) (blk_lt xx) zz
                        clear xx
                        go_wp2_with fail
                        try rw [← hWE]
                        refine wp_region_later WE.heap.size (by kernel_rfl) (by kernel_rfl) ?_
                        repeat (go_big_quiet_step (first
                          | (go_at_call 18; (with_reducible exact Later.calls (Nat.le_refl _) (HIL1.out _)))
                          | (go_at_call 23; (with_reducible exact Later.calls (Nat.le_refl _) (RA.out _)))
                          | (go_at_call 23; (with_reducible exact Later.calls (Nat.le_refl _) (RB.out _)))
                          | (go_at_call 24; (with_reducible exact Later.calls (Nat.le_refl _) (LDA.out _)))
                          | (go_at_call 24; (with_reducible exact Later.calls (Nat.le_refl _) (LBD.out _)))
                          | (go_at_call 5; (with_reducible exact Later.calls (Nat.le_refl _) (HAW.out _ (tM.out _))))))
                        refine wpQuiet_nil ?_
                        rintro wq ⟨zz, rfl⟩
                        have HRQ := Lib.hid (HWK.out _ (below_step HR.out zz.prop HR.out.size))
                        go_wp2_with fail
                        go_ret
                        exact ⟨rfl, HRQ.out⟩
theorem ranges_law_i (p q : Pf) (a b c : Ad) (n m' : Int) (s : ByteArray) (m : Int) (w : World) (hn : ∃ x : UInt64, n = (x.toNat : Int)) (hm' : ∃ x : UInt64, m' = (x.toNat : Int)) (hm : MaxAt m w) :
    Calls Tryd.prog 4 #[Pfx.encP p, Pfx.encP q, encA a, encA b, encA c, .int .u64 n, .int .u64 m', .string s] w fun e w' => e = .returned (.bool true) ∧ Below w.heap.size w w' := by
  obtain ⟨n, rfl⟩ := hn
  obtain ⟨m', rfl⟩ := hm'
  exact ranges_law p q a b c n m' s m w hm
end Go.Proofs.Tryd.Rows
