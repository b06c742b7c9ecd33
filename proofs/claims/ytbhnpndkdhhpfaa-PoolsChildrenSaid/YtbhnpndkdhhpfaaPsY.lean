/- PoolsChildren: the walk. -/
import Derived.Test.YtbhnpndkdhhpfaaPsU
import Derived.Test.YtbhnpndkdhhpfaaPxE2
set_option linter.unusedVariables false
set_option linter.unusedSimpArgs false
namespace Go.Proofs.Try.Pfx
open Go.RowKit Go.Cph Go.Cph.Px

theorem run_neqP (p q : Pf) (w : World) : (binOp .neq 27 (encP p) (encP q)).run Try.prog w = .ok (.bool (!(p == q))) w := by
  have hb : (p == q) = ((p.1.1.toNat : Int) == q.1.1.toNat && ((p.1.2.1.toNat : Int) == q.1.2.1.toNat && ((p.1.2.2.toNat : Int) == q.1.2.2.toNat && (p.2 == q.2)))) := by
    rw [Bool.eq_iff_iff, pf_eq]
    simp only [Bool.and_eq_true, beq_iff_eq]
  rw [hb]
  cases b0 : ((p.1.1.toNat : Int) == q.1.1.toNat) <;> cases b1 : ((p.1.2.1.toNat : Int) == q.1.2.1.toNat) <;> cases b2 : ((p.1.2.2.toNat : Int) == q.1.2.2.toNat) <;> cases b3 : (p.2 == q.2) <;> go_simp
/-- What lies in memory. -/
structure En2 (w : World) (m c : List Pf) (p : Pf) (mv cv : Value) (W : World) : Prop where
  b3 : W.heap[w.heap.size]? = some (.cells #[.int .u8 (p.1.1.toNat : Int), .int .u64 (p.1.2.1.toNat : Int), .int .u64 (p.1.2.2.toNat : Int), .int .i64 p.2] 27 (0, 0))
  ml : PfsAt W mv m
  cl : PfsAt W cv c
  bel : Below w.heap.size w W
theorem En2.kept {w : World} {m c : List Pf} {p : Pf} {mv cv : Value} {W W' : World} (h : En2 w m c p mv cv W) (hb : Below W.heap.size W W') : En2 w m c p mv cv W' :=
  ⟨blk_kept hb h.b3, h.ml.kept hb, h.cl.kept hb, below_step h.bel hb h.bel.size⟩

set_option maxRecDepth 100000 in
set_option maxHeartbeats 8000000 in
theorem children_small (ao : Option Addr) (cap : Nat) (l : List Pf) (p : Pf) (w : World) (h : PfsAt w (.slice ao l.length cap) l) (hn : l.length ≤ 60) :
    Calls Try.prog 5 #[.slice ao l.length cap, encP p] w (AwPost w) := by
  have HV := Lib.hid h
  obtain ⟨m, hm⟩ : ∃ m, m = madeL l := ⟨_, rfl⟩
  have hml : m.length ≤ l.length := by rw [hm]; exact (madeL_is l).2.2
  have HR := Lib.hid (show Rises m by rw [hm]; exact (madeL_is l).1)
  have HM := Lib.hid hm
  obtain ⟨c, hc⟩ : ∃ c, c = childrenL m p := ⟨_, rfl⟩
  have hcl : c.length ≤ m.length := by rw [hc]; exact (ch_sub m p).length_le
  have HC := Lib.hid hc
  clear h hm hc
  have hb0 : Below w.heap.size w (w.alloc (.cells #[.int .u8 (p.1.1.toNat : Int), .int .u64 (p.1.2.1.toNat : Int), .int .u64 (p.1.2.2.toNat : Int), .int .i64 p.2] 27)) := (Below.refl _ _).alloc (Nat.le_refl _) _
  have HG3 := Lib.hid (heap_alloc_new w (.cells #[.int .u8 (p.1.1.toNat : Int), .int .u64 (p.1.2.1.toNat : Int), .int .u64 (p.1.2.2.toNat : Int), .int .i64 p.2] 27))
  have HB0 := Lib.hid hb0
  have HNG := Lib.hid (show decide (60 < l.length) = false by simp; omega)
  have HGR := Lib.hid (great_any ao l.length cap)
  clear hb0
  go_enter Try.func5, Try.ntmps5
  go_wp2_with fail
  generalize w.alloc (.cells #[.int .u8 (p.1.1.toNat : Int), .int .u64 (p.1.2.1.toNat : Int), .int .u64 (p.1.2.2.toNat : Int), .int .i64 p.2] 27) = w0 at *
  refine (HGR.out _ (by omega)).mono ?_
  rintro e w0' ⟨rfl, rfl⟩
  rw [HNG.out]
  go_wp2_with fail
  refine (made_any _ l _ (HV.out.kept HB0.out) hn).mono ?_
  rintro e w1 ⟨mv, rfl, hmv, hb⟩
  rw [← HM.out] at hmv
  obtain ⟨mo, mcap, hmo⟩ := elems_slice hmv
  subst hmo
  have HMV := Lib.hid hmv
  have HB1 := Lib.hid (below_step HB0.out hb HB0.out.size)
  have H3 := Lib.hid (blk_kept hb HG3.out)
  have p0 : w1.cell? ⟨w.heap.size, 0, none⟩ = some (.int .u8 (p.1.1.toNat : Int)) := by rw [blk_cell H3.out]; rfl
  have p1 : w1.cell? ⟨w.heap.size, 1, none⟩ = some (.int .u64 (p.1.2.1.toNat : Int)) := by rw [blk_cell H3.out]; rfl
  have p2 : w1.cell? ⟨w.heap.size, 2, none⟩ = some (.int .u64 (p.1.2.2.toNat : Int)) := by rw [blk_cell H3.out]; rfl
  have p3 : w1.cell? ⟨w.heap.size, 3, none⟩ = some (.int .i64 p.2) := by rw [blk_cell H3.out]; rfl
  clear hb hmv
  go_wp2_with fail
  refine (children _ m p _ HMV.out (by omega)).mono ?_
  rintro e w2 ⟨cv, rfl, ho, hb⟩
  rw [← HC.out] at ho
  obtain ⟨co, ccap, hco⟩ := owns_slice1 ho
  subst hco
  have HE0 := Lib.hid (show En2 w m c p (.slice mo m.length mcap) (.slice co c.length ccap) w2 from ⟨blk_kept hb H3.out, HMV.out.kept hb, Seg.of_owns ho, below_step HB1.out hb HB1.out.size⟩)
  clear hb ho p0 p1 p2 p3
  go_wp2_with fail
  go_loopw [7] (fun v7 wr => ∃ i : Nat, i ≤ c.length ∧ v7 = .int .i64 i ∧ En2 w m c p (.slice mo m.length mcap) (.slice co c.length ccap) wr) (fun v7 _ => c.length - (intOf v7).toNat)
  case atStart => exact ⟨0, Nat.zero_le _, rfl, HE0.out⟩
  case round =>
    obtain ⟨wo, rfl⟩ : ∃ wo : World, wo = wr := ⟨_, rfl⟩
    obtain ⟨i, hi, rfl, henv⟩ := hrel
    have HE := Lib.hid henv
    clear henv
    by_cases hlt : i < c.length
    · obtain ⟨b, off, cap', hve, hcs⟩ := pfs_cells HE.out.cl (by omega)
      cases hve
      have HCS := Lib.hid hcs
      obtain ⟨q, hq⟩ : ∃ q, q = c[i] := ⟨_, rfl⟩
      have hqc := hcs i hlt
      rw [← hq] at hqc
      have HQC := Lib.hid hqc
      have HQ := Lib.hid hq
      have HIN := Lib.hid (show q ∈ childrenL m p by rw [← HC.out, hq]; exact List.getElem_mem hlt)
      clear hcs hq
      have hpc := boxP (p := p) HE.out.b3
      have m0 : (0 : Int) ≤ (i : Int) := by omega
      have m1 : (i : Int) < (c.length : Int) := by omega
      have Lq0 : ∀ zz : Later wo.heap.size wo, zz.val.cell? ⟨b, off + i * 4, none⟩ = some (.int .u8 (q.1.1.toNat : Int)) := fun zz => Later.cell hqc.c0 (World.block_lt_of_cell? _ _ hqc.c0) zz
      have Lq1 : ∀ zz : Later wo.heap.size wo, zz.val.cell? ⟨b, off + i * 4 + 1, none⟩ = some (.int .u64 (q.1.2.1.toNat : Int)) := fun zz => Later.cell hqc.c1 (World.block_lt_of_cell? _ _ hqc.c1) zz
      have Lq2 : ∀ zz : Later wo.heap.size wo, zz.val.cell? ⟨b, off + i * 4 + 2, none⟩ = some (.int .u64 (q.1.2.2.toNat : Int)) := fun zz => Later.cell hqc.c2 (World.block_lt_of_cell? _ _ hqc.c2) zz
      have Lq3 : ∀ zz : Later wo.heap.size wo, zz.val.cell? ⟨b, off + i * 4 + 3, none⟩ = some (.int .i64 q.2) := fun zz => Later.cell hqc.c3 (World.block_lt_of_cell? _ _ hqc.c3) zz
      have Lp0 : ∀ zz : Later wo.heap.size wo, zz.val.cell? ⟨w.heap.size, 0, none⟩ = some (.int .u8 (p.1.1.toNat : Int)) := fun zz => Later.cell hpc.c0 (World.block_lt_of_cell? _ _ hpc.c0) zz
      have Lp1 : ∀ zz : Later wo.heap.size wo, zz.val.cell? ⟨w.heap.size, 1, none⟩ = some (.int .u64 (p.1.2.1.toNat : Int)) := fun zz => Later.cell hpc.c1 (World.block_lt_of_cell? _ _ hpc.c1) zz
      have Lp2 : ∀ zz : Later wo.heap.size wo, zz.val.cell? ⟨w.heap.size, 2, none⟩ = some (.int .u64 (p.1.2.2.toNat : Int)) := fun zz => Later.cell hpc.c2 (World.block_lt_of_cell? _ _ hpc.c2) zz
      have Lp3 : ∀ zz : Later wo.heap.size wo, zz.val.cell? ⟨w.heap.size, 3, none⟩ = some (.int .i64 p.2) := fun zz => Later.cell hpc.c3 (World.block_lt_of_cell? _ _ hpc.c3) zz
      clear hqc hpc
      have HWQ := Lib.hid (fun W => (show Calls Try.prog 23 #[encP q, encP p] W fun e w' => e = .returned (.bool true) ∧ Below W.heap.size W w' from by have := within_any q p W; rwa [ch_within HIN.out] at this))
      have hqp := fun w => (show (binOp .eql 27 (encP q) (encP p)).run Try.prog w = .ok (.bool false) w from by have := run_eqlP q p w; rwa [ch_ne HIN.out] at this)
      by_cases hi0 : i = 0
      · have z0 : decide (0 < i) = false := by simp [hi0]
        clear hi0
        go_wp2_with fail
        refine wp_region_later wo.heap.size (by kernel_rfl) (by kernel_rfl) ?_
        repeat (go_big_quiet_step ((go_at_call 23; exact Later.calls (Nat.le_refl _) (HWQ.out _))))
        refine wpQuiet_nil ?_
        rintro w7 ⟨xx, rfl⟩
        have HE7 := Lib.hid (HE.out.kept xx.prop)
        have HQ7 := Lib.hid (HQC.out.kept xx.prop)
        have HCS7 := Lib.hid (fun k hk => (HCS.out k hk).kept xx.prop)
        clear Lq0 Lq1 Lq2 Lq3 Lp0 Lp1 Lp2 Lp3 hqp
        generalize xx.val = w8 at *
        go_wp2_with fail
        go_loopw [8] (fun v8 wr => ∃ k : Nat, k ≤ i ∧ v8 = .int .i64 k ∧ Below w8.heap.size w8 wr) (fun v8 _ => i - (intOf v8).toNat)
        case atStart => exact ⟨0, Nat.zero_le _, rfl, Below.refl _ _⟩
        case round =>
          obtain ⟨k, hk, rfl, hbel⟩ := hrel
          have HBL := Lib.hid hbel
          clear hbel
          by_cases hkl : k < i
          · have hqc := HQ7.out.kept HBL.out
            have hsc := (HCS7.out k (by omega)).kept HBL.out
            obtain ⟨s, hs⟩ : ∃ r, r = c[k]'(by omega) := ⟨_, rfl⟩
            rw [← hs] at hsc
            have HMT := Lib.hid (fun W => (show Calls Try.prog 25 #[encP q, encP s] W fun e w' => e = .returned (.bool false) ∧ Below W.heap.size W w' from by
              have := meets_any q s W
              have hb : meets q s = false := by
                subst hs
                have hq := HQ.out
                subst hq
                have e := HC.out
                subst e
                exact ch_meets HR.out p _ _ hkl
              rwa [hb] at this))
            clear hs
            have n0 : (0 : Int) ≤ (k : Int) := by omega
            have n1 : (k : Int) < (c.length : Int) := by omega
            have n2 : (k : Int) < (i : Int) := by omega
            have Lq0 : ∀ zz : Later wr.heap.size wr, zz.val.cell? ⟨b, off + i * 4, none⟩ = some (.int .u8 (q.1.1.toNat : Int)) := fun zz => Later.cell hqc.c0 (World.block_lt_of_cell? _ _ hqc.c0) zz
            have Lq1 : ∀ zz : Later wr.heap.size wr, zz.val.cell? ⟨b, off + i * 4 + 1, none⟩ = some (.int .u64 (q.1.2.1.toNat : Int)) := fun zz => Later.cell hqc.c1 (World.block_lt_of_cell? _ _ hqc.c1) zz
            have Lq2 : ∀ zz : Later wr.heap.size wr, zz.val.cell? ⟨b, off + i * 4 + 2, none⟩ = some (.int .u64 (q.1.2.2.toNat : Int)) := fun zz => Later.cell hqc.c2 (World.block_lt_of_cell? _ _ hqc.c2) zz
            have Lq3 : ∀ zz : Later wr.heap.size wr, zz.val.cell? ⟨b, off + i * 4 + 3, none⟩ = some (.int .i64 q.2) := fun zz => Later.cell hqc.c3 (World.block_lt_of_cell? _ _ hqc.c3) zz
            have Ls0 : ∀ zz : Later wr.heap.size wr, zz.val.cell? ⟨b, off + k * 4, none⟩ = some (.int .u8 (s.1.1.toNat : Int)) := fun zz => Later.cell hsc.c0 (World.block_lt_of_cell? _ _ hsc.c0) zz
            have Ls1 : ∀ zz : Later wr.heap.size wr, zz.val.cell? ⟨b, off + k * 4 + 1, none⟩ = some (.int .u64 (s.1.2.1.toNat : Int)) := fun zz => Later.cell hsc.c1 (World.block_lt_of_cell? _ _ hsc.c1) zz
            have Ls2 : ∀ zz : Later wr.heap.size wr, zz.val.cell? ⟨b, off + k * 4 + 2, none⟩ = some (.int .u64 (s.1.2.2.toNat : Int)) := fun zz => Later.cell hsc.c2 (World.block_lt_of_cell? _ _ hsc.c2) zz
            have Ls3 : ∀ zz : Later wr.heap.size wr, zz.val.cell? ⟨b, off + k * 4 + 3, none⟩ = some (.int .i64 s.2) := fun zz => Later.cell hsc.c3 (World.block_lt_of_cell? _ _ hsc.c3) zz
            clear hqc hsc
            go_wp2_with fail
            refine wp_region_later wr.heap.size (by kernel_rfl) (by kernel_rfl) ?_
            repeat (go_big_quiet_step ((go_at_call 25; exact Later.calls (Nat.le_refl _) (HMT.out _))))
            refine wpQuiet_nil ?_
            rintro w9 ⟨yy, rfl⟩
            have HB9 := Lib.hid (below_step HBL.out yy.prop HBL.out.size)
            clear Lq0 Lq1 Lq2 Lq3 Ls0 Ls1 Ls2 Ls3
            go_wp2_with fail
            go_roundw
            case rel => exact ⟨k + 1, hkl, by go_num, HB9.out⟩
            case measure => simp [intOf]; omega
          · obtain rfl : k = i := by omega
            have HE9 := Lib.hid (HE7.out.kept HBL.out)
            go_wp2_with fail
            go_roundw
            case rel => exact ⟨k + 1, hlt, by go_num, HE9.out⟩
            case measure => simp [intOf]; omega
      · have z0 : decide (0 < i) = true := by simp; omega
        have z1 : (0 : Int) < (i : Int) := by omega
        have z2 : (0 : Int) ≤ (i : Int) - 1 := by omega
        have z3 : ((i : Int) - 1).toNat = i - 1 := by omega
        have z4 : (i : Int) - 1 < (c.length : Int) := by omega
        have hrc := HCS.out (i - 1) (by omega)
        obtain ⟨r, hr⟩ : ∃ r, r = c[i - 1] := ⟨_, rfl⟩
        rw [← hr] at hrc
        have HBR := Lib.hid (fun W => (show Calls Try.prog 24 #[encP r, encP q] W fun e w' => e = .returned (.bool true) ∧ Below W.heap.size W w' from by
          have := before_any r q W
          have hb : before r q = true := by
            subst hr
            have hq := HQ.out
            subst hq
            have e := HC.out
            subst e
            exact ch_before HR.out p _ _ (by omega)
          rwa [hb] at this))
        clear hi0 hr
        have Lr0 : ∀ zz : Later wo.heap.size wo, zz.val.cell? ⟨b, off + (i - 1) * 4, none⟩ = some (.int .u8 (r.1.1.toNat : Int)) := fun zz => Later.cell hrc.c0 (World.block_lt_of_cell? _ _ hrc.c0) zz
        have Lr1 : ∀ zz : Later wo.heap.size wo, zz.val.cell? ⟨b, off + (i - 1) * 4 + 1, none⟩ = some (.int .u64 (r.1.2.1.toNat : Int)) := fun zz => Later.cell hrc.c1 (World.block_lt_of_cell? _ _ hrc.c1) zz
        have Lr2 : ∀ zz : Later wo.heap.size wo, zz.val.cell? ⟨b, off + (i - 1) * 4 + 2, none⟩ = some (.int .u64 (r.1.2.2.toNat : Int)) := fun zz => Later.cell hrc.c2 (World.block_lt_of_cell? _ _ hrc.c2) zz
        have Lr3 : ∀ zz : Later wo.heap.size wo, zz.val.cell? ⟨b, off + (i - 1) * 4 + 3, none⟩ = some (.int .i64 r.2) := fun zz => Later.cell hrc.c3 (World.block_lt_of_cell? _ _ hrc.c3) zz
        clear hrc
        go_wp2_with fail
        refine wp_region_later wo.heap.size (by kernel_rfl) (by kernel_rfl) ?_
        repeat (go_big_quiet_step ((first | (go_at_call 23; exact Later.calls (Nat.le_refl _) (HWQ.out _)) | (go_at_call 24; exact Later.calls (Nat.le_refl _) (HBR.out _)))))
        refine wpQuiet_nil ?_
        rintro w7 ⟨xx, rfl⟩
        have HE7 := Lib.hid (HE.out.kept xx.prop)
        have HQ7 := Lib.hid (HQC.out.kept xx.prop)
        have HCS7 := Lib.hid (fun k hk => (HCS.out k hk).kept xx.prop)
        clear Lq0 Lq1 Lq2 Lq3 Lp0 Lp1 Lp2 Lp3 Lr0 Lr1 Lr2 Lr3 hqp
        generalize xx.val = w8 at *
        go_wp2_with fail
        go_loopw [8] (fun v8 wr => ∃ k : Nat, k ≤ i ∧ v8 = .int .i64 k ∧ Below w8.heap.size w8 wr) (fun v8 _ => i - (intOf v8).toNat)
        case atStart => exact ⟨0, Nat.zero_le _, rfl, Below.refl _ _⟩
        case round =>
          obtain ⟨k, hk, rfl, hbel⟩ := hrel
          have HBL := Lib.hid hbel
          clear hbel
          by_cases hkl : k < i
          · have hqc := HQ7.out.kept HBL.out
            have hsc := (HCS7.out k (by omega)).kept HBL.out
            obtain ⟨s, hs⟩ : ∃ r, r = c[k]'(by omega) := ⟨_, rfl⟩
            rw [← hs] at hsc
            have HMT := Lib.hid (fun W => (show Calls Try.prog 25 #[encP q, encP s] W fun e w' => e = .returned (.bool false) ∧ Below W.heap.size W w' from by
              have := meets_any q s W
              have hb : meets q s = false := by
                subst hs
                have hq := HQ.out
                subst hq
                have e := HC.out
                subst e
                exact ch_meets HR.out p _ _ hkl
              rwa [hb] at this))
            clear hs
            have n0 : (0 : Int) ≤ (k : Int) := by omega
            have n1 : (k : Int) < (c.length : Int) := by omega
            have n2 : (k : Int) < (i : Int) := by omega
            have Lq0 : ∀ zz : Later wr.heap.size wr, zz.val.cell? ⟨b, off + i * 4, none⟩ = some (.int .u8 (q.1.1.toNat : Int)) := fun zz => Later.cell hqc.c0 (World.block_lt_of_cell? _ _ hqc.c0) zz
            have Lq1 : ∀ zz : Later wr.heap.size wr, zz.val.cell? ⟨b, off + i * 4 + 1, none⟩ = some (.int .u64 (q.1.2.1.toNat : Int)) := fun zz => Later.cell hqc.c1 (World.block_lt_of_cell? _ _ hqc.c1) zz
            have Lq2 : ∀ zz : Later wr.heap.size wr, zz.val.cell? ⟨b, off + i * 4 + 2, none⟩ = some (.int .u64 (q.1.2.2.toNat : Int)) := fun zz => Later.cell hqc.c2 (World.block_lt_of_cell? _ _ hqc.c2) zz
            have Lq3 : ∀ zz : Later wr.heap.size wr, zz.val.cell? ⟨b, off + i * 4 + 3, none⟩ = some (.int .i64 q.2) := fun zz => Later.cell hqc.c3 (World.block_lt_of_cell? _ _ hqc.c3) zz
            have Ls0 : ∀ zz : Later wr.heap.size wr, zz.val.cell? ⟨b, off + k * 4, none⟩ = some (.int .u8 (s.1.1.toNat : Int)) := fun zz => Later.cell hsc.c0 (World.block_lt_of_cell? _ _ hsc.c0) zz
            have Ls1 : ∀ zz : Later wr.heap.size wr, zz.val.cell? ⟨b, off + k * 4 + 1, none⟩ = some (.int .u64 (s.1.2.1.toNat : Int)) := fun zz => Later.cell hsc.c1 (World.block_lt_of_cell? _ _ hsc.c1) zz
            have Ls2 : ∀ zz : Later wr.heap.size wr, zz.val.cell? ⟨b, off + k * 4 + 2, none⟩ = some (.int .u64 (s.1.2.2.toNat : Int)) := fun zz => Later.cell hsc.c2 (World.block_lt_of_cell? _ _ hsc.c2) zz
            have Ls3 : ∀ zz : Later wr.heap.size wr, zz.val.cell? ⟨b, off + k * 4 + 3, none⟩ = some (.int .i64 s.2) := fun zz => Later.cell hsc.c3 (World.block_lt_of_cell? _ _ hsc.c3) zz
            clear hqc hsc
            go_wp2_with fail
            refine wp_region_later wr.heap.size (by kernel_rfl) (by kernel_rfl) ?_
            repeat (go_big_quiet_step ((go_at_call 25; exact Later.calls (Nat.le_refl _) (HMT.out _))))
            refine wpQuiet_nil ?_
            rintro w9 ⟨yy, rfl⟩
            have HB9 := Lib.hid (below_step HBL.out yy.prop HBL.out.size)
            clear Lq0 Lq1 Lq2 Lq3 Ls0 Ls1 Ls2 Ls3
            go_wp2_with fail
            go_roundw
            case rel => exact ⟨k + 1, hkl, by go_num, HB9.out⟩
            case measure => simp [intOf]; omega
          · obtain rfl : k = i := by omega
            have HE9 := Lib.hid (HE7.out.kept HBL.out)
            go_wp2_with fail
            go_roundw
            case rel => exact ⟨k + 1, hlt, by go_num, HE9.out⟩
            case measure => simp [intOf]; omega
    · go_wp2_with fail
      go_loopw [9, 10] (fun v9 v10 wr => ∃ j : Nat, j ≤ m.length ∧ v10 = .int .i64 j ∧ v9 = .int .i64 (((m.take j).filter (childB m p)).length : Nat) ∧ En2 w m c p (.slice mo m.length mcap) (.slice co c.length ccap) wr) (fun _ v10 _ => m.length - (intOf v10).toNat)
      case atStart => exact ⟨0, Nat.zero_le _, rfl, rfl, HE.out⟩
      case round =>
        obtain ⟨w3, rfl⟩ : ∃ w3 : World, w3 = wr := ⟨_, rfl⟩
        obtain ⟨j, hj, rfl, rfl, henv⟩ := hrel
        have HE3 := Lib.hid henv
        clear henv
        obtain ⟨F, hF⟩ : ∃ F, F = ((m.take j).filter (childB m p)).length := ⟨_, rfl⟩
        rw [← hF]
        have hF60 : F ≤ 60 := by
          have e1 := List.length_filter_le (childB m p) (m.take j)
          have e2 : (m.take j).length ≤ m.length := by simp; omega
          omega
        have HF := Lib.hid hF
        clear hF
        by_cases hlt3 : j < m.length
        · obtain ⟨bm, om, capm, hvm, hms⟩ := pfs_cells HE3.out.ml (by omega)
          cases hvm
          have hqc := hms j hlt3
          obtain ⟨q, hq⟩ : ∃ q, q = m[j] := ⟨_, rfl⟩
          rw [← hq] at hqc
          have HQC := Lib.hid hqc
          have HIN := Lib.hid (show c.countP (fun c => within q c) = if inside q p then 1 else 0 by rw [HC.out]; exact ch_in HR.out p (hq ▸ List.getElem_mem hlt3))
          have HFO := Lib.hid (show ((m.take (j + 1)).filter (childB m p)).length = F + c.countP (fun c => q == c) by rw [ch_found HR.out p hlt3, HF.out, HC.out, hq])
          clear hq hms hqc
          have m0 : (0 : Int) ≤ (j : Int) := by omega
          have m1 : (j : Int) < (m.length : Int) := by omega
          go_wp2_with fail
          go_loopw [9, 11, 12] (fun v9 v11 v12 wr => ∃ k : Nat, k ≤ c.length ∧ v12 = .int .i64 k ∧ v9 = .int .i64 ((F + (c.take k).countP (fun c => q == c) : Nat) : Int) ∧ v11 = .int .i64 (((c.take k).countP (fun c => within q c) : Nat) : Int) ∧ Below w3.heap.size w3 wr) (fun _ _ v12 _ => c.length - (intOf v12).toNat)
          case atStart => exact ⟨0, Nat.zero_le _, rfl, rfl, rfl, Below.refl _ _⟩
          case round =>
            obtain ⟨k, hk, rfl, rfl, rfl, hbel⟩ := hrel
            have HBL := Lib.hid hbel
            clear hbel
            obtain ⟨G, hG⟩ : ∃ G, G = F + (c.take k).countP (fun c => q == c) := ⟨_, rfl⟩
            obtain ⟨N, hN⟩ : ∃ N, N = (c.take k).countP (fun c => within q c) := ⟨_, rfl⟩
            rw [← hG, ← hN]
            have hG120 : G ≤ 120 := by
              have e1 := List.countP_le_length (p := fun c => q == c) (l := c.take k)
              have e2 : (c.take k).length ≤ c.length := by simp; omega
              omega
            have hN60 : N ≤ 60 := by
              have e1 := List.countP_le_length (p := fun c => within q c) (l := c.take k)
              have e2 : (c.take k).length ≤ c.length := by simp; omega
              omega
            have HG := Lib.hid hG
            have HN := Lib.hid hN
            clear hG hN
            by_cases hkl : k < c.length
            · obtain ⟨bc, oc, capc, hvc, hcs⟩ := pfs_cells (HE3.out.kept HBL.out).cl (by omega)
              cases hvc
              have hsc := hcs k hkl
              obtain ⟨s, hs⟩ : ∃ r, r = c[k] := ⟨_, rfl⟩
              rw [← hs] at hsc
              have HSC := Lib.hid hsc
              obtain ⟨wI, hwI⟩ : ∃ b, b = within q s := ⟨_, rfl⟩
              obtain ⟨eI, heI⟩ : ∃ b, b = (q == s) := ⟨_, rfl⟩
              have HSG := Lib.hid (show F + (c.take (k + 1)).countP (fun c => q == c) = G + if eI then 1 else 0 by rw [countP_take_succ hkl, ← hs, ← heI, HG.out]; omega)
              have HSN := Lib.hid (show (c.take (k + 1)).countP (fun c => within q c) = N + if wI then 1 else 0 by rw [countP_take_succ hkl, ← hs, ← hwI, HN.out])
              have HWI := Lib.hid (fun W => (show Calls Try.prog 23 #[encP q, encP s] W fun e w' => e = .returned (.bool wI) ∧ Below W.heap.size W w' from by rw [hwI]; exact within_any q s W))
              have HEI := Lib.hid (fun w => (show (binOp .eql 27 (encP q) (encP s)).run Try.prog w = .ok (.bool eI) w from by rw [heI]; exact run_eqlP q s w))
              clear hs hwI heI hcs
              have hqc := HQC.out.kept HBL.out
              have n0 : (0 : Int) ≤ (k : Int) := by omega
              have n1 : (k : Int) < (c.length : Int) := by omega
              have Lq0 : ∀ zz : Later wr.heap.size wr, zz.val.cell? ⟨bm, om + j * 4, none⟩ = some (.int .u8 (q.1.1.toNat : Int)) := fun zz => Later.cell hqc.c0 (World.block_lt_of_cell? _ _ hqc.c0) zz
              have Lq1 : ∀ zz : Later wr.heap.size wr, zz.val.cell? ⟨bm, om + j * 4 + 1, none⟩ = some (.int .u64 (q.1.2.1.toNat : Int)) := fun zz => Later.cell hqc.c1 (World.block_lt_of_cell? _ _ hqc.c1) zz
              have Lq2 : ∀ zz : Later wr.heap.size wr, zz.val.cell? ⟨bm, om + j * 4 + 2, none⟩ = some (.int .u64 (q.1.2.2.toNat : Int)) := fun zz => Later.cell hqc.c2 (World.block_lt_of_cell? _ _ hqc.c2) zz
              have Lq3 : ∀ zz : Later wr.heap.size wr, zz.val.cell? ⟨bm, om + j * 4 + 3, none⟩ = some (.int .i64 q.2) := fun zz => Later.cell hqc.c3 (World.block_lt_of_cell? _ _ hqc.c3) zz
              have Ls0 : ∀ zz : Later wr.heap.size wr, zz.val.cell? ⟨bc, oc + k * 4, none⟩ = some (.int .u8 (s.1.1.toNat : Int)) := fun zz => Later.cell hsc.c0 (World.block_lt_of_cell? _ _ hsc.c0) zz
              have Ls1 : ∀ zz : Later wr.heap.size wr, zz.val.cell? ⟨bc, oc + k * 4 + 1, none⟩ = some (.int .u64 (s.1.2.1.toNat : Int)) := fun zz => Later.cell hsc.c1 (World.block_lt_of_cell? _ _ hsc.c1) zz
              have Ls2 : ∀ zz : Later wr.heap.size wr, zz.val.cell? ⟨bc, oc + k * 4 + 2, none⟩ = some (.int .u64 (s.1.2.2.toNat : Int)) := fun zz => Later.cell hsc.c2 (World.block_lt_of_cell? _ _ hsc.c2) zz
              have Ls3 : ∀ zz : Later wr.heap.size wr, zz.val.cell? ⟨bc, oc + k * 4 + 3, none⟩ = some (.int .i64 s.2) := fun zz => Later.cell hsc.c3 (World.block_lt_of_cell? _ _ hsc.c3) zz
              clear hqc hsc
              go_wp2_with fail
              refine wp_region_later wr.heap.size (by kernel_rfl) (by kernel_rfl) ?_
              repeat (go_big_quiet_step ((go_at_call 23; exact Later.calls (Nat.le_refl _) (HWI.out _))))
              refine wpQuiet_nil ?_
              rintro w9 ⟨yy, rfl⟩
              have HB9 := Lib.hid (below_step HBL.out yy.prop HBL.out.size)
              have hqc := (HQC.out.kept HBL.out).kept yy.prop
              have hsc := HSC.out.kept yy.prop
              clear Lq0 Lq1 Lq2 Lq3 Ls0 Ls1 Ls2 Ls3
              generalize yy.val = w8 at *
              have q0 := hqc.c0
              have q1 := hqc.c1
              have q2 := hqc.c2
              have q3 := hqc.c3
              have s0 := hsc.c0
              have s1 := hsc.c1
              have s2 := hsc.c2
              have s3 := hsc.c3
              clear hqc hsc
              have hei := HEI.out
              cases wI <;> cases eI
              all_goals
                go_wp2_with fail
                go_quiet (fail)
                clear hei q0 q1 q2 q3 s0 s1 s2 s3
                go_wp2_with fail
                go_roundw
                case rel => exact ⟨k + 1, hkl, by go_num, by rw [HSG.out]; simp, by rw [HSN.out]; simp, HB9.out.trans ⟨rfl, rfl, rfl, Nat.le_refl _, fun _ _ => rfl⟩⟩
                case measure => simp [intOf]; omega
            · obtain rfl : k = c.length := by omega
              have hN1 : N = if inside q p then 1 else 0 := by have := HN.out; rw [List.take_length] at this; rw [this, HIN.out]
              have HG1 := Lib.hid (show ((m.take (j + 1)).filter (childB m p)).length = G by rw [HFO.out, HG.out, List.take_length])
              have HE4 := Lib.hid (HE3.out.kept HBL.out)
              have hqc := HQC.out.kept HBL.out
              have hpc := boxP (p := p) HE4.out.b3
              have Lq0 : ∀ zz : Later wr.heap.size wr, zz.val.cell? ⟨bm, om + j * 4, none⟩ = some (.int .u8 (q.1.1.toNat : Int)) := fun zz => Later.cell hqc.c0 (World.block_lt_of_cell? _ _ hqc.c0) zz
              have Lq1 : ∀ zz : Later wr.heap.size wr, zz.val.cell? ⟨bm, om + j * 4 + 1, none⟩ = some (.int .u64 (q.1.2.1.toNat : Int)) := fun zz => Later.cell hqc.c1 (World.block_lt_of_cell? _ _ hqc.c1) zz
              have Lq2 : ∀ zz : Later wr.heap.size wr, zz.val.cell? ⟨bm, om + j * 4 + 2, none⟩ = some (.int .u64 (q.1.2.2.toNat : Int)) := fun zz => Later.cell hqc.c2 (World.block_lt_of_cell? _ _ hqc.c2) zz
              have Lq3 : ∀ zz : Later wr.heap.size wr, zz.val.cell? ⟨bm, om + j * 4 + 3, none⟩ = some (.int .i64 q.2) := fun zz => Later.cell hqc.c3 (World.block_lt_of_cell? _ _ hqc.c3) zz
              have Lp0 : ∀ zz : Later wr.heap.size wr, zz.val.cell? ⟨w.heap.size, 0, none⟩ = some (.int .u8 (p.1.1.toNat : Int)) := fun zz => Later.cell hpc.c0 (World.block_lt_of_cell? _ _ hpc.c0) zz
              have Lp1 : ∀ zz : Later wr.heap.size wr, zz.val.cell? ⟨w.heap.size, 1, none⟩ = some (.int .u64 (p.1.2.1.toNat : Int)) := fun zz => Later.cell hpc.c1 (World.block_lt_of_cell? _ _ hpc.c1) zz
              have Lp2 : ∀ zz : Later wr.heap.size wr, zz.val.cell? ⟨w.heap.size, 2, none⟩ = some (.int .u64 (p.1.2.2.toNat : Int)) := fun zz => Later.cell hpc.c2 (World.block_lt_of_cell? _ _ hpc.c2) zz
              have Lp3 : ∀ zz : Later wr.heap.size wr, zz.val.cell? ⟨w.heap.size, 3, none⟩ = some (.int .i64 p.2) := fun zz => Later.cell hpc.c3 (World.block_lt_of_cell? _ _ hpc.c3) zz
              clear hqc hpc
              obtain ⟨eP, heP⟩ : ∃ b, b = (q == p) := ⟨_, rfl⟩
              obtain ⟨wP, hwP⟩ : ∃ b, b = within q p := ⟨_, rfl⟩
              have hN2 : N = if (!eP && wP) then 1 else 0 := by rw [hN1, heP, hwP]; rfl
              have HWP := Lib.hid (fun W => (show Calls Try.prog 23 #[encP q, encP p] W fun e w' => e = .returned (.bool wP) ∧ Below W.heap.size W w' from by rw [hwP]; exact within_any q p W))
              have hnp := fun w => (show (binOp .neq 27 (encP q) (encP p)).run Try.prog w = .ok (.bool (!eP)) w from by rw [heP]; exact run_neqP q p w)
              clear heP hwP hN1
              cases eP <;> cases wP
              · have zN : ((N : Int) != 0) = false := by rw [hN2]; rfl
                clear hN2
                go_wp2_with fail
                refine wp_region_later wr.heap.size (by kernel_rfl) (by kernel_rfl) ?_
                repeat (go_big_quiet_step ((go_at_call 23; exact Later.calls (Nat.le_refl _) (HWP.out _))))
                refine wpQuiet_nil ?_
                rintro w9 ⟨yy, rfl⟩
                have HE9 := Lib.hid (HE4.out.kept yy.prop)
                clear Lq0 Lq1 Lq2 Lq3 Lp0 Lp1 Lp2 Lp3 hnp
                go_wp2_with fail
                go_roundw
                case rel => exact ⟨j + 1, hlt3, by go_num, by rw [HG1.out], HE9.out⟩
                case measure => simp [intOf]; omega
              · have zN : ((N : Int) != 1) = false := by rw [hN2]; rfl
                clear hN2
                go_wp2_with fail
                refine wp_region_later wr.heap.size (by kernel_rfl) (by kernel_rfl) ?_
                repeat (go_big_quiet_step ((go_at_call 23; exact Later.calls (Nat.le_refl _) (HWP.out _))))
                refine wpQuiet_nil ?_
                rintro w9 ⟨yy, rfl⟩
                have HE9 := Lib.hid (HE4.out.kept yy.prop)
                clear Lq0 Lq1 Lq2 Lq3 Lp0 Lp1 Lp2 Lp3 hnp
                go_wp2_with fail
                go_roundw
                case rel => exact ⟨j + 1, hlt3, by go_num, by rw [HG1.out], HE9.out⟩
                case measure => simp [intOf]; omega
              · have zN : ((N : Int) != 0) = false := by rw [hN2]; rfl
                clear hN2
                go_wp2_with fail
                refine wp_region_later wr.heap.size (by kernel_rfl) (by kernel_rfl) ?_
                repeat (go_big_quiet_step ((go_at_call 23; exact Later.calls (Nat.le_refl _) (HWP.out _))))
                refine wpQuiet_nil ?_
                rintro w9 ⟨yy, rfl⟩
                have HE9 := Lib.hid (HE4.out.kept yy.prop)
                clear Lq0 Lq1 Lq2 Lq3 Lp0 Lp1 Lp2 Lp3 hnp
                go_wp2_with fail
                go_roundw
                case rel => exact ⟨j + 1, hlt3, by go_num, by rw [HG1.out], HE9.out⟩
                case measure => simp [intOf]; omega
              · have zN : ((N : Int) != 0) = false := by rw [hN2]; rfl
                clear hN2
                go_wp2_with fail
                refine wp_region_later wr.heap.size (by kernel_rfl) (by kernel_rfl) ?_
                repeat (go_big_quiet_step ((go_at_call 23; exact Later.calls (Nat.le_refl _) (HWP.out _))))
                refine wpQuiet_nil ?_
                rintro w9 ⟨yy, rfl⟩
                have HE9 := Lib.hid (HE4.out.kept yy.prop)
                clear Lq0 Lq1 Lq2 Lq3 Lp0 Lp1 Lp2 Lp3 hnp
                go_wp2_with fail
                go_roundw
                case rel => exact ⟨j + 1, hlt3, by go_num, by rw [HG1.out], HE9.out⟩
                case measure => simp [intOf]; omega
        · obtain rfl : j = m.length := by omega
          have hFc : F = c.length := by rw [HF.out, List.take_length, HC.out]; rfl
          have zF : ((F : Int) == (c.length : Int)) = true := by rw [hFc]; simp
          clear hFc
          go_wp2_with fail
          refine (awake _).mono ?_
          rintro e w10 ⟨rfl, hb⟩
          have HBF := Lib.hid (below_step HE3.out.bel hb HE3.out.bel.size)
          clear hb
          go_wp2_with fail
          go_ret
          exact ⟨rfl, HBF.out⟩
end Go.Proofs.Try.Pfx
