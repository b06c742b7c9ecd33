/- The document's prefixes: last, within, ahead. -/
import Derived.Test.YtbhnpndkdhhpfaaRb7
set_option linter.unusedVariables false
set_option linter.unusedSimpArgs false
namespace Go.Proofs.Try.Pfx
open Go.RowKit Go.Cph Go.Cph.Px

set_option maxRecDepth 100000 in
set_option maxHeartbeats 2000000 in
theorem rlast (p : Pf) (w : World) : Calls Try.prog 53 #[encP p] w fun e w' => e = .returned (encA (lastR p)) ∧ Below w.heap.size w w' := by
  have HRP := Lib.hid (fun w => rrightP p w)
  have hf : rightP p = true → ∃ k : Nat, p.2 = (k : Int) ∧ ∀ w, Calls Try.prog 66 #[encA p.1, .int .i64 (k : Int), .int .u8 1] w fun e w' => e = .returned (encA (lastR p)) ∧ Below w.heap.size w w' := by
    intro h
    have hl : lastR p = fillA p.1 p.2.toNat 1 := by unfold lastR; rw [if_pos h]
    have h := rightP_iff.1 h
    have h1 := h.hi
    have h0 := h.lo
    rw [width_wid] at h1
    exact ⟨p.2.toNat, by omega, fun w => by rw [hl]; exact rfilled p.1 p.2.toNat 1 w h.ad (by omega)⟩
  have hz : rightP p = false → lastR p = zeroA := fun h => by unfold lastR; rw [h]; rfl
  obtain ⟨rp, hrp⟩ : ∃ r, r = rightP p := ⟨_, rfl⟩
  rw [← hrp] at HRP hf hz
  have HF := Lib.hid hf
  have HZ := Lib.hid hz
  clear hrp hf hz
  have hb0 : Below w.heap.size w ((w.alloc (.cells #[.int .u8 (p.1.1.toNat : Int), .int .u64 (p.1.2.1.toNat : Int), .int .u64 (p.1.2.2.toNat : Int), .int .i64 p.2] 36)).alloc (.cells #[.int .u8 0, .int .u64 0, .int .u64 0] 34)) := ((Below.refl _ _).alloc (Nat.le_refl _) _).alloc (by simp) _
  have h1 : ((w.alloc (.cells #[.int .u8 (p.1.1.toNat : Int), .int .u64 (p.1.2.1.toNat : Int), .int .u64 (p.1.2.2.toNat : Int), .int .i64 p.2] 36)).alloc (.cells #[.int .u8 0, .int .u64 0, .int .u64 0] 34)).heap[w.heap.size]? = some (.cells #[.int .u8 (p.1.1.toNat : Int), .int .u64 (p.1.2.1.toNat : Int), .int .u64 (p.1.2.2.toNat : Int), .int .i64 p.2] 36 (0, 0)) := blk_alloc (heap_alloc_new _ _) _
  have h2 := heap_alloc_new (w.alloc (.cells #[.int .u8 (p.1.1.toNat : Int), .int .u64 (p.1.2.1.toNat : Int), .int .u64 (p.1.2.2.toNat : Int), .int .i64 p.2] 36)) (.cells #[.int .u8 0, .int .u64 0, .int .u64 0] 34)
  rw [World.size_alloc] at h2
  have H1 := Lib.hid h1
  have H2 := Lib.hid h2
  have HB0 := Lib.hid hb0
  have p0 := (blk_cell h1 0)
  have p1 := (blk_cell h1 1)
  have p2 := (blk_cell h1 2)
  have p3 := (blk_cell h1 3)
  clear h1 h2 hb0
  go_enter Try.func53, Try.ntmps53
  go_wp2_with fail
  generalize (w.alloc (.cells #[.int .u8 (p.1.1.toNat : Int), .int .u64 (p.1.2.1.toNat : Int), .int .u64 (p.1.2.2.toNat : Int), .int .i64 p.2] 36)).alloc (.cells #[.int .u8 0, .int .u64 0, .int .u64 0] 34) = w0 at *
  refine (HRP.out _).mono ?_
  rintro e w1 ⟨rfl, hb⟩
  have HB1 := Lib.hid (below_step HB0.out hb HB0.out.size)
  have HG1 := Lib.hid (blk_kept hb H1.out)
  have HG2 := Lib.hid (blk_kept hb H2.out)
  clear hb p0 p1 p2 p3
  cases rp
  · have HX := Lib.hid (HZ.out rfl)
    have s0 : w1.cell? ⟨w.heap.size + 1, 0, none⟩ = some (.int .u8 0) := by rw [blk_cell HG2.out]; rfl
    have s1 : w1.cell? ⟨w.heap.size + 1, 1, none⟩ = some (.int .u64 0) := by rw [blk_cell HG2.out]; rfl
    have s2 : w1.cell? ⟨w.heap.size + 1, 2, none⟩ = some (.int .u64 0) := by rw [blk_cell HG2.out]; rfl
    have f0 : w1.frozen? ⟨w.heap.size + 1, 0, none⟩ = false := by rw [blk_frozen HG2.out]; rfl
    have f1 : w1.frozen? ⟨w.heap.size + 1, 1, none⟩ = false := by rw [blk_frozen HG2.out]; rfl
    have f2 : w1.frozen? ⟨w.heap.size + 1, 2, none⟩ = false := by rw [blk_frozen HG2.out]; rfl
    go_wp2_with fail
    refine bodyPost_ret (v := encA zeroA) (by simp [results, Try.results53, go_sem, s0, s1, s2, zeroA]) rfl ⟨by rw [HX.out], ?_⟩
    exact ((HB1.out.setCell (p := ⟨w.heap.size + 1, 0, none⟩) (by simp) _).setCell (p := ⟨w.heap.size + 1, 1, none⟩) (by simp) _).setCell (p := ⟨w.heap.size + 1, 2, none⟩) (by simp) _
  · obtain ⟨k, hk, hf⟩ := HF.out rfl
    have HK := Lib.hid hk
    have HFF := Lib.hid hf
    clear hk hf
    have p0 : w1.cell? ⟨w.heap.size, 0, none⟩ = some (.int .u8 (p.1.1.toNat : Int)) := by rw [blk_cell HG1.out]; rfl
    have p1 : w1.cell? ⟨w.heap.size, 1, none⟩ = some (.int .u64 (p.1.2.1.toNat : Int)) := by rw [blk_cell HG1.out]; rfl
    have p2 : w1.cell? ⟨w.heap.size, 2, none⟩ = some (.int .u64 (p.1.2.2.toNat : Int)) := by rw [blk_cell HG1.out]; rfl
    have p3 : w1.cell? ⟨w.heap.size, 3, none⟩ = some (.int .i64 p.2) := by rw [blk_cell HG1.out]; rfl
    rw [HK.out] at p3
    go_wp2_with fail
    refine (HFF.out _).mono ?_
    rintro e w2 ⟨rfl, hb⟩
    have HG3 := Lib.hid (blk_kept hb HG2.out)
    have HB2 := Lib.hid (below_step HB1.out hb HB1.out.size)
    obtain ⟨⟨fa, hi2, lo2⟩, hA⟩ : ∃ A, A = lastR p := ⟨_, rfl⟩
    have HA := Lib.hid hA.symm
    rw [← hA]
    clear hb hA p0 p1 p2 p3
    have s0 : w2.cell? ⟨w.heap.size + 1, 0, none⟩ = some (.int .u8 0) := by rw [blk_cell HG3.out]; rfl
    have s1 : w2.cell? ⟨w.heap.size + 1, 1, none⟩ = some (.int .u64 0) := by rw [blk_cell HG3.out]; rfl
    have s2 : w2.cell? ⟨w.heap.size + 1, 2, none⟩ = some (.int .u64 0) := by rw [blk_cell HG3.out]; rfl
    have f0 : w2.frozen? ⟨w.heap.size + 1, 0, none⟩ = false := by rw [blk_frozen HG3.out]; rfl
    have f1 : w2.frozen? ⟨w.heap.size + 1, 1, none⟩ = false := by rw [blk_frozen HG3.out]; rfl
    have f2 : w2.frozen? ⟨w.heap.size + 1, 2, none⟩ = false := by rw [blk_frozen HG3.out]; rfl
    go_wp2_with fail
    refine bodyPost_ret (v := encA (fa, hi2, lo2)) (by simp [results, Try.results53, go_sem, s0, s1, s2]) rfl ⟨by rw [HA.out], ?_⟩
    exact ((HB2.out.setCell (p := ⟨w.heap.size + 1, 0, none⟩) (by simp) _).setCell (p := ⟨w.heap.size + 1, 1, none⟩) (by simp) _).setCell (p := ⟨w.heap.size + 1, 2, none⟩) (by simp) _

set_option maxRecDepth 100000 in
set_option maxHeartbeats 4000000 in
theorem rwithin (p q : Pf) (w : World) : Calls Try.prog 39 #[encP p, encP q] w fun e w' => e = .returned (.bool (within p q)) ∧ Below w.heap.size w w' := by
  have hv := (withinR_eq p q).symm
  unfold withinR at hv
  obtain ⟨rp, hrp⟩ : ∃ r, r = rightP p := ⟨_, rfl⟩
  obtain ⟨h1, hh1⟩ : ∃ r, r = hasP q p.1 := ⟨_, rfl⟩
  obtain ⟨h2, hh2⟩ : ∃ r, r = hasP q (lastR p) := ⟨_, rfl⟩
  have HRP := Lib.hid (fun w => rrightP p w)
  have HH1 := Lib.hid (fun w => rhasP q p.1 w)
  have HH2 := Lib.hid (fun w => rhasP q (lastR p) w)
  have HLA := Lib.hid (fun w => rlast p w)
  rw [← hrp] at HRP hv
  rw [← hh1] at HH1 hv
  rw [← hh2] at HH2 hv
  have HV := Lib.hid hv
  clear hrp hh1 hh2 hv
  generalize lastR p = lp at *
  have hb0 : Below w.heap.size w ((w.alloc (.cells #[.int .u8 (p.1.1.toNat : Int), .int .u64 (p.1.2.1.toNat : Int), .int .u64 (p.1.2.2.toNat : Int), .int .i64 p.2] 36)).alloc (.cells #[.int .u8 (q.1.1.toNat : Int), .int .u64 (q.1.2.1.toNat : Int), .int .u64 (q.1.2.2.toNat : Int), .int .i64 q.2] 36)) := ((Below.refl _ _).alloc (Nat.le_refl _) _).alloc (by simp) _
  have h1' : ((w.alloc (.cells #[.int .u8 (p.1.1.toNat : Int), .int .u64 (p.1.2.1.toNat : Int), .int .u64 (p.1.2.2.toNat : Int), .int .i64 p.2] 36)).alloc (.cells #[.int .u8 (q.1.1.toNat : Int), .int .u64 (q.1.2.1.toNat : Int), .int .u64 (q.1.2.2.toNat : Int), .int .i64 q.2] 36)).heap[w.heap.size]? = some (.cells #[.int .u8 (p.1.1.toNat : Int), .int .u64 (p.1.2.1.toNat : Int), .int .u64 (p.1.2.2.toNat : Int), .int .i64 p.2] 36 (0, 0)) := blk_alloc (heap_alloc_new _ _) _
  have h2' := heap_alloc_new (w.alloc (.cells #[.int .u8 (p.1.1.toNat : Int), .int .u64 (p.1.2.1.toNat : Int), .int .u64 (p.1.2.2.toNat : Int), .int .i64 p.2] 36)) (.cells #[.int .u8 (q.1.1.toNat : Int), .int .u64 (q.1.2.1.toNat : Int), .int .u64 (q.1.2.2.toNat : Int), .int .i64 q.2] 36)
  rw [World.size_alloc] at h2'
  have H1 := Lib.hid h1'
  have H2 := Lib.hid h2'
  have HB0 := Lib.hid hb0
  clear h1' h2' hb0
  cases rp <;> cases h1 <;> cases h2
  all_goals
    have HX := Lib.hid (show within p q = _ from HV.out)
    go_enter Try.func39, Try.ntmps39
    go_wp2_with fail
    generalize (w.alloc (.cells #[.int .u8 (p.1.1.toNat : Int), .int .u64 (p.1.2.1.toNat : Int), .int .u64 (p.1.2.2.toNat : Int), .int .i64 p.2] 36)).alloc (.cells #[.int .u8 (q.1.1.toNat : Int), .int .u64 (q.1.2.1.toNat : Int), .int .u64 (q.1.2.2.toNat : Int), .int .i64 q.2] 36) = w0 at *
    have a0 : ∀ zz : Later w0.heap.size w0, zz.val.cell? ⟨w.heap.size, 0, none⟩ = some (.int .u8 (p.1.1.toNat : Int)) := fun zz => Later.cell (by rw [blk_cell H1.out]; rfl) (blk_lt H1.out) zz
    have a1 : ∀ zz : Later w0.heap.size w0, zz.val.cell? ⟨w.heap.size, 1, none⟩ = some (.int .u64 (p.1.2.1.toNat : Int)) := fun zz => Later.cell (by rw [blk_cell H1.out]; rfl) (blk_lt H1.out) zz
    have a2 : ∀ zz : Later w0.heap.size w0, zz.val.cell? ⟨w.heap.size, 2, none⟩ = some (.int .u64 (p.1.2.2.toNat : Int)) := fun zz => Later.cell (by rw [blk_cell H1.out]; rfl) (blk_lt H1.out) zz
    have a3 : ∀ zz : Later w0.heap.size w0, zz.val.cell? ⟨w.heap.size, 3, none⟩ = some (.int .i64 p.2) := fun zz => Later.cell (by rw [blk_cell H1.out]; rfl) (blk_lt H1.out) zz
    have b0 : ∀ zz : Later w0.heap.size w0, zz.val.cell? ⟨w.heap.size + 1, 0, none⟩ = some (.int .u8 (q.1.1.toNat : Int)) := fun zz => Later.cell (by rw [blk_cell H2.out]; rfl) (blk_lt H2.out) zz
    have b1 : ∀ zz : Later w0.heap.size w0, zz.val.cell? ⟨w.heap.size + 1, 1, none⟩ = some (.int .u64 (q.1.2.1.toNat : Int)) := fun zz => Later.cell (by rw [blk_cell H2.out]; rfl) (blk_lt H2.out) zz
    have b2 : ∀ zz : Later w0.heap.size w0, zz.val.cell? ⟨w.heap.size + 1, 2, none⟩ = some (.int .u64 (q.1.2.2.toNat : Int)) := fun zz => Later.cell (by rw [blk_cell H2.out]; rfl) (blk_lt H2.out) zz
    have b3 : ∀ zz : Later w0.heap.size w0, zz.val.cell? ⟨w.heap.size + 1, 3, none⟩ = some (.int .i64 q.2) := fun zz => Later.cell (by rw [blk_cell H2.out]; rfl) (blk_lt H2.out) zz
    refine wp_region_later w0.heap.size (by kernel_rfl) (by kernel_rfl) ?_
    repeat (go_big_quiet_step (first | (go_at_call 49; exact Later.calls (Nat.le_refl _) (HRP.out _)) | (go_at_call 38; with_reducible exact Later.calls (Nat.le_refl _) (HH1.out _)) | (go_at_call 38; with_reducible exact Later.calls (Nat.le_refl _) (HH2.out _)) | (go_at_call 53; exact Later.calls (Nat.le_refl _) (HLA.out _))))
    refine wpQuiet_nil ?_
    rintro w9 ⟨yy, rfl⟩
    have HB9 := Lib.hid (below_step HB0.out yy.prop HB0.out.size)
    clear a0 a1 a2 a3 b0 b1 b2 b3
    go_wp2_with fail
    go_ret
    exact ⟨ret_bool HX.out.symm, HB9.out⟩

theorem run_eqlR (a b : Ad) (w : World) : (binOp .eql 34 (encA a) (encA b)).run Try.prog w = .ok (.bool (a == b)) w := by
  have hb : (a == b) = ((a.1.toNat : Int) == b.1.toNat && ((a.2.1.toNat : Int) == b.2.1.toNat && ((a.2.2.toNat : Int) == b.2.2.toNat))) := by
    rw [Bool.eq_iff_iff, beq_iff_eq]
    simp only [Bool.and_eq_true, u8_eq, u64_eq, beq_iff_eq]
    constructor
    · rintro rfl; exact ⟨rfl, rfl, rfl⟩
    · rintro ⟨h1, h2, h3⟩; exact Prod.ext h1 (Prod.ext h2 h3)
  rw [hb]
  cases b0 : ((a.1.toNat : Int) == b.1.toNat) <;> cases b1 : ((a.2.1.toNat : Int) == b.2.1.toNat) <;> cases b2 : ((a.2.2.toNat : Int) == b.2.2.toNat) <;> go_simp
set_option maxRecDepth 100000 in
set_option maxHeartbeats 4000000 in
theorem rbefore (p q : Pf) (w : World) : Calls Try.prog 51 #[encP p, encP q] w fun e w' => e = .returned (.bool (before p q)) ∧ Below w.heap.size w w' := by
  have HLS := Lib.hid (fun w => rless p.1 q.1 w)
  have he := fun w => run_eqlR p.1 q.1 w
  have hv1 : (p.1 == q.1) = true → before p q = decide (p.2 < q.2) := fun h => by
    have e : p.1 = q.1 := by simpa using h
    have hl : lessA p.1 q.1 = false := by
      rw [Bool.eq_false_iff]; intro hc
      have := less_rank.1 hc
      rw [e] at this; omega
    unfold before
    rw [hl, h]; rfl
  have hv2 : (p.1 == q.1) = false → before p q = lessA p.1 q.1 := fun h => by unfold before; rw [h]; simp
  obtain ⟨eq, heq⟩ : ∃ r, r = (p.1 == q.1) := ⟨_, rfl⟩
  rw [← heq] at he hv1 hv2
  have HV1 := Lib.hid hv1
  have HV2 := Lib.hid hv2
  clear heq hv1 hv2
  have hb0 : Below w.heap.size w ((w.alloc (.cells #[.int .u8 (p.1.1.toNat : Int), .int .u64 (p.1.2.1.toNat : Int), .int .u64 (p.1.2.2.toNat : Int), .int .i64 p.2] 36)).alloc (.cells #[.int .u8 (q.1.1.toNat : Int), .int .u64 (q.1.2.1.toNat : Int), .int .u64 (q.1.2.2.toNat : Int), .int .i64 q.2] 36)) := ((Below.refl _ _).alloc (Nat.le_refl _) _).alloc (by simp) _
  have HB0 := Lib.hid hb0
  clear hb0
  cases eq
  · have HX := Lib.hid (HV2.out rfl)
    go_enter Try.func51, Try.ntmps51
    go_wp2_with fail
    refine (HLS.out _).mono ?_
    rintro e w1 ⟨rfl, hb⟩
    have HB1 := Lib.hid (below_step HB0.out hb HB0.out.size)
    clear hb he
    go_wp2_with fail
    go_ret
    exact ⟨ret_bool HX.out.symm, HB1.out⟩
  · have HX := Lib.hid (HV1.out rfl)
    go_enter Try.func51, Try.ntmps51
    go_wp2_with fail
    go_ret
    exact ⟨ret_bool HX.out.symm, HB0.out⟩
end Go.Proofs.Try.Pfx
