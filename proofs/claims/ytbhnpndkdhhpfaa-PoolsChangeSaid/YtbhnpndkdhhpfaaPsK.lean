/- Lists of prefixes: right; where one stands; one put in. -/
import Derived.Test.YtbhnpndkdhhpfaaPsJ
set_option linter.unusedVariables false
set_option linter.unusedSimpArgs false
namespace Go.Proofs.Try.Pfx
open Go.RowKit Go.Cph Go.Cph.Px

theorem rightAt_zero {l : List Pf} (h : 0 < l.length) : rightAt l 0 = rightP l[0] := by
  rw [Bool.eq_iff_iff, rightAt_iff h]; simp
theorem rightAt_zero' {l : List Pf} {k : Nat} (hk : k = 0) (h : k < l.length) : rightAt l k = rightP l[k] := by
  subst hk; exact rightAt_zero h
theorem rightAt_succ {l : List Pf} {k : Nat} (h : k + 1 < l.length) : rightAt l (k + 1) = (rightP l[k + 1] && before l[k] l[k + 1]) := by
  rw [Bool.eq_iff_iff, rightAt_iff h]; simp
theorem rightL_false {l : List Pf} {k : Nat} (h : k < l.length) (hc : rightAt l k = false) : rightL l = false := by
  rw [Bool.eq_false_iff]; intro ht
  rw [rightL_at.1 ht k h] at hc; cases hc

set_option maxRecDepth 100000 in
set_option maxHeartbeats 2000000 in
theorem rightL_any (v : Value) (l : List Pf) (w : World) (h : PfsAt w v l) (hn : l.length ≤ 1000000) :
    Calls Try.prog 30 #[v] w fun e w' => e = .returned (.bool (rightL l)) ∧ Below w.heap.size w w' := by
  obtain ⟨ao, cap, hv⟩ := elems_slice h
  have HV := Lib.hid h
  subst hv
  clear h
  go_enter Try.func30, Try.ntmps30
  go_wp2_with fail
  go_loopw [7] (fun vi wr => ∃ k : Nat, k ≤ l.length ∧ vi = .int .i64 k ∧ (∀ i, i < k → rightAt l i = true) ∧ Below w.heap.size w wr) (fun vi _ => l.length - (intOf vi).toNat)
  case atStart => exact ⟨0, Nat.zero_le _, rfl, fun i h => by omega, Below.refl _ _⟩
  case round =>
    obtain ⟨k, hk, rfl, hall, hbel⟩ := hrel
    have HALL := Lib.hid hall
    have HBE := Lib.hid hbel
    clear hall hbel
    by_cases hlt : k < l.length
    · obtain ⟨b, off, cap', hve, hcs⟩ := pfs_cells HV.out (by omega)
      cases hve
      have hcm := (hcs k hlt).kept HBE.out
      have HCS := Lib.hid hcs
      clear hcs
      obtain ⟨p, hp⟩ : ∃ p, p = l[k] := ⟨_, rfl⟩
      rw [← hp] at hcm
      have HP := Lib.hid hp
      obtain ⟨rp, hrp⟩ : ∃ r, r = rightP p := ⟨_, rfl⟩
      have hright := rightP_any p
      rw [← hrp] at hright
      have HR := Lib.hid hright
      have HRP := Lib.hid hrp
      clear hp hrp hright
      have c0 := hcm.c0
      have c1 := hcm.c1
      have c2 := hcm.c2
      have c3 := hcm.c3
      have m1 : (k : Int) < (l.length : Int) := by omega
      have hbx : Below wr.heap.size wr (wr.alloc (.cells #[.int .u8 (p.1.1.toNat : Int), .int .u64 (p.1.2.1.toNat : Int), .int .u64 (p.1.2.2.toNat : Int), .int .i64 p.2] 27)) := (Below.refl _ _).alloc (Nat.le_refl _) _
      have HBX := Lib.hid hbx
      have hpx := boxP (p := p) (heap_alloc_new wr (.cells #[.int .u8 (p.1.1.toNat : Int), .int .u64 (p.1.2.1.toNat : Int), .int .u64 (p.1.2.2.toNat : Int), .int .i64 p.2] 27))
      have HPX := Lib.hid hpx
      clear hbx hpx hcm
      by_cases hk0 : k = 0
      · have z0 : decide (0 < k) = false := by simp [hk0]
        have HRA := Lib.hid (show rightAt l k = rp by rw [rightAt_zero' hk0 hlt, ← HP.out, HRP.out])
        clear hk0
        cases rp
        · go_wp2_with fail
          generalize wr.alloc (.cells #[.int .u8 (p.1.1.toNat : Int), .int .u64 (p.1.2.1.toNat : Int), .int .u64 (p.1.2.2.toNat : Int), .int .i64 p.2] 27) = W at *
          have hpx := HPX.out
          clear c0 c1 c2 c3
          have g0 : ∀ x : Later W.heap.size W, x.val.cell? ⟨wr.heap.size, 0, none⟩ = some (.int .u8 (p.1.1.toNat : Int)) := fun x => Later.cell hpx.c0 (World.block_lt_of_cell? _ _ hpx.c0) x
          have g1 : ∀ x : Later W.heap.size W, x.val.cell? ⟨wr.heap.size, 1, none⟩ = some (.int .u64 (p.1.2.1.toNat : Int)) := fun x => Later.cell hpx.c1 (World.block_lt_of_cell? _ _ hpx.c1) x
          have g2 : ∀ x : Later W.heap.size W, x.val.cell? ⟨wr.heap.size, 2, none⟩ = some (.int .u64 (p.1.2.2.toNat : Int)) := fun x => Later.cell hpx.c2 (World.block_lt_of_cell? _ _ hpx.c2) x
          have g3 : ∀ x : Later W.heap.size W, x.val.cell? ⟨wr.heap.size, 3, none⟩ = some (.int .i64 p.2) := fun x => Later.cell hpx.c3 (World.block_lt_of_cell? _ _ hpx.c3) x
          refine wp_region_later W.heap.size (by kernel_rfl) (by kernel_rfl) ?_
          repeat (go_big_quiet_step ((go_at_call 35; exact Later.calls (Nat.le_refl _) (HR.out _))))
          refine wpQuiet_nil ?_
          rintro w2 ⟨x, rfl⟩
          have HB2 := Lib.hid (below_step (below_step HBE.out HBX.out HBE.out.size) x.prop (Nat.le_trans HBE.out.size HBX.out.size))
          clear g0 g1 g2 g3 hpx
          go_wp2_with fail
          go_ret
          exact ⟨ret_bool (rightL_false hlt HRA.out).symm, HB2.out⟩
        · go_wp2_with fail
          generalize wr.alloc (.cells #[.int .u8 (p.1.1.toNat : Int), .int .u64 (p.1.2.1.toNat : Int), .int .u64 (p.1.2.2.toNat : Int), .int .i64 p.2] 27) = W at *
          have hpx := HPX.out
          clear c0 c1 c2 c3
          have g0 : ∀ x : Later W.heap.size W, x.val.cell? ⟨wr.heap.size, 0, none⟩ = some (.int .u8 (p.1.1.toNat : Int)) := fun x => Later.cell hpx.c0 (World.block_lt_of_cell? _ _ hpx.c0) x
          have g1 : ∀ x : Later W.heap.size W, x.val.cell? ⟨wr.heap.size, 1, none⟩ = some (.int .u64 (p.1.2.1.toNat : Int)) := fun x => Later.cell hpx.c1 (World.block_lt_of_cell? _ _ hpx.c1) x
          have g2 : ∀ x : Later W.heap.size W, x.val.cell? ⟨wr.heap.size, 2, none⟩ = some (.int .u64 (p.1.2.2.toNat : Int)) := fun x => Later.cell hpx.c2 (World.block_lt_of_cell? _ _ hpx.c2) x
          have g3 : ∀ x : Later W.heap.size W, x.val.cell? ⟨wr.heap.size, 3, none⟩ = some (.int .i64 p.2) := fun x => Later.cell hpx.c3 (World.block_lt_of_cell? _ _ hpx.c3) x
          refine wp_region_later W.heap.size (by kernel_rfl) (by kernel_rfl) ?_
          repeat (go_big_quiet_step ((go_at_call 35; exact Later.calls (Nat.le_refl _) (HR.out _))))
          refine wpQuiet_nil ?_
          rintro w2 ⟨x, rfl⟩
          have HB2 := Lib.hid (below_step (below_step HBE.out HBX.out HBE.out.size) x.prop (Nat.le_trans HBE.out.size HBX.out.size))
          clear g0 g1 g2 g3 hpx
          go_wp2_with fail
          go_roundw
          case rel => exact ⟨k + 1, hlt, by go_num, fun i hi => (Nat.lt_succ_iff_lt_or_eq.1 hi).elim (HALL.out i) (fun e => e ▸ HRA.out), HB2.out⟩
          case measure => simp [intOf]; omega
      · have hk1 : k - 1 + 1 = k := by omega
        have hkl : k - 1 < l.length := by omega
        have z0 : decide (0 < k) = true := by simp; omega
        have z1 : (0 : Int) < (k : Int) := by omega
        have z2 : (0 : Int) ≤ (k : Int) - 1 := by omega
        have z3 : ((k : Int) - 1).toNat = k - 1 := by omega
        have z4 : (k : Int) - 1 < (l.length : Int) := by omega
        have hcq := (HCS.out (k - 1) hkl).kept HBE.out
        have HRA := Lib.hid (show rightAt l k = (rightP l[k] && before l[k - 1] l[k]) by
          have := rightAt_succ (l := l) (k := k - 1) (by omega)
          simpa only [hk1] using this)
        obtain ⟨q, hq⟩ : ∃ q, q = l[k - 1] := ⟨_, rfl⟩
        rw [← hq, ← HP.out] at HRA
        rw [← hq] at hcq
        have hbef := before_any q p
        obtain ⟨bf, hbf⟩ : ∃ r, r = before q p := ⟨_, rfl⟩
        rw [← hbf] at hbef HRA
        rw [← HRP.out] at HRA
        have HBF := Lib.hid hbef
        have HCQ := Lib.hid (hcq.kept HBX.out)
        clear hk0 hk1 hq hbf hbef hcq
        cases rp
        · go_wp2_with fail
          generalize wr.alloc (.cells #[.int .u8 (p.1.1.toNat : Int), .int .u64 (p.1.2.1.toNat : Int), .int .u64 (p.1.2.2.toNat : Int), .int .i64 p.2] 27) = W at *
          have hpx := HPX.out
          have hqx := HCQ.out
          clear c0 c1 c2 c3
          have g0 : ∀ x : Later W.heap.size W, x.val.cell? ⟨wr.heap.size, 0, none⟩ = some (.int .u8 (p.1.1.toNat : Int)) := fun x => Later.cell hpx.c0 (World.block_lt_of_cell? _ _ hpx.c0) x
          have g1 : ∀ x : Later W.heap.size W, x.val.cell? ⟨wr.heap.size, 1, none⟩ = some (.int .u64 (p.1.2.1.toNat : Int)) := fun x => Later.cell hpx.c1 (World.block_lt_of_cell? _ _ hpx.c1) x
          have g2 : ∀ x : Later W.heap.size W, x.val.cell? ⟨wr.heap.size, 2, none⟩ = some (.int .u64 (p.1.2.2.toNat : Int)) := fun x => Later.cell hpx.c2 (World.block_lt_of_cell? _ _ hpx.c2) x
          have g3 : ∀ x : Later W.heap.size W, x.val.cell? ⟨wr.heap.size, 3, none⟩ = some (.int .i64 p.2) := fun x => Later.cell hpx.c3 (World.block_lt_of_cell? _ _ hpx.c3) x
          have d0 : ∀ x : Later W.heap.size W, x.val.cell? ⟨b, off + (k - 1) * 4, none⟩ = some (.int .u8 (q.1.1.toNat : Int)) := fun x => Later.cell hqx.c0 (World.block_lt_of_cell? _ _ hqx.c0) x
          have d1 : ∀ x : Later W.heap.size W, x.val.cell? ⟨b, off + (k - 1) * 4 + 1, none⟩ = some (.int .u64 (q.1.2.1.toNat : Int)) := fun x => Later.cell hqx.c1 (World.block_lt_of_cell? _ _ hqx.c1) x
          have d2 : ∀ x : Later W.heap.size W, x.val.cell? ⟨b, off + (k - 1) * 4 + 2, none⟩ = some (.int .u64 (q.1.2.2.toNat : Int)) := fun x => Later.cell hqx.c2 (World.block_lt_of_cell? _ _ hqx.c2) x
          have d3 : ∀ x : Later W.heap.size W, x.val.cell? ⟨b, off + (k - 1) * 4 + 3, none⟩ = some (.int .i64 q.2) := fun x => Later.cell hqx.c3 (World.block_lt_of_cell? _ _ hqx.c3) x
          refine wp_region_later W.heap.size (by kernel_rfl) (by kernel_rfl) ?_
          repeat (go_big_quiet_step ((go_at_call 35; exact Later.calls (Nat.le_refl _) (HR.out _))))
          refine wpQuiet_nil ?_
          rintro w2 ⟨x, rfl⟩
          have HB2 := Lib.hid (below_step (below_step HBE.out HBX.out HBE.out.size) x.prop (Nat.le_trans HBE.out.size HBX.out.size))
          clear g0 g1 g2 g3 hpx d0 d1 d2 d3 hqx
          go_wp2_with fail
          go_ret
          exact ⟨ret_bool (rightL_false hlt HRA.out).symm, HB2.out⟩
        · cases bf
          · go_wp2_with fail
            generalize wr.alloc (.cells #[.int .u8 (p.1.1.toNat : Int), .int .u64 (p.1.2.1.toNat : Int), .int .u64 (p.1.2.2.toNat : Int), .int .i64 p.2] 27) = W at *
            have hpx := HPX.out
            have hqx := HCQ.out
            clear c0 c1 c2 c3
            have g0 : ∀ x : Later W.heap.size W, x.val.cell? ⟨wr.heap.size, 0, none⟩ = some (.int .u8 (p.1.1.toNat : Int)) := fun x => Later.cell hpx.c0 (World.block_lt_of_cell? _ _ hpx.c0) x
            have g1 : ∀ x : Later W.heap.size W, x.val.cell? ⟨wr.heap.size, 1, none⟩ = some (.int .u64 (p.1.2.1.toNat : Int)) := fun x => Later.cell hpx.c1 (World.block_lt_of_cell? _ _ hpx.c1) x
            have g2 : ∀ x : Later W.heap.size W, x.val.cell? ⟨wr.heap.size, 2, none⟩ = some (.int .u64 (p.1.2.2.toNat : Int)) := fun x => Later.cell hpx.c2 (World.block_lt_of_cell? _ _ hpx.c2) x
            have g3 : ∀ x : Later W.heap.size W, x.val.cell? ⟨wr.heap.size, 3, none⟩ = some (.int .i64 p.2) := fun x => Later.cell hpx.c3 (World.block_lt_of_cell? _ _ hpx.c3) x
            have d0 : ∀ x : Later W.heap.size W, x.val.cell? ⟨b, off + (k - 1) * 4, none⟩ = some (.int .u8 (q.1.1.toNat : Int)) := fun x => Later.cell hqx.c0 (World.block_lt_of_cell? _ _ hqx.c0) x
            have d1 : ∀ x : Later W.heap.size W, x.val.cell? ⟨b, off + (k - 1) * 4 + 1, none⟩ = some (.int .u64 (q.1.2.1.toNat : Int)) := fun x => Later.cell hqx.c1 (World.block_lt_of_cell? _ _ hqx.c1) x
            have d2 : ∀ x : Later W.heap.size W, x.val.cell? ⟨b, off + (k - 1) * 4 + 2, none⟩ = some (.int .u64 (q.1.2.2.toNat : Int)) := fun x => Later.cell hqx.c2 (World.block_lt_of_cell? _ _ hqx.c2) x
            have d3 : ∀ x : Later W.heap.size W, x.val.cell? ⟨b, off + (k - 1) * 4 + 3, none⟩ = some (.int .i64 q.2) := fun x => Later.cell hqx.c3 (World.block_lt_of_cell? _ _ hqx.c3) x
            refine wp_region_later W.heap.size (by kernel_rfl) (by kernel_rfl) ?_
            repeat (go_big_quiet_step ((first | (go_at_call 35; exact Later.calls (Nat.le_refl _) (HR.out _)) | (go_at_call 24; exact Later.calls (Nat.le_refl _) (HBF.out _)))))
            refine wpQuiet_nil ?_
            rintro w2 ⟨x, rfl⟩
            have HB2 := Lib.hid (below_step (below_step HBE.out HBX.out HBE.out.size) x.prop (Nat.le_trans HBE.out.size HBX.out.size))
            clear g0 g1 g2 g3 hpx d0 d1 d2 d3 hqx
            go_wp2_with fail
            go_ret
            exact ⟨ret_bool (rightL_false hlt HRA.out).symm, HB2.out⟩
          · go_wp2_with fail
            generalize wr.alloc (.cells #[.int .u8 (p.1.1.toNat : Int), .int .u64 (p.1.2.1.toNat : Int), .int .u64 (p.1.2.2.toNat : Int), .int .i64 p.2] 27) = W at *
            have hpx := HPX.out
            have hqx := HCQ.out
            clear c0 c1 c2 c3
            have g0 : ∀ x : Later W.heap.size W, x.val.cell? ⟨wr.heap.size, 0, none⟩ = some (.int .u8 (p.1.1.toNat : Int)) := fun x => Later.cell hpx.c0 (World.block_lt_of_cell? _ _ hpx.c0) x
            have g1 : ∀ x : Later W.heap.size W, x.val.cell? ⟨wr.heap.size, 1, none⟩ = some (.int .u64 (p.1.2.1.toNat : Int)) := fun x => Later.cell hpx.c1 (World.block_lt_of_cell? _ _ hpx.c1) x
            have g2 : ∀ x : Later W.heap.size W, x.val.cell? ⟨wr.heap.size, 2, none⟩ = some (.int .u64 (p.1.2.2.toNat : Int)) := fun x => Later.cell hpx.c2 (World.block_lt_of_cell? _ _ hpx.c2) x
            have g3 : ∀ x : Later W.heap.size W, x.val.cell? ⟨wr.heap.size, 3, none⟩ = some (.int .i64 p.2) := fun x => Later.cell hpx.c3 (World.block_lt_of_cell? _ _ hpx.c3) x
            have d0 : ∀ x : Later W.heap.size W, x.val.cell? ⟨b, off + (k - 1) * 4, none⟩ = some (.int .u8 (q.1.1.toNat : Int)) := fun x => Later.cell hqx.c0 (World.block_lt_of_cell? _ _ hqx.c0) x
            have d1 : ∀ x : Later W.heap.size W, x.val.cell? ⟨b, off + (k - 1) * 4 + 1, none⟩ = some (.int .u64 (q.1.2.1.toNat : Int)) := fun x => Later.cell hqx.c1 (World.block_lt_of_cell? _ _ hqx.c1) x
            have d2 : ∀ x : Later W.heap.size W, x.val.cell? ⟨b, off + (k - 1) * 4 + 2, none⟩ = some (.int .u64 (q.1.2.2.toNat : Int)) := fun x => Later.cell hqx.c2 (World.block_lt_of_cell? _ _ hqx.c2) x
            have d3 : ∀ x : Later W.heap.size W, x.val.cell? ⟨b, off + (k - 1) * 4 + 3, none⟩ = some (.int .i64 q.2) := fun x => Later.cell hqx.c3 (World.block_lt_of_cell? _ _ hqx.c3) x
            refine wp_region_later W.heap.size (by kernel_rfl) (by kernel_rfl) ?_
            repeat (go_big_quiet_step ((first | (go_at_call 35; exact Later.calls (Nat.le_refl _) (HR.out _)) | (go_at_call 24; exact Later.calls (Nat.le_refl _) (HBF.out _)))))
            refine wpQuiet_nil ?_
            rintro w2 ⟨x, rfl⟩
            have HB2 := Lib.hid (below_step (below_step HBE.out HBX.out HBE.out.size) x.prop (Nat.le_trans HBE.out.size HBX.out.size))
            clear g0 g1 g2 g3 hpx d0 d1 d2 d3 hqx
            go_wp2_with fail
            go_roundw
            case rel => exact ⟨k + 1, hlt, by go_num, fun i hi => (Nat.lt_succ_iff_lt_or_eq.1 hi).elim (HALL.out i) (fun e => e ▸ HRA.out), HB2.out⟩
            case measure => simp [intOf]; omega
    · have HX := Lib.hid (show rightL l = true from rightL_at.2 fun i hi => HALL.out i (by omega))
      go_wp2_with fail
      go_ret
      exact ⟨ret_bool HX.out.symm, HBE.out⟩
end Go.Proofs.Try.Pfx
