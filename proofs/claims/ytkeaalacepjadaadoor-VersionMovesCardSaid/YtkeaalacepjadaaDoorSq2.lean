/- Heap sort of numbers. -/
import Derived.Test.YtkeaalacepjadaaDoorSq1
set_option linter.unusedVariables false
set_option linter.unusedSimpArgs false
set_option maxRecDepth 100000
namespace Go.Proofs.Tryd.Sq
open Go.RowKit Go.Cph Go.Sort

theorem size_sift (lt : UInt64 → UInt64 → Bool) (hi first : Nat) : ∀ (k root : Nat) (d : Array UInt64), hi - root ≤ k → (siftDown lt hi first root d).size = d.size := by
  intro k
  induction k with
  | zero =>
    intro root d h
    unfold siftDown
    rw [dif_pos (by omega)]
  | succ k ih =>
    intro root d h
    unfold siftDown
    split
    · rfl
    · split
      · split
        · rfl
        · split
          · rw [ih _ _ (by omega), size_swp]
          · rfl
      · split
        · rfl
        · rw [ih _ _ (by omega), size_swp]

set_option maxHeartbeats 16000000 in
theorem sift {base g n cap : Nat} (lo hi first : Nat) (d : Array UInt64) (w0 w : World) (h : Ro w0 base g n cap d w) (hlo : lo ≤ hi) (hfh : first + hi ≤ n) (hn : n ≤ 1000000) :
    Calls Tryd.prog 79 #[.slice (some ⟨g, 0, none⟩) n cap, .int .i64 lo, .int .i64 hi, .int .i64 first] w (RoPost w0 base g n cap (siftDown ltU hi first lo d)) := by
  have HR := Lib.hid h
  clear h
  go_enter Tryd.func79, Tryd.ntmps79
  go_wp2_with fail
  go_loopw [8] (fun v8 W => ∃ (r : Nat) (e : Array UInt64), v8 = .int .i64 (r : Int) ∧ r ≤ hi ∧ Hid (siftDown ltU hi first r e = siftDown ltU hi first lo d) ∧ Ro w0 base g n cap e W) (fun v8 _ => hi - (intOf v8).toNat)
  case atStart => exact ⟨lo, d, rfl, hlo, Lib.hid rfl, HR.out⟩
  case round =>
    obtain ⟨r, e, rfl, hrh, HO, hr⟩ := hrel
    have HRE := Lib.hid hr
    clear hr
    obtain ⟨c, hc⟩ : ∃ c, c = 2 * r + 1 := ⟨_, rfl⟩
    have HC := Lib.hid hc
    have k1 : IntKind.i64.wrap (2 * (r : Int)) = 2 * (r : Int) := by rw [IntKind.wrap_i64]; omega
    have k2 : IntKind.i64.wrap (2 * (r : Int) + 1) = (c : Int) := by rw [IntKind.wrap_i64]; omega
    have k3 : 2 * (r : Int) + 1 = (c : Int) := by omega
    by_cases hch : c < hi
    · have m1 : ¬ ((c : Int) ≥ (hi : Int)) := by omega
      obtain ⟨q0, hq0⟩ : ∃ q, q = first + r := ⟨_, rfl⟩
      have HQ0 := Lib.hid hq0
      have hrh2 : r < hi := by omega
      clear hq0
      by_cases hc2 : c + 1 < hi
      · obtain ⟨p1, hp1⟩ : ∃ p, p = first + c := ⟨_, rfl⟩
        obtain ⟨p2, hp2⟩ : ∃ p, p = p1 + 1 := ⟨_, rfl⟩
        obtain ⟨c2, hcc2⟩ : ∃ p, p = c + 1 := ⟨_, rfl⟩
        have HP1 := Lib.hid hp1
        have HP2 := Lib.hid hp2
        have HC2 := Lib.hid hcc2
        have u1 : IntKind.i64.wrap ((c : Int) + 1) = (c2 : Int) := by rw [IntKind.wrap_i64]; omega
        have u2 : IntKind.i64.wrap ((first : Int) + (c : Int)) = (p1 : Int) := by rw [IntKind.wrap_i64]; omega
        have u3 : IntKind.i64.wrap ((p1 : Int) + 1) = (p2 : Int) := by rw [IntKind.wrap_i64]; omega
        have u4 : decide (c2 < hi) = true := by rw [decide_eq_true_eq]; omega
        have u5 : (c2 : Int) < (hi : Int) := by omega
        have hp1n : p1 < n := by omega
        have hp2n : p2 < n := by omega
        have hc2h : c2 < hi := by omega
        clear hp1 hp2 hcc2 hc
        obtain ⟨xq, hxq⟩ : ∃ x, x = e[p1]! := ⟨_, rfl⟩
        obtain ⟨yq, hyq⟩ : ∃ y, y = e[p2]! := ⟨_, rfl⟩
        have cz1 : ∀ zz : Later wr.heap.size wr, zz.val.cell? ⟨g, p1, none⟩ = some (.int .u64 (xq.toNat : Int)) := fun zz => cell_kept zz.prop (by rw [hxq]; exact HRE.out.cell (hp1n))
        have cz2 : ∀ zz : Later wr.heap.size wr, zz.val.cell? ⟨g, p2, none⟩ = some (.int .u64 (yq.toNat : Int)) := fun zz => cell_kept zz.prop (by rw [hyq]; exact HRE.out.cell (hp2n))
        have HLq := Lib.hid (fun W => less_any xq yq W)
        obtain ⟨q, hq⟩ : ∃ b, b = ltU xq yq := ⟨_, rfl⟩
        rw [← hq] at HLq
        rw [hxq, hyq] at hq
        have Hq := Lib.hid hq
        have pz1 : (p1 : Int) < (n : Int) := by have := hp1n; omega
        have pz2 : (p2 : Int) < (n : Int) := by have := hp2n; omega
        have pz3 : (0 : Int) ≤ (p1 : Int) := by omega
        have pz4 : (0 : Int) ≤ (p2 : Int) := by omega
        clear hxq hyq hq
        go_wp2_with fail
        refine wp_region_later wr.heap.size (by kernel_rfl) (by kernel_rfl) ?_
        repeat (go_big_quiet_step ((go_at_call 72; exact Later.calls (Nat.le_refl _) (HLq.out _))))
        refine wpQuiet_nil ?_
        rintro w5 ⟨zz, rfl⟩
        have HR5 := Lib.hid (HRE.out.later zz.prop)
        clear cz1 cz2 pz1 pz2 pz3 pz4 HLq
        generalize zz.val = w5 at *
        cases q
        · have HN := Lib.hid (show siftDown ltU hi first r e = if !ltU e[first + r]! e[first + c]! then e else siftDown ltU hi first c (swp e (first + r) (first + c)) from by
            conv => lhs; unfold siftDown
            have hq := Hq.out
            rw [HP2.out, HP1.out, HC.out] at hq
            rw [dif_neg (by have := HC.out; omega), if_neg (by rw [← hq]; simp), ← HC.out])
          clear u1 u2 u3 u4 u5
          obtain ⟨pc, hpc⟩ : ∃ p, p = first + c := ⟨_, rfl⟩
          have HPC := Lib.hid hpc
          have w1 : IntKind.i64.wrap ((first : Int) + (r : Int)) = (q0 : Int) := by have := HQ0.out; rw [IntKind.wrap_i64]; omega
          have w2 : IntKind.i64.wrap ((first : Int) + (c : Int)) = (pc : Int) := by rw [IntKind.wrap_i64]; omega
          have hq0n : q0 < n := by have := HQ0.out; omega
          have hpcn : pc < n := by omega
          clear hpc
          obtain ⟨xz, hxz⟩ : ∃ x, x = e[q0]! := ⟨_, rfl⟩
          obtain ⟨yz, hyz⟩ : ∃ y, y = e[pc]! := ⟨_, rfl⟩
          have cz1 : ∀ zz : Later w5.heap.size w5, zz.val.cell? ⟨g, q0, none⟩ = some (.int .u64 (xz.toNat : Int)) := fun zz => cell_kept zz.prop (by rw [hxz]; exact HR5.out.cell (hq0n))
          have cz2 : ∀ zz : Later w5.heap.size w5, zz.val.cell? ⟨g, pc, none⟩ = some (.int .u64 (yz.toNat : Int)) := fun zz => cell_kept zz.prop (by rw [hyz]; exact HR5.out.cell (hpcn))
          have HLz := Lib.hid (fun W => less_any xz yz W)
          obtain ⟨z, hz⟩ : ∃ b, b = ltU xz yz := ⟨_, rfl⟩
          rw [← hz] at HLz
          rw [hxz, hyz] at hz
          have Hz := Lib.hid hz
          have pz1 : (q0 : Int) < (n : Int) := by have := hq0n; omega
          have pz2 : (pc : Int) < (n : Int) := by have := hpcn; omega
          have pz3 : (0 : Int) ≤ (q0 : Int) := by omega
          have pz4 : (0 : Int) ≤ (pc : Int) := by omega
          clear hxz hyz hz
          go_wp2_with fail
          refine wp_region_later w5.heap.size (by kernel_rfl) (by kernel_rfl) ?_
          repeat (go_big_quiet_step ((go_at_call 72; exact Later.calls (Nat.le_refl _) (HLz.out _))))
          refine wpQuiet_nil ?_
          rintro w7 ⟨zz, rfl⟩
          have HR7 := Lib.hid (HR5.out.later zz.prop)
          clear cz1 cz2 pz1 pz2 pz3 pz4 HLz
          generalize zz.val = w7 at *
          cases z
          · have HE := Lib.hid (show siftDown ltU hi first lo d = e from by rw [← HO.out, HN.out, HQ0.out.symm, HPC.out.symm, ← Hz.out]; rfl)
            clear w1 w2
            go_wp2_with fail
            go_end0
            exact ⟨rfl, HR7.out.to HE.out.symm⟩
          · have HE := Lib.hid (show siftDown ltU hi first c (swp e q0 pc) = siftDown ltU hi first lo d from by rw [← HO.out, HN.out, HQ0.out.symm, HPC.out.symm, ← Hz.out]; rfl)
            obtain ⟨xs, hxs⟩ : ∃ x, x = e[q0]! := ⟨_, rfl⟩
            obtain ⟨ys, hys⟩ : ∃ y, y = e[pc]! := ⟨_, rfl⟩
            have cz1 : w7.cell? ⟨g, q0, none⟩ = some (.int .u64 (xs.toNat : Int)) := by rw [hxs]; exact HR7.out.cell (hq0n)
            have cz2 : w7.cell? ⟨g, pc, none⟩ = some (.int .u64 (ys.toNat : Int)) := by rw [hys]; exact HR7.out.cell (hpcn)
            have cz3 := HR7.out.put_cell (hq0n) (hpcn) hys
            have HSX := Lib.hid hxs
            have HSY := Lib.hid hys
            have pz1 : (q0 : Int) < (n : Int) := by have := hq0n; omega
            have pz2 : (pc : Int) < (n : Int) := by have := hpcn; omega
            have pz3 : (0 : Int) ≤ (q0 : Int) := by omega
            have pz4 : (0 : Int) ≤ (pc : Int) := by omega
            have fz : ∀ o, w7.frozen? ⟨g, o, none⟩ = false := fun o => HR7.out.free o
            clear hxs hys
            go_wp2_with fail
            go_region
            have HR8 := Lib.hid ((HR7.out.put2 (hq0n) (hpcn) HSX.out HSY.out).drew)
            clear cz1 cz2 cz3 pz1 pz2 pz3 pz4 fz HSX HSY
            clear w1 w2
            go_wp2_with fail
            go_roundw
            case rel => exact ⟨c, swp e q0 pc, by first | rfl | go_num, by have := HC.out; omega, HE, HR8.out⟩
            case measure => simp [intOf]; have := HC.out; omega
        · have HN := Lib.hid (show siftDown ltU hi first r e = if !ltU e[first + r]! e[first + c2]! then e else siftDown ltU hi first c2 (swp e (first + r) (first + c2)) from by
            conv => lhs; unfold siftDown
            have hq := Hq.out
            have hc2h := hc2h
            rw [HP2.out, HP1.out, HC.out] at hq
            rw [HC2.out, HC.out] at hc2h ⊢
            rw [dif_neg (by omega), if_pos (by rw [← hq]; simp; omega), dif_pos (by omega)])
          clear u2 u3 u4 u5
          obtain ⟨pc, hpc⟩ : ∃ p, p = first + c2 := ⟨_, rfl⟩
          have HPC := Lib.hid hpc
          have w1 : IntKind.i64.wrap ((first : Int) + (r : Int)) = (q0 : Int) := by have := HQ0.out; rw [IntKind.wrap_i64]; omega
          have w2 : IntKind.i64.wrap ((first : Int) + (c2 : Int)) = (pc : Int) := by rw [IntKind.wrap_i64]; omega
          have hq0n : q0 < n := by have := HQ0.out; omega
          have hpcn : pc < n := by omega
          clear hpc
          obtain ⟨xz, hxz⟩ : ∃ x, x = e[q0]! := ⟨_, rfl⟩
          obtain ⟨yz, hyz⟩ : ∃ y, y = e[pc]! := ⟨_, rfl⟩
          have cz1 : ∀ zz : Later w5.heap.size w5, zz.val.cell? ⟨g, q0, none⟩ = some (.int .u64 (xz.toNat : Int)) := fun zz => cell_kept zz.prop (by rw [hxz]; exact HR5.out.cell (hq0n))
          have cz2 : ∀ zz : Later w5.heap.size w5, zz.val.cell? ⟨g, pc, none⟩ = some (.int .u64 (yz.toNat : Int)) := fun zz => cell_kept zz.prop (by rw [hyz]; exact HR5.out.cell (hpcn))
          have HLz := Lib.hid (fun W => less_any xz yz W)
          obtain ⟨z, hz⟩ : ∃ b, b = ltU xz yz := ⟨_, rfl⟩
          rw [← hz] at HLz
          rw [hxz, hyz] at hz
          have Hz := Lib.hid hz
          have pz1 : (q0 : Int) < (n : Int) := by have := hq0n; omega
          have pz2 : (pc : Int) < (n : Int) := by have := hpcn; omega
          have pz3 : (0 : Int) ≤ (q0 : Int) := by omega
          have pz4 : (0 : Int) ≤ (pc : Int) := by omega
          clear hxz hyz hz
          go_wp2_with fail
          refine wp_region_later w5.heap.size (by kernel_rfl) (by kernel_rfl) ?_
          repeat (go_big_quiet_step ((go_at_call 72; exact Later.calls (Nat.le_refl _) (HLz.out _))))
          refine wpQuiet_nil ?_
          rintro w7 ⟨zz, rfl⟩
          have HR7 := Lib.hid (HR5.out.later zz.prop)
          clear cz1 cz2 pz1 pz2 pz3 pz4 HLz
          generalize zz.val = w7 at *
          cases z
          · have HE := Lib.hid (show siftDown ltU hi first lo d = e from by rw [← HO.out, HN.out, HQ0.out.symm, HPC.out.symm, ← Hz.out]; rfl)
            clear w1 w2
            go_wp2_with fail
            go_end0
            exact ⟨rfl, HR7.out.to HE.out.symm⟩
          · have HE := Lib.hid (show siftDown ltU hi first c2 (swp e q0 pc) = siftDown ltU hi first lo d from by rw [← HO.out, HN.out, HQ0.out.symm, HPC.out.symm, ← Hz.out]; rfl)
            obtain ⟨xs, hxs⟩ : ∃ x, x = e[q0]! := ⟨_, rfl⟩
            obtain ⟨ys, hys⟩ : ∃ y, y = e[pc]! := ⟨_, rfl⟩
            have cz1 : w7.cell? ⟨g, q0, none⟩ = some (.int .u64 (xs.toNat : Int)) := by rw [hxs]; exact HR7.out.cell (hq0n)
            have cz2 : w7.cell? ⟨g, pc, none⟩ = some (.int .u64 (ys.toNat : Int)) := by rw [hys]; exact HR7.out.cell (hpcn)
            have cz3 := HR7.out.put_cell (hq0n) (hpcn) hys
            have HSX := Lib.hid hxs
            have HSY := Lib.hid hys
            have pz1 : (q0 : Int) < (n : Int) := by have := hq0n; omega
            have pz2 : (pc : Int) < (n : Int) := by have := hpcn; omega
            have pz3 : (0 : Int) ≤ (q0 : Int) := by omega
            have pz4 : (0 : Int) ≤ (pc : Int) := by omega
            have fz : ∀ o, w7.frozen? ⟨g, o, none⟩ = false := fun o => HR7.out.free o
            clear hxs hys
            go_wp2_with fail
            go_region
            have HR8 := Lib.hid ((HR7.out.put2 (hq0n) (hpcn) HSX.out HSY.out).drew)
            clear cz1 cz2 cz3 pz1 pz2 pz3 pz4 fz HSX HSY
            clear w1 w2
            go_wp2_with fail
            go_roundw
            case rel => exact ⟨c2, swp e q0 pc, by first | rfl | go_num, by have := HC.out; have := HC2.out; omega, HE, HR8.out⟩
            case measure => simp [intOf]; have := HC.out; have := HC2.out; omega
      · obtain ⟨c2, hcc2⟩ : ∃ p, p = c + 1 := ⟨_, rfl⟩
        have HC2 := Lib.hid hcc2
        have u1 : IntKind.i64.wrap ((c : Int) + 1) = (c2 : Int) := by rw [IntKind.wrap_i64]; omega
        have u4 : decide (c2 < hi) = false := by rw [decide_eq_false_iff_not]; omega
        have u5 : ¬ ((c2 : Int) < (hi : Int)) := by omega
        have u6 : decide ((c2 : Int) < (hi : Int)) = false := by rw [decide_eq_false_iff_not]; omega
        have HN := Lib.hid (show siftDown ltU hi first r e = if !ltU e[first + r]! e[first + c]! then e else siftDown ltU hi first c (swp e (first + r) (first + c)) from by
          conv => lhs; unfold siftDown
          rw [dif_neg (by have := HC.out; omega), if_neg (by simp; intro h; have := HC.out; omega), ← HC.out])
        clear hc hc2 hcc2
        go_wp2_with fail
        go_quiet (fail)
        obtain ⟨w5, hw5⟩ : ∃ w5, w5 = wr.drewN nq := ⟨_, rfl⟩
        have HR5 := Lib.hid (show Ro w0 base g n cap e w5 from by rw [hw5]; exact HRE.out.drewN _)
        rw [← hw5]
        clear hw5 u1 u4 u5 u6
        obtain ⟨pc, hpc⟩ : ∃ p, p = first + c := ⟨_, rfl⟩
        have HPC := Lib.hid hpc
        have w1 : IntKind.i64.wrap ((first : Int) + (r : Int)) = (q0 : Int) := by have := HQ0.out; rw [IntKind.wrap_i64]; omega
        have w2 : IntKind.i64.wrap ((first : Int) + (c : Int)) = (pc : Int) := by rw [IntKind.wrap_i64]; omega
        have hq0n : q0 < n := by have := HQ0.out; omega
        have hpcn : pc < n := by omega
        clear hpc
        obtain ⟨xz, hxz⟩ : ∃ x, x = e[q0]! := ⟨_, rfl⟩
        obtain ⟨yz, hyz⟩ : ∃ y, y = e[pc]! := ⟨_, rfl⟩
        have cz1 : ∀ zz : Later w5.heap.size w5, zz.val.cell? ⟨g, q0, none⟩ = some (.int .u64 (xz.toNat : Int)) := fun zz => cell_kept zz.prop (by rw [hxz]; exact HR5.out.cell (hq0n))
        have cz2 : ∀ zz : Later w5.heap.size w5, zz.val.cell? ⟨g, pc, none⟩ = some (.int .u64 (yz.toNat : Int)) := fun zz => cell_kept zz.prop (by rw [hyz]; exact HR5.out.cell (hpcn))
        have HLz := Lib.hid (fun W => less_any xz yz W)
        obtain ⟨z, hz⟩ : ∃ b, b = ltU xz yz := ⟨_, rfl⟩
        rw [← hz] at HLz
        rw [hxz, hyz] at hz
        have Hz := Lib.hid hz
        have pz1 : (q0 : Int) < (n : Int) := by have := hq0n; omega
        have pz2 : (pc : Int) < (n : Int) := by have := hpcn; omega
        have pz3 : (0 : Int) ≤ (q0 : Int) := by omega
        have pz4 : (0 : Int) ≤ (pc : Int) := by omega
        clear hxz hyz hz
        go_wp2_with fail
        refine wp_region_later w5.heap.size (by kernel_rfl) (by kernel_rfl) ?_
        repeat (go_big_quiet_step ((go_at_call 72; exact Later.calls (Nat.le_refl _) (HLz.out _))))
        refine wpQuiet_nil ?_
        rintro w7 ⟨zz, rfl⟩
        have HR7 := Lib.hid (HR5.out.later zz.prop)
        clear cz1 cz2 pz1 pz2 pz3 pz4 HLz
        generalize zz.val = w7 at *
        cases z
        · have HE := Lib.hid (show siftDown ltU hi first lo d = e from by rw [← HO.out, HN.out, HQ0.out.symm, HPC.out.symm, ← Hz.out]; rfl)
          clear w1 w2
          go_wp2_with fail
          go_end0
          exact ⟨rfl, HR7.out.to HE.out.symm⟩
        · have HE := Lib.hid (show siftDown ltU hi first c (swp e q0 pc) = siftDown ltU hi first lo d from by rw [← HO.out, HN.out, HQ0.out.symm, HPC.out.symm, ← Hz.out]; rfl)
          obtain ⟨xs, hxs⟩ : ∃ x, x = e[q0]! := ⟨_, rfl⟩
          obtain ⟨ys, hys⟩ : ∃ y, y = e[pc]! := ⟨_, rfl⟩
          have cz1 : w7.cell? ⟨g, q0, none⟩ = some (.int .u64 (xs.toNat : Int)) := by rw [hxs]; exact HR7.out.cell (hq0n)
          have cz2 : w7.cell? ⟨g, pc, none⟩ = some (.int .u64 (ys.toNat : Int)) := by rw [hys]; exact HR7.out.cell (hpcn)
          have cz3 := HR7.out.put_cell (hq0n) (hpcn) hys
          have HSX := Lib.hid hxs
          have HSY := Lib.hid hys
          have pz1 : (q0 : Int) < (n : Int) := by have := hq0n; omega
          have pz2 : (pc : Int) < (n : Int) := by have := hpcn; omega
          have pz3 : (0 : Int) ≤ (q0 : Int) := by omega
          have pz4 : (0 : Int) ≤ (pc : Int) := by omega
          have fz : ∀ o, w7.frozen? ⟨g, o, none⟩ = false := fun o => HR7.out.free o
          clear hxs hys
          go_wp2_with fail
          go_region
          have HR8 := Lib.hid ((HR7.out.put2 (hq0n) (hpcn) HSX.out HSY.out).drew)
          clear cz1 cz2 cz3 pz1 pz2 pz3 pz4 fz HSX HSY
          clear w1 w2
          go_wp2_with fail
          go_roundw
          case rel => exact ⟨c, swp e q0 pc, by first | rfl | go_num, by have := HC.out; omega, HE, HR8.out⟩
          case measure => simp [intOf]; have := HC.out; omega
    · have m1 : (c : Int) ≥ (hi : Int) := by omega
      have HE := Lib.hid (show siftDown ltU hi first lo d = e from by
        rw [← HO.out]
        conv => lhs; unfold siftDown
        rw [dif_pos (by omega)])
      clear hc hch
      go_wp2_with fail
      go_end0
      exact ⟨rfl, HRE.out.to HE.out.symm⟩

set_option maxHeartbeats 16000000 in
theorem heap {base g n cap : Nat} (a b : Nat) (d : Array UInt64) (w0 w : World) (h : Ro w0 base g n cap d w) (hab : a < b) (hb : b ≤ n) (hn : n ≤ 1000000) :
    Calls Tryd.prog 67 #[.slice (some ⟨g, 0, none⟩) n cap, .int .i64 a, .int .i64 b] w (RoPost w0 base g n cap (heapSort ltU d a b)) := by
  have HR := Lib.hid h
  clear h
  obtain ⟨hi, hhi⟩ : ∃ h, h = b - a := ⟨_, rfl⟩
  have HH := Lib.hid hhi
  have h1 : IntKind.i64.wrap ((b : Int) - (a : Int)) = (hi : Int) := by rw [IntKind.wrap_i64]; omega
  have h1' : (b : Int) - (a : Int) = (hi : Int) := by omega
  obtain ⟨m0, hm0⟩ : ∃ h, h = hi - 1 := ⟨_, rfl⟩
  obtain ⟨k0, hk0⟩ : ∃ h, h = m0 / 2 := ⟨_, rfl⟩
  have HM0 := Lib.hid hm0
  have HK0 := Lib.hid hk0
  have h2 : IntKind.i64.wrap ((hi : Int) - 1) = (m0 : Int) := by rw [IntKind.wrap_i64]; omega
  have h2' : (hi : Int) - 1 = (m0 : Int) := by omega
  have h3 : (m0 : Int) / 2 = (k0 : Int) := by omega
  have h4 : Int.tdiv (m0 : Int) 2 = (k0 : Int) := by rw [Int.tdiv_eq_ediv_of_nonneg (by omega)]; omega
  have hh0 : 0 < hi := by omega
  have hhn : a + hi ≤ n := by omega
  clear hhi hk0 hm0
  go_enter Tryd.func67, Tryd.ntmps67
  go_wp2_with fail
  go_loopw [9] (fun v9 W => ∃ (k : Nat) (z : Int) (e : Array UInt64), v9 = .int .i64 z ∧ z = (k : Int) - 1 ∧ k ≤ k0 + 1 ∧ Hid (heapBuild ltU hi a k e = heapBuild ltU hi a (k0 + 1) d) ∧ Ro w0 base g n cap e W) (fun v9 _ => (intOf v9 + 1).toNat)
  case atStart => exact ⟨k0 + 1, k0, d, rfl, by omega, Nat.le_refl _, Lib.hid rfl, HR.out⟩
  case round =>
    obtain ⟨k, z, e, rfl, hz, hk, HB, hr⟩ := hrel
    have HRE := Lib.hid hr
    clear hr
    cases k with
    | succ j =>
      obtain rfl : z = (j : Int) := by omega
      have g1 : (j : Int) ≥ 0 := by omega
      have g2 : IntKind.i64.wrap ((j : Int) - 1) = (j : Int) - 1 := by rw [IntKind.wrap_i64]; omega
      have HS := Lib.hid (sift j hi a e w0 wr HRE.out (by have := HK0.out; have := HM0.out; omega) hhn hn)
      have HB2 := Lib.hid (show heapBuild ltU hi a j (siftDown ltU hi a j e) = heapBuild ltU hi a (k0 + 1) d from HB.out)
      clear hz
      go_wp2_with fail
      refine HS.out.mono ?_
      rintro v w2 ⟨rfl, hr⟩
      have HR2 := Lib.hid hr
      clear hr
      go_wp2_with fail
      go_roundw
      case rel => exact ⟨j, (j : Int) - 1, _, rfl, rfl, by omega, HB2, HR2.out⟩
      case measure => simp [intOf]
    | zero =>
      obtain rfl : z = -1 := by omega
      have HB2 := Lib.hid (show e = heapBuild ltU hi a (k0 + 1) d from HB.out)
      clear HB hz hk
      obtain ⟨wo, hwo⟩ : ∃ wo, wo = wr := ⟨_, rfl⟩
      subst hwo
      go_wp2_with fail
      go_loopw [10] (fun v10 W => ∃ (k : Nat) (z : Int) (f : Array UInt64), v10 = .int .i64 z ∧ z = (k : Int) - 1 ∧ k ≤ hi ∧ Hid (heapPop ltU a k f = heapPop ltU a hi e) ∧ Ro w0 base g n cap f W) (fun v10 _ => (intOf v10 + 1).toNat)
      case atStart => exact ⟨hi, m0, e, rfl, by have := HM0.out; omega, Nat.le_refl _, Lib.hid rfl, HRE.out⟩
      case round =>
        obtain ⟨k, z, f, rfl, hz, hk, HP, hr⟩ := hrel
        have HRF := Lib.hid hr
        clear hr
        cases k with
        | succ j =>
          obtain rfl : z = (j : Int) := by omega
          have g1 : (j : Int) ≥ 0 := by omega
          have g2 : IntKind.i64.wrap ((j : Int) - 1) = (j : Int) - 1 := by rw [IntKind.wrap_i64]; omega
          obtain ⟨p, hp⟩ : ∃ p, p = a + j := ⟨_, rfl⟩
          have HPP := Lib.hid hp
          have g3 : IntKind.i64.wrap ((a : Int) + (j : Int)) = (p : Int) := by rw [IntKind.wrap_i64]; omega
          have han : a < n := by omega
          have hpn : p < n := by omega
          have HP2 := Lib.hid (show heapPop ltU a j (siftDown ltU j a 0 (swp f a p)) = heapPop ltU a hi e from by rw [HPP.out]; exact HP.out)
          clear hz hp
          obtain ⟨xs, hxs⟩ : ∃ x, x = f[a]! := ⟨_, rfl⟩
          obtain ⟨ys, hys⟩ : ∃ y, y = f[p]! := ⟨_, rfl⟩
          have cz1 : wr.cell? ⟨g, a, none⟩ = some (.int .u64 (xs.toNat : Int)) := by rw [hxs]; exact HRF.out.cell (han)
          have cz2 : wr.cell? ⟨g, p, none⟩ = some (.int .u64 (ys.toNat : Int)) := by rw [hys]; exact HRF.out.cell (hpn)
          have cz3 := HRF.out.put_cell (han) (hpn) hys
          have HSX := Lib.hid hxs
          have HSY := Lib.hid hys
          have pz1 : (a : Int) < (n : Int) := by have := han; omega
          have pz2 : (p : Int) < (n : Int) := by have := hpn; omega
          have pz3 : (0 : Int) ≤ (a : Int) := by omega
          have pz4 : (0 : Int) ≤ (p : Int) := by omega
          have fz : ∀ o, wr.frozen? ⟨g, o, none⟩ = false := fun o => HRF.out.free o
          clear hxs hys
          go_wp2_with fail
          go_region
          have HR3 := Lib.hid ((HRF.out.put2 (han) (hpn) HSX.out HSY.out).drew)
          clear cz1 cz2 cz3 pz1 pz2 pz3 pz4 fz HSX HSY
          have HS := Lib.hid (show ∀ W, Ro w0 base g n cap (swp f a p) W → Calls Tryd.prog 79 #[.slice (some ⟨g, 0, none⟩) n cap, .int .i64 0, .int .i64 j, .int .i64 a] W (RoPost w0 base g n cap (siftDown ltU j a 0 (swp f a p))) from fun W hr => sift 0 j a (swp f a p) w0 W hr (Nat.zero_le _) (by have := HPP.out; omega) hn)
          clear g3
          go_wp2_with fail
          refine (HS.out _ HR3.out).mono ?_
          rintro v w4 ⟨rfl, hr⟩
          have HR4 := Lib.hid hr
          clear hr
          go_wp2_with fail
          go_roundw
          case rel => exact ⟨j, (j : Int) - 1, _, rfl, rfl, by omega, HP2, HR4.out⟩
          case measure => simp [intOf]
        | zero =>
          obtain rfl : z = -1 := by omega
          have HE := Lib.hid (show f = heapSort ltU d a b from by
            have h := HP.out
            rw [HB2.out] at h
            unfold heapSort
            rw [← HH.out, ← HM0.out, ← HK0.out, ← h]
            rfl)
          clear hz hk
          go_wp2_with fail
          go_end0
          exact ⟨rfl, HRF.out.to HE.out⟩
end Go.Proofs.Tryd.Sq
