/- The program's prefixes: has, within, meets (turned from pools' PxG). -/
import Derived.Test.YtmjjhnfdpiclfaaGreatDoorMC
set_option linter.unusedVariables false
set_option linter.unusedSimpArgs false
namespace Go.Proofs.Tryz.Pfx
open Go.RowKit Go.Cph Go.Cph.Px
set_option maxHeartbeats 1000000 in
theorem hasP_any (p : Pf) (a : Ad) (w : World) : Calls Tryz.prog 23 #[encP p, encA a] w fun e w' => e = .returned (.bool (hasP p a)) ∧ Below w.heap.size w w' := by
  have HC := Lib.hid (cut_any a p.2)
  have HV := Lib.hid (hasP_cut p a)
  obtain ⟨c, hcp⟩ : ∃ c, c = cutP a p.2 := ⟨_, rfl⟩
  obtain ⟨r, hr⟩ : ∃ r, r = fits a p.2 := ⟨_, rfl⟩
  have HCP := Lib.hid hcp
  have HR := Lib.hid hr
  have HE := Lib.hid (show cutE a p.2 = if r then 0 else 1 by rw [hr]; rfl)
  clear hcp hr
  obtain ⟨⟨f, hi, lo⟩, bits⟩ := p
  obtain ⟨⟨g, hj, lp⟩, cb⟩ := c
  obtain ⟨af, ah, al⟩ := a
  have hbx : Below w.heap.size w ((w.alloc (.cells #[.int .u8 (f.toNat : Int), .int .u64 (hi.toNat : Int), .int .u64 (lo.toNat : Int), .int .i64 bits] 26)).alloc (.cells #[.int .u8 (af.toNat : Int), .int .u64 (ah.toNat : Int), .int .u64 (al.toNat : Int)] 24)) := ((Below.refl _ _).alloc (Nat.le_refl _) _).alloc (by simp) _
  have HBX := Lib.hid hbx
  clear hbx
  cases r
  all_goals
    go_enter Tryz.func23, Tryz.ntmps23
    go_wp2_with fail
    refine (HC.out _).mono ?_
    rintro e w1 ⟨rfl, hb⟩
    have HB := Lib.hid (below_step HBX.out hb HBX.out.size)
    obtain ⟨hc, hf⟩ := bcell hb
    have hz : w.heap.size + 1 < w1.heap.size := by have := hb.size; simp at this; omega
    have hz2 : w.heap.size < w1.heap.size := by omega
    clear hb
    rw [HE.out, ← HCP.out]
    go_wp2_with fail
    all_goals
      go_ret
      refine ⟨ret_bool ?_, HB.out.alloc HB.out.size _⟩
      rw [HV.out, ← HR.out, ← HCP.out, Bool.eq_iff_iff, Bool.and_eq_true, pf_eq]
      simp
      try omega

set_option maxHeartbeats 1000000 in
theorem within_any (p q : Pf) (w : World) : Calls Tryz.prog 27 #[encP p, encP q] w fun e w' => e = .returned (.bool (within p q)) ∧ Below w.heap.size w w' := by
  have HC := Lib.hid (rightP_any p)
  have HD := Lib.hid (hasP_any q p.1)
  obtain ⟨r, hr⟩ : ∃ r, r = rightP p := ⟨_, rfl⟩
  obtain ⟨h, hh⟩ : ∃ r, r = hasP q p.1 := ⟨_, rfl⟩
  have HV := Lib.hid (show within p q = (r && (decide (q.2 ≤ p.2) && h)) by rw [hr, hh]; rfl)
  have HR := Lib.hid hr
  have HH := Lib.hid hh
  clear hr hh
  obtain ⟨⟨f, hi, lo⟩, bits⟩ := p
  obtain ⟨⟨g, hj, lp⟩, cb⟩ := q
  have hbx : Below w.heap.size w ((w.alloc (.cells #[.int .u8 (f.toNat : Int), .int .u64 (hi.toNat : Int), .int .u64 (lo.toNat : Int), .int .i64 bits] 26)).alloc (.cells #[.int .u8 (g.toNat : Int), .int .u64 (hj.toNat : Int), .int .u64 (lp.toNat : Int), .int .i64 cb] 26)) := ((Below.refl _ _).alloc (Nat.le_refl _) _).alloc (by simp) _
  have HBX := Lib.hid hbx
  clear hbx
  have hcase : r = false ∨ (r = true ∧ ¬ cb ≤ bits) ∨ (r = true ∧ cb ≤ bits) := by cases r <;> by_cases h : cb ≤ bits <;> simp [h]
  rcases hcase with rfl | ⟨rfl, h0⟩ | ⟨rfl, h0⟩
  · go_enter Tryz.func27, Tryz.ntmps27
    go_wp2_with fail
    refine (HC.out _).mono ?_
    rintro e w1 ⟨rfl, hb⟩
    rw [← HR.out]
    have HB := Lib.hid (below_step HBX.out hb HBX.out.size)
    clear hb
    go_wp2_with fail
    go_ret
    exact ⟨ret_bool (by rw [HV.out]; rfl), HB.out⟩
  · have z0 : decide (cb ≤ bits) = false := by simpa using h0
    go_enter Tryz.func27, Tryz.ntmps27
    go_wp2_with fail
    refine (HC.out _).mono ?_
    rintro e w1 ⟨rfl, hb⟩
    rw [← HR.out]
    have HB := Lib.hid (below_step HBX.out hb HBX.out.size)
    obtain ⟨hc, hf⟩ := bcell hb
    have hz : w.heap.size + 1 < w1.heap.size := by have := hb.size; simp at this; omega
    have hz2 : w.heap.size < w1.heap.size := by omega
    clear hb
    go_wp2_with fail
    go_ret
    exact ⟨ret_bool (by rw [HV.out]; simp [z0]), HB.out⟩
  · have z0 : decide (cb ≤ bits) = true := by simpa using h0
    go_enter Tryz.func27, Tryz.ntmps27
    go_wp2_with fail
    refine (HC.out _).mono ?_
    rintro e w1 ⟨rfl, hb⟩
    rw [← HR.out]
    have HB := Lib.hid (below_step HBX.out hb HBX.out.size)
    obtain ⟨hc, hf⟩ := bcell hb
    have hz : w.heap.size + 1 < w1.heap.size := by have := hb.size; simp at this; omega
    have hz2 : w.heap.size < w1.heap.size := by omega
    clear hb
    go_wp2_with fail
    refine (HD.out _).mono ?_
    rintro e w2 ⟨rfl, hb⟩
    rw [← HH.out]
    have HB2 := Lib.hid (below_step HB.out hb HB.out.size)
    clear hb hc hf
    go_wp2_with fail
    go_ret
    exact ⟨ret_bool (by rw [HV.out]; simp [z0]), HB2.out⟩
set_option maxHeartbeats 1000000 in
theorem meets_any (p q : Pf) (w : World) : Calls Tryz.prog 29 #[encP p, encP q] w fun e w' => e = .returned (.bool (meets p q)) ∧ Below w.heap.size w w' := by
  have HC := Lib.hid (within_any p q)
  have HD := Lib.hid (within_any q p)
  obtain ⟨r, hr⟩ : ∃ r, r = within p q := ⟨_, rfl⟩
  obtain ⟨h, hh⟩ : ∃ r, r = within q p := ⟨_, rfl⟩
  have HV := Lib.hid (show meets p q = (r || h) by rw [hr, hh]; rfl)
  have HR := Lib.hid hr
  have HH := Lib.hid hh
  clear hr hh
  obtain ⟨⟨f, hi, lo⟩, bits⟩ := p
  obtain ⟨⟨g, hj, lp⟩, cb⟩ := q
  have hbx : Below w.heap.size w ((w.alloc (.cells #[.int .u8 (f.toNat : Int), .int .u64 (hi.toNat : Int), .int .u64 (lo.toNat : Int), .int .i64 bits] 26)).alloc (.cells #[.int .u8 (g.toNat : Int), .int .u64 (hj.toNat : Int), .int .u64 (lp.toNat : Int), .int .i64 cb] 26)) := ((Below.refl _ _).alloc (Nat.le_refl _) _).alloc (by simp) _
  have HBX := Lib.hid hbx
  clear hbx
  cases r
  · go_enter Tryz.func29, Tryz.ntmps29
    go_wp2_with fail
    refine (HC.out _).mono ?_
    rintro e w1 ⟨rfl, hb⟩
    rw [← HR.out]
    have HB := Lib.hid (below_step HBX.out hb HBX.out.size)
    obtain ⟨hc, hf⟩ := bcell hb
    have hz : w.heap.size + 1 < w1.heap.size := by have := hb.size; simp at this; omega
    have hz2 : w.heap.size < w1.heap.size := by omega
    clear hb
    go_wp2_with fail
    refine (HD.out _).mono ?_
    rintro e w2 ⟨rfl, hb⟩
    rw [← HH.out]
    have HB2 := Lib.hid (below_step HB.out hb HB.out.size)
    clear hb hc hf
    go_wp2_with fail
    go_ret
    exact ⟨ret_bool (by rw [HV.out]; simp), HB2.out⟩
  · go_enter Tryz.func29, Tryz.ntmps29
    go_wp2_with fail
    refine (HC.out _).mono ?_
    rintro e w1 ⟨rfl, hb⟩
    rw [← HR.out]
    have HB := Lib.hid (below_step HBX.out hb HBX.out.size)
    clear hb
    go_wp2_with fail
    go_ret
    exact ⟨ret_bool (by rw [HV.out]; simp), HB.out⟩
end Go.Proofs.Tryz.Pfx
