/- The program's prefixes: right, has, within, meets, ahead. -/
import Derived.Test.YtbhnpndkdhhpfaaPxF
set_option linter.unusedVariables false
set_option linter.unusedSimpArgs false
namespace Go.Proofs.Try.Pfx
open Go.RowKit Go.Cph Go.Cph.Px

theorem pf_eq (p q : Pf) : (p == q) = true ↔ (p.1.1.toNat : Int) = q.1.1.toNat ∧ (p.1.2.1.toNat : Int) = q.1.2.1.toNat ∧ (p.1.2.2.toNat : Int) = q.1.2.2.toNat ∧ p.2 = q.2 := by
  rw [beq_iff_eq, Prod.ext_iff, Prod.ext_iff, Prod.ext_iff, ← UInt8.toNat_inj, ← UInt64.toNat_inj, ← UInt64.toNat_inj]
  omega
theorem ad_eq (p q : Ad) : (p == q) = true ↔ (p.1.toNat : Int) = q.1.toNat ∧ (p.2.1.toNat : Int) = q.2.1.toNat ∧ (p.2.2.toNat : Int) = q.2.2.toNat := by
  rw [beq_iff_eq, Prod.ext_iff, Prod.ext_iff, ← UInt8.toNat_inj, ← UInt64.toNat_inj, ← UInt64.toNat_inj]
  omega
theorem rightP_cut (p : Pf) : rightP p = (fits p.1 p.2 && (cutP p.1 p.2 == p)) := by
  unfold rightP cutP
  rw [Bool.eq_iff_iff]
  cases fits p.1 p.2 <;> simp [Prod.ext_iff]
theorem hasP_cut (p : Pf) (a : Ad) : hasP p a = (fits a p.2 && (cutP a p.2 == p)) := by
  unfold hasP cutP
  rw [Bool.eq_iff_iff]
  cases fits a p.2 <;> simp [Prod.ext_iff]

set_option maxHeartbeats 1000000 in
theorem rightP_any (p : Pf) (w : World) : Calls Try.prog 35 #[encP p] w fun e w' => e = .returned (.bool (rightP p)) ∧ Below w.heap.size w w' := by
  have HC := Lib.hid (cut_any p.1 p.2)
  have HV := Lib.hid (rightP_cut p)
  obtain ⟨c, hcp⟩ : ∃ c, c = cutP p.1 p.2 := ⟨_, rfl⟩
  obtain ⟨r, hr⟩ : ∃ r, r = fits p.1 p.2 := ⟨_, rfl⟩
  have HCP := Lib.hid hcp
  have HR := Lib.hid hr
  have HE := Lib.hid (show cutE p.1 p.2 = if r then 0 else 1 by rw [hr]; rfl)
  clear hcp hr
  obtain ⟨⟨f, hi, lo⟩, bits⟩ := p
  obtain ⟨⟨g, hj, lp⟩, cb⟩ := c
  have hbx : Below w.heap.size w (w.alloc (.cells #[.int .u8 (f.toNat : Int), .int .u64 (hi.toNat : Int), .int .u64 (lo.toNat : Int), .int .i64 bits] 27)) := (Below.refl _ _).alloc (Nat.le_refl _) _
  have HBX := Lib.hid hbx
  clear hbx
  cases r
  all_goals
    go_enter Try.func35, Try.ntmps35
    go_wp2_with fail
    refine (HC.out _).mono ?_
    rintro e w1 ⟨rfl, hb⟩
    have HB := Lib.hid (below_step HBX.out hb HBX.out.size)
    obtain ⟨hc, hf⟩ := bcell hb
    have hz : w.heap.size < w1.heap.size := by have := hb.size; simp at this; omega
    clear hb
    rw [HE.out, ← HCP.out]
    go_wp2_with fail
    all_goals
      go_ret
      refine ⟨ret_bool ?_, HB.out.alloc HB.out.size _⟩
      rw [HV.out, ← HR.out, ← HCP.out, Bool.eq_iff_iff, Bool.and_eq_true, pf_eq]
      simp
      try omega
set_option maxHeartbeats 1000000 in
theorem hasP_any (p : Pf) (a : Ad) (w : World) : Calls Try.prog 22 #[encP p, encA a] w fun e w' => e = .returned (.bool (hasP p a)) ∧ Below w.heap.size w w' := by
  have HC := Lib.hid (cut_any a p.2)
  have HV := Lib.hid (hasP_cut p a)
  obtain ⟨c, hcp⟩ : ∃ c, c = cutP a p.2 := ⟨_, rfl⟩
  obtain ⟨r, hr⟩ : ∃ r, r = fits a p.2 := ⟨_, rfl⟩
  have HCP := Lib.hid hcp
  have HR := Lib.hid hr
  have HE := Lib.hid (show cutE a p.2 = if r then 0 else 1 by rw [hr]; rfl)
  clear hcp hr
  obtain ⟨⟨f, hi, lo⟩, bits⟩ := p
  obtain ⟨⟨g, hj, lp⟩, cb⟩ := c
  obtain ⟨af, ah, al⟩ := a
  have hbx : Below w.heap.size w ((w.alloc (.cells #[.int .u8 (f.toNat : Int), .int .u64 (hi.toNat : Int), .int .u64 (lo.toNat : Int), .int .i64 bits] 27)).alloc (.cells #[.int .u8 (af.toNat : Int), .int .u64 (ah.toNat : Int), .int .u64 (al.toNat : Int)] 25)) := ((Below.refl _ _).alloc (Nat.le_refl _) _).alloc (by simp) _
  have HBX := Lib.hid hbx
  clear hbx
  cases r
  all_goals
    go_enter Try.func22, Try.ntmps22
    go_wp2_with fail
    refine (HC.out _).mono ?_
    rintro e w1 ⟨rfl, hb⟩
    have HB := Lib.hid (below_step HBX.out hb HBX.out.size)
    obtain ⟨hc, hf⟩ := bcell hb
    have hz : w.heap.size + 1 < w1.heap.size := by have := hb.size; simp at this; omega
    have hz2 : w.heap.size < w1.heap.size := by omega
    clear hb
    rw [HE.out, ← HCP.out]
    go_wp2_with fail
    all_goals
      go_ret
      refine ⟨ret_bool ?_, HB.out.alloc HB.out.size _⟩
      rw [HV.out, ← HR.out, ← HCP.out, Bool.eq_iff_iff, Bool.and_eq_true, pf_eq]
      simp
      try omega

set_option maxHeartbeats 1000000 in
theorem within_any (p q : Pf) (w : World) : Calls Try.prog 23 #[encP p, encP q] w fun e w' => e = .returned (.bool (within p q)) ∧ Below w.heap.size w w' := by
  have HC := Lib.hid (rightP_any p)
  have HD := Lib.hid (hasP_any q p.1)
  obtain ⟨r, hr⟩ : ∃ r, r = rightP p := ⟨_, rfl⟩
  obtain ⟨h, hh⟩ : ∃ r, r = hasP q p.1 := ⟨_, rfl⟩
  have HV := Lib.hid (show within p q = (r && (decide (q.2 ≤ p.2) && h)) by rw [hr, hh]; rfl)
  have HR := Lib.hid hr
  have HH := Lib.hid hh
  clear hr hh
  obtain ⟨⟨f, hi, lo⟩, bits⟩ := p
  obtain ⟨⟨g, hj, lp⟩, cb⟩ := q
  have hbx : Below w.heap.size w ((w.alloc (.cells #[.int .u8 (f.toNat : Int), .int .u64 (hi.toNat : Int), .int .u64 (lo.toNat : Int), .int .i64 bits] 27)).alloc (.cells #[.int .u8 (g.toNat : Int), .int .u64 (hj.toNat : Int), .int .u64 (lp.toNat : Int), .int .i64 cb] 27)) := ((Below.refl _ _).alloc (Nat.le_refl _) _).alloc (by simp) _
  have HBX := Lib.hid hbx
  clear hbx
  have hcase : r = false ∨ (r = true ∧ ¬ cb ≤ bits) ∨ (r = true ∧ cb ≤ bits) := by cases r <;> by_cases h : cb ≤ bits <;> simp [h]
  rcases hcase with rfl | ⟨rfl, h0⟩ | ⟨rfl, h0⟩
  · go_enter Try.func23, Try.ntmps23
    go_wp2_with fail
    refine (HC.out _).mono ?_
    rintro e w1 ⟨rfl, hb⟩
    rw [← HR.out]
    have HB := Lib.hid (below_step HBX.out hb HBX.out.size)
    clear hb
    go_wp2_with fail
    go_ret
    exact ⟨ret_bool (by rw [HV.out]; rfl), HB.out⟩
  · have z0 : decide (cb ≤ bits) = false := by simpa using h0
    go_enter Try.func23, Try.ntmps23
    go_wp2_with fail
    refine (HC.out _).mono ?_
    rintro e w1 ⟨rfl, hb⟩
    rw [← HR.out]
    have HB := Lib.hid (below_step HBX.out hb HBX.out.size)
    obtain ⟨hc, hf⟩ := bcell hb
    have hz : w.heap.size + 1 < w1.heap.size := by have := hb.size; simp at this; omega
    have hz2 : w.heap.size < w1.heap.size := by omega
    clear hb
    go_wp2_with fail
    go_ret
    exact ⟨ret_bool (by rw [HV.out]; simp [z0]), HB.out⟩
  · have z0 : decide (cb ≤ bits) = true := by simpa using h0
    go_enter Try.func23, Try.ntmps23
    go_wp2_with fail
    refine (HC.out _).mono ?_
    rintro e w1 ⟨rfl, hb⟩
    rw [← HR.out]
    have HB := Lib.hid (below_step HBX.out hb HBX.out.size)
    obtain ⟨hc, hf⟩ := bcell hb
    have hz : w.heap.size + 1 < w1.heap.size := by have := hb.size; simp at this; omega
    have hz2 : w.heap.size < w1.heap.size := by omega
    clear hb
    go_wp2_with fail
    refine (HD.out _).mono ?_
    rintro e w2 ⟨rfl, hb⟩
    rw [← HH.out]
    have HB2 := Lib.hid (below_step HB.out hb HB.out.size)
    clear hb hc hf
    go_wp2_with fail
    go_ret
    exact ⟨ret_bool (by rw [HV.out]; simp [z0]), HB2.out⟩
set_option maxHeartbeats 1000000 in
theorem before_any (p q : Pf) (w : World) : Calls Try.prog 24 #[encP p, encP q] w fun e w' => e = .returned (.bool (before p q)) ∧ Below w.heap.size w w' := by
  have HC := Lib.hid (less p.1 q.1)
  obtain ⟨r, hr⟩ : ∃ r, r = lessA p.1 q.1 := ⟨_, rfl⟩
  have HV := Lib.hid (show before p q = (r || (p.1 == q.1 && decide (p.2 < q.2))) by rw [hr]; rfl)
  have HR := Lib.hid hr
  clear hr
  obtain ⟨⟨f, hi, lo⟩, bits⟩ := p
  obtain ⟨⟨g, hj, lp⟩, cb⟩ := q
  have hbx : Below w.heap.size w ((w.alloc (.cells #[.int .u8 (f.toNat : Int), .int .u64 (hi.toNat : Int), .int .u64 (lo.toNat : Int), .int .i64 bits] 27)).alloc (.cells #[.int .u8 (g.toNat : Int), .int .u64 (hj.toNat : Int), .int .u64 (lp.toNat : Int), .int .i64 cb] 27)) := ((Below.refl _ _).alloc (Nat.le_refl _) _).alloc (by simp) _
  have HBX := Lib.hid hbx
  clear hbx
  have hcase : r = true ∨ (r = false ∧ ((f, hi, lo) == (g, hj, lp)) = false) ∨ (r = false ∧ (f, hi, lo) = (g, hj, lp)) := by
    cases r <;> by_cases h : (f, hi, lo) = (g, hj, lp) <;> simp [h]
  rcases hcase with rfl | ⟨rfl, h0⟩ | ⟨rfl, h0⟩
  · go_enter Try.func24, Try.ntmps24
    go_wp2_with fail
    refine (HC.out _).mono ?_
    rintro e w1 ⟨rfl, hb⟩
    rw [← HR.out]
    have HB := Lib.hid (below_step HBX.out hb HBX.out.size)
    clear hb
    go_wp2_with fail
    go_ret
    exact ⟨ret_bool (by rw [HV.out]; rfl), HB.out⟩
  · have H0 := Lib.hid h0
    clear h0
    go_enter Try.func24, Try.ntmps24
    go_wp2_with fail
    refine (HC.out _).mono ?_
    rintro e w1 ⟨rfl, hb⟩
    rw [← HR.out]
    have HB := Lib.hid (below_step HBX.out hb HBX.out.size)
    obtain ⟨hc, hf⟩ := bcell hb
    have hz : w.heap.size + 1 < w1.heap.size := by have := hb.size; simp at this; omega
    have hz2 : w.heap.size < w1.heap.size := by omega
    clear hb
    go_wp2_with fail
    all_goals
      go_ret
      refine ⟨ret_bool ?_, HB.out⟩
      rw [HV.out, H0.out]
      first
      | rfl
      | (exfalso; have h := Bool.eq_false_iff.1 H0.out; exact h ((ad_eq _ _).2 ⟨by assumption, by assumption, by assumption⟩))
  · simp only [Prod.mk.injEq] at h0
    obtain ⟨rfl, rfl, rfl⟩ := h0
    go_enter Try.func24, Try.ntmps24
    go_wp2_with fail
    refine (HC.out _).mono ?_
    rintro e w1 ⟨rfl, hb⟩
    rw [← HR.out]
    have HB := Lib.hid (below_step HBX.out hb HBX.out.size)
    obtain ⟨hc, hf⟩ := bcell hb
    have hz : w.heap.size + 1 < w1.heap.size := by have := hb.size; simp at this; omega
    have hz2 : w.heap.size < w1.heap.size := by omega
    clear hb
    go_wp2_with fail
    go_ret
    exact ⟨ret_bool (by rw [HV.out]; simp), HB.out⟩
set_option maxHeartbeats 1000000 in
theorem meets_any (p q : Pf) (w : World) : Calls Try.prog 25 #[encP p, encP q] w fun e w' => e = .returned (.bool (meets p q)) ∧ Below w.heap.size w w' := by
  have HC := Lib.hid (within_any p q)
  have HD := Lib.hid (within_any q p)
  obtain ⟨r, hr⟩ : ∃ r, r = within p q := ⟨_, rfl⟩
  obtain ⟨h, hh⟩ : ∃ r, r = within q p := ⟨_, rfl⟩
  have HV := Lib.hid (show meets p q = (r || h) by rw [hr, hh]; rfl)
  have HR := Lib.hid hr
  have HH := Lib.hid hh
  clear hr hh
  obtain ⟨⟨f, hi, lo⟩, bits⟩ := p
  obtain ⟨⟨g, hj, lp⟩, cb⟩ := q
  have hbx : Below w.heap.size w ((w.alloc (.cells #[.int .u8 (f.toNat : Int), .int .u64 (hi.toNat : Int), .int .u64 (lo.toNat : Int), .int .i64 bits] 27)).alloc (.cells #[.int .u8 (g.toNat : Int), .int .u64 (hj.toNat : Int), .int .u64 (lp.toNat : Int), .int .i64 cb] 27)) := ((Below.refl _ _).alloc (Nat.le_refl _) _).alloc (by simp) _
  have HBX := Lib.hid hbx
  clear hbx
  cases r
  · go_enter Try.func25, Try.ntmps25
    go_wp2_with fail
    refine (HC.out _).mono ?_
    rintro e w1 ⟨rfl, hb⟩
    rw [← HR.out]
    have HB := Lib.hid (below_step HBX.out hb HBX.out.size)
    obtain ⟨hc, hf⟩ := bcell hb
    have hz : w.heap.size + 1 < w1.heap.size := by have := hb.size; simp at this; omega
    have hz2 : w.heap.size < w1.heap.size := by omega
    clear hb
    go_wp2_with fail
    refine (HD.out _).mono ?_
    rintro e w2 ⟨rfl, hb⟩
    rw [← HH.out]
    have HB2 := Lib.hid (below_step HB.out hb HB.out.size)
    clear hb hc hf
    go_wp2_with fail
    go_ret
    exact ⟨ret_bool (by rw [HV.out]; simp), HB2.out⟩
  · go_enter Try.func25, Try.ntmps25
    go_wp2_with fail
    refine (HC.out _).mono ?_
    rintro e w1 ⟨rfl, hb⟩
    rw [← HR.out]
    have HB := Lib.hid (below_step HBX.out hb HBX.out.size)
    clear hb
    go_wp2_with fail
    go_ret
    exact ⟨ret_bool (by rw [HV.out]; simp), HB.out⟩
end Go.Proofs.Try.Pfx
