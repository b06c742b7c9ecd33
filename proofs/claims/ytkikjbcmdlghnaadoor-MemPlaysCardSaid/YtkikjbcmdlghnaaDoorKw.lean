/- MemPlaces: its walk. -/
import Derived.Test.YtkikjbcmdlghnaaDoorKv
set_option linter.unusedVariables false
set_option linter.unusedSimpArgs false
set_option maxRecDepth 100000
namespace Go.Proofs.Tryd.Skm
open Go.RowKit Go.Cph Go.Cph.Skip Go.Cph.Skm Go.Cph.Ok Go.Proofs.Tryd.Ok
theorem mu64_of {z : Int} (h : (Lit.int .u64 z).wf = true) : ∃ c : UInt64, z = (c.toNat : Int) := by
  have hb : 0 ≤ z ∧ z < 18446744073709551616 := by simp [Lit.wf, IntKind.min, IntKind.max, IntKind.signed, IntKind.bits] at h; omega
  exact ⟨UInt64.ofNat z.toNat, by rw [UInt64.toNat_ofNat', Nat.mod_eq_of_lt (by omega)]; omega⟩
theorem aw_mono {w W : World} {e : Ending} {w' : World} (h : AwPost W e w') (hb : Below w.heap.size w W) : AwPost w e w' := ⟨h.1, below_step hb h.2 hb.size⟩
theorem pl_eq (a b : ByteArray) (s t : UInt64) : ((ofBs (place a.data.toList s.toNat)).toList == (ofBs (place b.data.toList t.toNat)).toList) = (decide (a = b) && decide (s = t)) := by
  rw [beq_toList]
  by_cases h : a = b ∧ s = t
  · obtain ⟨rfl, rfl⟩ := h; simp
  · have : ofBs (place a.data.toList s.toNat) ≠ ofBs (place b.data.toList t.toNat) := fun e => h (pl_inj e)
    rw [decide_eq_false this]
    by_cases h1 : a = b
    · have h2 : ¬ s = t := fun e => h ⟨h1, e⟩
      simp [h2]
    · simp [h1]
set_option maxHeartbeats 6400000 in
theorem places_u (a b : ByteArray) (s t : UInt64) (m : Int) (w : World) (hm : MaxAt m w) (ha : a.size ≤ 9223372036854775807) (hb : b.size ≤ 9223372036854775807) :
    Calls Tryd.prog 3 #[.string a, .string b, .int .u64 (s.toNat : Int), .int .u64 (t.toNat : Int)] w (AwPost w) := by
  have HAW := Lib.hid (show ∀ W, Below w.heap.size w W → Calls Tryd.prog 7 #[] W (AwPost w) from fun W hW => (awake_any m W (max_kept hm hW (max_lt hm))).mono fun e w' h => aw_mono h hW)
  have HS0 := Lib.hid (Below.refl w.heap.size w)
  by_cases hbig : 20000 < a.size ∨ 20000 < b.size
  · by_cases h1 : 20000 < a.size
    · have k1 : (20000 : Int) < (a.size : Int) := by omega
      clear hbig h1 hm
      go_enter Tryd.func3, Tryd.ntmps3
      go_wp2_with fail
      refine (HAW.out w HS0.out).mono ?_
      rintro e w1 ⟨rfl, hb⟩
      have HB := Lib.hid hb
      go_wp2_with fail
      go_ret
      exact ⟨rfl, HB.out⟩
    · have k1 : ¬ (20000 : Int) < (a.size : Int) := by omega
      have k2 : (20000 : Int) < (b.size : Int) := by omega
      clear hbig h1 hm
      go_enter Tryd.func3, Tryd.ntmps3
      go_wp2_with fail
      refine (HAW.out w HS0.out).mono ?_
      rintro e w1 ⟨rfl, hb⟩
      have HB := Lib.hid hb
      go_wp2_with fail
      go_ret
      exact ⟨rfl, HB.out⟩
  · have k1 : ¬ (20000 : Int) < (a.size : Int) := by omega
    have k2 : ¬ (20000 : Int) < (b.size : Int) := by omega
    obtain ⟨x, hx⟩ : ∃ x, x = ofBs (place a.data.toList s.toNat) := ⟨_, rfl⟩
    obtain ⟨y, hy⟩ : ∃ y, y = ofBs (place b.data.toList t.toNat) := ⟨_, rfl⟩
    have HX := Lib.hid (show ∀ W, Below w.heap.size w W → Calls Tryd.prog 8 #[.string a, .int .u64 (s.toNat : Int)] W fun r w' => r = .returned (.string x) ∧ Below W.heap.size W w' from fun W hW => by rw [hx]; exact place_any a s m W (by omega) (max_kept hm hW (max_lt hm)))
    have HY := Lib.hid (show ∀ W, Below w.heap.size w W → Calls Tryd.prog 8 #[.string b, .int .u64 (t.toNat : Int)] W fun r w' => r = .returned (.string y) ∧ Below W.heap.size W w' from fun W hW => by rw [hy]; exact place_any b t m W (by omega) (max_kept hm hW (max_lt hm)))
    have hl : Op.bytesLess x.toList y.toList = (klt a b || (decide (a = b) && decide (t < s))) := by rw [hx, hy]; exact pl_less a b s t
    have he : (x.toList == y.toList) = (decide (a = b) && decide (s = t)) := by rw [hx, hy]; exact pl_eq a b s t
    have hcases : (Op.bytesLess a.toList b.toList = true ∧ (a.toList == b.toList) = false ∧ Op.bytesLess x.toList y.toList = true ∧ (x.toList == y.toList) = false) ∨
        (Op.bytesLess a.toList b.toList = false ∧ (a.toList == b.toList) = false ∧ Op.bytesLess x.toList y.toList = false ∧ (x.toList == y.toList) = false) ∨
        (Op.bytesLess a.toList b.toList = false ∧ (a.toList == b.toList) = true ∧ Op.bytesLess x.toList y.toList = decide (t < s) ∧ (x.toList == y.toList) = decide (s = t)) := by
      rw [hl, he, beq_toList]
      by_cases e : a = b
      · subst e
        right; right
        rw [klt_irrefl]
        refine ⟨klt_irrefl a, by simp, by simp, by simp⟩
      · cases h1 : klt a b
        · right; left
          exact ⟨h1, by simp [e], by simp [e], by simp [e]⟩
        · left
          exact ⟨h1, by simp [e], by simp, by simp [e]⟩
    clear hbig hm hx hy hl he
    rcases hcases with ⟨j1, j2, j3, j4⟩ | ⟨j1, j2, j3, j4⟩ | ⟨j1, j2, j3, j4⟩
    rotate_left 2
    · rcases Nat.lt_trichotomy s.toNat t.toNat with h | h | h
      · have i1 : ¬ (t.toNat : Int) < (s.toNat : Int) := by omega
        have i2 : ((s.toNat : Int) == (t.toNat : Int)) = false := by simp; omega
        have i3 : decide (t.toNat < s.toNat) = false := by simp; omega
        have i4 : ¬ t.toNat < s.toNat := by omega
        have i5 : (s.toNat == t.toNat) = false := by simp; omega
        rw [show decide (t < s) = false from by rw [decide_eq_false_iff_not, UInt64.lt_iff_toNat_lt]; omega] at j3
        rw [show decide (s = t) = false from by rw [decide_eq_false_iff_not]; rintro rfl; omega] at j4
        clear h
        go_enter Tryd.func3, Tryd.ntmps3
        go_wp2_with fail
        refine (HX.out w HS0.out).mono ?_
        rintro e w1 ⟨rfl, hb⟩
        have B1 := Lib.hid (below_step HS0.out hb HS0.out.size)
        clear hb
        go_wp2_with fail
        refine (HY.out w1 B1.out).mono ?_
        rintro e w2 ⟨rfl, hb⟩
        have B2 := Lib.hid (below_step B1.out hb B1.out.size)
        clear hb
        go_wp2_with fail
        refine (HAW.out w2 B2.out).mono ?_
        rintro e w3 ⟨rfl, hb⟩
        have B3 := Lib.hid hb
        clear hb
        go_wp2_with fail
        go_ret
        exact ⟨rfl, B3.out⟩
      · obtain rfl : s = t := UInt64.toNat_inj.1 h
        have i1 : ¬ (s.toNat : Int) < (s.toNat : Int) := by omega
        have i2 : ((s.toNat : Int) == (s.toNat : Int)) = true := by simp
        rw [show decide (s < s) = false from by rw [decide_eq_false_iff_not, UInt64.lt_iff_toNat_lt]; omega] at j3
        rw [show decide (s = s) = true from by simp] at j4
        clear h
        go_enter Tryd.func3, Tryd.ntmps3
        go_wp2_with fail
        refine (HX.out w HS0.out).mono ?_
        rintro e w1 ⟨rfl, hb⟩
        have B1 := Lib.hid (below_step HS0.out hb HS0.out.size)
        clear hb
        go_wp2_with fail
        refine (HY.out w1 B1.out).mono ?_
        rintro e w2 ⟨rfl, hb⟩
        have B2 := Lib.hid (below_step B1.out hb B1.out.size)
        clear hb
        go_wp2_with fail
        refine (HAW.out w2 B2.out).mono ?_
        rintro e w3 ⟨rfl, hb⟩
        have B3 := Lib.hid hb
        clear hb
        go_wp2_with fail
        go_ret
        exact ⟨rfl, B3.out⟩
      · have i1 : (t.toNat : Int) < (s.toNat : Int) := by omega
        have i2 : ((s.toNat : Int) == (t.toNat : Int)) = false := by simp; omega
        have i3 : decide (t.toNat < s.toNat) = true := by simp; omega
        have i4 : t.toNat < s.toNat := by omega
        have i5 : (s.toNat == t.toNat) = false := by simp; omega
        rw [show decide (t < s) = true from by rw [decide_eq_true_eq, UInt64.lt_iff_toNat_lt]; omega] at j3
        rw [show decide (s = t) = false from by rw [decide_eq_false_iff_not]; rintro rfl; omega] at j4
        clear h
        go_enter Tryd.func3, Tryd.ntmps3
        go_wp2_with fail
        refine (HX.out w HS0.out).mono ?_
        rintro e w1 ⟨rfl, hb⟩
        have B1 := Lib.hid (below_step HS0.out hb HS0.out.size)
        clear hb
        go_wp2_with fail
        refine (HY.out w1 B1.out).mono ?_
        rintro e w2 ⟨rfl, hb⟩
        have B2 := Lib.hid (below_step B1.out hb B1.out.size)
        clear hb
        go_wp2_with fail
        refine (HAW.out w2 B2.out).mono ?_
        rintro e w3 ⟨rfl, hb⟩
        have B3 := Lib.hid hb
        clear hb
        go_wp2_with fail
        go_ret
        exact ⟨rfl, B3.out⟩
    all_goals
      go_enter Tryd.func3, Tryd.ntmps3
      go_wp2_with fail
      refine (HX.out w HS0.out).mono ?_
      rintro e w1 ⟨rfl, hb⟩
      have B1 := Lib.hid (below_step HS0.out hb HS0.out.size)
      clear hb
      go_wp2_with fail
      refine (HY.out w1 B1.out).mono ?_
      rintro e w2 ⟨rfl, hb⟩
      have B2 := Lib.hid (below_step B1.out hb B1.out.size)
      clear hb
      go_wp2_with fail
      refine (HAW.out w2 B2.out).mono ?_
      rintro e w3 ⟨rfl, hb⟩
      have B3 := Lib.hid hb
      clear hb
      go_wp2_with fail
      go_ret
      exact ⟨rfl, B3.out⟩
theorem places_law (a b : ByteArray) (s t : Int) (m : Int) (w : World) (hs : (Lit.int .u64 s).wf = true) (ht : (Lit.int .u64 t).wf = true) (hm : MaxAt m w) (ha : a.size ≤ 9223372036854775807) (hb : b.size ≤ 9223372036854775807) :
    Calls Tryd.prog 3 #[.string a, .string b, .int .u64 s, .int .u64 t] w (AwPost w) := by
  obtain ⟨s, rfl⟩ := mu64_of hs
  obtain ⟨t, rfl⟩ := mu64_of ht
  exact places_u a b s t m w hm ha hb
end Go.Proofs.Tryd.Skm
