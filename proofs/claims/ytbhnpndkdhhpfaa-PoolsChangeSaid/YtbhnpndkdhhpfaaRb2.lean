/- The document's addresses: right, ahead, as bytes. -/
import Derived.Test.YtbhnpndkdhhpfaaRb1
import Derived.Test.YtbhnpndkdhhpfaaPsJ
set_option linter.unusedVariables false
set_option linter.unusedSimpArgs false
namespace Go.Proofs.Try.Pfx
open Go.RowKit Go.Cph Go.Cph.Px

abbrev encB (c : UInt8) : List Value := [.int .u8 (c.toNat : Int)]
abbrev BsAt (w : World) (v : Value) (l : List UInt8) : Prop := Elems encB 1 w v l
theorem encB_len (c : UInt8) : (encB c).length = 1 := rfl
theorem encB_one {l : List UInt8} : ∀ u ∈ l.flatMap encB, u.oneCell' = true := by
  intro u hu
  obtain ⟨y, _, hy⟩ := List.mem_flatMap.1 hu
  simp only [encB, List.mem_cons, List.not_mem_nil, or_false] at hy
  subst hy; rfl
theorem infoB : (Try.prog.info? 5).map (fun i => (i.zero, i.size, i.bytes)) = some (some (.int .u8 0), 1, 1) := by kernel_rfl

set_option maxHeartbeats 1000000 in
theorem rright (a : Ad) (w : World) : Calls Try.prog 72 #[encA a] w fun e w' => e = .returned (.bool (rightA a)) ∧ Below w.heap.size w w' := by
  obtain ⟨f, hi, lo⟩ := a
  have hc : f ≠ 4 ∨ (f = 4 ∧ hi ≠ 0) ∨ (f = 4 ∧ hi = 0) := by
    by_cases h4 : f = 4
    · by_cases hh : hi = 0
      · exact .inr (.inr ⟨h4, hh⟩)
      · exact .inr (.inl ⟨h4, hh⟩)
    · exact .inl h4
  have KEY := Lib.hid (fun (b : Bool) (w' : World) (h : rightA (f, hi, lo) = b) (k : Below w.heap.size w w') => (⟨by rw [h], k⟩ : Ending.returned (.bool b) = .returned (.bool (rightA (f, hi, lo))) ∧ Below w.heap.size w w'))
  rcases hc with h | ⟨h, k⟩ | ⟨h, k⟩
  · have hv := Lib.hid (show rightA (f, hi, lo) = ((f.toNat : Int) == 6) by rw [show ((f.toNat : Int) == 6) = (f == 6) from u8_eq f 6]; simp [rightA, h])
    have z4 : ((f.toNat : Int) == 4) = false := int_u8_ne (c := 4) h
    clear h
    go_enter Try.func72, Try.ntmps72
    go_wp2_with fail
    go_ret
    exact KEY.out _ _ hv.out ((Below.refl _ _).alloc (Nat.le_refl _) _)
  · have hv := Lib.hid (show rightA (f, hi, lo) = false by simp [rightA, h, k])
    have z4 : ((f.toNat : Int) == 4) = true := int_u8_eq (c := 4) h
    have zh : ((hi.toNat : Int) == 0) = false := by have := u64_eq hi 0; simp at this; simpa [this] using k
    clear h k
    go_enter Try.func72, Try.ntmps72
    go_wp2_with fail
    go_ret
    exact KEY.out _ _ hv.out ((Below.refl _ _).alloc (Nat.le_refl _) _)
  · have hv := Lib.hid (show rightA (f, hi, lo) = decide ((lo.toNat : Int) < 4294967296) by
      rw [Bool.eq_iff_iff, decide_eq_true_eq]; simp [rightA, h, k]; omega)
    have z4 : ((f.toNat : Int) == 4) = true := int_u8_eq (c := 4) h
    have zh : ((hi.toNat : Int) == 0) = true := by rw [k]; rfl
    clear h k
    go_enter Try.func72, Try.ntmps72
    go_wp2_with fail
    go_ret
    exact KEY.out _ _ hv.out ((Below.refl _ _).alloc (Nat.le_refl _) _)

theorem less_fam {f g : UInt8} (x y u v : UInt64) (h : f ≠ g) : lessA (f, x, y) (g, u, v) = decide (f.toNat < g.toNat) := by
  rw [Bool.eq_iff_iff, decide_eq_true_eq]; simp [lessA, h]
theorem less_hi {f : UInt8} {x u : UInt64} (y v : UInt64) (h : x ≠ u) : lessA (f, x, y) (f, u, v) = decide (x.toNat < u.toNat) := by
  rw [Bool.eq_iff_iff, decide_eq_true_eq]; simp [lessA, h]
theorem less_lo {f : UInt8} {x : UInt64} (y v : UInt64) : lessA (f, x, y) (f, x, v) = decide (y.toNat < v.toNat) := by
  rw [Bool.eq_iff_iff, decide_eq_true_eq]; simp [lessA]
theorem neq_of {x y : Int} {b : Bool} (h : (x == y) = b) : (x != y) = !b := by simp [bne, h]
set_option maxHeartbeats 1000000 in
theorem rless (a b : Ad) (w : World) : Calls Try.prog 64 #[encA a, encA b] w fun e w' => e = .returned (.bool (lessA a b)) ∧ Below w.heap.size w w' := by
  obtain ⟨f, x, y⟩ := a
  obtain ⟨g, u, v⟩ := b
  have hb : Below w.heap.size w ((w.alloc (.cells #[.int .u8 (f.toNat : Int), .int .u64 (x.toNat : Int), .int .u64 (y.toNat : Int)] 34)).alloc (.cells #[.int .u8 (g.toNat : Int), .int .u64 (u.toNat : Int), .int .u64 (v.toNat : Int)] 34)) := ((Below.refl _ _).alloc (Nat.le_refl _) _).alloc (by simp) _
  have HB := Lib.hid hb
  clear hb
  by_cases hf : f = g
  · subst hf
    by_cases hx : x = u
    · subst hx
      have HV := Lib.hid (less_lo (f := f) (x := x) y v)
      go_enter Try.func64, Try.ntmps64
      go_wp2_with fail
      go_ret
      exact ⟨ret_bool HV.out.symm, HB.out⟩
    · have HV := Lib.hid (less_hi (f := f) y v hx)
      have z := neq_of (u64_eq x u)
      rw [show (x == u) = false by simpa using hx] at z
      simp only [Bool.not_false] at z
      clear hx
      go_enter Try.func64, Try.ntmps64
      go_wp2_with fail
      go_ret
      exact ⟨ret_bool HV.out.symm, HB.out⟩
  · have HV := Lib.hid (less_fam x y u v hf)
    have z := neq_of (u8_eq f g)
    rw [show (f == g) = false by simpa using hf] at z
    simp only [Bool.not_false] at z
    clear hf
    go_enter Try.func64, Try.ntmps64
    go_wp2_with fail
    go_ret
    exact ⟨ret_bool HV.out.symm, HB.out⟩
end Go.Proofs.Try.Pfx
