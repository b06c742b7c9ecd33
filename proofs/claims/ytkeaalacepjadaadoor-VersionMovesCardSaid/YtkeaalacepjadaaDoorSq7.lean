/- A few places changed by a fixed rule. -/
import Derived.Test.YtkeaalacepjadaaDoorSq6
import Derived.Test.YtkeaalacepjadaaDoorShelf
import Derived.Sort.Walk7a
import Derived.Sort.LotD5
import Derived.Laws.Bits64b

set_option linter.unusedVariables false
set_option linter.unusedSimpArgs false
set_option maxRecDepth 100000
namespace Go.Proofs.Tryd.Sq
open Go.RowKit Go.Cph Go.Sort

abbrev boxX (s : Nat) : Obj := .cells #[.int .u64 (s : Int)] 118 (0, 0)
theorem setSet (w : World) (b o : Nat) (v v' : Value) : (w.setCell ⟨b, o, none⟩ v).setCell ⟨b, o, none⟩ v' = w.setCell ⟨b, o, none⟩ v' := setCell_setCell w b o v v'

set_option maxHeartbeats 4000000 in
theorem next_any (rb ro X : Nat) (hX : X < 18446744073709551616) (w : World) (hc : w.cell? ⟨rb, ro, none⟩ = some (.int .u64 X)) (hf : w.frozen? ⟨rb, ro, none⟩ = false) :
    Calls Tryd.prog 81 #[.pointer (some ⟨rb, ro, none⟩)] w fun e w' => e = .returned (.int .u64 (xorNextN X : Nat)) ∧ w' = (w.setCell ⟨rb, ro, none⟩ (.int .u64 (xorNextN X : Nat))).drewN 3 := by
  obtain ⟨A, hA⟩ : ∃ A : Nat, A = X ^^^ (X * 8192 % 18446744073709551616) := ⟨_, rfl⟩
  obtain ⟨B, hB⟩ : ∃ B : Nat, B = A ^^^ (A / 128) := ⟨_, rfl⟩
  obtain ⟨C, hC⟩ : ∃ C : Nat, C = B ^^^ (B * 131072 % 18446744073709551616) := ⟨_, rfl⟩
  have lA : A < 18446744073709551616 := by rw [hA]; exact Nat.xor_lt_two_pow (n := 64) (by omega) (by omega)
  have lB : B < 18446744073709551616 := by rw [hB]; exact Nat.xor_lt_two_pow (n := 64) (by omega) (by omega)
  have e1 : bits .xor .u64 (X : Int) (IntKind.u64.wrap ((X : Int) * 8192)) = (A : Int) := by
    rw [IntKind.wrap_u64, show ((X : Int) * 8192 % 18446744073709551616) = ((X * 8192 % 18446744073709551616 : Nat) : Int) by omega, bits_xor_u64_nat _ _ hX (by omega), hA]
  have e2 : bits .xor .u64 (A : Int) ((A : Int) / 128) = (B : Int) := by
    rw [show ((A : Int) / 128) = ((A / 128 : Nat) : Int) by omega, bits_xor_u64_nat _ _ lA (by omega), hB]
  have e3 : bits .xor .u64 (B : Int) (IntKind.u64.wrap ((B : Int) * 131072)) = (C : Int) := by
    rw [IntKind.wrap_u64, show ((B : Int) * 131072 % 18446744073709551616) = ((B * 131072 % 18446744073709551616 : Nat) : Int) by omega, bits_xor_u64_nat _ _ lB (by omega), hC]
  have hv : xorNextN X = C := by unfold xorNextN; simp only []; rw [← hA, ← hB, ← hC]
  rw [hv]
  clear hA hB hC hv
  have hss : ∀ v v', (w.setCell ⟨rb, ro, none⟩ v).setCell ⟨rb, ro, none⟩ v' = w.setCell ⟨rb, ro, none⟩ v' := setCell_setCell w rb ro
  go_enter Tryd.func81, Tryd.ntmps81
  go_wp2
  go_region
  all_goals go_wp2
  all_goals go_region
  all_goals go_wp2
  all_goals go_region
  all_goals go_wp2
  go_ret
  exact ⟨rfl, rfl⟩

set_option maxHeartbeats 2000000 in
theorem pow_any (n : Nat) (hn : n < 4611686018427387904) (w : World) :
    Calls Tryd.prog 80 #[.int .i64 n] w fun e w' => e = .returned (.int .u64 ((1 <<< bitsLen n : Nat) : Int)) ∧ w' = w := by
  have hLen : ∀ w, Calls Tryd.prog 57 #[.int .u64 (n : Int)] w fun e w' => e = .returned (.int .i64 (bitsLen n : Nat)) ∧ w' = w := fun w => by
    have h := Tryd.bits_Len (n : Int) w (by omega) (by omega)
    rwa [Int.toNat_natCast, bitLen_eq _ (by omega)] at h
  have hk : bitsLen n ≤ 62 := (bitsLen_le_iff n 62).2 (by omega)
  have hp := wrap_two_pow (bitsLen n) hk
  have wr : IntKind.u64.wrap (n : Int) = n := by simp [IntKind.wrap, IntKind.bits, IntKind.signed]; omega
  go_enter Tryd.func80, Tryd.ntmps80
  go_wp2_with (go_at_call 57; refine (hLen _).mono ?_; rintro e w' ⟨rfl, rfl⟩)
  go_ret
  exact ⟨rfl, rfl⟩
/-- The row, and the state of the rule. -/
structure RoX (w0 : World) (base g n cap : Nat) (d : Array UInt64) (sb X : Nat) (W : World) : Prop where
  ro : Ro w0 base g n cap d W
  box : W.heap[sb]? = some (boxX X)
  far : w0.heap.size ≤ sb
  ne : sb ≠ g
theorem RoX.next {w0 W : World} {base g n cap sb X : Nat} {d : Array UInt64} (h : RoX w0 base g n cap d sb X W) (Y m : Nat) : RoX w0 base g n cap d sb Y ((W.setCell ⟨sb, 0, none⟩ (.int .u64 (Y : Int))).drewN m) :=
  ⟨Ro.drewN ⟨row_kept1 h.ro.own (fun q hq => by cases hq; exact blk_set_other (Ne.symm h.ne)), grown_far h.ro.grown h.far _, h.ro.len⟩ m, by
    show (W.setCell ⟨sb, 0, none⟩ (.int .u64 (Y : Int))).heap[sb]? = _
    rw [blk_set h.box 0]; rfl, h.far, h.ne⟩
theorem RoX.swap {w0 W : World} {base g n cap sb X : Nat} {d : Array UInt64} (h : RoX w0 base g n cap d sb X W) {i j : Nat} (hi : i < n) (hj : j < n) {x y : UInt64} (hx : x = d[i]!) (hy : y = d[j]!) : RoX w0 base g n cap (swp d i j) sb X ((W.setCell ⟨g, i, none⟩ (.int .u64 (y.toNat : Int))).setCell ⟨g, j, none⟩ (.int .u64 (x.toNat : Int))).drew :=
  ⟨(h.ro.put2 hi hj hx hy).drew, by
    show ((W.setCell ⟨g, i, none⟩ (.int .u64 (y.toNat : Int))).setCell ⟨g, j, none⟩ (.int .u64 (x.toNat : Int))).heap[sb]? = _
    rw [blk_set_other h.ne, blk_set_other h.ne, h.box], h.far, h.ne⟩
def brk (a L M : Nat) : Nat → UInt64 × Array UInt64 → Nat → Array UInt64
  | 0, st, _ => st.2
  | k + 1, st, i => brk a L M k (breakStep a L M st i) (i + 1)
theorem brk_eq {a b L i0 : Nat} {d : Array UInt64} (hL : L = b - a) (h8 : L ≥ 8) (hi : i0 = a + L / 4 * 2 - 1) : breakPatterns d a b = brk a L (1 <<< bitsLen L) 3 (UInt64.ofNat L, d) i0 := by
  unfold breakPatterns
  simp only
  rw [← hL, if_pos h8, ← hi]
  rfl

set_option maxHeartbeats 8000000 in
theorem break_any {base g n cap : Nat} (a b : Nat) (d : Array UInt64) (w0 w : World) (h : Ro w0 base g n cap d w) (hab : a + 12 < b) (hb : b ≤ n) (hn : n ≤ 1000000) :
    Calls Tryd.prog 68 #[.slice (some ⟨g, 0, none⟩) n cap, .int .i64 a, .int .i64 b] w (RoPost w0 base g n cap (breakPatterns d a b)) := by
  obtain ⟨l, hl⟩ : ∃ l, l = b - a := ⟨_, rfl⟩
  obtain ⟨q, hq⟩ : ∃ q, q = l / 4 := ⟨_, rfl⟩
  obtain ⟨i0, hi0⟩ : ∃ q, q = a + l / 4 * 2 - 1 := ⟨_, rfl⟩
  obtain ⟨M, hM⟩ : ∃ M, M = 1 <<< bitsLen l := ⟨_, rfl⟩
  have hM1 : M ≤ 2 * l ∧ 1 ≤ M := by
    have := two_pow_bitsLen_le (n := l) (by omega)
    rw [hM, Nat.one_shiftLeft]
    exact ⟨this, Nat.two_pow_pos _⟩
  have l1 : IntKind.i64.wrap ((b : Int) - (a : Int)) = (l : Int) := by rw [IntKind.wrap_i64]; omega
  have l1' : (b : Int) - (a : Int) = (l : Int) := by omega
  have l2 : (l : Int) / 4 = (q : Int) := by omega
  have l3 : Int.tdiv (l : Int) 4 = (q : Int) := by rw [Int.tdiv_eq_ediv_of_nonneg (by omega)]; omega
  have l4 : IntKind.u64.wrap (l : Int) = (l : Int) := by rw [IntKind.wrap_u64]; omega
  have n1 : IntKind.i64.wrap ((q : Int) * 2) = (q : Int) * 2 := by rw [IntKind.wrap_i64]; omega
  have n2 : IntKind.i64.wrap ((a : Int) + (q : Int) * 2) = (a : Int) + (q : Int) * 2 := by rw [IntKind.wrap_i64]; omega
  have n3 : IntKind.i64.wrap ((a : Int) + (q : Int) * 2 - 1) = (i0 : Int) := by rw [IntKind.wrap_i64]; omega
  have n4 : IntKind.i64.wrap ((a : Int) + (q : Int) * 2 + 1) = ((i0 + 2 : Nat) : Int) := by rw [IntKind.wrap_i64]; omega
  have n5 : (a : Int) + (q : Int) * 2 - 1 = (i0 : Int) := by omega
  have n6 : (a : Int) + (q : Int) * 2 + 1 = ((i0 + 2 : Nat) : Int) := by omega
  have n7 : (l : Int) ≥ 8 := by omega
  have hin : i0 + 2 < n := by omega
  have hia : a ≤ i0 := by omega
  have hal : a + l = b := by omega
  have HE := Lib.hid (show breakPatterns d a b = brk a l M 3 (UInt64.ofNat l, d) i0 from by rw [hM]; exact brk_eq hl (by omega) hi0)
  have HB0 := Lib.hid (show RoX w0 base g n cap d w.heap.size (UInt64.ofNat l).toNat (w.alloc (boxX l)) from ⟨h.later ((Below.refl _ _).alloc (Nat.le_refl _) _), by
    have e : (UInt64.ofNat l).toNat = l := by rw [UInt64.toNat_ofNat_of_lt']; exact Nat.lt_of_lt_of_le (show l < 18446744073709551616 by omega) (by decide)
    rw [e]; exact heap_alloc_new _ _, h.grown.size, by have := (h.own.lt g rfl).2; omega⟩)
  have HP := Lib.hid (fun W => pow_any l (by omega) W)
  rw [← hM] at HP
  clear h hl hi0 hq hM
  go_enter Tryd.func68, Tryd.ntmps68
  go_wp2_with (go_at_call 80; refine (HP.out _).mono ?_; rintro e w' ⟨rfl, rfl⟩)
  clear n2 n3 n5 l1 l1' n7 l4
  go_loopw [9] (fun v9 W => ∃ (p k : Nat) (X : UInt64) (e : Array UInt64), v9 = .int .i64 (p : Int) ∧ p = i0 + k ∧ k ≤ 3 ∧ Hid (brk a l M (3 - k) (X, e) p = breakPatterns d a b) ∧ RoX w0 base g n cap e w.heap.size X.toNat W) (fun v9 _ => i0 + 3 - (intOf v9).toNat)
  case atStart => exact ⟨i0, 0, UInt64.ofNat l, d, rfl, rfl, by omega, Lib.hid HE.out.symm, HB0.out⟩
  case round =>
    obtain ⟨p, k, X, e, rfl, hp, hk, HK, hr⟩ := hrel
    have HRE := Lib.hid hr
    clear hr
    by_cases hlt : k < 3
    · have y1 : (p : Int) ≤ ((i0 + 2 : Nat) : Int) := by omega
      have y2 : (p : Int) ≤ (i0 : Int) + 2 := by omega
      have hpn : p < n := by omega
      obtain ⟨X2, hX2⟩ : ∃ X2, X2 = xorNext X := ⟨_, rfl⟩
      have eX : xorNextN X.toNat = X2.toNat := by rw [hX2, xorNext_toNat]
      have lX : X.toNat < 18446744073709551616 := X.toNat_lt
      have lX2 : X2.toNat < 18446744073709551616 := X2.toNat_lt
      have c1 : wr.cell? ⟨w.heap.size, 0, none⟩ = some (.int .u64 (X.toNat : Int)) := by rw [blk_cell HRE.out.box]; rfl
      have c2 : wr.frozen? ⟨w.heap.size, 0, none⟩ = false := by rw [blk_frozen HRE.out.box]; rfl
      have HN := Lib.hid (next_any w.heap.size 0 X.toNat lX wr c1 c2)
      rw [eX] at HN
      obtain ⟨o, ho⟩ : ∃ o, o = X2.toNat &&& (M - 1) := ⟨_, rfl⟩
      have ho2 : o ≤ M - 1 := by rw [ho]; exact Nat.and_le_right
      have m0 : IntKind.u64.wrap ((M : Int) - 1) = ((M - 1 : Nat) : Int) := by rw [IntKind.wrap_u64]; omega
      have m1 : bits .and .u64 (X2.toNat : Int) ((M - 1 : Nat) : Int) = (o : Int) := by rw [bits_and_u64_nat _ _ lX2 (by omega), ho]
      have m2 : IntKind.i64.wrap (o : Int) = (o : Int) := by rw [IntKind.wrap_i64]; omega
      obtain ⟨o2, ho3⟩ : ∃ o2, o2 = if o ≥ l then o - l else o := ⟨_, rfl⟩
      have HST := Lib.hid (show breakStep a l M (X, e) p = (X2, swp e p (a + o2)) from by
        unfold breakStep
        simp only
        rw [← hX2, ← ho, ← ho3])
      have HR3 := Lib.hid (HRE.out.next X2.toNat 3)
      have HGO := Lib.hid (show brk a l M (3 - (k + 1)) (X2, swp e p (a + o2)) (p + 1) = breakPatterns d a b from by
        rw [← HK.out, show 3 - k = (3 - (k + 1)) + 1 by omega]
        show _ = brk a l M (3 - (k + 1)) (breakStep a l M (X, e) p) (p + 1)
        rw [HST.out])
      clear ho hX2 c1 c2 lX lX2 eX
      generalize hw3 : (wr.setCell ⟨w.heap.size, 0, none⟩ (.int .u64 (X2.toNat : Int))).drewN 3 = w3 at HR3
      rw [hw3] at HN
      clear hw3
      have fin : o2 < l := by rw [ho3]; split <;> omega
      obtain ⟨o3, ho4⟩ : ∃ o3, o3 = a + o2 := ⟨_, rfl⟩
      rw [← ho4] at HST HGO
      have ho3n : o3 < n := by omega
      have w1 : IntKind.i64.wrap ((a : Int) + (o2 : Int)) = (o3 : Int) := by rw [IntKind.wrap_i64]; omega
      have w1' : (a : Int) + (o2 : Int) = (o3 : Int) := by omega
      have w3' : IntKind.i64.wrap ((p : Int) + 1) = ((p + 1 : Nat) : Int) := by rw [IntKind.wrap_i64]; omega
      have HP1 := Lib.hid hp
      clear hp hM1 ho4
      by_cases hol : o ≥ l
      · have s1 : (o : Int) ≥ (l : Int) := by omega
        have s1' : (l : Int) ≤ (o : Int) := s1
        have s2 : IntKind.i64.wrap ((o : Int) - (l : Int)) = (o2 : Int) := by rw [if_pos hol] at ho3; rw [IntKind.wrap_i64]; omega
        have s3 : (o : Int) - (l : Int) = (o2 : Int) := by rw [if_pos hol] at ho3; omega
        clear ho3 hol
        have HRo := Lib.hid HR3.out.ro
        go_wp2_with (go_at_call 81; refine HN.out.mono ?_; rintro e' w' ⟨rfl, rfl⟩)
        obtain ⟨xs, hxs⟩ : ∃ x, x = e[p]! := ⟨_, rfl⟩
        obtain ⟨ys, hys⟩ : ∃ y, y = e[o3]! := ⟨_, rfl⟩
        have cz1 : w'.cell? ⟨g, p, none⟩ = some (.int .u64 (xs.toNat : Int)) := by rw [hxs]; exact HRo.out.cell (hpn)
        have cz2 : w'.cell? ⟨g, o3, none⟩ = some (.int .u64 (ys.toNat : Int)) := by rw [hys]; exact HRo.out.cell (ho3n)
        have cz3 := HRo.out.put_cell (hpn) (ho3n) hys
        have HSX := Lib.hid hxs
        have HSY := Lib.hid hys
        have pz1 : (p : Int) < (n : Int) := by have := hpn; omega
        have pz2 : (o3 : Int) < (n : Int) := by have := ho3n; omega
        have pz3 : (0 : Int) ≤ (p : Int) := by omega
        have pz4 : (0 : Int) ≤ (o3 : Int) := by omega
        have fz : ∀ o, w'.frozen? ⟨g, o, none⟩ = false := fun o => HRo.out.free o
        clear hxs hys
        go_region
        have HR7 := Lib.hid (HR3.out.swap (hpn) (ho3n) HSX.out HSY.out)
        clear cz1 cz2 cz3 pz1 pz2 pz3 pz4 fz HSX HSY
        go_wp2_with fail
        go_roundw
        case rel => exact ⟨p + 1, k + 1, X2, swp e p o3, by first | rfl | (rw [show (p : Int) + 1 = ((p + 1 : Nat) : Int) by omega]), by have := HP1.out; omega, by omega, HGO, HR7.out⟩
        case measure => simp [intOf]; have := HP1.out; omega
      · have s1 : ¬ (o : Int) ≥ (l : Int) := by omega
        have s1' : ¬ (l : Int) ≤ (o : Int) := s1
        have s2 : o = o2 := by rw [if_neg hol] at ho3; exact ho3.symm
        have HRo := Lib.hid HR3.out.ro
        clear ho3 hol
        subst s2
        go_wp2_with (go_at_call 81; refine HN.out.mono ?_; rintro e' w' ⟨rfl, rfl⟩)
        obtain ⟨xs, hxs⟩ : ∃ x, x = e[p]! := ⟨_, rfl⟩
        obtain ⟨ys, hys⟩ : ∃ y, y = e[o3]! := ⟨_, rfl⟩
        have cz1 : w'.cell? ⟨g, p, none⟩ = some (.int .u64 (xs.toNat : Int)) := by rw [hxs]; exact HRo.out.cell (hpn)
        have cz2 : w'.cell? ⟨g, o3, none⟩ = some (.int .u64 (ys.toNat : Int)) := by rw [hys]; exact HRo.out.cell (ho3n)
        have cz3 := HRo.out.put_cell (hpn) (ho3n) hys
        have HSX := Lib.hid hxs
        have HSY := Lib.hid hys
        have pz1 : (p : Int) < (n : Int) := by have := hpn; omega
        have pz2 : (o3 : Int) < (n : Int) := by have := ho3n; omega
        have pz3 : (0 : Int) ≤ (p : Int) := by omega
        have pz4 : (0 : Int) ≤ (o3 : Int) := by omega
        have fz : ∀ o, w'.frozen? ⟨g, o, none⟩ = false := fun o => HRo.out.free o
        clear hxs hys
        go_region
        have HR7 := Lib.hid (HR3.out.swap (hpn) (ho3n) HSX.out HSY.out)
        clear cz1 cz2 cz3 pz1 pz2 pz3 pz4 fz HSX HSY
        go_wp2_with fail
        go_roundw
        case rel => exact ⟨p + 1, k + 1, X2, swp e p o3, by first | rfl | (rw [show (p : Int) + 1 = ((p + 1 : Nat) : Int) by omega]), by have := HP1.out; omega, by omega, HGO, HR7.out⟩
        case measure => simp [intOf]; have := HP1.out; omega
    · have y1 : ¬ (p : Int) ≤ ((i0 + 2 : Nat) : Int) := by omega
      have y2 : ¬ (p : Int) ≤ (i0 : Int) + 2 := by omega
      have hk3 : k = 3 := by omega
      subst hk3
      have HZ := Lib.hid (show e = breakPatterns d a b from HK.out)
      go_wp2_with fail
      go_end0
      exact ⟨rfl, HRE.out.ro.to HZ.out⟩
end Go.Proofs.Tryd.Sq
