/- A row of numbers sorted; are two alike beside each other. -/
import Derived.Test.YtkeaalacepjadaaDoorSq8
import Derived.Test.YtkeaalacepjadaaDoorVA
set_option linter.unusedVariables false
set_option linter.unusedSimpArgs false
set_option maxRecDepth 100000
namespace Go.Proofs.Tryd.Sq
open Go.RowKit Go.Cph Go.Sort

/-- The numbers in order. -/
def inOrder (l : List UInt64) : List UInt64 := (Go.Sort.sort ltU l.toArray).toList
theorem inOrder_perm (l : List UInt64) : (inOrder l).Perm l := by
  obtain ⟨⟨h1, -, h3⟩, -⟩ := sort_sorts ltU swo_ltU l.toArray
  have e1 : ((Go.Sort.sort ltU l.toArray).extract 0 l.toArray.size).toList = (Go.Sort.sort ltU l.toArray).toList := by rw [← h1, Array.extract_size]
  rw [e1, Array.extract_size] at h3
  exact h3
theorem inOrder_sorted (l : List UInt64) : (inOrder l).Pairwise (fun x y => x.toNat ≤ y.toNat) := by
  obtain ⟨⟨h1, -, -⟩, h2⟩ := sort_sorts ltU swo_ltU l.toArray
  rw [List.pairwise_iff_getElem]
  intro i j hi hj hij
  have hi' : i < (Go.Sort.sort ltU l.toArray).size := by simpa [inOrder] using hi
  have hj' : j < (Go.Sort.sort ltU l.toArray).size := by simpa [inOrder] using hj
  have := h2 i j (Nat.zero_le _) hij (by rw [← h1]; exact hj')
  rw [getElem!_pos _ j hj', getElem!_pos _ i hi'] at this
  simp only [inOrder, Array.getElem_toList]
  simp [ltU] at this
  exact this
theorem inOrder_len (l : List UInt64) : (inOrder l).length = l.length := (inOrder_perm l).length_eq

set_option maxHeartbeats 4000000 in
theorem sort_any {base g n cap : Nat} (l : List UInt64) (w : World) (h : Ro w base g n cap l.toArray w) (hn : n ≤ 1000000) :
    Calls Tryd.prog 38 #[.slice (some ⟨g, 0, none⟩) n cap] w (RoPost w base g n cap (inOrder l).toArray) := by
  have hl : l.toArray.size = n := h.len
  have HC := Lib.hid (pdq_any (base := base) (g := g) (n := n) (cap := cap) w hn (n + 1) 0 n (bitsLen n) l.toArray w (by omega) h (Nat.zero_le _) (Nat.le_refl _) (by have := (bitsLen_le_iff n 62).2 (by omega); omega) (.inl rfl))
  have HE := Lib.hid (show pdq ltU l.toArray 0 n (bitsLen n) true true = (inOrder l).toArray from by
    rw [← hl]
    show Go.Sort.sort ltU l.toArray = _
    simp [inOrder])
  have hLen : ∀ w, Calls Tryd.prog 57 #[.int .u64 (n : Int)] w fun e w' => e = .returned (.int .i64 (bitsLen n : Nat)) ∧ w' = w := fun w => by
    have h := Tryd.bits_Len (n : Int) w (by omega) (by omega)
    rwa [Int.toNat_natCast, bitLen_eq _ (by omega)] at h
  have l4 : IntKind.u64.wrap (n : Int) = (n : Int) := by rw [IntKind.wrap_u64]; omega
  clear hl h
  go_enter Tryd.func38, Tryd.ntmps38
  go_wp2_with (first | (go_at_call 57; refine (hLen _).mono ?_; rintro e w' ⟨rfl, rfl⟩) | (go_at_call 56; refine HC.out.mono ?_; rintro e w8 ⟨rfl, hw8⟩))
  go_end0
  exact ⟨rfl, hw8.to HE.out⟩

set_option maxHeartbeats 2000000 in
theorem insertion_none {c : Nat} (w : World) :
    Calls Tryd.prog 66 #[.slice none 0 c, .int .i64 0, .int .i64 0] w (fun e w' => e = .returned (.tuple #[]) ∧ w' = w) := by
  go_enter Tryd.func66, Tryd.ntmps66
  go_wp2_with fail
  go_loopw [6] (fun v6 W => v6 = .int .i64 1 ∧ W = w) (fun v6 _ => 0)
  case atStart => exact ⟨by go_num, rfl⟩
  case round =>
    obtain ⟨rfl, rfl⟩ := hrel
    go_wp2_with fail
    go_end0
    exact ⟨rfl, rfl⟩

set_option maxHeartbeats 2000000 in
theorem pdq_none {c : Nat} (w : World) :
    Calls Tryd.prog 56 #[.slice none 0 c, .int .i64 0, .int .i64 0, .int .i64 0] w (fun e w' => e = .returned (.tuple #[]) ∧ w' = w) := by
  have HI := Lib.hid (fun W => insertion_none (c := c) W)
  go_enter Tryd.func56, Tryd.ntmps56
  go_wp2_with fail
  go_loopw [1, 2, 3, 8, 9] (fun v1 v2 v3 v8 v9 W => v1 = .int .i64 0 ∧ v2 = .int .i64 0 ∧ v3 = .int .i64 0 ∧ v8 = .bool true ∧ v9 = .bool true ∧ W = w) (fun _ _ _ _ _ _ => 0)
  case atStart => exact ⟨rfl, rfl, rfl, rfl, rfl, rfl⟩
  case round =>
    obtain ⟨rfl, rfl, rfl, rfl, rfl, rfl⟩ := hrel
    go_wp2_with (go_at_call 66; refine (HI.out _).mono ?_; rintro e w1 ⟨rfl, rfl⟩)
    (try simp only [Exit.inBlock, Exit.then]); refine bodyPost_ret (results_none rfl _ _ _) rfl ?_
    exact ⟨rfl, rfl⟩

set_option maxHeartbeats 2000000 in
theorem sort_none (w : World) (c : Nat) :
    Calls Tryd.prog 38 #[.slice none 0 c] w (fun e w' => e = .returned (.tuple #[]) ∧ w' = w) := by
  have hLen : ∀ w, Calls Tryd.prog 57 #[.int .u64 0] w fun e w' => e = .returned (.int .i64 0) ∧ w' = w := fun w => by
    have h := Tryd.bits_Len 0 w (by omega) (by omega)
    exact h
  have HI := Lib.hid (fun W => insertion_none (c := c) W)
  have HC := Lib.hid (pdq_none (c := c) w)
  go_enter Tryd.func38, Tryd.ntmps38
  go_wp2_with (first | (go_at_call 57; refine (hLen _).mono ?_; rintro e w' ⟨rfl, rfl⟩) | (go_at_call 56; refine HC.out.mono ?_; rintro e w8 ⟨rfl, rfl⟩))
  go_end0
  exact ⟨rfl, rfl⟩

/-- Are two alike beside each other? -/
def apart (d : Array UInt64) : Prop := ∀ i, 0 < i → i < d.size → d[i - 1]! ≠ d[i]!
def ComPost (w0 : World) (g n : Nat) (P : Prop) (e : Ending) (w' : World) : Prop := ∃ p k c, e = .returned (.slice p k c) ∧ (k = n ↔ P) ∧ w0.grownBy w' (some g)
theorem zerosU (n : Nat) : ∀ v ∈ (Builtin.zeroCells (Value.int .u64 0).cells n).toList, v.oneCell' = true := by
  intro v hv
  simp only [Builtin.zeroCells, Value.cells, Array.toList_map, List.mem_map] at hv
  obtain ⟨i, _, rfl⟩ := hv
  have : i % 1 = 0 := Nat.mod_one _
  simp [this]
  rfl
theorem nat_eq_u {x y : UInt64} : ((x.toNat : Int) == (y.toNat : Int)) = decide (x = y) := by
  rw [Bool.eq_iff_iff, beq_iff_eq, decide_eq_true_eq, Int.ofNat_inj, UInt64.toNat_inj]

set_option maxHeartbeats 8000000 in
theorem compact_any {base g n cap : Nat} (d : Array UInt64) (w0 w : World) (h : Ro w0 base g n cap d w) (hn : n ≤ 1000000) :
    Calls Tryd.prog 39 #[.slice (some ⟨g, 0, none⟩) n cap] w (ComPost w0 g n (apart d)) := by
  have hsz : d.size = n := h.len
  have hnc : n ≤ cap := by obtain ⟨_, _, _, h, _⟩ := owns_block h.own; exact h
  have HR := Lib.hid h
  have HS := Lib.hid hsz
  clear h hsz
  go_enter Tryd.func39, Tryd.ntmps39
  by_cases h2 : n < 2
  · have y1 : (n : Int) < 2 := by omega
    have HA := Lib.hid (show apart d from fun i h0 hi => by have := HS.out; omega)
    go_wp2_with fail
    go_ret
    exact ⟨_, _, _, rfl, ⟨fun _ => HA.out, fun _ => rfl⟩, HR.out.grown⟩
  · have y1 : ¬ (n : Int) < 2 := by omega
    go_wp2_with fail
    go_loopw [3] (fun v3 W => ∃ i : Nat, v3 = .int .i64 (i : Int) ∧ 1 ≤ i ∧ i ≤ n ∧ Hid (∀ j, 0 < j → j < i → d[j - 1]! ≠ d[j]!) ∧ Ro w0 base g n cap d W) (fun v3 _ => n - (intOf v3).toNat)
    case atStart => exact ⟨1, rfl, Nat.le_refl _, by omega, Lib.hid (fun j h0 h1 => by omega), HR.out⟩
    case round =>
      obtain ⟨i, rfl, hi1, hin, HJ, hr⟩ := hrel
      have HR1 := Lib.hid hr
      clear hr
      by_cases hlt : i < n
      · have y2 : (i : Int) < (n : Int) := by omega
        obtain ⟨m, hm⟩ : ∃ m, m = i - 1 := ⟨_, rfl⟩
        have m1 : IntKind.i64.wrap ((i : Int) - 1) = (m : Int) := by rw [IntKind.wrap_i64]; omega
        have m2 : (i : Int) - 1 = (m : Int) := by omega
        have m3 : (m : Int) < (n : Int) := by omega
        have m4 : (0 : Int) ≤ (m : Int) := by omega
        have m5 : (0 : Int) ≤ (i : Int) := by omega
        have m6 : IntKind.i64.wrap ((i : Int) + 1) = ((i + 1 : Nat) : Int) := by rw [IntKind.wrap_i64]; omega
        obtain ⟨x, hx⟩ : ∃ x, x = d[i]! := ⟨_, rfl⟩
        obtain ⟨y, hy⟩ : ∃ y, y = d[m]! := ⟨_, rfl⟩
        have c1 : wr.cell? ⟨g, i, none⟩ = some (.int .u64 (x.toNat : Int)) := by rw [hx]; exact HR1.out.cell hlt
        have c2 : wr.cell? ⟨g, m, none⟩ = some (.int .u64 (y.toNat : Int)) := by rw [hy]; exact HR1.out.cell (by omega)
        have HX := Lib.hid hx
        have HY := Lib.hid hy
        have HM := Lib.hid hm
        clear hx hy hm
        by_cases hxy : x = y
        · have z1 : ((x.toNat : Int) == (y.toNat : Int)) = true := by rw [nat_eq_u]; simpa using hxy
          have z2 : (x.toNat : Int) = (y.toNat : Int) := by rw [hxy]
          have HNA := Lib.hid (show ¬ apart d from fun hap => hap i (by omega) (by rw [HS.out]; exact hlt) (by rw [← HM.out, ← HX.out, ← HY.out, hxy]))
          clear hxy
          have q1 : ¬ cap = i := by omega
          have q2 : (i : Int) ≤ (n : Int) := by omega
          have q3 : (n : Int) ≤ (cap : Int) := by omega
          have q4 : i ≤ cap := by omega
          obtain ⟨l2, hl2⟩ : ∃ l2, l2 = n - i := ⟨_, rfl⟩
          have HL2 := Lib.hid hl2
          have q5 : n - i = l2 := hl2.symm
          have hd := HR1.out.drew
          have HR2 := Lib.hid hd
          clear hl2 hd
          go_wp2_with fail
          go_region
          go_wp2_with fail
          go_loopw [3, 5] (fun v3 v5 W => ∃ (k t : Nat) (e : Array UInt64), v3 = .int .i64 (k : Int) ∧ v5 = .int .i64 (t : Int) ∧ 1 ≤ t ∧ t ≤ l2 ∧ i ≤ k ∧ k + 1 ≤ i + t ∧ Ro w0 base g n cap e W) (fun _ v5 _ => l2 - (intOf v5).toNat)
          case atStart => exact ⟨i, 1, d, rfl, rfl, Nat.le_refl _, by have := HL2.out; omega, Nat.le_refl _, Nat.le_refl _, HR2.out⟩
          case round =>
            obtain ⟨k, t, e, rfl, rfl, ht1, ht2, hk1, hk2, hr⟩ := hrel
            have HR3 := Lib.hid hr
            clear hr
            by_cases hlt2 : t < l2
            · have v1 : (t : Int) < (l2 : Int) := by omega
              obtain ⟨r, hr⟩ : ∃ r, r = t - 1 := ⟨_, rfl⟩
              have v2 : IntKind.i64.wrap ((t : Int) - 1) = (r : Int) := by rw [IntKind.wrap_i64]; have := HL2.out; omega
              have v3 : (t : Int) - 1 = (r : Int) := by omega
              have v4 : (r : Int) < (l2 : Int) := by omega
              have v5 : (0 : Int) ≤ (r : Int) := by omega
              have v6 : (0 : Int) ≤ (t : Int) := by omega
              have v7 : IntKind.i64.wrap ((t : Int) + 1) = ((t + 1 : Nat) : Int) := by rw [IntKind.wrap_i64]; have := HL2.out; omega
              have v8 : IntKind.i64.wrap ((k : Int) + 1) = ((k + 1 : Nat) : Int) := by rw [IntKind.wrap_i64]; have := HL2.out; omega
              have v9 : (k : Int) < (n : Int) := by have := HL2.out; omega
              have v10 : (0 : Int) ≤ (k : Int) := by omega
              obtain ⟨p, hp⟩ : ∃ p, p = e[i + t]! := ⟨_, rfl⟩
              obtain ⟨q, hq⟩ : ∃ q, q = e[i + r]! := ⟨_, rfl⟩
              have d1 : wr.cell? ⟨g, i + t, none⟩ = some (.int .u64 (p.toNat : Int)) := by rw [hp]; exact HR3.out.cell (by have := HL2.out; omega)
              have d2 : wr.cell? ⟨g, i + r, none⟩ = some (.int .u64 (q.toNat : Int)) := by rw [hq]; exact HR3.out.cell (by have := HL2.out; omega)
              have fz : ∀ o, wr.frozen? ⟨g, o, none⟩ = false := fun o => HR3.out.free o
              have d3 : ∃ v, wr.cell? ⟨g, k, none⟩ = some v := ⟨_, HR3.out.cell (by have := HL2.out; omega)⟩
              obtain ⟨vk, d3⟩ := d3
              clear hp hq hr
              by_cases hpq : p = q
              · have s1 : ((p.toNat : Int) == (q.toNat : Int)) = true := by rw [nat_eq_u]; simpa using hpq
                have s2 : (p.toNat : Int) = (q.toNat : Int) := by rw [hpq]
                clear hpq
                go_wp2_with fail
                go_region
                go_wp2_with fail
                go_roundw
                case rel => exact ⟨k, t + 1, e, rfl, by first | rfl | (congr 1), by omega, by omega, by omega, by omega, HR3.out.drew⟩
                case measure => simp [intOf]; omega
              · have s1 : ((p.toNat : Int) == (q.toNat : Int)) = false := by rw [nat_eq_u]; simpa using hpq
                have s2 : ¬ (p.toNat : Int) = (q.toNat : Int) := by rw [Int.ofNat_inj, UInt64.toNat_inj]; exact hpq
                have HR4 := Lib.hid (HR3.out.drew.put k p)
                clear hpq
                go_wp2_with fail
                go_region
                go_wp2_with fail
                go_roundw
                case rel => exact ⟨k + 1, t + 1, _, by first | rfl | (congr 1), by first | rfl | (congr 1), by omega, by omega, by omega, by omega, HR4.out⟩
                case measure => simp [intOf]; omega
            · have v1 : ¬ (t : Int) < (l2 : Int) := by omega
              have hkn : k < n := by have := HL2.out; omega
              obtain ⟨zs, w4, hr4, hz4, ho4, hg4, -⟩ := run_clear_in (P := Tryd.prog) wr TUs TU (.int .u64 0) 1 Tryd.underlying36 (fun w => by kernel_rfl) rfl zerosU HR3.out.own k (n - k) (by omega) (by omega)
              simp only [Nat.mul_one] at hr4
              have HG4 := Lib.hid (HR3.out.grown.trans hg4)
              have HKN := Lib.hid (show ¬ k = n from by omega)
              have u1 : ¬ cap = k := by omega
              have u2 : (k : Int) ≤ (n : Int) := by omega
              have u3 : (k : Int) ≤ (cap : Int) := by omega
              have u4 : k ≤ cap := by omega
              have u5 : (0 : Int) ≤ (k : Int) := by omega
              clear hz4 ho4 hg4
              go_wp2_with fail
              clear hr4
              (try simp only [Exit.inBlock, Exit.then]); refine bodyPost_ret (results_tmp rfl _ _ _) rfl ?_
              exact ⟨_, _, _, rfl, ⟨fun h => absurd h HKN.out, fun h => absurd h HNA.out⟩, HG4.out⟩
        · have z1 : ((x.toNat : Int) == (y.toNat : Int)) = false := by rw [nat_eq_u]; simpa using hxy
          have z2 : ¬ (x.toNat : Int) = (y.toNat : Int) := by rw [Int.ofNat_inj, UInt64.toNat_inj]; exact hxy
          have HJ2 := Lib.hid (show ∀ j, 0 < j → j < i + 1 → d[j - 1]! ≠ d[j]! from fun j h0 h1 => by
            by_cases e : j = i
            · subst e; rw [← HM.out, ← HX.out, ← HY.out]; exact fun h => hxy h.symm
            · exact HJ.out j h0 (by omega))
          clear hxy
          go_wp2_with fail
          go_region
          go_wp2_with fail
          go_roundw
          case rel => exact ⟨i + 1, by first | rfl | (congr 1), by omega, by omega, HJ2, HR1.out.drew⟩
          case measure => simp [intOf]; omega
      · have y2 : ¬ (i : Int) < (n : Int) := by omega
        have hin2 : i = n := by omega
        subst hin2
        have HA := Lib.hid (show apart d from fun j h0 hj => HJ.out j h0 (by have := HS.out; omega))
        go_wp2_with fail
        (try simp only [Exit.inBlock, Exit.then]); refine bodyPost_ret (results_tmp rfl _ _ _) rfl ?_
        exact ⟨_, _, _, rfl, ⟨fun _ => HA.out, fun _ => rfl⟩, HR1.out.grown⟩
end Go.Proofs.Tryd.Sq
