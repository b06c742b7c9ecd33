/- Whether lists are more than statements go through; whether lists are the same. -/
import Derived.Test.YtggcdeabnibibaaMk7
import Derived.Laws.StructEq
set_option linter.unusedVariables false
set_option linter.unusedSimpArgs false
namespace Go.Proofs.Try.Mg
open Go.RowKit Go.Cph Go.Cph.Skip Go.Cph.So

structure Small (most : Nat) (ls : List (List Ent)) : Prop where
  num : ls.length ≤ most
  each : ∀ l ∈ ls, l.length ≤ 60
  bytes : bytesL ls.flatten ≤ 20000
def GreatPost (most : Nat) (ls : List (List Ent)) (w : World) (e : Ending) (w' : World) : Prop := ∃ r : Bool, e = .returned (.bool r) ∧ (r = false → Small most ls) ∧ Below w.heap.size w w'

set_option maxRecDepth 100000 in
set_option maxHeartbeats 8000000 in
theorem great_any (most : Nat) (v : Value) (ls : List (List Ent)) (w : World) (h : EntsOf w v ls) (hm : most ≤ 10) (hlm : ls.length ≤ 9223372036854775807) (hls : ∀ l ∈ ls, l.length ≤ maxLen) (hks : ∀ l ∈ ls, ∀ e ∈ l, e.1.size ≤ maxLen ∧ e.2.1.size ≤ maxLen) :
    Calls Try.prog 9 #[.int .i64 most, v] w (GreatPost most ls w) := by
  obtain ⟨ao, cap, hv⟩ := h.slice
  subst hv
  have HL := Lib.hid h
  have HLS := Lib.hid hls
  have HKS := Lib.hid hks
  clear h hls hks
  by_cases hbig : most < ls.length
  · have k0 : (most : Int) < (ls.length : Int) := by omega
    go_enter Try.func9, Try.ntmps9
    go_wp2_with fail
    go_ret
    exact ⟨true, rfl, (fun h => nomatch h), Below.refl _ _⟩
  · have k0 : ¬ (most : Int) < (ls.length : Int) := by omega
    have hl10 : ls.length ≤ 10 := by omega
    have HNB := Lib.hid hbig
    clear hlm
    go_enter Try.func9, Try.ntmps9
    go_wp2_with fail
    clear k0
    go_loopw [5, 6] (fun vn vi wr => ∃ i n : Nat, i ≤ ls.length ∧ vi = .int .i64 i ∧ vn = .int .i64 n ∧ n = bytesL (ls.take i).flatten ∧ n ≤ 2400000 * i ∧ (∀ j (h : j < ls.length), j < i → ls[j].length ≤ 60) ∧ Below w.heap.size w wr) (fun _ vi _ => ls.length - (intOf vi).toNat)
    case atStart => exact ⟨0, 0, Nat.zero_le _, rfl, rfl, by simp [bytesL], by omega, fun j h hj => by omega, Below.refl _ _⟩
    case round =>
      obtain ⟨i, n, hi, rfl, rfl, hn, hnb, hall, hbel⟩ := hrel
      have HN := Lib.hid hn
      have HALL := Lib.hid hall
      have HBE := Lib.hid hbel
      by_cases hlt : i < ls.length
      · obtain ⟨b, off, cap', hve, hcs⟩ := HL.out.cell (by omega)
        cases hve
        obtain ⟨u, hu2, hue⟩ := hcs i hlt
        obtain ⟨g, hg⟩ : ∃ g, g = ls[i] := ⟨_, rfl⟩
        have hgm : g.length ≤ maxLen := HLS.out g (by rw [hg]; exact List.getElem_mem _)
        unfold maxLen at hgm
        have HKG := Lib.hid (show ∀ e ∈ g, e.1.size ≤ maxLen ∧ e.2.1.size ≤ maxLen from HKS.out g (by rw [hg]; exact List.getElem_mem _))
        rw [← hg] at hue
        obtain ⟨uo, uc, hub⟩ := elems_slice hue
        subst hub
        have HUE := Lib.hid hue
        have HU2 := Lib.hid hu2
        have hu : wr.cell? ⟨b, off + i, none⟩ = some (.slice uo g.length uc) := (hbel.cell (World.block_lt_of_cell? _ _ hu2)).trans hu2
        have HSN := Lib.hid (show bytesL (ls.take (i + 1)).flatten = n + bytesL g by rw [flatten_take ls hlt, bytesL_append, ← hn, hg])
        have HG := Lib.hid hg
        have k1 : (0 : Int) ≤ (i : Int) := by omega
        have k2 : (i : Int) < (ls.length : Int) := by omega
        have hnm : (n : Int) ≤ 24000000 := by omega
        clear hn hall hbel hcs hue hu2 hg
        by_cases h60 : 60 < g.length
        · have k3 : (60 : Int) < (g.length : Int) := by omega
          go_wp2_with fail
          go_ret
          exact ⟨true, rfl, (fun h => nomatch h), HBE.out⟩
        · have k3 : ¬ (60 : Int) < (g.length : Int) := by omega
          obtain ⟨wo, rfl⟩ : ∃ wo : World, wo = wr := ⟨_, rfl⟩
          go_wp2_with fail
          clear k3
          go_loopw [5, 7] (fun vn vk wr2 => ∃ k m : Nat, k ≤ g.length ∧ vk = .int .i64 k ∧ vn = .int .i64 m ∧ m = n + bytesL (g.take k) ∧ m ≤ n + 40000 * k ∧ Below w.heap.size w wr2) (fun _ vk _ => g.length - (intOf vk).toNat)
          case atStart => exact ⟨0, n, Nat.zero_le _, rfl, rfl, by simp [bytesL], by omega, HBE.out⟩
          case round =>
            obtain ⟨k, m, hk, rfl, rfl, hm2, hmb, hbel⟩ := hrel
            have HM := Lib.hid hm2
            have HB2 := Lib.hid hbel
            have hu : wr.cell? ⟨b, off + i, none⟩ = some (.slice uo g.length uc) := (hbel.cell (World.block_lt_of_cell? _ _ HU2.out)).trans HU2.out
            by_cases hkl : k < g.length
            · obtain ⟨gb, go_, gc, hub, hgc⟩ := ents_cells HUE.out (by omega)
              injection hub with hu1 _ hu3
              subst hu1
              obtain rfl : gc = uc := hu3.symm
              have hcx := (hgc k hkl).kept hbel
              obtain ⟨x, hx⟩ : ∃ x, x = g[k] := ⟨_, rfl⟩
              rw [← hx] at hcx
              have hxs := HKG.out x (by rw [hx]; exact List.getElem_mem _)
              unfold maxLen at hxs
              obtain ⟨hx1, hx2⟩ := hxs
              have HSX := Lib.hid (show bytesL (g.take (k + 1)) = bytesL (g.take k) + (x.1.size + x.2.1.size) by rw [List.take_succ_eq_append_getElem hkl, bytesL_append, ← hx]; rfl)
              have j1 : (0 : Int) ≤ (k : Int) := by omega
              have j2 : (k : Int) < (g.length : Int) := by omega
              have hmm : (m : Int) ≤ 30000000 := by omega
              have d0 := hcx.c0
              have d1 := hcx.c1
              have d2 := hcx.c2
              have d3 := hcx.c3
              clear hm2 hbel hgc hcx hx
              by_cases hA : 20000 < x.1.size
              · have a1 : decide ((20000 : Int) < (x.1.size : Int)) = true := by simp; omega
                have a2 : (20000 : Int) < (x.1.size : Int) := by omega
                go_wp2_with fail
                go_ret
                exact ⟨true, rfl, (fun h => nomatch h), HB2.out.alloc HB2.out.size _⟩
              · have a1 : decide ((20000 : Int) < (x.1.size : Int)) = false := by simp; omega
                have a2 : ¬ (20000 : Int) < (x.1.size : Int) := by omega
                by_cases hB : 20000 < x.2.1.size
                · have a3 : decide ((20000 : Int) < (x.2.1.size : Int)) = true := by simp; omega
                  have a4 : (20000 : Int) < (x.2.1.size : Int) := by omega
                  go_wp2_with fail
                  go_ret
                  exact ⟨true, rfl, (fun h => nomatch h), HB2.out.alloc HB2.out.size _⟩
                · have a3 : decide ((20000 : Int) < (x.2.1.size : Int)) = false := by simp; omega
                  have a4 : ¬ (20000 : Int) < (x.2.1.size : Int) := by omega
                  go_wp2_with fail
                  go_roundw
                  case rel => exact ⟨k + 1, m + x.1.size + x.2.1.size, hkl, by go_num, by go_num, by rw [HSX.out, HM.out]; omega, by omega, HB2.out.alloc HB2.out.size _⟩
                  case measure => simp [intOf]; omega
            · obtain rfl : k = g.length := by omega
              rw [List.take_length] at hm2
              have HM3 := Lib.hid hm2
              clear hm2 hbel
              go_wp2_with fail
              go_roundw
              case rel =>
                refine ⟨i + 1, m, hlt, by go_num, rfl, by rw [HSN.out, HM3.out], by omega, fun j hj hji => ?_, HB2.out⟩
                by_cases e : j = i
                · subst e; rw [← HG.out]; omega
                · exact HALL.out j hj (by omega)
              case measure => simp [intOf]; omega
      · have HF := Lib.hid (show n ≤ 20000 → Small most ls from fun h => ⟨by have := HNB.out; omega, fun l hl => by
          obtain ⟨j, hj, rfl⟩ := List.getElem_of_mem hl
          exact hall j hj (by omega), by rw [List.take_of_length_le (by omega)] at hn; omega⟩)
        clear hn hall hbel
        by_cases hB : 20000 < n
        · have a3 : decide ((20000 : Int) < (n : Int)) = true := by simp; omega
          have a4 : (20000 : Int) < (n : Int) := by omega
          go_wp2_with fail
          go_ret
          exact ⟨true, by simp [a4], (fun h => nomatch h), HBE.out⟩
        · have a3 : decide ((20000 : Int) < (n : Int)) = false := by simp; omega
          have a4 : ¬ (20000 : Int) < (n : Int) := by omega
          go_wp2_with fail
          go_ret
          exact ⟨false, by simp [a4], fun _ => HF.out (by omega), HBE.out⟩

theorem ent_eq (x y : Ent) : decide (x = y) = ((x.1.toList == y.1.toList) && ((x.2.1.toList == y.2.1.toList) && (((x.2.2.1.toNat : Int) == (y.2.2.1.toNat : Int)) && (x.2.2.2 == y.2.2.2)))) := by
  obtain ⟨a, b, c, d⟩ := x
  obtain ⟨a', b', c', d'⟩ := y
  rw [Bool.eq_iff_iff]
  simp only [beq_toList, Bool.and_eq_true, decide_eq_true_eq, beq_iff_eq, Prod.mk.injEq]
  refine and_congr_right fun _ => and_congr_right fun _ => and_congr_left fun _ => ?_
  rw [← UInt64.toNat_inj]; omega
theorem opp_eq (x y : Opp) : decide (x = y) = ((x.1.toList == y.1.toList) && ((x.2.1.toList == y.2.1.toList) && (x.2.2 == y.2.2))) := by
  obtain ⟨a, b, d⟩ := x
  obtain ⟨a', b', d'⟩ := y
  rw [Bool.eq_iff_iff]
  simp only [beq_toList, Bool.and_eq_true, decide_eq_true_eq, beq_iff_eq, Prod.mk.injEq]
theorem run_neq_same (x y : Ent) (w : World) : (binOp .neq TE (encP x) (encP y)).run Try.prog w = .ok (.bool (!decide (x = y))) w := by
  rw [ent_eq]
  cases b0 : (x.1.toList == y.1.toList) <;> cases b1 : (x.2.1.toList == y.2.1.toList) <;> cases b2 : ((x.2.2.1.toNat : Int) == (y.2.2.1.toNat : Int)) <;> cases b3 : (x.2.2.2 == y.2.2.2) <;> go_simp
abbrev encOV (o : Opp) : Value := .agg #[.string o.1, .string o.2.1, .bool o.2.2]
theorem run_neq_ops (x y : Opp) (w : World) : (binOp .neq 45 (encOV x) (encOV y)).run Try.prog w = .ok (.bool (!decide (x = y))) w := by
  rw [opp_eq]
  cases b0 : (x.1.toList == y.1.toList) <;> cases b1 : (x.2.1.toList == y.2.1.toList) <;> cases b3 : (x.2.2 == y.2.2) <;> go_simp

set_option maxRecDepth 100000 in
set_option maxHeartbeats 4000000 in
theorem same (va vb : Value) (a b : List Ent) (w : World) (ha : EntsAt w va a) (hb : EntsAt w vb b) (hna : a.length ≤ 1000000) (hnb : b.length ≤ 1000000) :
    Calls Try.prog 14 #[va, vb] w fun e w' => e = .returned (.bool (decide (a = b))) ∧ Below w.heap.size w w' := by
  obtain ⟨ao, ac, hv⟩ := elems_slice ha
  subst hv
  obtain ⟨bo, bc, hv⟩ := elems_slice hb
  subst hv
  have HA := Lib.hid ha
  have HB := Lib.hid hb
  clear ha hb
  by_cases hl : a.length = b.length
  · have HL := Lib.hid hl
    obtain ⟨n, hn⟩ : ∃ n, n = a.length := ⟨_, rfl⟩
    have hn2 : n = b.length := hn.trans hl
    have HNA := Lib.hid hn
    have HNB := Lib.hid hn2
    rw [← hn] at hna HA ⊢
    rw [← hn2] at HB ⊢
    clear hl hn hn2 hnb
    go_enter Try.func14, Try.ntmps14
    go_wp2_with fail
    go_loopw [5] (fun vi wr => ∃ i : Nat, i ≤ n ∧ vi = .int .i64 i ∧ a.take i = b.take i ∧ Below w.heap.size w wr) (fun vi _ => n - (intOf vi).toNat)
    case atStart => exact ⟨0, Nat.zero_le _, rfl, rfl, Below.refl _ _⟩
    case round =>
      obtain ⟨i, hi, rfl, heq, hbel⟩ := hrel
      have HE := Lib.hid heq
      have HBE := Lib.hid hbel
      by_cases hlt : i < n
      · have hia : i < a.length := by rw [← HNA.out]; exact hlt
        have hib : i < b.length := by rw [← HNB.out]; exact hlt
        have hA := HA.out
        have hB := HB.out
        rw [HNA.out] at hA
        rw [HNB.out] at hB
        obtain ⟨ab, ao', ac', hve, hcs⟩ := elems_shape encC_len hA (by omega)
        injection hve with h1 _ h3
        subst h1
        obtain ⟨bb, bo', bc', hve, hcs2⟩ := elems_shape encC_len hB (by omega)
        injection hve with h1 _ h4
        subst h1
        obtain ⟨x, hx⟩ : ∃ x, x = a[i] := ⟨_, rfl⟩
        obtain ⟨y, hy⟩ : ∃ x, x = b[i] := ⟨_, rfl⟩
        have HX := Lib.hid (show ∃ (h1 : i < a.length) (h2 : i < b.length), a[i] = x ∧ b[i] = y from ⟨hia, hib, hx.symm, hy.symm⟩)
        have d0 : wr.cell? ⟨ab, ao' + i * 4, none⟩ = some (.string x.1) := by have h := hcs i hia 0 (by omega); rw [← hx] at h; exact (hbel.cell (World.block_lt_of_cell? _ _ h)).trans h
        have f0 : wr.cell? ⟨bb, bo' + i * 4, none⟩ = some (.string y.1) := by have h := hcs2 i hib 0 (by omega); rw [← hy] at h; exact (hbel.cell (World.block_lt_of_cell? _ _ h)).trans h
        have d1 : wr.cell? ⟨ab, ao' + i * 4 + 1, none⟩ = some (.string x.2.1) := by have h := hcs i hia 1 (by omega); rw [← hx] at h; exact (hbel.cell (World.block_lt_of_cell? _ _ h)).trans h
        have f1 : wr.cell? ⟨bb, bo' + i * 4 + 1, none⟩ = some (.string y.2.1) := by have h := hcs2 i hib 1 (by omega); rw [← hy] at h; exact (hbel.cell (World.block_lt_of_cell? _ _ h)).trans h
        have d2 : wr.cell? ⟨ab, ao' + i * 4 + 2, none⟩ = some (.int .u64 (x.2.2.1.toNat : Int)) := by have h := hcs i hia 2 (by omega); rw [← hx] at h; exact (hbel.cell (World.block_lt_of_cell? _ _ h)).trans h
        have f2 : wr.cell? ⟨bb, bo' + i * 4 + 2, none⟩ = some (.int .u64 (y.2.2.1.toNat : Int)) := by have h := hcs2 i hib 2 (by omega); rw [← hy] at h; exact (hbel.cell (World.block_lt_of_cell? _ _ h)).trans h
        have d3 : wr.cell? ⟨ab, ao' + i * 4 + 3, none⟩ = some (.bool x.2.2.2) := by have h := hcs i hia 3 (by omega); rw [← hx] at h; exact (hbel.cell (World.block_lt_of_cell? _ _ h)).trans h
        have f3 : wr.cell? ⟨bb, bo' + i * 4 + 3, none⟩ = some (.bool y.2.2.2) := by have h := hcs2 i hib 3 (by omega); rw [← hy] at h; exact (hbel.cell (World.block_lt_of_cell? _ _ h)).trans h
        have k1 : (0 : Int) ≤ (i : Int) := by omega
        have k2 : (i : Int) < (n : Int) := by omega
        have hne := fun W => run_neq_same x y W
        have HNE := Lib.hid hne
        clear hcs hcs2 hA hB heq hbel hx hy hia hib hne h3 h4
        by_cases hxy : x = y
        · have e1 : (!decide (x = y)) = false := by simp [hxy]
          have HEQ := Lib.hid hxy
          have hne := HNE.out
          rw [e1] at hne
          clear hxy e1
          go_wp2_with fail
          go_quiet (fail)
          clear hne d0 f0 d1 f1 d2 f2 d3 f3
          have HB2 := Lib.hid (below_step HBE.out (show Below wr.heap.size wr (wr.drewN nq) from ⟨rfl, rfl, rfl, Nat.le_refl _, fun _ _ => rfl⟩) HBE.out.size)
          generalize wr.drewN nq = wq at *
          go_wp2_with fail
          go_roundw
          case rel =>
            refine ⟨i + 1, hlt, by go_num, ?_, HB2.out⟩
            obtain ⟨h1, h2, h3, h4⟩ := HX.out
            rw [List.take_succ_eq_append_getElem h1, List.take_succ_eq_append_getElem h2, HE.out, h3, h4, HEQ.out]
          case measure => simp [intOf]; omega
        · have e1 : (!decide (x = y)) = true := by simp [hxy]
          have HF := Lib.hid (show decide (a = b) = false by
            rw [decide_eq_false_iff_not]; rintro rfl
            obtain ⟨h1, h2, h3, h4⟩ := HX.out
            exact hxy (h3.symm.trans h4))
          have hne := HNE.out
          rw [e1] at hne
          clear hxy e1
          go_wp2_with fail
          go_quiet (fail)
          clear hne d0 f0 d1 f1 d2 f2 d3 f3
          have HB2 := Lib.hid (below_step HBE.out (show Below wr.heap.size wr (wr.drewN nq) from ⟨rfl, rfl, rfl, Nat.le_refl _, fun _ _ => rfl⟩) HBE.out.size)
          generalize wr.drewN nq = wq at *
          go_wp2_with fail
          go_ret
          exact ⟨ret_bool HF.out.symm, HB2.out⟩
      · have HT := Lib.hid (show decide (a = b) = true by
          rw [decide_eq_true_eq]
          have := heq
          rwa [List.take_of_length_le (by have := HNA.out; omega), List.take_of_length_le (by have := HNB.out; omega)] at this)
        clear heq hbel
        go_wp2_with fail
        go_ret
        exact ⟨ret_bool HT.out.symm, HBE.out⟩
  · have k0 : ((a.length : Int) != (b.length : Int)) = true := by simp; omega
    have HF := Lib.hid (show decide (a = b) = false by rw [decide_eq_false_iff_not]; rintro rfl; exact hl rfl)
    clear hl
    go_enter Try.func14, Try.ntmps14
    go_wp2_with fail
    go_ret
    exact ⟨ret_bool HF.out.symm, Below.refl _ _⟩

set_option maxRecDepth 100000 in
set_option maxHeartbeats 4000000 in
theorem ops (va vb : Value) (a b : List Opp) (w : World) (ha : OpsAt w va a) (hb : OpsAt w vb b) (hna : a.length ≤ 1000000) (hnb : b.length ≤ 1000000) :
    Calls Try.prog 17 #[va, vb] w fun e w' => e = .returned (.bool (decide (a = b))) ∧ Below w.heap.size w w' := by
  obtain ⟨ao, ac, hv⟩ := elems_slice ha
  subst hv
  obtain ⟨bo, bc, hv⟩ := elems_slice hb
  subst hv
  have HA := Lib.hid ha
  have HB := Lib.hid hb
  clear ha hb
  by_cases hl : a.length = b.length
  · have HL := Lib.hid hl
    obtain ⟨n, hn⟩ : ∃ n, n = a.length := ⟨_, rfl⟩
    have hn2 : n = b.length := hn.trans hl
    have HNA := Lib.hid hn
    have HNB := Lib.hid hn2
    rw [← hn] at hna HA ⊢
    rw [← hn2] at HB ⊢
    clear hl hn hn2 hnb
    go_enter Try.func17, Try.ntmps17
    go_wp2_with fail
    go_loopw [5] (fun vi wr => ∃ i : Nat, i ≤ n ∧ vi = .int .i64 i ∧ a.take i = b.take i ∧ Below w.heap.size w wr) (fun vi _ => n - (intOf vi).toNat)
    case atStart => exact ⟨0, Nat.zero_le _, rfl, rfl, Below.refl _ _⟩
    case round =>
      obtain ⟨i, hi, rfl, heq, hbel⟩ := hrel
      have HE := Lib.hid heq
      have HBE := Lib.hid hbel
      by_cases hlt : i < n
      · have hia : i < a.length := by rw [← HNA.out]; exact hlt
        have hib : i < b.length := by rw [← HNB.out]; exact hlt
        have hA := HA.out
        have hB := HB.out
        rw [HNA.out] at hA
        rw [HNB.out] at hB
        obtain ⟨ab, ao', ac', hve, hcs⟩ := elems_shape encO_len hA (by omega)
        injection hve with h1 _ h3
        subst h1
        obtain ⟨bb, bo', bc', hve, hcs2⟩ := elems_shape encO_len hB (by omega)
        injection hve with h1 _ h4
        subst h1
        obtain ⟨x, hx⟩ : ∃ x, x = a[i] := ⟨_, rfl⟩
        obtain ⟨y, hy⟩ : ∃ x, x = b[i] := ⟨_, rfl⟩
        have HX := Lib.hid (show ∃ (h1 : i < a.length) (h2 : i < b.length), a[i] = x ∧ b[i] = y from ⟨hia, hib, hx.symm, hy.symm⟩)
        have d0 : wr.cell? ⟨ab, ao' + i * 3, none⟩ = some (.string x.1) := by have h := hcs i hia 0 (by omega); rw [← hx] at h; exact (hbel.cell (World.block_lt_of_cell? _ _ h)).trans h
        have f0 : wr.cell? ⟨bb, bo' + i * 3, none⟩ = some (.string y.1) := by have h := hcs2 i hib 0 (by omega); rw [← hy] at h; exact (hbel.cell (World.block_lt_of_cell? _ _ h)).trans h
        have d1 : wr.cell? ⟨ab, ao' + i * 3 + 1, none⟩ = some (.string x.2.1) := by have h := hcs i hia 1 (by omega); rw [← hx] at h; exact (hbel.cell (World.block_lt_of_cell? _ _ h)).trans h
        have f1 : wr.cell? ⟨bb, bo' + i * 3 + 1, none⟩ = some (.string y.2.1) := by have h := hcs2 i hib 1 (by omega); rw [← hy] at h; exact (hbel.cell (World.block_lt_of_cell? _ _ h)).trans h
        have d2 : wr.cell? ⟨ab, ao' + i * 3 + 2, none⟩ = some (.bool x.2.2) := by have h := hcs i hia 2 (by omega); rw [← hx] at h; exact (hbel.cell (World.block_lt_of_cell? _ _ h)).trans h
        have f2 : wr.cell? ⟨bb, bo' + i * 3 + 2, none⟩ = some (.bool y.2.2) := by have h := hcs2 i hib 2 (by omega); rw [← hy] at h; exact (hbel.cell (World.block_lt_of_cell? _ _ h)).trans h
        have k1 : (0 : Int) ≤ (i : Int) := by omega
        have k2 : (i : Int) < (n : Int) := by omega
        have hne := fun W => run_neq_ops x y W
        have HNE := Lib.hid hne
        clear hcs hcs2 hA hB heq hbel hx hy hia hib hne h3 h4
        by_cases hxy : x = y
        · have e1 : (!decide (x = y)) = false := by simp [hxy]
          have HEQ := Lib.hid hxy
          have hne := HNE.out
          rw [e1] at hne
          clear hxy e1
          go_wp2_with fail
          go_quiet (fail)
          clear hne d0 f0 d1 f1 d2 f2
          have HB2 := Lib.hid (below_step HBE.out (show Below wr.heap.size wr (wr.drewN nq) from ⟨rfl, rfl, rfl, Nat.le_refl _, fun _ _ => rfl⟩) HBE.out.size)
          generalize wr.drewN nq = wq at *
          go_wp2_with fail
          go_roundw
          case rel =>
            refine ⟨i + 1, hlt, by go_num, ?_, HB2.out⟩
            obtain ⟨h1, h2, h3, h4⟩ := HX.out
            rw [List.take_succ_eq_append_getElem h1, List.take_succ_eq_append_getElem h2, HE.out, h3, h4, HEQ.out]
          case measure => simp [intOf]; omega
        · have e1 : (!decide (x = y)) = true := by simp [hxy]
          have HF := Lib.hid (show decide (a = b) = false by
            rw [decide_eq_false_iff_not]; rintro rfl
            obtain ⟨h1, h2, h3, h4⟩ := HX.out
            exact hxy (h3.symm.trans h4))
          have hne := HNE.out
          rw [e1] at hne
          clear hxy e1
          go_wp2_with fail
          go_quiet (fail)
          clear hne d0 f0 d1 f1 d2 f2
          have HB2 := Lib.hid (below_step HBE.out (show Below wr.heap.size wr (wr.drewN nq) from ⟨rfl, rfl, rfl, Nat.le_refl _, fun _ _ => rfl⟩) HBE.out.size)
          generalize wr.drewN nq = wq at *
          go_wp2_with fail
          go_ret
          exact ⟨ret_bool HF.out.symm, HB2.out⟩
      · have HT := Lib.hid (show decide (a = b) = true by
          rw [decide_eq_true_eq]
          have := heq
          rwa [List.take_of_length_le (by have := HNA.out; omega), List.take_of_length_le (by have := HNB.out; omega)] at this)
        clear heq hbel
        go_wp2_with fail
        go_ret
        exact ⟨ret_bool HT.out.symm, HBE.out⟩
  · have k0 : ((a.length : Int) != (b.length : Int)) = true := by simp; omega
    have HF := Lib.hid (show decide (a = b) = false by rw [decide_eq_false_iff_not]; rintro rfl; exact hl rfl)
    clear hl
    go_enter Try.func17, Try.ntmps17
    go_wp2_with fail
    go_ret
    exact ⟨ret_bool HF.out.symm, Below.refl _ _⟩
end Go.Proofs.Try.Mg
