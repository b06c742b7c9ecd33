/- alike: two lists of prefixes held against each other; lists turned, and swapped in pairs. -/
import Derived.Test.YtbhnpndkdhhpfaaPsU
import Derived.Test.YtbhnpndkdhhpfaaPt2
set_option linter.unusedVariables false
set_option linter.unusedSimpArgs false
namespace Go.Proofs.Try.Pfx
open Go.RowKit Go.Cph Go.Cph.Px

theorem run_neqP (p q : Pf) (w : World) : (binOp .neq 27 (encP p) (encP q)).run Try.prog w = .ok (.bool (!(p == q))) w := by
  have hb : (p == q) = ((p.1.1.toNat : Int) == q.1.1.toNat && ((p.1.2.1.toNat : Int) == q.1.2.1.toNat && ((p.1.2.2.toNat : Int) == q.1.2.2.toNat && (p.2 == q.2)))) := by
    rw [Bool.eq_iff_iff, pf_eq]
    simp only [Bool.and_eq_true, beq_iff_eq]
  rw [hb]
  cases b0 : ((p.1.1.toNat : Int) == q.1.1.toNat) <;> cases b1 : ((p.1.2.1.toNat : Int) == q.1.2.1.toNat) <;> cases b2 : ((p.1.2.2.toNat : Int) == q.1.2.2.toNat) <;> cases b3 : (p.2 == q.2) <;> go_simp
theorem alike_end {l m : List Pf} (hl : l.length = m.length) (h : l.take l.length = m.take l.length) : l = m := by
  rw [List.take_length] at h
  rw [h, hl, List.take_length]
theorem alike_snoc {l m : List Pf} {i : Nat} (hi : i < l.length) (hj : i < m.length) (h : l.take i = m.take i) (he : l[i] = m[i]) : l.take (i + 1) = m.take (i + 1) := by
  rw [List.take_succ_eq_append_getElem hi, List.take_succ_eq_append_getElem hj, h, he]
set_option maxRecDepth 100000 in
set_option maxHeartbeats 2000000 in
theorem alike_any (v u : Value) (l m : List Pf) (w : World) (h : PfsAt w v l) (k : PfsAt w u m) (hn : l.length ≤ 1000000) (hm : m.length ≤ 1000000) :
    Calls Try.prog 34 #[v, u] w fun e w' => e = .returned (.bool (decide (l = m))) ∧ Below w.heap.size w w' := by
  obtain ⟨ao, cap, hv⟩ := elems_slice h
  obtain ⟨bo, cbp, hu⟩ := elems_slice k
  have HV := Lib.hid h
  have HU := Lib.hid k
  subst hv
  subst hu
  clear h k
  by_cases hlen : l.length = m.length
  · have HL := Lib.hid hlen
    rw [← hlen] at HU ⊢
    clear hlen
    go_enter Try.func34, Try.ntmps34
    go_wp2_with fail
    go_loopw [5] (fun vi wr => ∃ i : Nat, i ≤ l.length ∧ vi = .int .i64 i ∧ Hid (l.take i = m.take i) ∧ Below w.heap.size w wr) (fun vi _ => l.length - (intOf vi).toNat)
    case atStart => exact ⟨0, Nat.zero_le _, rfl, Lib.hid (by simp), Below.refl _ _⟩
    case round =>
      obtain ⟨i, hi, rfl, HT, hbel⟩ := hrel
      have HBE := Lib.hid hbel
      clear hbel
      by_cases hlt : i < l.length
      · obtain ⟨b, off, cap', hve, hcs⟩ := pfs_cells (HV.out.kept HBE.out) (by omega)
        cases hve
        have hlm : i < m.length := by rw [← HL.out]; exact hlt
        have HUw : PfsAt wr (.slice bo m.length cbp) m := by have := HU.out.kept HBE.out; rwa [HL.out] at this
        obtain ⟨b2, off2, cap2, hve2, hds⟩ := pfs_cells HUw (by omega)
        cases hve2
        have hq := hcs i hlt
        have hs := hds i hlm
        have HQ := Lib.hid (show l.take (i + 1) = m.take (i + 1) ↔ (l[i] == m[i]) = true from by
          rw [beq_iff_eq]
          constructor
          · intro h
            rw [List.take_succ_eq_append_getElem hlt, List.take_succ_eq_append_getElem hlm, HT.out] at h
            exact (List.cons.inj (List.append_cancel_left h)).1
          · exact alike_snoc hlt hlm HT.out)
        obtain ⟨x, hx⟩ : ∃ x, x = l[i] := ⟨_, rfl⟩
        obtain ⟨y, hy⟩ : ∃ y, y = m[i] := ⟨_, rfl⟩
        rw [← hx] at hq HQ
        rw [← hy] at hs HQ
        obtain ⟨c, hc⟩ : ∃ c, c = (x == y) := ⟨_, rfl⟩
        rw [← hc] at HQ
        have hnp := fun w => (show (binOp .neq 27 (encP x) (encP y)).run Try.prog w = .ok (.bool (!c)) w by rw [hc]; exact run_neqP x y w)
        have m0 : (0 : Int) ≤ (i : Int) := by omega
        have m1 : (i : Int) < (l.length : Int) := by omega
        have q0 := hq.c0
        have q1 := hq.c1
        have q2 := hq.c2
        have q3 := hq.c3
        have s0 := hs.c0
        have s1 := hs.c1
        have s2 := hs.c2
        have s3 := hs.c3
        clear hx hy hc hq hs hcs hds HUw
        cases c
        · go_wp2_with fail
          go_quiet (fail)
          clear hnp q0 q1 q2 q3 s0 s1 s2 s3
          go_wp2_with fail
          go_ret
          refine ⟨ret_bool ?_, HBE.out.trans ⟨rfl, rfl, rfl, Nat.le_refl _, fun _ _ => rfl⟩⟩
          symm
          rw [decide_eq_false_iff_not]
          intro e
          have := HQ.out.1 (by rw [e])
          cases this
        · have HQ2 := Lib.hid (HQ.out.2 rfl)
          go_wp2_with fail
          go_quiet (fail)
          clear hnp q0 q1 q2 q3 s0 s1 s2 s3
          go_wp2_with fail
          go_roundw
          case rel => exact ⟨i + 1, hlt, by go_num, HQ2, HBE.out.trans ⟨rfl, rfl, rfl, Nat.le_refl _, fun _ _ => rfl⟩⟩
          case measure => simp [intOf]; omega
      · obtain rfl : i = l.length := by omega
        have HE := Lib.hid (alike_end HL.out HT.out)
        go_wp2_with fail
        go_ret
        exact ⟨ret_bool (by simp [HE.out]), HBE.out⟩
  · have hne : ((l.length : Int) != (m.length : Int)) = true := by simpa using (show ¬ (l.length : Int) = (m.length : Int) by omega)
    have HN := Lib.hid (show ¬ l = m by rintro rfl; exact hlen rfl)
    clear hlen
    go_enter Try.func34, Try.ntmps34
    go_wp2_with fail
    go_ret
    exact ⟨ret_bool (by simp [HN.out]), Below.refl _ _⟩

/-! ### turned -/
def turnL (l : List Pf) (t k : Nat) : List Pf := (List.range k).map (fun i => l.getD ((i + t) % l.length) zeroP)
theorem turnL_snoc (l : List Pf) (t k : Nat) : turnL l t (k + 1) = turnL l t k ++ [l.getD ((k + t) % l.length) zeroP] := by unfold turnL; rw [List.range_succ, List.map_append]; rfl
theorem turnL_length (l : List Pf) (t k : Nat) : (turnL l t k).length = k := by simp [turnL]
theorem mem_turnL (l : List Pf) (t : Nat) (x : Pf) : x ∈ turnL l t l.length ↔ x ∈ l := by
  unfold turnL
  rw [List.mem_map]
  constructor
  · rintro ⟨i, hi, rfl⟩
    rw [List.mem_range] at hi
    have h : (i + t) % l.length < l.length := Nat.mod_lt _ (by omega)
    rw [getD_of h]
    exact List.getElem_mem h
  · intro hx
    obtain ⟨j, hj, rfl⟩ := List.getElem_of_mem hx
    have h0 : 0 < l.length := by omega
    have ht : t % l.length < l.length := Nat.mod_lt _ h0
    refine ⟨(j + (l.length - t % l.length)) % l.length, List.mem_range.2 (Nat.mod_lt _ h0), ?_⟩
    have e : ((j + (l.length - t % l.length)) % l.length + t) % l.length = j := by
      have hd := Nat.div_add_mod t l.length
      have hs : j + (l.length - t % l.length) + t = j + l.length * (t / l.length + 1) := by rw [Nat.mul_add, Nat.mul_one]; omega
      rw [Nat.mod_add_mod, hs, Nat.add_mul_mod_self_left, Nat.mod_eq_of_lt hj]
    rw [e, getD_of hj]
/-! ### swapped -/
theorem mem_swap {α : Type} {l : List α} {i j : Nat} (hi : i < l.length) (hj : j < l.length) (x : α) : x ∈ (l.set i l[j]).set j l[i] ↔ x ∈ l := by
  by_cases e : i = j
  · subst e; simp
  · constructor
    · intro h
      obtain ⟨k, hk, rfl⟩ := List.getElem_of_mem h
      simp only [List.length_set] at hk
      rw [List.getElem_set]
      split
      · exact List.getElem_mem hi
      · rw [List.getElem_set]
        split
        · exact List.getElem_mem hj
        · exact List.getElem_mem hk
    · intro h
      obtain ⟨k, hk, rfl⟩ := List.getElem_of_mem h
      by_cases h1 : k = i
      · subst h1
        refine List.mem_of_getElem (i := j) (h := by simpa using hj) ?_
        simp
      · by_cases h2 : k = j
        · subst h2
          refine List.mem_of_getElem (i := i) (h := by simpa using hi) ?_
          rw [List.getElem_set_ne (by omega)]; simp
        · refine List.mem_of_getElem (i := k) (h := by simpa using hk) ?_
          rw [List.getElem_set_ne (by omega), List.getElem_set_ne (by omega)]
end Go.Proofs.Try.Pfx
