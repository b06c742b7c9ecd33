/- The document's Join, Same. -/
import Derived.Test.YtmnfddmjlkkcoaaGr4
import Derived.Deep.RegionHeld3
set_option linter.unusedVariables false
set_option linter.unusedSimpArgs false
namespace Go.Proofs.Try.Gp
open Go.RowKit Go.Cph Go.Cph.Px Go.Cph.Gp Go.Cph.So
open Pfx (encA)
abbrev box4 : Obj := .cells #[.int .u8 4, .int .u64 0, .int .u64 0, .int .u8 4, .int .u64 0, .int .u64 4294967295] TEr (0, 0)
abbrev box6 : Obj := .cells #[.int .u8 6, .int .u64 0, .int .u64 0, .int .u8 6, .int .u64 18446744073709551615, .int .u64 18446744073709551615] TEr (0, 0)
theorem free4 (v : Value) (l : List Sp) (w : World) (h : SpsAt w v l) (hl : l.length ≤ 3000000) :
    Calls Try.prog 16 #[.agg #[.int .u8 4, .int .u64 0, .int .u64 0], .agg #[.int .u8 4, .int .u64 0, .int .u64 4294967295], v] w (SetPostR w (FreeP four0 four1 (covS l)) (l.length + 1)) := rfree_any four0 four1 v l w h hl
theorem free6 (v : Value) (l : List Sp) (w : World) (h : SpsAt w v l) (hl : l.length ≤ 3000000) :
    Calls Try.prog 16 #[.agg #[.int .u8 6, .int .u64 0, .int .u64 0], .agg #[.int .u8 6, .int .u64 18446744073709551615, .int .u64 18446744073709551615], v] w (SetPostR w (FreeP six0 six1 (covS l)) (l.length + 1)) := rfree_any six0 six1 v l w h hl

set_option maxRecDepth 100000 in
set_option maxHeartbeats 16000000 in
theorem rjoin_any (v : Value) (l : List Sp) (w : World) (h : SpsAt w v l) (hl : l.length ≤ 2000000) :
    Calls Try.prog 15 #[v] w (SetPostR w (covS l) (2 * l.length + 4)) := by
  obtain ⟨ao, cap, rfl⟩ := elems_slice h
  have HI4 := Lib.hid (fun W (hb : Below w.heap.size w W) => free4 _ l W (h.kept hb) (by omega))
  have HI6 := Lib.hid (fun W (hb : Below w.heap.size w W) => free6 _ l W (h.kept hb) (by omega))
  have HLL := Lib.hid hl
  have HB1 := Lib.hid (show Below w.heap.size w ((w.alloc box4).alloc box6) from ((Below.refl _ _).alloc (Nat.le_refl _) _).alloc (by simp) _)
  have hg2 := heap_alloc_new (w.alloc box4) box6
  simp only [World.size_alloc] at hg2
  have HG4 := Lib.hid (show ((w.alloc box4).alloc box6).heap[w.heap.size]? = some box4 from blk_alloc (heap_alloc_new w box4) _)
  have HG6 := Lib.hid hg2
  obtain ⟨n, hn⟩ : ∃ n, n = w.heap.size := ⟨_, rfl⟩
  have HN := Lib.hid hn
  clear hn h hl hg2
  go_enter Try.func15, Try.ntmps15
  go_wp2_with fail
  generalize (w.alloc box4).alloc box6 = w1 at *
  rw [← HN.out] at HI4 HI6 HB1 HG4 HG6 ⊢
  have f0 : w1.drew.cell? ⟨n, 0, none⟩ = some (.int .u8 4) := by rw [blk_cell (show w1.drew.heap[n]? = some box4 from HG4.out)]; rfl
  have f1 : w1.drew.cell? ⟨n, 1, none⟩ = some (.int .u64 0) := by rw [blk_cell (show w1.drew.heap[n]? = some box4 from HG4.out)]; rfl
  have f2 : w1.drew.cell? ⟨n, 2, none⟩ = some (.int .u64 0) := by rw [blk_cell (show w1.drew.heap[n]? = some box4 from HG4.out)]; rfl
  have f3 : w1.drew.cell? ⟨n, 3, none⟩ = some (.int .u8 4) := by rw [blk_cell (show w1.drew.heap[n]? = some box4 from HG4.out)]; rfl
  have f4 : w1.drew.cell? ⟨n, 4, none⟩ = some (.int .u64 0) := by rw [blk_cell (show w1.drew.heap[n]? = some box4 from HG4.out)]; rfl
  have f5 : w1.drew.cell? ⟨n, 5, none⟩ = some (.int .u64 4294967295) := by rw [blk_cell (show w1.drew.heap[n]? = some box4 from HG4.out)]; rfl
  have HD1 := Lib.hid (HB1.out.drew)
  go_region_held3 (fun W => W.cell? ⟨n, 0, none⟩ = some (.int .u8 4) ∧ W.cell? ⟨n, 1, none⟩ = some (.int .u64 0) ∧ W.cell? ⟨n, 2, none⟩ = some (.int .u64 0) ∧ W.cell? ⟨n, 3, none⟩ = some (.int .u8 4) ∧ W.cell? ⟨n, 4, none⟩ = some (.int .u64 0) ∧ W.cell? ⟨n, 5, none⟩ = some (.int .u64 4294967295)) (go_keep)
    (first
      | (go_at_call 16; (with_reducible refine (HI4.out _ HD1.out).mono ?_); rintro e w2 ⟨L4, hs1, hl1, v1, rfl, ho1, hb⟩; have HB2 := Lib.hid (below_step HD1.out hb (show n ≤ w1.heap.size from by rw [HN.out]; exact HB1.out.size)); have HG4b := Lib.hid (show w2.heap[n]? = some box4 from blk_kept hb HG4.out); have HG6b := Lib.hid (show w2.heap[n + 1]? = some box6 from blk_kept hb HG6.out); have HS1 := Lib.hid hs1; have HL1 := Lib.hid hl1; have HF4 := Lib.hid (free4 v1 L4 w2 (Seg.of_owns ho1) (by have := HLL.out; omega)); have HZ2 := Lib.hid hb.size; clear hs1 hl1 ho1 hb; have e0 : w2.cell? ⟨n, 0, none⟩ = some (.int .u8 4) := (by rw [blk_cell HG4b.out]; rfl); have e1 : w2.cell? ⟨n, 1, none⟩ = some (.int .u64 0) := (by rw [blk_cell HG4b.out]; rfl); have e2 : w2.cell? ⟨n, 2, none⟩ = some (.int .u64 0) := (by rw [blk_cell HG4b.out]; rfl); have e3 : w2.cell? ⟨n, 3, none⟩ = some (.int .u8 4) := (by rw [blk_cell HG4b.out]; rfl); have e4 : w2.cell? ⟨n, 4, none⟩ = some (.int .u64 0) := (by rw [blk_cell HG4b.out]; rfl); have e5 : w2.cell? ⟨n, 5, none⟩ = some (.int .u64 4294967295) := (by rw [blk_cell HG4b.out]; rfl))
      | (go_at_call 16; (with_reducible refine HF4.out.mono ?_); rintro e w3 ⟨M4, hs2, hl2, v2, rfl, ho2, hb⟩; have HB3 := Lib.hid (below_step HB2.out hb (Nat.le_trans (show n ≤ w1.heap.size from by rw [HN.out]; exact HB1.out.size) HZ2.out)); have HG6c := Lib.hid (show w3.heap[n + 1]? = some box6 from blk_kept hb HG6b.out); have HG4c := Lib.hid (show w3.heap[n]? = some box4 from blk_kept hb HG4b.out); have HS2 := Lib.hid hs2; have HL2 := Lib.hid hl2; have HO2 := Lib.hid (owns_mono ho2 (show w1.heap.size ≤ w2.heap.size from HZ2.out)); have HZ3 := Lib.hid (Nat.le_trans HZ2.out hb.size); clear hs2 hl2 ho2 hb; have g0 : w3.cell? ⟨n, 0, none⟩ = some (.int .u8 4) := (by rw [blk_cell HG4c.out]; rfl); have g1 : w3.cell? ⟨n, 1, none⟩ = some (.int .u64 0) := (by rw [blk_cell HG4c.out]; rfl); have g2 : w3.cell? ⟨n, 2, none⟩ = some (.int .u64 0) := (by rw [blk_cell HG4c.out]; rfl); have g3 : w3.cell? ⟨n, 3, none⟩ = some (.int .u8 4) := (by rw [blk_cell HG4c.out]; rfl); have g4 : w3.cell? ⟨n, 4, none⟩ = some (.int .u64 0) := (by rw [blk_cell HG4c.out]; rfl); have g5 : w3.cell? ⟨n, 5, none⟩ = some (.int .u64 4294967295) := (by rw [blk_cell HG4c.out]; rfl)))
  clear f0 f1 f2 f3 f4 f5 e0 e1 e2 e3 e4 e5 g0 g1 g2 g3 g4 g5
  have HD3 := Lib.hid (HB3.out.drew)
  have HW1 := Lib.hid (show n ≤ w1.heap.size from by rw [HN.out]; exact HB1.out.size)
  have f0 : w3.drew.cell? ⟨n + 1, 0, none⟩ = some (.int .u8 6) := by rw [blk_cell (show w3.drew.heap[n + 1]? = some box6 from HG6c.out)]; rfl
  have f1 : w3.drew.cell? ⟨n + 1, 1, none⟩ = some (.int .u64 0) := by rw [blk_cell (show w3.drew.heap[n + 1]? = some box6 from HG6c.out)]; rfl
  have f2 : w3.drew.cell? ⟨n + 1, 2, none⟩ = some (.int .u64 0) := by rw [blk_cell (show w3.drew.heap[n + 1]? = some box6 from HG6c.out)]; rfl
  have f3 : w3.drew.cell? ⟨n + 1, 3, none⟩ = some (.int .u8 6) := by rw [blk_cell (show w3.drew.heap[n + 1]? = some box6 from HG6c.out)]; rfl
  have f4 : w3.drew.cell? ⟨n + 1, 4, none⟩ = some (.int .u64 18446744073709551615) := by rw [blk_cell (show w3.drew.heap[n + 1]? = some box6 from HG6c.out)]; rfl
  have f5 : w3.drew.cell? ⟨n + 1, 5, none⟩ = some (.int .u64 18446744073709551615) := by rw [blk_cell (show w3.drew.heap[n + 1]? = some box6 from HG6c.out)]; rfl
  go_wp2_with fail
  go_region_held3 (fun W => W.cell? ⟨n + 1, 0, none⟩ = some (.int .u8 6) ∧ W.cell? ⟨n + 1, 1, none⟩ = some (.int .u64 0) ∧ W.cell? ⟨n + 1, 2, none⟩ = some (.int .u64 0) ∧ W.cell? ⟨n + 1, 3, none⟩ = some (.int .u8 6) ∧ W.cell? ⟨n + 1, 4, none⟩ = some (.int .u64 18446744073709551615) ∧ W.cell? ⟨n + 1, 5, none⟩ = some (.int .u64 18446744073709551615)) (go_keep)
    (first
      | (go_at_call 16; (with_reducible refine (HI6.out _ HD3.out).mono ?_); rintro e w4 ⟨L6, hs1, hl1, v3, rfl, ho1, hb⟩; have HB4 := Lib.hid (below_step HD3.out hb (Nat.le_trans HW1.out HZ3.out)); have HG6d := Lib.hid (show w4.heap[n + 1]? = some box6 from blk_kept hb HG6c.out); have HS3 := Lib.hid hs1; have HL3 := Lib.hid hl1; have HF6 := Lib.hid (free6 v3 L6 w4 (Seg.of_owns ho1) (by have := HLL.out; omega)); have HZ4 := Lib.hid (Nat.le_trans HZ3.out hb.size); have HO4 := Lib.hid (row_kept1 (show w3.drew.ownsRow w1.heap.size TEr 6 v2 M4.length (M4.flatMap encC) from HO2.out) fun k hk => hb.block k (HO2.out.lt k hk).2); clear hs1 hl1 ho1 hb; have e0 : w4.cell? ⟨n + 1, 0, none⟩ = some (.int .u8 6) := (by rw [blk_cell HG6d.out]; rfl); have e1 : w4.cell? ⟨n + 1, 1, none⟩ = some (.int .u64 0) := (by rw [blk_cell HG6d.out]; rfl); have e2 : w4.cell? ⟨n + 1, 2, none⟩ = some (.int .u64 0) := (by rw [blk_cell HG6d.out]; rfl); have e3 : w4.cell? ⟨n + 1, 3, none⟩ = some (.int .u8 6) := (by rw [blk_cell HG6d.out]; rfl); have e4 : w4.cell? ⟨n + 1, 4, none⟩ = some (.int .u64 18446744073709551615) := (by rw [blk_cell HG6d.out]; rfl); have e5 : w4.cell? ⟨n + 1, 5, none⟩ = some (.int .u64 18446744073709551615) := (by rw [blk_cell HG6d.out]; rfl))
      | (go_at_call 16; (with_reducible refine HF6.out.mono ?_); rintro e w5 ⟨M6, hs2, hl2, v4, rfl, ho2, hb⟩; have HB5 := Lib.hid (below_step HB4.out hb (Nat.le_trans HW1.out HZ4.out)); have HG6e := Lib.hid (show w5.heap[n + 1]? = some box6 from blk_kept hb HG6d.out); have HS4 := Lib.hid hs2; have HL4 := Lib.hid hl2; have HZ5 := Lib.hid (Nat.le_trans HZ4.out hb.size); have ho5 := row_kept1 HO4.out (fun k hk => hb.block k (HO4.out.lt k hk).2); obtain ⟨v9, w9, hr9, ho9, hg9, -⟩ := run_append_seg (P := Try.prog) w5 29 29 TEr _ 6 48 Try.underlying29 infoR rfl (by decide) ho5 (Seg.of_owns ho2) encC_one (by have := HLL.out; have := HL1.out; have := HL2.out; have := HL3.out; omega) (by decide) HZ5.out; have HR9 := Lib.hid hr9; have HO9 := Lib.hid ho9; have HB9 := Lib.hid (below_grown HB5.out hg9 ho5 HW1.out (Nat.le_trans HW1.out HZ5.out)); have HG6f := Lib.hid (show w9.heap[n + 1]? = some box6 from (hg9.block (n + 1) (blk_lt HG6e.out) (fun e => absurd (HO4.out.lt (n + 1) e.symm).1 (Nat.not_le.2 (blk_lt HG6.out)))).trans HG6e.out); clear hs2 hl2 ho2 hb ho5 hr9 ho9 hg9; have g0 : w5.cell? ⟨n + 1, 0, none⟩ = some (.int .u8 6) := (by rw [blk_cell HG6e.out]; rfl); have g1 : w5.cell? ⟨n + 1, 1, none⟩ = some (.int .u64 0) := (by rw [blk_cell HG6e.out]; rfl); have g2 : w5.cell? ⟨n + 1, 2, none⟩ = some (.int .u64 0) := (by rw [blk_cell HG6e.out]; rfl); have g3 : w5.cell? ⟨n + 1, 3, none⟩ = some (.int .u8 6) := (by rw [blk_cell HG6e.out]; rfl); have g4 : w5.cell? ⟨n + 1, 4, none⟩ = some (.int .u64 18446744073709551615) := (by rw [blk_cell HG6e.out]; rfl); have g5 : w5.cell? ⟨n + 1, 5, none⟩ = some (.int .u64 18446744073709551615) := (by rw [blk_cell HG6e.out]; rfl); have h0 : w9.cell? ⟨n + 1, 0, none⟩ = some (.int .u8 6) := (by rw [blk_cell HG6f.out]; rfl); have h1 : w9.cell? ⟨n + 1, 1, none⟩ = some (.int .u64 0) := (by rw [blk_cell HG6f.out]; rfl); have h2 : w9.cell? ⟨n + 1, 2, none⟩ = some (.int .u64 0) := (by rw [blk_cell HG6f.out]; rfl); have h3 : w9.cell? ⟨n + 1, 3, none⟩ = some (.int .u8 6) := (by rw [blk_cell HG6f.out]; rfl); have h4 : w9.cell? ⟨n + 1, 4, none⟩ = some (.int .u64 18446744073709551615) := (by rw [blk_cell HG6f.out]; rfl); have h5 : w9.cell? ⟨n + 1, 5, none⟩ = some (.int .u64 18446744073709551615) := (by rw [blk_cell HG6f.out]; rfl))
      | (refine step_append rfl (.tmp 23) (.tmp 34) 29 29 rfl v2 v4 (by simp [Act.eval, Act.put]) (by simp [Act.eval, Act.put]) HR9.out ?_))
  clear f0 f1 f2 f3 f4 f5 e0 e1 e2 e3 e4 e5 g0 g1 g2 g3 g4 g5 h0 h1 h2 h3 h4 h5
  go_wp2_with fail
  go_ret
  refine ⟨M4 ++ M6, joinD_is HS1.out HS2.out HS3.out HS4.out, ?_, v9, rfl, ?_, by rw [← HN.out]; exact HB9.out⟩
  · have := HL1.out; have := HL2.out; have := HL3.out; have := HL4.out
    rw [List.length_append]; omega
  · rw [List.length_append, List.flatMap_append, ← HN.out]
    exact owns_mono HO9.out HW1.out
theorem sp_eq (p q : Sp) : (p == q) = true ↔ ((p.1.1.toNat : Int) = q.1.1.toNat ∧ (p.1.2.1.toNat : Int) = q.1.2.1.toNat ∧ (p.1.2.2.toNat : Int) = q.1.2.2.toNat) ∧ (p.2.1.toNat : Int) = q.2.1.toNat ∧ (p.2.2.1.toNat : Int) = q.2.2.1.toNat ∧ (p.2.2.2.toNat : Int) = q.2.2.2.toNat := by
  rw [beq_iff_eq, Prod.ext_iff, ← ad_eq, ← ad_eq, beq_iff_eq, beq_iff_eq]
set_option maxHeartbeats 4000000 in
theorem run_neqR (p q : Sp) (w : World) : (binOp .neq 48 (encP p) (encP q)).run Try.prog w = .ok (.bool (!(p == q))) w := by
  have hb : (p == q) = (((p.1.1.toNat : Int) == q.1.1.toNat) && (((p.1.2.1.toNat : Int) == q.1.2.1.toNat) && (((p.1.2.2.toNat : Int) == q.1.2.2.toNat) && (((p.2.1.toNat : Int) == q.2.1.toNat) && (((p.2.2.1.toNat : Int) == q.2.2.1.toNat) && ((p.2.2.2.toNat : Int) == q.2.2.2.toNat)))))) := by
    rw [Bool.eq_iff_iff, sp_eq]
    simp only [Bool.and_eq_true, beq_iff_eq, and_assoc]
  rw [hb]
  cases b0 : ((p.1.1.toNat : Int) == q.1.1.toNat) <;> cases b1 : ((p.1.2.1.toNat : Int) == q.1.2.1.toNat) <;> cases b2 : ((p.1.2.2.toNat : Int) == q.1.2.2.toNat) <;> cases b3 : ((p.2.1.toNat : Int) == q.2.1.toNat) <;> cases b4 : ((p.2.2.1.toNat : Int) == q.2.2.1.toNat) <;> cases b5 : ((p.2.2.2.toNat : Int) == q.2.2.2.toNat) <;> go_simp

set_option maxRecDepth 100000 in
set_option maxHeartbeats 4000000 in
theorem rsame_any (v v' : Value) (l m : List Sp) (w : World) (h : SpsAt w v l) (h' : SpsAt w v' m) (hl : l.length ≤ 10000000) (hm : m.length ≤ 10000000) :
    Calls Try.prog 17 #[v, v'] w fun e w' => e = .returned (.bool (l == m)) ∧ Below w.heap.size w w' := by
  obtain ⟨ao, cap, rfl⟩ := elems_slice h
  obtain ⟨ao', cap', rfl⟩ := elems_slice h'
  by_cases hlm : l.length = m.length
  · have HE := Lib.hid h
    have HM := Lib.hid h'
    have HLM := Lib.hid hlm
    have z1 : ((l.length : Int) != (m.length : Int)) = false := by rw [hlm]; simp
    clear h h'
    go_enter Try.func17, Try.ntmps17
    go_wp2_with fail
    clear z1
    go_loopw [5] (fun vi W => ∃ i : Nat, i ≤ l.length ∧ vi = .int .i64 i ∧ l.take i = m.take i ∧ Below w.heap.size w W) (fun vi _ => l.length - (intOf vi).toNat)
    case atStart => exact ⟨0, Nat.zero_le _, rfl, rfl, Below.refl _ _⟩
    case round =>
      obtain ⟨i, hi, rfl, htk, hbel⟩ := hrel
      have HBE := Lib.hid hbel
      have HTK := Lib.hid htk
      by_cases hlt : i < l.length
      · have HLT := Lib.hid hlt
        have hlt2 : i < m.length := by omega
        have HL2 := Lib.hid hlt2
        obtain ⟨b, off, cap1, hve, hcs⟩ := sps_cells (HE.out.kept hbel) (by omega)
        injection hve with hx1 hx2 hx3
        subst hx1
        clear hx2 hx3
        obtain ⟨b', off', cap2, hve, hcs'⟩ := sps_cells (HM.out.kept hbel) (by omega)
        injection hve with hx1 hx2 hx3
        subst hx1
        clear hx2 hx3
        have hcx := hcs i hlt
        have hcy := hcs' i hlt2
        obtain ⟨x, hx⟩ : ∃ x, x = l[i]'hlt := ⟨_, rfl⟩
        obtain ⟨y, hy⟩ : ∃ y, y = m[i]'hlt2 := ⟨_, rfl⟩
        have HTS := Lib.hid (show l.take (i + 1) = l.take i ++ [x] ∧ m.take (i + 1) = m.take i ++ [y] from ⟨by rw [hx]; exact List.take_succ_eq_append_getElem hlt, by rw [hy]; exact List.take_succ_eq_append_getElem hlt2⟩)
        have HXY := Lib.hid (show x ≠ y → l ≠ m from fun hne he => hne (by rw [hx, hy]; simp only [he]))
        rw [← hx] at hcx
        rw [← hy] at hcy
        have d0 := hcx.c0
        have d1 := hcx.c1
        have d2 := hcx.c2
        have d3 := hcx.c3
        have d4 := hcx.c4
        have d5 := hcx.c5
        have f0 := hcy.c0
        have f1 := hcy.c1
        have f2 := hcy.c2
        have f3 := hcy.c3
        have f4 := hcy.c4
        have f5 := hcy.c5
        have hq := fun W => run_neqR x y W
        obtain ⟨q, hqq⟩ : ∃ q, q = (x == y) := ⟨_, rfl⟩
        rw [← hqq] at hq
        have HQ := Lib.hid hqq
        have k1 : (0 : Int) ≤ (i : Int) := by omega
        have k2 : (i : Int) < (l.length : Int) := by omega
        have k3 : (i : Int) < (m.length : Int) := by omega
        have k4 : IntKind.i64.wrap ((i : Int) + 1) = (i : Int) + 1 := by rw [IntKind.wrap_i64]; omega
        clear hbel hcs hcs' hcx hcy hx hy hqq htk hi hlt hlt2
        have dq : ∀ (a : Addr) k, (wr.drewN k).cell? a = wr.cell? a := fun _ _ => rfl
        go_wp2_with fail
        go_quiet (fail)
        have HBQ := Lib.hid (below_step HBE.out (show Below wr.heap.size wr (wr.drewN nq) from ⟨rfl, rfl, rfl, Nat.le_refl _, fun _ _ => rfl⟩) HBE.out.size)
        clear d0 d1 d2 d3 d4 d5 f0 f1 f2 f3 f4 f5 dq hq
        generalize wr.drewN nq = wq at *
        cases q
        · go_wp2_with fail
          go_ret
          exact ⟨ret_bool (beq_false_of_ne (HXY.out (by intro h; have h2 := HQ.out; rw [h, beq_self_eq_true] at h2; cases h2))).symm, HBQ.out⟩
        · go_wp2_with fail
          go_roundw
          case rel => exact ⟨i + 1, HLT.out, by go_num, by rw [HTS.out.1, HTS.out.2, HTK.out, show x = y from by have h2 := HQ.out.symm; rwa [beq_iff_eq] at h2], HBQ.out⟩
          case measure => have := HLT.out; simp [intOf]; omega
      · obtain rfl : i = l.length := by omega
        have k2 : ¬ (l.length : Int) < (l.length : Int) := by omega
        rw [List.take_length, HLM.out, List.take_length] at HTK
        clear htk hbel hi hlt
        go_wp2_with fail
        go_ret
        exact ⟨ret_bool (by rw [HTK.out, beq_self_eq_true]), HBE.out⟩
  · have HNE := Lib.hid (show (l == m) = false from beq_false_of_ne fun he => hlm (by rw [he]))
    have z1 : ((l.length : Int) != (m.length : Int)) = true := by simp; omega
    clear h h' hlm
    go_enter Try.func17, Try.ntmps17
    go_wp2_with fail
    go_ret
    exact ⟨ret_bool HNE.out.symm, Below.refl _ _⟩
end Go.Proofs.Try.Gp
