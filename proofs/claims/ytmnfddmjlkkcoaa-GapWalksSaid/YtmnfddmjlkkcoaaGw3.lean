/- What the laws of gap use: below, alike, has, apart. -/
import Derived.Test.YtmnfddmjlkkcoaaGw2
import Derived.Deep.DeepCutAuto
set_option linter.unusedVariables false
set_option linter.unusedSimpArgs false
namespace Go.Proofs.Try.Gp
open Go.RowKit Go.Cph Go.Cph.Px Go.Cph.Gp Go.Cph.So
open Pfx (encA)
def belowA (a b : Ad) : Bool := a.1 == b.1 && lessA a b
set_option maxRecDepth 100000 in
set_option maxHeartbeats 4000000 in
theorem has_list (v : Value) (l : List Sp) (a : Ad) (w : World) (h : SpsAt w v l) (hl : l.length ≤ 3000000) :
    Calls Try.prog 30 #[v, encA a] w fun e w' => e = .returned (.bool (coveredD l a)) ∧ Below w.heap.size w w' := by
  obtain ⟨ao, cap, rfl⟩ := elems_slice h
  have HBX := Lib.hid (show Below w.heap.size w (w.alloc (boxA a)) from (Below.refl _ _).alloc (Nat.le_refl _) _)
  have HG := Lib.hid (heap_alloc_new w (boxA a))
  have HE := Lib.hid (h.kept HBX.out)
  have HL := Lib.hid hl
  clear h
  go_enter Try.func30, Try.ntmps30
  go_wp2_with fail
  generalize w.alloc (boxA a) = w1 at *
  obtain ⟨n, hn⟩ : ∃ n, n = w.heap.size := ⟨_, rfl⟩
  rw [← hn] at HG HBX ⊢
  have HN := Lib.hid hn
  clear hn
  go_loopw [5] (fun vi W => ∃ i : Nat, i ≤ l.length ∧ vi = .int .i64 i ∧ coveredD (l.take i) a = false ∧ Below w1.heap.size w1 W) (fun vi _ => l.length - (intOf vi).toNat)
  case atStart => exact ⟨0, Nat.zero_le _, rfl, rfl, Below.refl _ _⟩
  case round =>
    obtain ⟨i, hi, rfl, hcv, hbel⟩ := hrel
    have HBE := Lib.hid hbel
    have HCV := Lib.hid hcv
    have HBW := Lib.hid (below_step HBX.out hbel (by rw [HN.out]; exact HBX.out.size))
    by_cases hlt : i < l.length
    · have HLT := Lib.hid hlt
      have HCT := Lib.hid (coveredD_take (a := a) hlt)
      have HCS := Lib.hid (fun h => coveredD_some (a := a) hlt h)
      obtain ⟨b', off, cap', hve, hcs⟩ := sps_cells (HE.out.kept hbel) (by omega)
      injection hve with hx1 hx2 hx3
      subst hx1
      clear hx2 hx3
      have hcx := hcs i hlt
      obtain ⟨x, hx⟩ : ∃ x, x = l[i]'hlt := ⟨_, rfl⟩
      rw [← hx] at hcx
      rw [← hx] at HCT
      rw [← hx] at HCS
      have HG2 := Lib.hid (blk_kept hbel HG.out)
      have d0 : ∀ zz : Later wr.heap.size wr, zz.val.cell? ⟨b', off + i * 6, none⟩ = some (.int .u8 (x.1.1.toNat : Int)) := fun zz => Later.cell hcx.c0 (World.block_lt_of_cell? _ _ hcx.c0) zz
      have d1 : ∀ zz : Later wr.heap.size wr, zz.val.cell? ⟨b', off + i * 6 + 1, none⟩ = some (.int .u64 (x.1.2.1.toNat : Int)) := fun zz => Later.cell hcx.c1 (World.block_lt_of_cell? _ _ hcx.c1) zz
      have d2 : ∀ zz : Later wr.heap.size wr, zz.val.cell? ⟨b', off + i * 6 + 2, none⟩ = some (.int .u64 (x.1.2.2.toNat : Int)) := fun zz => Later.cell hcx.c2 (World.block_lt_of_cell? _ _ hcx.c2) zz
      have d3 : ∀ zz : Later wr.heap.size wr, zz.val.cell? ⟨b', off + i * 6 + 3, none⟩ = some (.int .u8 (x.2.1.toNat : Int)) := fun zz => Later.cell hcx.c3 (World.block_lt_of_cell? _ _ hcx.c3) zz
      have d4 : ∀ zz : Later wr.heap.size wr, zz.val.cell? ⟨b', off + i * 6 + 4, none⟩ = some (.int .u64 (x.2.2.1.toNat : Int)) := fun zz => Later.cell hcx.c4 (World.block_lt_of_cell? _ _ hcx.c4) zz
      have d5 : ∀ zz : Later wr.heap.size wr, zz.val.cell? ⟨b', off + i * 6 + 5, none⟩ = some (.int .u64 (x.2.2.2.toNat : Int)) := fun zz => Later.cell hcx.c5 (World.block_lt_of_cell? _ _ hcx.c5) zz
      have f0 : ∀ zz : Later wr.heap.size wr, zz.val.cell? ⟨n, 0, none⟩ = some (.int .u8 (a.1.toNat : Int)) := fun zz => Later.cell (box_n0 HG2.out) (blk_lt HG2.out) zz
      have f1 : ∀ zz : Later wr.heap.size wr, zz.val.cell? ⟨n, 1, none⟩ = some (.int .u64 (a.2.1.toNat : Int)) := fun zz => Later.cell (box_n1 HG2.out) (blk_lt HG2.out) zz
      have f2 : ∀ zz : Later wr.heap.size wr, zz.val.cell? ⟨n, 2, none⟩ = some (.int .u64 (a.2.2.toNat : Int)) := fun zz => Later.cell (box_n2 HG2.out) (blk_lt HG2.out) zz
      have HH := Lib.hid (fun W => has_any x a W)
      obtain ⟨p, hp⟩ : ∃ p, p = hasS x a := ⟨_, rfl⟩
      rw [← hp] at HH HCT HCS
      have k1 : (0 : Int) ≤ (i : Int) := by omega
      have k2 : (i : Int) < (l.length : Int) := by omega
      have k4 : IntKind.i64.wrap ((i : Int) + 1) = (i : Int) + 1 := by rw [IntKind.wrap_i64]; omega
      clear hbel hcs hcx hx hp hcv hi hlt
      go_wp2_with fail
      refine wp_region_later wr.heap.size (by kernel_rfl) (by kernel_rfl) ?_
      repeat (go_big_quiet_step ((go_at_call 24; first | (with_reducible exact Later.calls (Nat.le_refl _) (HH.out _)))))
      refine wpQuiet_nil ?_
      rintro wq ⟨zz, rfl⟩
      have hb := zz.prop
      generalize zz.val = wq at *
      have HBQ := Lib.hid (below_step HBE.out hb HBE.out.size)
      have HBR := Lib.hid (below_step HBW.out hb (by rw [HN.out]; exact HBW.out.size))
      clear hb d0 d1 d2 d3 d4 d5 f0 f1 f2
      cases p
      · go_wp2_with fail
        go_roundw
        case rel => exact ⟨i + 1, HLT.out, by go_num, by rw [HCT.out, HCV.out]; rfl, HBQ.out⟩
        case measure => have := HLT.out; simp [intOf]; omega
      · go_wp2_with fail
        go_ret
        exact ⟨ret_bool (HCS.out (by first | rfl | trivial)).symm, by rw [← HN.out]; exact HBR.out⟩
    · obtain rfl : i = l.length := by omega
      have k2 : ¬ (l.length : Int) < (l.length : Int) := by omega
      rw [List.take_length] at HCV
      clear hcv hbel hi hlt
      go_wp2_with fail
      go_ret
      exact ⟨ret_bool HCV.out.symm, by rw [← HN.out]; exact HBW.out⟩
set_option maxRecDepth 100000 in
set_option maxHeartbeats 4000000 in
theorem alike_any (v v' : Value) (l m : List Sp) (w : World) (h : SpsAt w v l) (h' : SpsAt w v' m) (hl : l.length ≤ 10000000) (hm : m.length ≤ 10000000) :
    Calls Try.prog 19 #[v, v'] w fun e w' => e = .returned (.bool (l == m)) ∧ Below w.heap.size w w' := by
  obtain ⟨ao, cap, rfl⟩ := elems_slice h
  obtain ⟨ao', cap', rfl⟩ := elems_slice h'
  by_cases hlm : l.length = m.length
  · have HE := Lib.hid h
    have HM := Lib.hid h'
    have HLM := Lib.hid hlm
    have z1 : ((l.length : Int) != (m.length : Int)) = false := by rw [hlm]; simp
    clear h h'
    go_enter Try.func19, Try.ntmps19
    go_wp2_with fail
    clear z1
    go_loopw [5] (fun vi W => ∃ i : Nat, i ≤ l.length ∧ vi = .int .i64 i ∧ l.take i = m.take i ∧ Below w.heap.size w W) (fun vi _ => l.length - (intOf vi).toNat)
    case atStart => exact ⟨0, Nat.zero_le _, rfl, rfl, Below.refl _ _⟩
    case round =>
      obtain ⟨i, hi, rfl, htk, hbel⟩ := hrel
      have HBE := Lib.hid hbel
      have HTK := Lib.hid htk
      by_cases hlt : i < l.length
      · have HLT := Lib.hid hlt
        have hlt2 : i < m.length := by omega
        have HL2 := Lib.hid hlt2
        obtain ⟨b, off, cap1, hve, hcs⟩ := sps_cells (HE.out.kept hbel) (by omega)
        injection hve with hx1 hx2 hx3
        subst hx1
        clear hx2 hx3
        obtain ⟨b', off', cap2, hve, hcs'⟩ := sps_cells (HM.out.kept hbel) (by omega)
        injection hve with hx1 hx2 hx3
        subst hx1
        clear hx2 hx3
        have hcx := hcs i hlt
        have hcy := hcs' i hlt2
        obtain ⟨x, hx⟩ : ∃ x, x = l[i]'hlt := ⟨_, rfl⟩
        obtain ⟨y, hy⟩ : ∃ y, y = m[i]'hlt2 := ⟨_, rfl⟩
        have HTS := Lib.hid (show l.take (i + 1) = l.take i ++ [x] ∧ m.take (i + 1) = m.take i ++ [y] from ⟨by rw [hx]; exact List.take_succ_eq_append_getElem hlt, by rw [hy]; exact List.take_succ_eq_append_getElem hlt2⟩)
        have HXY := Lib.hid (show x ≠ y → l ≠ m from fun hne he => hne (by rw [hx, hy]; simp only [he]))
        rw [← hx] at hcx
        rw [← hy] at hcy
        have d0 := hcx.c0
        have d1 := hcx.c1
        have d2 := hcx.c2
        have d3 := hcx.c3
        have d4 := hcx.c4
        have d5 := hcx.c5
        have f0 := hcy.c0
        have f1 := hcy.c1
        have f2 := hcy.c2
        have f3 := hcy.c3
        have f4 := hcy.c4
        have f5 := hcy.c5
        have hq := fun W => run_neqS x y W
        obtain ⟨q, hqq⟩ : ∃ q, q = (x == y) := ⟨_, rfl⟩
        rw [← hqq] at hq
        have HQ := Lib.hid hqq
        have k1 : (0 : Int) ≤ (i : Int) := by omega
        have k2 : (i : Int) < (l.length : Int) := by omega
        have k3 : (i : Int) < (m.length : Int) := by omega
        have k4 : IntKind.i64.wrap ((i : Int) + 1) = (i : Int) + 1 := by rw [IntKind.wrap_i64]; omega
        clear hbel hcs hcs' hcx hcy hx hy hqq htk hi hlt hlt2
        have dq : ∀ (a : Addr) k, (wr.drewN k).cell? a = wr.cell? a := fun _ _ => rfl
        go_wp2_with fail
        go_quiet (fail)
        have HBQ := Lib.hid (below_step HBE.out (show Below wr.heap.size wr (wr.drewN nq) from ⟨rfl, rfl, rfl, Nat.le_refl _, fun _ _ => rfl⟩) HBE.out.size)
        clear d0 d1 d2 d3 d4 d5 f0 f1 f2 f3 f4 f5 dq hq
        generalize wr.drewN nq = wq at *
        cases q
        · go_wp2_with fail
          go_ret
          exact ⟨ret_bool (beq_false_of_ne (HXY.out (by intro h; have h2 := HQ.out; rw [h, beq_self_eq_true] at h2; cases h2))).symm, HBQ.out⟩
        · go_wp2_with fail
          go_roundw
          case rel => exact ⟨i + 1, HLT.out, by go_num, by rw [HTS.out.1, HTS.out.2, HTK.out, show x = y from by have h2 := HQ.out.symm; rwa [beq_iff_eq] at h2], HBQ.out⟩
          case measure => have := HLT.out; simp [intOf]; omega
      · obtain rfl : i = l.length := by omega
        have k2 : ¬ (l.length : Int) < (l.length : Int) := by omega
        rw [List.take_length, HLM.out, List.take_length] at HTK
        clear htk hbel hi hlt
        go_wp2_with fail
        go_ret
        exact ⟨ret_bool (by rw [HTK.out, beq_self_eq_true]), HBE.out⟩
  · have HNE := Lib.hid (show (l == m) = false from beq_false_of_ne fun he => hlm (by rw [he]))
    have z1 : ((l.length : Int) != (m.length : Int)) = true := by simp; omega
    clear h h' hlm
    go_enter Try.func19, Try.ntmps19
    go_wp2_with fail
    go_ret
    exact ⟨ret_bool HNE.out.symm, Below.refl _ _⟩

set_option maxRecDepth 100000 in
set_option maxHeartbeats 4000000 in
theorem below_any (a b : Ad) (w : World) : Calls Try.prog 21 #[encA a, encA b] w fun e w' => e = .returned (.bool (belowA a b)) ∧ Below w.heap.size w w' := by
  obtain ⟨f, x, y⟩ := a
  obtain ⟨g, u, v⟩ := b
  have HB := Lib.hid (show Below w.heap.size w ((w.alloc (boxA (f, x, y))).alloc (boxA (g, u, v))) from ((Below.refl _ _).alloc (Nat.le_refl _) _).alloc (by simp) _)
  by_cases hf : f = g
  · subst hf
    have z1 := Pfx.u8_eq f f
    rw [show (f == f) = true by simp] at z1
    have HQ := Lib.hid (show belowA (f, x, y) (f, u, v) = lessA (f, x, y) (f, u, v) from by unfold belowA; simp)
    rcases Nat.lt_trichotomy x.toNat u.toNat with hx | hx | hx
    · have HV := Lib.hid (HQ.out.trans ((less_hi (f := f) y v (show x ≠ u from fun e => by rw [e] at hx; exact absurd hx (Nat.lt_irrefl _))).trans (show decide (x.toNat < u.toNat) = true from decide_eq_true hx)))
      have hi : (x.toNat : Int) < (u.toNat : Int) := by omega
      go_enter Try.func21, Try.ntmps21
      go_wp2_with fail
      go_ret
      exact ⟨ret_bool HV.out.symm, HB.out⟩
    · obtain rfl : x = u := UInt64.toNat_inj.1 hx
      have HV := Lib.hid (HQ.out.trans (less_lo (f := f) (x := x) y v))
      have hn : ¬ (x.toNat : Int) < (x.toNat : Int) := by omega
      clear hx
      go_enter Try.func21, Try.ntmps21
      go_wp2_with fail
      go_ret
      exact ⟨ret_bool HV.out.symm, HB.out⟩
    · have hne : x ≠ u := fun e => by rw [e] at hx; exact absurd hx (Nat.lt_irrefl _)
      have HV := Lib.hid (HQ.out.trans ((less_hi (f := f) y v hne).trans (show decide (x.toNat < u.toNat) = false from decide_eq_false (by omega))))
      have hn : ¬ (x.toNat : Int) < (u.toNat : Int) := by omega
      have hn2 : ¬ x.toNat < u.toNat := by omega
      have z := Pfx.u64_eq x u
      rw [show (x == u) = false by simpa using hne] at z
      clear hx hne
      go_enter Try.func21, Try.ntmps21
      go_wp2_with fail
      go_ret
      exact ⟨ret_bool HV.out.symm, HB.out⟩
  · have HV := Lib.hid (show belowA (f, x, y) (g, u, v) = false from by unfold belowA; simp [hf])
    have z := Pfx.u8_eq f g
    rw [show (f == g) = false by simpa using hf] at z
    clear hf
    go_enter Try.func21, Try.ntmps21
    go_wp2_with fail
    go_ret
    exact ⟨ret_bool HV.out.symm, HB.out⟩
/-- Two spans that follow one another in a list that rises and does not touch. -/
theorem next_apart {a b : Ad} (h : rank a + 1 < rank b) (hf : a.1 = b.1) : belowA a b = true ∧ ((a.2.1 == b.2.1) && (a.2.2 + 1 == b.2.2)) = false ∧ ((a.2.2 == MX) && ((b.2.2 == 0) && (a.2.1 + 1 == b.2.1))) = false := by
  rw [rank_num, rank_num, hf] at h
  have e1 : (1 : UInt64).toNat = 1 := rfl
  have e0 : (0 : UInt64).toNat = 0 := rfl
  have a1 := a.2.1.toNat_lt
  have a2 := a.2.2.toNat_lt
  have b1 := b.2.1.toNat_lt
  have b2 := b.2.2.toNat_lt
  refine ⟨?_, ?_, ?_⟩
  · unfold belowA
    rw [hf, beq_self_eq_true, Bool.true_and, less_rank, rank_num, rank_num, hf]
    exact Nat.lt_of_succ_lt h
  · rw [Bool.eq_false_iff]
    intro hh
    rw [Bool.and_eq_true, beq_iff_eq, beq_iff_eq] at hh
    have h1 := congrArg UInt64.toNat hh.1
    have h2 := congrArg UInt64.toNat hh.2
    rw [UInt64.toNat_add, e1] at h2
    unfold num at h
    omega
  · rw [Bool.eq_false_iff]
    intro hh
    rw [Bool.and_eq_true, Bool.and_eq_true, beq_iff_eq, beq_iff_eq, beq_iff_eq] at hh
    have h1 := congrArg UInt64.toNat hh.1
    have h2 := congrArg UInt64.toNat hh.2.1
    have h3 := congrArg UInt64.toNat hh.2.2
    rw [UInt64.toNat_add, e1] at h3
    rw [mx_nat] at h1
    rw [e0] at h2
    have h4 : a.2.2.toNat + 1 = 18446744073709551616 := by rw [h1]
    clear h1 hh
    unfold num at h
    omega
theorem fam_next {s t : Sp} (hs : rightS s = true) (ht : rightS t = true) (h : rank s.2 + 1 < rank t.1) (hn : ¬ s.1.1.toNat < t.1.1.toNat) : s.2.1 = t.1.1 := by
  have h1 := rightS_iff.1 hs
  have h2 := rank_fam s.2
  have h3 := rank_fam t.1
  rw [← h1.2.2.1] at h2 ⊢
  generalize rank s.2 = rs at *
  generalize rank t.1 = rt at *
  exact UInt8.toNat_inj.1 (by omega)

set_option maxRecDepth 100000 in
set_option maxHeartbeats 16000000 in
theorem apart_any (v : Value) (l : List Sp) (P : Nat → Prop) (w : World) (h : SpsAt w v l) (hl : l.length ≤ 3000000) (hset : IsSet l P) :
    Calls Try.prog 29 #[v] w fun e w' => e = .returned (.bool true) ∧ Below w.heap.size w w' := by
  obtain ⟨ao, cap, rfl⟩ := elems_slice h
  have HE := Lib.hid h
  have HSET := Lib.hid hset
  have HLL := Lib.hid hl
  clear h hset
  go_enter Try.func29, Try.ntmps29
  go_wp2_with fail
  go_loopw [3] (fun vi W => ∃ i : Nat, i ≤ l.length ∧ vi = .int .i64 i ∧ Below w.heap.size w W) (fun vi _ => l.length - (intOf vi).toNat)
  case atStart => exact ⟨0, Nat.zero_le _, rfl, Below.refl _ _⟩
  case round =>
    obtain ⟨i, hi, rfl, hbel⟩ := hrel
    have HB := Lib.hid hbel
    by_cases hlt : i < l.length
    · have HLT := Lib.hid hlt
      obtain ⟨b', off, cap', hve, hcs⟩ := sps_cells HE.out (by omega)
      injection hve with hx1 hx2 hx3
      subst hx1
      clear hx2 hx3
      have HCS := Lib.hid hcs
      have hcx := (hcs i hlt).kept hbel
      have HRI := Lib.hid (HSET.out.right _ (List.getElem_mem hlt))
      obtain ⟨x, hx⟩ : ∃ x, x = l[i]'hlt := ⟨_, rfl⟩
      rw [← hx] at hcx
      have HXE := Lib.hid (show ∀ h : i < l.length, x = l[i]'h from fun _ => hx)
      have HR := Lib.hid (fun W => right_sp x W)
      rw [show rightS x = true from by rw [hx]; exact HRI.out] at HR
      have HRX := Lib.hid (show rightS x = true from by rw [hx]; exact HRI.out)
      have d0 := hcx.c0
      have d1 := hcx.c1
      have d2 := hcx.c2
      have d3 := hcx.c3
      have d4 := hcx.c4
      have d5 := hcx.c5
      have k1 : (0 : Int) ≤ (i : Int) := by omega
      have k2 : (i : Int) < (l.length : Int) := by omega
      have k4 : IntKind.i64.wrap ((i : Int) + 1) = (i : Int) + 1 := by rw [IntKind.wrap_i64]; omega
      clear hbel hcs hcx hx hi hlt HRI
      go_wp2_with fail
      clear d0 d1 d2 d3 d4 d5
      refine (HR.out _).mono ?_
      rintro e w2 ⟨rfl, hb⟩
      have HB2 := Lib.hid (below_step HB.out hb HB.out.size)
      clear hb
      by_cases h0 : i = 0
      · have z : ((i : Int) == 0) = true := by rw [h0]; rfl
        clear h0
        go_wp2_with fail
        refine wp_region_later w2.heap.size (by kernel_rfl) (by kernel_rfl) ?_
        repeat (go_big_quiet_step (fail))
        refine wpQuiet_nil ?_
        rintro wq ⟨zz, rfl⟩
        have HB3 := Lib.hid (below_step HB2.out zz.prop HB2.out.size)
        generalize zz.val = wq at *
        go_wp2_with fail
        go_roundw
        case rel => exact ⟨i + 1, HLT.out, by go_num, HB3.out⟩
        case measure => have := HLT.out; simp [intOf]; omega
      · have z : ((i : Int) == 0) = false := by simp; omega
        obtain ⟨p, hp⟩ : ∃ p, i = p + 1 := ⟨i - 1, by omega⟩
        have hpl : p < l.length := by have := HLT.out; omega
        have k5 : IntKind.i64.wrap ((i : Int) - 1) = (p : Int) := by rw [IntKind.wrap_i64]; have := HLT.out; omega
        have k6 : (p : Int) < (l.length : Int) := by omega
        have k7 : (0 : Int) ≤ (p : Int) := by omega
        have hcy := (HCS.out p hpl).kept HB2.out
        have hcx := (HCS.out i HLT.out).kept HB2.out
        rw [← HXE.out HLT.out] at hcx
        have HPA := Lib.hid (show rank (l[p]'hpl).2 + 1 < rank x.1 from by rw [HXE.out HLT.out]; exact HSET.out.pair hpl HLT.out (by omega))
        have HRY := Lib.hid (HSET.out.right _ (List.getElem_mem hpl))
        obtain ⟨y, hy⟩ : ∃ y, y = l[p]'hpl := ⟨_, rfl⟩
        rw [← hy] at hcy
        rw [← hy] at HPA
        rw [← hy] at HRY
        have HYE := Lib.hid (show ∀ h : p < l.length, y = l[p]'h from fun _ => hy)
        have d0 : ∀ zz : Later w2.heap.size w2, zz.val.cell? ⟨b', off + i * 6, none⟩ = some (.int .u8 (x.1.1.toNat : Int)) := fun zz => Later.cell hcx.c0 (World.block_lt_of_cell? _ _ hcx.c0) zz
        have f0 : ∀ zz : Later w2.heap.size w2, zz.val.cell? ⟨b', off + p * 6, none⟩ = some (.int .u8 (y.1.1.toNat : Int)) := fun zz => Later.cell hcy.c0 (World.block_lt_of_cell? _ _ hcy.c0) zz
        have HPL := Lib.hid hpl
        clear hp h0 hcx hcy hy hpl
        by_cases hfm : y.1.1.toNat < x.1.1.toNat
        · have m1 : (y.1.1.toNat : Int) < (x.1.1.toNat : Int) := by omega
          have m2 : decide (y.1.1.toNat < x.1.1.toNat) = true := by simpa using hfm
          go_wp2_with fail
          refine wp_region_later w2.heap.size (by kernel_rfl) (by kernel_rfl) ?_
          repeat (go_big_quiet_step (fail))
          refine wpQuiet_nil ?_
          rintro wq ⟨zz, rfl⟩
          have HB3 := Lib.hid (below_step HB2.out zz.prop HB2.out.size)
          clear d0 f0
          generalize zz.val = wq at *
          go_wp2_with fail
          go_roundw
          case rel => exact ⟨i + 1, HLT.out, by go_num, HB3.out⟩
          case measure => have := HLT.out; simp [intOf]; omega
        · have m1 : ¬ (y.1.1.toNat : Int) < (x.1.1.toNat : Int) := by omega
          have m2 : decide (y.1.1.toNat < x.1.1.toNat) = false := by simpa using hfm
          have hnx := next_apart HPA.out (fam_next HRY.out HRX.out HPA.out hfm)
          obtain ⟨n1, n2, n3⟩ := hnx
          have HN2 := Lib.hid n2
          have HN3 := Lib.hid n3
          have HBL := Lib.hid (fun W => below_any y.2 x.1 W)
          rw [n1] at HBL
          clear n1 n2 n3 hfm
          go_wp2_with fail
          refine wp_region_later w2.heap.size (by kernel_rfl) (by kernel_rfl) ?_
          repeat (go_big_quiet_step (fail))
          refine wpQuiet_nil ?_
          rintro wq ⟨zz, rfl⟩
          have HB3 := Lib.hid (below_step HB2.out zz.prop HB2.out.size)
          clear d0 f0
          generalize zz.val = wq at *
          have hcy := (HCS.out p HPL.out).kept HB3.out
          have hcx := (HCS.out i HLT.out).kept HB3.out
          rw [← HXE.out HLT.out] at hcx
          rw [← HYE.out HPL.out] at hcy
          have BX1 := (show Below wq.heap.size wq (wq.alloc (boxA y.2)) from (Below.refl _ _).alloc (Nat.le_refl _) _)
          have hcx2 := hcx.kept BX1
          have G1 := Lib.hid (heap_alloc_new wq (boxA y.2))
          have hg2 := heap_alloc_new (wq.alloc (boxA y.2)) (boxA x.1)
          rw [World.size_alloc] at hg2
          have G2 := Lib.hid hg2
          have G3 := Lib.hid (show ((wq.alloc (boxA y.2)).alloc (boxA x.1)).heap[wq.heap.size]? = some (boxA y.2) from blk_alloc G1.out _)
          have HB4 := Lib.hid (show Below w.heap.size w ((wq.alloc (boxA y.2)).alloc (boxA x.1)) from (HB3.out.alloc HB3.out.size _).alloc (HB3.out.alloc HB3.out.size _).size _)
          have d3 := hcy.c3
          have d4 := hcy.c4
          have d5 := hcy.c5
          have e0 := hcx2.c0
          have e1 := hcx2.c1
          have e2 := hcx2.c2
          clear hcx hcy hcx2 hg2 BX1
          go_upto_region 9 with (fail)
          clear d3 d4 d5 e0 e1 e2
          obtain ⟨q, hq⟩ : ∃ q, q = wq.heap.size := ⟨_, rfl⟩
          rw [← hq] at G2 G3 ⊢
          clear hq
          generalize (wq.alloc (boxA y.2)).alloc (boxA x.1) = w4 at *
          have d0 := box_n0 G3.out
          have d1 := box_n1 G3.out
          have d2 := box_n2 G3.out
          have f0 := box_n0 G2.out
          have f1 := box_n1 G2.out
          have f2 := box_n2 G2.out
          go_wp2_with fail
          clear d0 d1 d2 f0 f1 f2
          refine (HBL.out _).mono ?_
          rintro e w5 ⟨rfl, hb⟩
          have HB5 := Lib.hid (below_step HB4.out hb HB4.out.size)
          have G4 := Lib.hid (blk_kept hb G3.out)
          have G5 := Lib.hid (blk_kept hb G2.out)
          clear hb
          have q1 : ((y.2.2.1.toNat : Int) == (x.1.2.1.toNat : Int)) = (y.2.2.1 == x.1.2.1) := Pfx.u64_eq _ _
          have q2 : (((y.2.2.2 + 1).toNat : Int) == (x.1.2.2.toNat : Int)) = (y.2.2.2 + 1 == x.1.2.2) := Pfx.u64_eq _ _
          have q3 : ((y.2.2.2.toNat : Int) == 18446744073709551615) = (y.2.2.2 == MX) := Pfx.u64_eq _ MX
          have q4 : ((x.1.2.2.toNat : Int) == 0) = (x.1.2.2 == 0) := Pfx.u64_eq _ 0
          have q5 : (((y.2.2.1 + 1).toNat : Int) == (x.1.2.1.toNat : Int)) = (y.2.2.1 + 1 == x.1.2.1) := Pfx.u64_eq _ _
          have s1 := add1 y.2.2.2
          have s2 := add1 y.2.2.1
          obtain ⟨l1, hl1⟩ : ∃ z, z = y.2.2.2 + 1 := ⟨_, rfl⟩
          obtain ⟨h1, hh1⟩ : ∃ z, z = y.2.2.1 + 1 := ⟨_, rfl⟩
          rw [← hl1] at q2 s1 HN2
          rw [← hh1] at q5 s2 HN3
          generalize (y.2.2.1 == x.1.2.1) = e1 at *
          generalize (l1 == x.1.2.2) = e2 at *
          generalize (y.2.2.2 == MX) = e3 at *
          generalize (x.1.2.2 == 0) = e4 at *
          generalize (h1 == x.1.2.1) = e5 at *
          clear hl1 hh1
          have d0 := box_n0 G4.out
          have d1 := box_n1 G4.out
          have d2 := box_n2 G4.out
          have f0 := box_n0 G5.out
          have f1 := box_n1 G5.out
          have f2 := box_n2 G5.out
          cases e1
          · cases e3
            · go_wp2_with fail
              go_roundw
              case rel => exact ⟨i + 1, HLT.out, by go_num, HB5.out⟩
              case measure => have := HLT.out; simp [intOf]; omega
            · cases e4
              · go_wp2_with fail
                go_roundw
                case rel => exact ⟨i + 1, HLT.out, by go_num, HB5.out⟩
                case measure => have := HLT.out; simp [intOf]; omega
              · obtain rfl : e5 = false := by have := HN3.out; simpa using this
                go_wp2_with fail
                go_roundw
                case rel => exact ⟨i + 1, HLT.out, by go_num, HB5.out⟩
                case measure => have := HLT.out; simp [intOf]; omega
          · obtain rfl : e2 = false := by have := HN2.out; simpa using this
            cases e3
            · go_wp2_with fail
              go_roundw
              case rel => exact ⟨i + 1, HLT.out, by go_num, HB5.out⟩
              case measure => have := HLT.out; simp [intOf]; omega
            · cases e4
              · go_wp2_with fail
                go_roundw
                case rel => exact ⟨i + 1, HLT.out, by go_num, HB5.out⟩
                case measure => have := HLT.out; simp [intOf]; omega
              · obtain rfl : e5 = false := by have := HN3.out; simpa using this
                go_wp2_with fail
                go_roundw
                case rel => exact ⟨i + 1, HLT.out, by go_num, HB5.out⟩
                case measure => have := HLT.out; simp [intOf]; omega
    · obtain rfl : i = l.length := by omega
      have k2 : ¬ (l.length : Int) < (l.length : Int) := by omega
      clear hbel hi hlt
      go_wp2_with fail
      go_ret
      exact ⟨rfl, HB.out⟩
end Go.Proofs.Try.Gp
