/- okey.Compare: how two lists of parts stand. -/
import Derived.Test.YtfijbfnhjnbjeaaDoorOk1
import Derived.Test.YtfijbfnhjnbjeaaDoorOx3
import Derived.Deep.DeepCutAuto
set_option linter.unusedVariables false
set_option linter.unusedSimpArgs false
set_option maxRecDepth 100000
namespace Go.Proofs.Tryd.Ok
open Go.RowKit Go.Cph Go.Cph.Ok Go.Proofs.Tryd.Nu Go.Cph.Skip
def cmpS (a b : ByteArray) : Int := if klt a b then -1 else if klt b a then 1 else 0
def cmpN (x y : Int) : Int := if x < y then -1 else if y < x then 1 else 0
theorem ret_int {k : IntKind} {a b : Int} (h : a = b) : Ending.returned (.int k a) = .returned (.int k b) := by rw [h]
set_option maxHeartbeats 400000 in
theorem isNaN64 (x : Int) (w : World) : Calls Tryd.prog 57 #[.int .u64 x] w fun e w' => e = .returned (.bool false) ∧ w = w' := by
  go_enter Tryd.func57, Tryd.ntmps57
  go_wp2_with fail
  go_ret
  exact ⟨by simp, rfl⟩
set_option maxHeartbeats 400000 in
theorem isNaNS (x : ByteArray) (w : World) : Calls Tryd.prog 56 #[.string x] w fun e w' => e = .returned (.bool false) ∧ w = w' := by
  go_enter Tryd.func56, Tryd.ntmps56
  go_wp2_with fail
  go_ret
  exact ⟨by simp, rfl⟩
set_option maxHeartbeats 400000 in
theorem compare64 (x y : Int) (w : World) : Calls Tryd.prog 46 #[.int .u64 x, .int .u64 y] w fun e w' => e = .returned (.int .i64 (cmpN x y)) ∧ w = w' := by
  have hc : x < y ∨ (¬ x < y ∧ y < x) ∨ (¬ x < y ∧ ¬ y < x) := by omega
  rcases hc with h | ⟨h, k⟩ | ⟨h, k⟩
  all_goals
    go_enter Tryd.func46, Tryd.ntmps46
    go_wp2_with (go_at_call 57; refine (isNaN64 _ _).mono ?_; rintro e w' ⟨rfl, rfl⟩)
    go_ret
    exact ⟨ret_int (by unfold cmpN; (repeat split) <;> omega), rfl⟩
set_option maxHeartbeats 800000 in
theorem compareS (x y : ByteArray) (w : World) : Calls Tryd.prog 45 #[.string x, .string y] w fun e w' => e = .returned (.int .i64 (cmpS x y)) ∧ w = w' := by
  have hc : klt x y = true ∨ (klt x y = false ∧ klt y x = true) ∨ (klt x y = false ∧ klt y x = false) := by cases klt x y <;> cases klt y x <;> simp
  rcases hc with h | ⟨h, k⟩ | ⟨h, k⟩
  · have HV := Lib.hid (show cmpS x y = -1 by unfold cmpS; rw [h]; rfl)
    unfold klt at h
    go_enter Tryd.func45, Tryd.ntmps45
    go_wp2_with (go_at_call 56; refine (isNaNS _ _).mono ?_; rintro e w' ⟨rfl, rfl⟩)
    go_ret
    exact ⟨ret_int HV.out.symm, rfl⟩
  · have HV := Lib.hid (show cmpS x y = 1 by unfold cmpS; rw [h, k]; rfl)
    have hq : (x.toList == y.toList) = false := by rw [beq_toList, decide_eq_false_iff_not]; rintro rfl; rw [klt_irrefl] at k; cases k
    unfold klt at h k
    go_enter Tryd.func45, Tryd.ntmps45
    go_wp2_with (go_at_call 56; refine (isNaNS _ _).mono ?_; rintro e w' ⟨rfl, rfl⟩)
    go_ret
    exact ⟨ret_int HV.out.symm, rfl⟩
  · have HV := Lib.hid (show cmpS x y = 0 by unfold cmpS; rw [h, k]; rfl)
    obtain rfl := klt_total h k
    clear k
    unfold klt at h
    go_enter Tryd.func45, Tryd.ntmps45
    go_wp2_with (go_at_call 56; refine (isNaNS _ _).mono ?_; rintro e w' ⟨rfl, rfl⟩)
    go_ret
    exact ⟨ret_int HV.out.symm, rfl⟩

theorem klt_bless (a b : ByteArray) : klt a b = bless a b := by unfold klt bless; rw [ByteArray.toList_eq, ByteArray.toList_eq]
def oneI (a b : Pt) : Int := if aheadP a b then -1 else if aheadP b a then 1 else 0
set_option maxHeartbeats 1600000 in
theorem one_any (a b : Pt) (w : World) : Calls Tryd.prog 34 #[encP a, encP b] w fun e w' => e = .returned (.int .i64 (oneI a b)) ∧ Below w.heap.size w w' := by
  obtain ⟨t, s, n⟩ := a
  obtain ⟨u, v, m⟩ := b
  have hbx : Below w.heap.size w ((w.alloc (boxP ⟨t, s, n⟩)).alloc (boxP ⟨u, v, m⟩)) := ((Below.refl _ _).alloc (Nat.le_refl _) _).alloc (by simp) _
  have HB := Lib.hid hbx
  have hg1 := heap_alloc_new (w.alloc (boxP ⟨t, s, n⟩)) (boxP ⟨u, v, m⟩)
  rw [World.size_alloc] at hg1
  have ca := box_cells (blk_alloc (heap_alloc_new w (boxP ⟨t, s, n⟩)) (boxP ⟨u, v, m⟩))
  have cb := box_cells hg1
  have d0 := ca.c0
  have d1 := ca.c1
  have d2 := ca.c2
  have e0 := cb.c0
  have e1 := cb.c1
  have e2 := cb.c2
  clear hbx hg1 ca cb
  cases t <;> cases u
  · have HV := Lib.hid (show cmpN (n.toNat : Int) (m.toNat : Int) = oneI ⟨false, s, n⟩ ⟨false, v, m⟩ from by
      unfold cmpN oneI aheadP
      simp)
    have HC := Lib.hid (fun W => compare64 (n.toNat : Int) (m.toNat : Int) W)
    obtain ⟨x, hx⟩ : ∃ x, x = cmpN (n.toNat : Int) (m.toNat : Int) := ⟨_, rfl⟩
    rw [← hx] at HV HC
    clear hx
    go_enter Tryd.func34, Tryd.ntmps34
    go_wp2_with fail
    refine (HC.out _).mono ?_
    rintro e w1 ⟨rfl, rfl⟩
    go_wp2_with fail
    go_ret
    exact ⟨ret_int HV.out, HB.out⟩
  · go_enter Tryd.func34, Tryd.ntmps34
    go_wp2_with fail
    go_ret
    exact ⟨rfl, HB.out⟩
  · go_enter Tryd.func34, Tryd.ntmps34
    go_wp2_with fail
    go_ret
    exact ⟨rfl, HB.out⟩
  · have HV := Lib.hid (show cmpS s v = oneI ⟨true, s, n⟩ ⟨true, v, m⟩ from by
      unfold cmpS oneI aheadP
      rw [klt_bless, klt_bless]
      simp)
    have HC := Lib.hid (fun W => compareS s v W)
    obtain ⟨x, hx⟩ : ∃ x, x = cmpS s v := ⟨_, rfl⟩
    rw [← hx] at HV HC
    clear hx
    go_enter Tryd.func34, Tryd.ntmps34
    go_wp2_with fail
    refine (HC.out _).mono ?_
    rintro e w1 ⟨rfl, rfl⟩
    go_wp2_with fail
    go_ret
    exact ⟨ret_int HV.out, HB.out⟩
theorem cmp_drop (x y : List Pt) (i : Nat) (hx : i < x.length) (hy : i < y.length) : cmpL (x.drop i) (y.drop i) = if aheadP x[i] y[i] then -1 else if aheadP y[i] x[i] then 1 else cmpL (x.drop (i + 1)) (y.drop (i + 1)) := by
  rw [List.drop_eq_getElem_cons hx, List.drop_eq_getElem_cons hy]; rfl
abbrev ONE : Value := .func (.func 34) #[] #[]
abbrev FC : FuncId := 33
set_option maxHeartbeats 6400000 in
theorem cfunc_any (v u : Value) (x y : List Pt) (w : World) (h : PtsAt w v x) (k : PtsAt w u y) (hx : x.length ≤ 1000000) (hy : y.length ≤ 1000000) :
    Calls Tryd.prog 33 #[v, u, ONE] w fun e w' => e = .returned (.int .i64 (cmpL x y)) ∧ Below w.heap.size w w' := by
  obtain ⟨ao, cap, rfl⟩ := elems_slice h
  obtain ⟨bo, cap2, rfl⟩ := elems_slice k
  have H := Lib.hid h
  have K := Lib.hid k
  have HX := Lib.hid hx
  have HY := Lib.hid hy
  clear h k hx hy
  go_enter Tryd.func33, Tryd.ntmps33
  go_wp2_with fail
  go_loopw [13] (fun vi W => ∃ i : Nat, i ≤ x.length ∧ i ≤ y.length ∧ vi = .int .i64 i ∧ cmpL x y = cmpL (x.drop i) (y.drop i) ∧ Below w.heap.size w W) (fun vi _ => x.length - (intOf vi).toNat)
  case atStart => exact ⟨0, Nat.zero_le _, Nat.zero_le _, rfl, rfl, Below.refl _ _⟩
  case round =>
    obtain ⟨i, hi, hi2, rfl, hc, hb⟩ := hrel
    have HB := Lib.hid hb
    by_cases hlt : i < x.length
    · have HLT := Lib.hid hlt
      obtain ⟨b, off, cap', hve, hcs⟩ := pts_cells H.out (by omega)
      injection hve with hx1 hx2 hx3
      subst hx1
      clear hx2 hx3
      have hcx := (hcs i hlt).kept hb
      obtain ⟨p, hp⟩ : ∃ p, p = x[i]'hlt := ⟨_, rfl⟩
      rw [← hp] at hcx
      have d0 := hcx.c0
      have d1 := hcx.c1
      have d2 := hcx.c2
      have k1 : (0 : Int) ≤ (i : Int) := by omega
      have k2 : (i : Int) < (x.length : Int) := by omega
      have k4 : IntKind.i64.wrap ((i : Int) + 1) = (i : Int) + 1 := by rw [IntKind.wrap_i64]; have := HX.out; omega
      by_cases hly : i < y.length
      · have HLY := Lib.hid hly
        obtain ⟨b2, off2, cap2', hve, hcs2⟩ := pts_cells K.out (by omega)
        injection hve with hx1 hx2 hx3
        subst hx1
        clear hx2 hx3
        have hcy := (hcs2 i hly).kept hb
        obtain ⟨q, hq⟩ : ∃ q, q = y[i]'hly := ⟨_, rfl⟩
        rw [← hq] at hcy
        have hcd := cmp_drop x y i hlt hly
        rw [← hp, ← hq] at hcd
        have HCD := Lib.hid (hc.trans hcd)
        have k5 : (i : Int) < (y.length : Int) := by omega
        have hbx : Below wr.heap.size wr (wr.alloc (boxP p)) := (Below.refl _ _).alloc (Nat.le_refl _) _
        have HB1 := Lib.hid (below_step hb hbx hb.size)
        have HG1 := Lib.hid (heap_alloc_new wr (boxP p))
        have hcy1 := hcy.kept hbx
        have f0 := hcy1.c0
        have f1 := hcy1.c1
        have f2 := hcy1.c2
        have HC := Lib.hid (fun W => one_any p q W)
        have hg2 := heap_alloc_new (wr.alloc (boxP p)) (boxP q)
        rw [World.size_alloc] at hg2
        have hcb1 := box_cells (blk_alloc HG1.out (boxP q))
        have hcb2 := box_cells hg2
        have u0 := hcb1.c0
        have u1 := hcb1.c1
        have u2 := hcb1.c2
        have v0 := hcb2.c0
        have v1 := hcb2.c1
        have v2 := hcb2.c2
        have HB2 := Lib.hid (show Below w.heap.size w ((wr.alloc (boxP p)).alloc (boxP q)) from HB1.out.alloc HB1.out.size _)
        have hr : (oneI p q = -1 ∧ cmpL x y = -1) ∨ (oneI p q = 1 ∧ cmpL x y = 1) ∨ (oneI p q = 0 ∧ cmpL x y = cmpL (x.drop (i + 1)) (y.drop (i + 1))) := by
          rw [HCD.out]
          unfold oneI
          by_cases h1 : aheadP p q = true
          · simp [h1]
          · by_cases h2 : aheadP q p = true
            · simp [h1, h2]
            · simp [h1, h2]
        have HR := Lib.hid hr
        have HI := Lib.hid (show i + 1 ≤ x.length ∧ i + 1 ≤ y.length from ⟨hlt, hly⟩)
        clear hr hbx hb hcs hcs2 hcx hcy hcy1 hp hq hcd hc hlt hly hi hi2 hg2 hcb1 hcb2 HCD
        obtain ⟨r, hr⟩ : ∃ r, r = oneI p q := ⟨_, rfl⟩
        rw [← hr] at HC HR
        clear hr
        go_wp2_with fail
        clear d0 d1 d2 f0 f1 f2 u0 u1 u2 v0 v1 v2
        refine (HC.out _).mono ?_
        rintro e w3 ⟨rfl, hb⟩
        have HB3 := Lib.hid (below_step HB2.out hb HB2.out.size)
        clear hb
        rcases HR.out with ⟨rfl, h1⟩ | ⟨rfl, h1⟩ | ⟨rfl, h1⟩
        · have H1 := Lib.hid h1
          clear h1
          go_wp2_with fail
          go_ret
          exact ⟨ret_int H1.out.symm, HB3.out⟩
        · have H1 := Lib.hid h1
          clear h1
          go_wp2_with fail
          go_ret
          exact ⟨ret_int H1.out.symm, HB3.out⟩
        · have H1 := Lib.hid h1
          clear h1
          go_wp2_with fail
          go_roundw
          case rel => exact ⟨i + 1, HI.out.1, HI.out.2, by go_num, H1.out, HB3.out⟩
          case measure => have := HLT.out; simp [intOf]; omega
      · have hiy : i = y.length := by omega
        have k5 : (y.length : Int) ≤ (i : Int) := by omega
        have HC1 := Lib.hid (show cmpL x y = 1 from by
          rw [hc, List.drop_of_length_le (show y.length ≤ i by omega), List.drop_eq_getElem_cons hlt]; rfl)
        have HB1 := Lib.hid (hb.alloc hb.size (boxP p))
        clear hb hcs hcx hp hc hlt hly hi hi2 hiy
        go_wp2_with fail
        go_ret
        exact ⟨ret_int HC1.out.symm, HB1.out⟩
    · have hix : i = x.length := by omega
      have k2 : ¬ (i : Int) < (x.length : Int) := by omega
      by_cases hly : x.length < y.length
      · have k5 : (x.length : Int) < (y.length : Int) := by omega
        have HC1 := Lib.hid (show cmpL x y = -1 from by
          rw [hc, List.drop_of_length_le (show x.length ≤ i by omega), List.drop_eq_getElem_cons (show i < y.length by omega)]; rfl)
        clear hb hc hlt hi hi2 hix hly
        go_wp2_with fail
        go_ret
        exact ⟨ret_int HC1.out.symm, HB.out⟩
      · have k5 : ¬ (x.length : Int) < (y.length : Int) := by omega
        have HC1 := Lib.hid (show cmpL x y = 0 from by
          rw [hc, List.drop_of_length_le (show x.length ≤ i by omega), List.drop_of_length_le (show y.length ≤ i by omega)]; rfl)
        clear hb hc hlt hi hi2 hix hly
        go_wp2_with fail
        go_ret
        exact ⟨ret_int HC1.out.symm, HB.out⟩
theorem compare_any (v u : Value) (x y : List Pt) (w : World) (h : PtsAt w v x) (k : PtsAt w u y) (hx : x.length ≤ 1000000) (hy : y.length ≤ 1000000) :
    Calls Tryd.prog 19 #[v, u] w fun e w' => e = .returned (.int .i64 (cmpL x y)) ∧ Below w.heap.size w w' := by
  have HC := Lib.hid (cfunc_any v u x y w h k hx hy)
  obtain ⟨z, hz⟩ : ∃ z, z = cmpL x y := ⟨_, rfl⟩
  rw [← hz] at HC ⊢
  clear hz h k hx hy
  go_enter Tryd.func19, Tryd.ntmps19
  go_wp2_with fail
  refine HC.out.mono ?_
  rintro e w3 ⟨rfl, hb⟩
  have HB := Lib.hid hb
  clear hb
  go_wp2_with fail
  go_ret
  exact ⟨rfl, HB.out⟩
end Go.Proofs.Tryd.Ok
