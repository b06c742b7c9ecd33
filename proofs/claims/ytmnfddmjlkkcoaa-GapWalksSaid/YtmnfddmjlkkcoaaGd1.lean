/- Of spans those that are right: DeleteFunc. -/
import Derived.Test.YtmnfddmjlkkcoaaGk1
import Derived.Test.YtmnfddmjlkkcoaaGs6
set_option linter.unusedVariables false
set_option linter.unusedSimpArgs false
namespace Go.Proofs.Try.Gp
open Go.RowKit Go.Cph Go.Cph.Px Go.Cph.Gp Go.Cph.So

abbrev WRONG : Value := .func (.func 34) #[] #[]
def idxV (o : Option Nat) : Int := match o with
  | some i => i
  | none => -1

set_option maxRecDepth 100000 in
set_option maxHeartbeats 4000000 in
theorem index_any (v : Value) (l : List Sp) (w : World) (h : SpsAt w v l) (hn : l.length ≤ 1000000) :
    Calls Try.prog 47 #[v, WRONG] w fun e w' => (∃ o : Option Nat, e = .returned (.int .i64 (idxV o)) ∧ match o with
      | some k => ∃ h : k < l.length, rightS l[k] = false ∧ ∀ j (hj : j < k), rightS (l[j]'(by omega)) = true
      | none => ∀ x ∈ l, rightS x = true) ∧ Below w.heap.size w w' := by
  obtain ⟨ao, cap, hv⟩ := elems_slice h
  subst hv
  have HV := Lib.hid h
  clear h
  go_enter Try.func47, Try.ntmps47
  go_wp2_with fail
  go_loopw [8] (fun vi W => ∃ i : Nat, i ≤ l.length ∧ vi = .int .i64 i ∧ (∀ j (hj : j < l.length), j < i → rightS l[j] = true) ∧ Below w.heap.size w W) (fun vi _ => l.length - (intOf vi).toNat)
  case atStart => exact ⟨0, Nat.zero_le _, rfl, fun j _ hj => absurd hj (Nat.not_lt_zero _), Below.refl _ _⟩
  case round =>
    obtain ⟨i, hi, rfl, hall, hbel⟩ := hrel
    have HAL := Lib.hid hall
    have HBE := Lib.hid hbel
    by_cases hlt : i < l.length
    · obtain ⟨b, off, cap', hve, hcs⟩ := sps_cells (HV.out.kept hbel) (by omega)
      injection hve with hx1 hx2 hx3
      subst hx1
      clear hx2 hx3
      have hcx := hcs i hlt
      have HLT := Lib.hid hlt
      obtain ⟨x, hx⟩ : ∃ x, x = l[i]'(HLT.out) := ⟨_, rfl⟩
      have HX := Lib.hid hx
      rw [← hx] at hcx
      have d0 := hcx.c0
      have d1 := hcx.c1
      have d2 := hcx.c2
      have d3 := hcx.c3
      have d4 := hcx.c4
      have d5 := hcx.c5
      have HW := Lib.hid (fun W => wrong_any x W)
      obtain ⟨r, hr⟩ : ∃ r, r = rightS x := ⟨_, rfl⟩
      have HRR := Lib.hid hr
      rw [← hr] at HW
      have k1 : (0 : Int) ≤ (i : Int) := by omega
      have k2 : (i : Int) < (l.length : Int) := by omega
      have k4 : IntKind.i64.wrap ((i : Int) + 1) = (i : Int) + 1 := by rw [IntKind.wrap_i64]; omega
      clear hbel hall hcs hcx hx hr
      go_wp2_with fail
      clear d0 d1 d2 d3 d4 d5
      refine (HW.out _).mono ?_
      rintro e w1 ⟨rfl, hb⟩
      have HB1 := Lib.hid (below_step HBE.out hb HBE.out.size)
      clear hb
      cases r
      · go_wp2_with fail
        go_ret
        exact ⟨⟨some i, rfl, HLT.out, by rw [← HX.out]; exact HRR.out.symm, fun j hj => HAL.out j _ hj⟩, HB1.out⟩
      · go_wp2_with fail
        go_roundw
        case rel => exact ⟨i + 1, hlt, by go_num, fun j hj hji => by
          rcases Nat.lt_or_eq_of_le (show j ≤ i by omega) with h | h
          · exact HAL.out j hj h
          · subst h; rw [← HX.out]; exact HRR.out.symm, HB1.out⟩
        case measure => simp [intOf]; omega
    · clear hbel hall
      go_wp2_with fail
      go_ret
      exact ⟨⟨none, rfl, fun x hx => by
        obtain ⟨j, hj, rfl⟩ := List.getElem_of_mem hx
        exact HAL.out j hj (by omega)⟩, HBE.out⟩
/-- How far the row is gone over: of the first j spans i have stayed, which lie ahead. -/
structure Del (l : List Sp) (j i : Nat) (d : List Sp) : Prop where
  len : ((l.take j).filter rightS).length = i
  head : d.take i = (l.take j).filter rightS
  size : d.length = l.length
  rest : ∀ m, j ≤ m → d[m]? = l[m]?
  less : i + 1 ≤ j
theorem filter_snoc (l : List Sp) {j : Nat} (h : j < l.length) : (l.take (j + 1)).filter rightS = (l.take j).filter rightS ++ (if rightS l[j] then [l[j]] else []) := by
  rw [List.take_succ_eq_append_getElem h, List.filter_append]
  cases hr : rightS l[j] <;> simp [hr]
theorem Del.stay {l : List Sp} {j i : Nat} {d : List Sp} (h : Del l j i d) (hj : j < l.length) (hc : rightS l[j] = false) : Del l (j + 1) i d := by
  have e := filter_snoc l hj
  rw [hc] at e
  simp only [Bool.false_eq_true, if_false, List.append_nil] at e
  exact ⟨by rw [e]; exact h.len, by rw [e]; exact h.head, h.size, fun m hm => h.rest m (by omega), by have := h.less; omega⟩
theorem Del.more {l : List Sp} {j i : Nat} {d : List Sp} (h : Del l j i d) (hj : j < l.length) (hc : rightS l[j] = true) : Del l (j + 1) (i + 1) (d.set i l[j]) := by
  have hl := h.less
  have hs := h.size
  have e := filter_snoc l hj
  rw [if_pos hc] at e
  refine ⟨by rw [e, List.length_append, h.len]; rfl, ?_, by rw [List.length_set]; exact h.size, fun m hm => ?_, by omega⟩
  · rw [e, List.take_succ_eq_append_getElem (by rw [List.length_set]; omega), List.take_set_of_le (Nat.le_refl _), h.head]
    simp
  · rw [List.getElem?_set_ne (by omega)]
    exact h.rest m (by omega)
theorem Del.start {l : List Sp} {k : Nat} (hk : k < l.length) (hc : rightS l[k] = false) (ha : ∀ j (hj : j < k), rightS (l[j]'(by omega)) = true) : Del l (k + 1) k l := by
  have e : (l.take (k + 1)).filter rightS = l.take k := by
    rw [filter_snoc l hk, hc]
    simp only [Bool.false_eq_true, if_false, List.append_nil]
    rw [List.filter_eq_self]
    intro x hx
    obtain ⟨j, hj, rfl⟩ := List.getElem_of_mem hx
    rw [List.length_take] at hj
    rw [List.getElem_take]
    exact ha j (by omega)
  exact ⟨by rw [e, List.length_take]; omega, e.symm, rfl, fun _ _ => rfl, Nat.le_refl _⟩
theorem flat_takeE (l : List Sp) (k : Nat) : (l.flatMap encC).take (k * 6) = (l.take k).flatMap encC := by
  induction l generalizing k with
  | nil => simp
  | cons x l ih =>
    cases k with
    | zero => simp
    | succ k =>
      rw [List.flatMap_cons, List.take_succ_cons, List.flatMap_cons, ← ih, Nat.succ_mul, List.take_append, List.take_of_length_le (by simp)]
      congr 1
theorem zerosE (n : Nat) : ∀ v ∈ (Builtin.zeroCells (Value.cells (.agg #[.int .u8 0, .int .u64 0, .int .u64 0, .int .u8 0, .int .u64 0, .int .u64 0])) n).toList, v.oneCell' = true := by
  intro v hv
  simp only [Builtin.zeroCells, Value.cells, Array.toList_map, List.mem_map] at hv
  obtain ⟨i, _, rfl⟩ := hv
  have : i % 6 < 6 := Nat.mod_lt _ (by decide)
  rcases (show i % 6 = 0 ∨ i % 6 = 1 ∨ i % 6 = 2 ∨ i % 6 = 3 ∨ i % 6 = 4 ∨ i % 6 = 5 by omega) with h | h | h | h | h | h <;> simp [h] <;> rfl
def DelPost (w : World) (base : Nat) (s : Value) (l : List Sp) (e : Ending) (w' : World) : Prop :=
  ∃ v', e = .returned v' ∧ w'.ownsRow base TE 6 v' l.length (l.flatMap encC) ∧ w.grownBy w' s.ownBlock

set_option maxRecDepth 100000 in
set_option maxHeartbeats 8000000 in
theorem delete_any {base : Nat} (s : Value) (l : List Sp) (w : World) (h : w.ownsRow base TE 6 s l.length (l.flatMap encC)) (hn : l.length ≤ 1000000) :
    Calls Try.prog 32 #[s, WRONG] w (DelPost w base s (l.filter rightS)) := by
  have HI := Lib.hid (index_any s l w (Seg.of_owns h) hn)
  have HO := Lib.hid h
  obtain ⟨ao, cap0, hs⟩ := owns_slice1 h
  subst hs
  clear h
  go_enter Try.func32, Try.ntmps32
  go_wp2_with fail
  refine HI.out.mono ?_
  rintro e w1 ⟨⟨o, rfl, ho⟩, hb⟩
  have HB1 := Lib.hid hb
  have HO1 := Lib.hid (row_kept1 HO.out fun q hq => hb.block q (HO.out.lt q hq).2)
  cases o with
  | none =>
    have HF := Lib.hid (show l.filter rightS = l from List.filter_eq_self.2 ho)
    have k1 : idxV none = -1 := rfl
    clear hb ho
    go_wp2_with fail
    go_ret
    exact ⟨_, rfl, by rw [HF.out]; exact HO1.out, grown_below HB1.out _⟩
  | some k =>
    obtain ⟨hkl, hkw, hka⟩ := ho
    have HD := Lib.hid (Del.start hkl hkw hka)
    have hh := HO1.out
    obtain ⟨g, cap, hv, hgb, hgl, hnc, -, -⟩ := owns_shape hh (by omega)
    injection hv with hv1 hv2 hv3
    subst hv1
    obtain rfl : cap = cap0 := hv3.symm
    obtain ⟨n, hnl⟩ : ∃ n, n = l.length := ⟨_, rfl⟩
    have hcm : cap ≤ 9223372036854775807 := by obtain ⟨_, _, _, _, h, _⟩ := owns_block hh; unfold maxLen at h; omega
    have HR := Lib.hid (show Row w base g n cap l w1 from ⟨by rw [hnl]; exact hh, grown_below HB1.out _, hnl.symm⟩)
    have HNL := Lib.hid hnl
    rw [← hnl] at hnc hn hkl ⊢
    have k0 : idxV (some k) = (k : Int) := rfl
    have k1 : ((k : Int) == -1) = false := by rw [beq_eq_false_iff_ne]; omega
    have k4 : IntKind.i64.wrap ((k : Int) + 1) = (k : Int) + 1 := by rw [IntKind.wrap_i64]; omega
    clear hb hh hgl hnl hkw hka HI HO HO1 hv2 hv3 hgb
    go_wp2_with fail
    go_loopw [5, 6] (fun vi vj wr => ∃ i j : Nat, j ≤ n ∧ vi = .int .i64 i ∧ vj = .int .i64 j ∧ ∃ d, Del l j i d ∧ Row w base g n cap d wr) (fun _ vj _ => n - (intOf vj).toNat)
    case atStart => exact ⟨k, k + 1, hkl, rfl, by go_num, l, HD.out, HR.out⟩
    case round =>
      clear k0 k1 k4 HD HR hkl
      obtain ⟨i, j, hj, rfl, rfl, d, hdel, hr⟩ := hrel
      have hij := hdel.less
      have HDE := Lib.hid hdel
      have HR1 := Lib.hid hr
      clear hdel hr
      by_cases hlt : j < n
      · have hjl : j < l.length := by rw [← HNL.out]; exact hlt
        have HJL := Lib.hid hjl
        obtain ⟨x, hx⟩ : ∃ x, x = l[j]'(HJL.out) := ⟨_, rfl⟩
        have HX := Lib.hid hx
        have hdx : d[j]? = some x := by rw [HDE.out.rest j (Nat.le_refl _), hx]; exact List.getElem?_eq_getElem _
        have hcx := HR1.out.cells hlt hdx
        have d0 := hcx.c0
        have d1 := hcx.c1
        have d2 := hcx.c2
        have d3 := hcx.c3
        have d4 := hcx.c4
        have d5 := hcx.c5
        have HW := Lib.hid (fun W => wrong_any x W)
        obtain ⟨r, hrr⟩ : ∃ r, r = rightS x := ⟨_, rfl⟩
        have HRR := Lib.hid hrr
        rw [← hrr] at HW
        have HBX := Lib.hid (show Below wr.heap.size wr (wr.alloc (boxS x)) from (Below.refl _ _).alloc (Nat.le_refl _) _)
        have HG := Lib.hid (heap_alloc_new wr (boxS x))
        have z1 : (j : Int) < (n : Int) := by omega
        have z2 : (0 : Int) ≤ (j : Int) := by omega
        have z4 : IntKind.i64.wrap ((j : Int) + 1) = (j : Int) + 1 := by rw [IntKind.wrap_i64]; omega
        have y1 : (i : Int) < (n : Int) := by omega
        have y2 : (0 : Int) ≤ (i : Int) := by omega
        have y4 : IntKind.i64.wrap ((i : Int) + 1) = (i : Int) + 1 := by rw [IntKind.wrap_i64]; omega
        clear hx hrr hdx hcx hjl
        go_wp2_with fail
        clear d0 d1 d2 d3 d4 d5
        refine (HW.out _).mono ?_
        rintro e w2 ⟨rfl, hb⟩
        have HR2 := Lib.hid (HR1.out.later (below_step HBX.out hb HBX.out.size))
        have HC := Lib.hid (box_cells (blk_kept hb HG.out))
        clear hb
        cases r
        · have HN := Lib.hid (HDE.out.stay HJL.out (by rw [← HX.out]; exact HRR.out.symm))
          go_wp2_with fail
          go_roundw
          case rel => exact ⟨i, j + 1, hlt, rfl, by go_num, d, HN.out, HR2.out⟩
          case measure => simp [intOf]; omega
        · have HN := Lib.hid (show Del l (j + 1) (i + 1) (d.set i x) from by
            have := HDE.out.more HJL.out (by rw [← HX.out]; exact HRR.out.symm)
            rw [← HX.out] at this; exact this)
          have hin : i < n := by omega
          have HIN := Lib.hid hin
          obtain ⟨v2, hv2⟩ := HR2.out.there hin
          have hcy := HR2.out.cells hin hv2
          have fz : ∀ o, w2.frozen? ⟨g, o, none⟩ = false := fun o => HR2.out.free o
          have d0 := HC.out.c0
          have d1 := HC.out.c1
          have d2 := HC.out.c2
          have d3 := HC.out.c3
          have d4 := HC.out.c4
          have d5 := HC.out.c5
          have f0 := hcy.c0
          have f1 := hcy.c1
          have f2 := hcy.c2
          have f3 := hcy.c3
          have f4 := hcy.c4
          have f5 := hcy.c5
          clear hv2 hcy hin
          go_wp2_with fail
          have HR5 := Lib.hid (HR2.out.put i HIN.out x)
          clear d0 d1 d2 d3 d4 d5 f0 f1 f2 f3 f4 f5 fz
          go_roundw
          case rel => exact ⟨i + 1, j + 1, hlt, by go_num, by go_num, d.set i x, HN.out, HR5.out⟩
          case measure => simp [intOf]; omega
      · have hjn : j = n := by omega
        subst hjn
        have hdel := HDE.out
        obtain ⟨m, hm⟩ : ∃ m, m = j - i := ⟨_, rfl⟩
        obtain ⟨zs, w4, hr4, hz4, ho4, hg4, -⟩ := run_clear_in (P := Try.prog) wr 28 TE (.agg #[.int .u8 0, .int .u64 0, .int .u64 0, .int .u8 0, .int .u64 0, .int .u64 0]) 6 Try.underlying28 (fun w => by kernel_rfl) rfl zerosE HR1.out.own i m (by omega) (by omega)
        have hlt4 : i * 6 ≤ (d.flatMap encC).length := by rw [flat_length encC_len, HR1.out.len]; omega
        have hfin := owns_less ho4 (m := i) (by omega)
        have e4 : (splice (d.flatMap encC) (i * 6) zs).take (i * 6) = (l.filter rightS).flatMap encC := by
          unfold splice
          rw [List.take_append_of_le_length (by rw [List.length_take]; omega), List.take_take, Nat.min_self, flat_takeE, hdel.head, HNL.out, List.take_length]
        have hie : i = (l.filter rightS).length := by
          have := hdel.len
          rw [HNL.out, List.take_length] at this; exact this.symm
        rw [e4] at hfin
        have HF := Lib.hid (show w4.ownsRow base TE 6 (.slice (some ⟨g, 0, none⟩) i cap) (l.filter rightS).length ((l.filter rightS).flatMap encC) by rw [← hie]; exact hfin)
        have HGR := Lib.hid (HR1.out.grown.trans hg4)
        have HR4 := Lib.hid hr4
        have c5 : ¬ cap = i := by omega
        have c6 : (i : Int) ≤ (j : Int) := by omega
        have c7 : (i : Int) ≤ (cap : Int) := by omega
        have c8 : i ≤ cap := by omega
        have c9 : (j : Int) ≤ (cap : Int) := by omega
        have c10 : (0 : Int) ≤ (i : Int) := by omega
        clear hr4 hz4 ho4 hg4 hfin e4 hie hdel hlt4
        rw [hm] at HR4
        clear hm
        have hr4 := HR4.out
        go_wp2_with fail
        clear hr4
        go_ret
        exact ⟨_, rfl, HF.out, HGR.out⟩
end Go.Proofs.Try.Gp
