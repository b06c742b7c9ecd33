/- Of alike entries the first; lists of entries put together. -/
import Derived.Test.YtggcdeabnibibaaMk1
import Derived.Test.YtggcdeabnibibaaMo6
set_option linter.unusedVariables false
set_option linter.unusedSimpArgs false
namespace Go.Proofs.Try.Mg
open Go.RowKit Go.Cph Go.Cph.Skip Go.Cph.So

set_option maxRecDepth 100000 in
set_option maxHeartbeats 1000000 in
theorem eq_any (a b : Ent) (cb : Nat) (w : World) (h : w.cell? ⟨cb, 0, none⟩ = some CMP) :
    Calls Try.prog 42 #[encP a, encP b, .pointer (some ⟨cb, 0, none⟩)] w fun e w' => e = .returned (.bool (eqv ltE a b)) ∧ Below w.heap.size w w' := by
  have HB := Lib.hid (show Below w.heap.size w ((w.alloc (.cells #[.string a.1, .string a.2.1, .int .u64 (a.2.2.1.toNat : Int), .bool a.2.2.2] TE)).alloc (.cells #[.string b.1, .string b.2.1, .int .u64 (b.2.2.1.toNat : Int), .bool b.2.2.2] TE)) from ((Below.refl _ _).alloc (Nat.le_refl _) _).alloc (by simp) _)
  have hz : (cmpE a b == 0) = eqv ltE a b := by
    rw [Bool.eq_iff_iff, beq_iff_eq, eqvE, cmpE_zero]
  have HZ := Lib.hid hz
  have hord := order_any a b
  generalize cmpE a b = c at hord HZ
  have HO := Lib.hid hord
  have hlt := World.block_lt_of_cell? _ _ h
  clear hz hord
  go_enter Try.func42, Try.ntmps42
  go_wp2_with fail
  refine (HO.out _).mono ?_
  rintro e w1 ⟨rfl, hb⟩
  have HB1 := Lib.hid (below_step HB.out hb HB.out.size)
  clear hb
  go_wp2_with fail
  go_ret
  exact ⟨ret_bool HZ.out, HB1.out⟩
theorem CellsOf.at {W : World} {g o o' : Nat} {x : Ent} (h : CellsOf W g o x) (e : o' = o) : CellsOf W g o' x := e ▸ h
/-- The box of the test lies apart of the row. -/
structure Box (w0 : World) (base g cb : Nat) : Prop where
  cell : w0.cell? ⟨cb, 0, none⟩ = some CMP
  ne : cb ≠ g
theorem Box.kept {w0 W : World} {base g n cap cb : Nat} {d : List Ent} (h : Box w0 base g cb) (hr : Row w0 base g n cap d W) : W.cell? ⟨cb, 0, none⟩ = some CMP :=
  hr.grown.cell h.cell (by intro e; exact h.ne (by simpa using e))
theorem compactL_snoc (l : List Ent) {i : Nat} (h0 : 0 < i) (hi : i < l.length) : compactL ltE (l.take (i + 1)) = compactL ltE (l.take i) ++ (if eqv ltE l[i] (l[i - 1]'(by omega)) then [] else [l[i]]) := by
  rw [List.take_succ_eq_append_getElem hi]
  cases l with
  | nil => simp at hi
  | cons a l =>
    obtain ⟨j, rfl⟩ : ∃ j, i = j + 1 := ⟨i - 1, by omega⟩
    rw [List.take_succ_cons, List.cons_append]
    show a :: compA ltE a (l.take j ++ [_]) = (a :: compA ltE a (l.take j)) ++ _
    rw [compA_snoc, List.cons_append]
    congr 2
    simp only [Nat.add_sub_cancel]
    congr 2
    rw [List.getLast_eq_getElem]
    simp only [List.length_cons, List.length_take, Nat.add_sub_cancel]
    have : min j l.length = j := by simp at hi; omega
    simp only [this]
    cases j with
    | zero => rfl
    | succ j => simp
/-- How far the row is put together: of the first i elements k have stayed, which lie ahead. -/
structure Cpt (l : List Ent) (i k : Nat) (d : List Ent) : Prop where
  len : (compactL ltE (l.take i)).length = k
  head : d.take k = compactL ltE (l.take i)
  size : d.length = l.length
  rest : ∀ j, i ≤ j + 1 → d[j]? = l[j]?
  less : k + 1 ≤ i
theorem Cpt.stay {l : List Ent} {i k : Nat} {d : List Ent} (h : Cpt l i k d) (hi : i < l.length) (hc : eqv ltE l[i] (l[i - 1]'(by omega)) = true) : Cpt l (i + 1) k d := by
  have hl := h.less
  have e := compactL_snoc l (i := i) (by omega) hi
  rw [if_pos hc, List.append_nil] at e
  exact ⟨by rw [e]; exact h.len, by rw [e]; exact h.head, h.size, fun j hj => h.rest j (by omega), by omega⟩
theorem Cpt.more {l : List Ent} {i k : Nat} {d : List Ent} (h : Cpt l i k d) (hi : i < l.length) (hc : eqv ltE l[i] (l[i - 1]'(by omega)) = false) : Cpt l (i + 1) (k + 1) (d.set k l[i]) := by
  have hl := h.less
  have e := compactL_snoc l (i := i) (by omega) hi
  rw [if_neg (by rw [hc]; simp)] at e
  refine ⟨by rw [e, List.length_append, h.len]; rfl, ?_, by rw [List.length_set]; exact h.size, fun j hj => ?_, by omega⟩
  · have hs := h.size
    rw [e, List.take_succ_eq_append_getElem (by rw [List.length_set]; omega), List.take_set_of_le (Nat.le_refl _), h.head]
    simp
  · rw [List.getElem?_set_ne (by omega)]
    exact h.rest j (by omega)
def Apart (l : List Ent) (k : Nat) : Prop := compactL ltE (l.take k) = l.take k
theorem compactL_le_one (l : List Ent) (h : l.length ≤ 1) : compactL ltE l = l := by
  rcases l with _ | ⟨a, _ | ⟨b, l⟩⟩
  · rfl
  · rfl
  · simp at h
def CompPost (w : World) (base : Nat) (s : Value) (l : List Ent) (e : Ending) (w' : World) : Prop :=
  ∃ v', e = .returned v' ∧ w'.ownsRow base TE 4 v' l.length (l.flatMap encC) ∧ w.grownBy w' s.ownBlock
theorem flat_takeE (l : List Ent) (k : Nat) : (l.flatMap encC).take (k * 4) = (l.take k).flatMap encC := by
  induction l generalizing k with
  | nil => simp
  | cons x l ih =>
    cases k with
    | zero => simp
    | succ k =>
      rw [List.flatMap_cons, List.take_succ_cons, List.flatMap_cons, ← ih, Nat.succ_mul, List.take_append, List.take_of_length_le (by simp)]
      congr 1
theorem zerosE (n : Nat) : ∀ v ∈ (Builtin.zeroCells (Value.cells (.agg #[.string ByteArray.empty, .string ByteArray.empty, .int .u64 0, .bool false])) n).toList, v.oneCell' = true := by
  intro v hv
  simp only [Builtin.zeroCells, Value.cells, Array.toList_map, List.mem_map] at hv
  obtain ⟨i, _, rfl⟩ := hv
  have : i % 4 < 4 := Nat.mod_lt _ (by decide)
  rcases (show i % 4 = 0 ∨ i % 4 = 1 ∨ i % 4 = 2 ∨ i % 4 = 3 by omega) with h | h | h | h <;> simp [h] <;> rfl

set_option maxRecDepth 100000 in
set_option maxHeartbeats 8000000 in
theorem compact {base cb : Nat} (s : Value) (l : List Ent) (w : World) (h : w.ownsRow base TE 4 s l.length (l.flatMap encC)) (hn : l.length ≤ 1000000) (hcb : w.cell? ⟨cb, 0, none⟩ = some CMP) (hcbb : cb < base) :
    Calls Try.prog 41 #[s, .func (.func 42) #[] #[.pointer (some ⟨cb, 0, none⟩)]] w (CompPost w base s (compactL ltE l)) := by
  by_cases hl2 : l.length < 2
  · have HO := Lib.hid (show w.ownsRow base TE 4 s (compactL ltE l).length ((compactL ltE l).flatMap encC) by rw [compactL_le_one l (by omega)]; exact h)
    obtain ⟨ao, cap, hs⟩ := owns_slice1 h
    subst hs
    have k1 : (l.length : Int) < 2 := by omega
    clear h
    go_enter Try.func41, Try.ntmps41
    go_wp2_with fail
    go_ret
    exact ⟨_, rfl, HO.out, grown_refl _ _⟩
  · obtain ⟨g, cap, rfl, hgb, hgl, hnc, -, -⟩ := owns_shape h (by omega)
    obtain ⟨n, hnl⟩ : ∃ n, n = l.length := ⟨_, rfl⟩
    have HR := Lib.hid (show Row w base g n cap l w from ⟨by rw [hnl]; exact h, grown_refl _ _, hnl.symm⟩)
    have hcm : cap ≤ 9223372036854775807 := by obtain ⟨_, _, _, _, h, _⟩ := owns_block h; unfold maxLen at h; omega
    have HBOX := Lib.hid (show Box w base g cb from ⟨hcb, by omega⟩)
    have HNL := Lib.hid hnl
    rw [← hnl] at hnc hn ⊢
    have hn2 : 2 ≤ n := by omega
    have k0 : ¬ ((n : Int) < 2) := by omega
    clear h hcb hcbb hgl hl2 hnl
    go_enter Try.func41, Try.ntmps41
    go_wp2_with fail
    go_loopw [5] (fun vk wr => ∃ k : Nat, 1 ≤ k ∧ k ≤ n ∧ vk = .int .i64 k ∧ Apart l k ∧ Row w base g n cap l wr) (fun vk _ => n - (intOf vk).toNat)
    case atStart => exact ⟨1, by omega, by omega, rfl, compactL_le_one _ (by simp; omega), HR.out⟩
    case round =>
      obtain ⟨k, hk1, hkn, rfl, hap, hr⟩ := hrel
      have HAP := Lib.hid hap
      have HR1 := Lib.hid hr
      clear hap hr HR
      by_cases hlt : k < n
      · obtain ⟨m, hm⟩ : ∃ m, m = k - 1 := ⟨_, rfl⟩
        obtain ⟨x, hx⟩ := HR1.out.there hlt
        obtain ⟨y, hy⟩ := HR1.out.there (i := m) (by omega)
        have e1 : (k : Int) - 1 = (m : Int) := by omega
        have z1 : (k : Int) < (n : Int) := by omega
        have z2 : (m : Int) < (n : Int) := by omega
        have z3 : (0 : Int) ≤ (k : Int) := by omega
        have z4 : (0 : Int) ≤ (m : Int) := by omega
        have HX := Lib.hid (show ∃ h : k < l.length, l[k] = x ∧ l[k - 1]'(Nat.lt_of_le_of_lt (Nat.sub_le _ _) h) = y from ⟨by rw [← HNL.out]; exact hlt, by
          have hkl : k < l.length := by rw [← HNL.out]; exact hlt
          rw [List.getElem?_eq_getElem hkl] at hx
          rw [hm, List.getElem?_eq_getElem (by omega)] at hy
          exact ⟨Option.some.inj hx, Option.some.inj hy⟩⟩)
        clear hm
        have hcx : CellsOf wr g (k * 4) x := (HR1.out.cells (i := k) (by omega) hx).at (by omega)
        have hcy : CellsOf wr g (m * 4) y := (HR1.out.cells (i := m) (by omega) hy).at (by omega)
        have HBX := Lib.hid (HBOX.out.kept HR1.out)
        have HO := Lib.hid (fun (zz : Later wr.heap.size wr) => eq_any x y cb zz.val (Later.cell HBX.out (World.block_lt_of_cell? _ _ HBX.out) zz))
        clear hx hy
        have d0 : ∀ zz : Later wr.heap.size wr, zz.val.cell? ⟨g, k * 4, none⟩ = some (.string x.1) := fun zz => Later.cell hcx.c0 (World.block_lt_of_cell? _ _ hcx.c0) zz
        have d1 : ∀ zz : Later wr.heap.size wr, zz.val.cell? ⟨g, k * 4 + 1, none⟩ = some (.string x.2.1) := fun zz => Later.cell hcx.c1 (World.block_lt_of_cell? _ _ hcx.c1) zz
        have d2 : ∀ zz : Later wr.heap.size wr, zz.val.cell? ⟨g, k * 4 + 2, none⟩ = some (.int .u64 (x.2.2.1.toNat : Int)) := fun zz => Later.cell hcx.c2 (World.block_lt_of_cell? _ _ hcx.c2) zz
        have d3 : ∀ zz : Later wr.heap.size wr, zz.val.cell? ⟨g, k * 4 + 3, none⟩ = some (.bool x.2.2.2) := fun zz => Later.cell hcx.c3 (World.block_lt_of_cell? _ _ hcx.c3) zz
        have f0 : ∀ zz : Later wr.heap.size wr, zz.val.cell? ⟨g, m * 4, none⟩ = some (.string y.1) := fun zz => Later.cell hcy.c0 (World.block_lt_of_cell? _ _ hcy.c0) zz
        have f1 : ∀ zz : Later wr.heap.size wr, zz.val.cell? ⟨g, m * 4 + 1, none⟩ = some (.string y.2.1) := fun zz => Later.cell hcy.c1 (World.block_lt_of_cell? _ _ hcy.c1) zz
        have f2 : ∀ zz : Later wr.heap.size wr, zz.val.cell? ⟨g, m * 4 + 2, none⟩ = some (.int .u64 (y.2.2.1.toNat : Int)) := fun zz => Later.cell hcy.c2 (World.block_lt_of_cell? _ _ hcy.c2) zz
        have f3 : ∀ zz : Later wr.heap.size wr, zz.val.cell? ⟨g, m * 4 + 3, none⟩ = some (.bool y.2.2.2) := fun zz => Later.cell hcy.c3 (World.block_lt_of_cell? _ _ hcy.c3) zz
        clear hcx hcy
        obtain ⟨r, hr⟩ : ∃ r, r = eqv ltE x y := ⟨_, rfl⟩
        rw [← hr] at HO
        have HRR := Lib.hid hr
        clear hr
        go_wp2_with fail
        refine wp_region_later wr.heap.size (by kernel_rfl) (by kernel_rfl) ?_
        repeat (go_big_quiet_step ((go_at_call 42; exact Later.calls (Nat.le_refl _) (HO.out _))))
        refine wpQuiet_nil ?_
        rintro w2 ⟨zz, rfl⟩
        have HR2 := Lib.hid (HR1.out.later zz.prop)
        clear d0 d1 d2 d3 f0 f1 f2 f3
        generalize zz.val = w2 at *
        cases r
        · have HAP2 := Lib.hid (show Apart l (k + 1) from by
            obtain ⟨hkl, h1, h2⟩ := HX.out
            unfold Apart
            rw [compactL_snoc l (by omega) hkl, h1, h2, ← HRR.out, if_neg (by simp), HAP.out, List.take_succ_eq_append_getElem hkl, h1])
          clear e1
          go_wp2_with fail
          go_roundw
          case rel => exact ⟨k + 1, by omega, hlt, by go_num, HAP2.out, HR2.out⟩
          case measure => simp [intOf]; omega
        · have HC := Lib.hid (show Cpt l (k + 1) k l from by
            obtain ⟨hkl, h1, h2⟩ := HX.out
            have e : compactL ltE (l.take (k + 1)) = l.take k := by
              rw [compactL_snoc l (by omega) hkl, h1, h2, ← HRR.out, if_pos rfl, List.append_nil]; exact HAP.out
            exact ⟨by rw [e, List.length_take]; omega, e.symm, rfl, fun _ _ => rfl, Nat.le_refl _⟩)
          have c1 : ¬ cap = k := by omega
          have c2 : (k : Int) ≤ (n : Int) := by omega
          have c3 : k ≤ cap := by omega
          have c4 : (n : Int) ≤ (cap : Int) := by omega
          have HLT := Lib.hid hlt
          clear e1 HX HRR
          go_wp2_with fail
          go_loopw [5, 7] (fun vk vi wr2 => ∃ k2 i : Nat, 1 ≤ i ∧ i ≤ n - k ∧ k2 ≤ n ∧ vk = .int .i64 k2 ∧ vi = .int .i64 i ∧ ∃ d, Cpt l (k + i) k2 d ∧ Row w base g n cap d wr2) (fun _ vi _ => n - (intOf vi).toNat)
          case atStart => exact ⟨k, 1, Nat.le_refl _, by have := HLT.out; omega, hkn, rfl, rfl, l, HC.out, HR2.out⟩
          case round =>
            obtain ⟨wo, rfl⟩ : ∃ wo : World, wo = wr := ⟨_, rfl⟩
            obtain ⟨k2, i, hi1, hin, hk2, rfl, rfl, d, hcp, hr⟩ := hrel
            have HR3 := Lib.hid hr
            have HC3 := Lib.hid hcp
            clear hcp hr HC HR1
            have hLT := HLT.out
            by_cases hlt2 : i < n - k
            · obtain ⟨m2, hm2⟩ : ∃ m, m = i - 1 := ⟨_, rfl⟩
              have hkl : k + i < l.length := by rw [← HNL.out]; omega
              have HKL := Lib.hid hkl
              obtain ⟨x2, hx2⟩ : ∃ x, x = l[k + i]'(HKL.out) := ⟨_, rfl⟩
              obtain ⟨y2, hy2⟩ : ∃ x, x = l[k + i - 1]'(Nat.lt_of_le_of_lt (Nat.sub_le _ _) HKL.out) := ⟨_, rfl⟩
              have hx : d[k + i]? = some x2 := by rw [HC3.out.rest _ (by omega), hx2]; exact List.getElem?_eq_getElem _
              have hy : d[k + m2]? = some y2 := by rw [HC3.out.rest _ (by omega), hy2, show k + m2 = k + i - 1 by omega]; exact List.getElem?_eq_getElem _
              have e1 : (i : Int) - 1 = (m2 : Int) := by omega
              have z5 : (i : Int) < ((n - k : Nat) : Int) := by omega
              have z6 : (m2 : Int) < ((n - k : Nat) : Int) := by omega
              have z7 : (0 : Int) ≤ (i : Int) := by omega
              have z8 : (0 : Int) ≤ (m2 : Int) := by omega
              have z9 : decide (i < n - k) = true := by simpa using hlt2
              have HX2 := Lib.hid hx2
              have HY2 := Lib.hid hy2
              have hk2l : k2 + 1 ≤ k + i := HC3.out.less
              clear hm2 hx2 hy2 hkl
              have hcx : CellsOf wo g (k * 4 + i * 4) x2 := (HR3.out.cells (i := k + i) (by omega) hx).at (by omega)
              have hcy : CellsOf wo g (k * 4 + m2 * 4) y2 := (HR3.out.cells (i := k + m2) (by omega) hy).at (by omega)
              have HBX := Lib.hid (HBOX.out.kept HR3.out)
              have HO := Lib.hid (fun (zz : Later wo.heap.size wo) => eq_any x2 y2 cb zz.val (Later.cell HBX.out (World.block_lt_of_cell? _ _ HBX.out) zz))
              clear hx hy
              have d0 : ∀ zz : Later wo.heap.size wo, zz.val.cell? ⟨g, k * 4 + i * 4, none⟩ = some (.string x2.1) := fun zz => Later.cell hcx.c0 (World.block_lt_of_cell? _ _ hcx.c0) zz
              have d1 : ∀ zz : Later wo.heap.size wo, zz.val.cell? ⟨g, k * 4 + i * 4 + 1, none⟩ = some (.string x2.2.1) := fun zz => Later.cell hcx.c1 (World.block_lt_of_cell? _ _ hcx.c1) zz
              have d2 : ∀ zz : Later wo.heap.size wo, zz.val.cell? ⟨g, k * 4 + i * 4 + 2, none⟩ = some (.int .u64 (x2.2.2.1.toNat : Int)) := fun zz => Later.cell hcx.c2 (World.block_lt_of_cell? _ _ hcx.c2) zz
              have d3 : ∀ zz : Later wo.heap.size wo, zz.val.cell? ⟨g, k * 4 + i * 4 + 3, none⟩ = some (.bool x2.2.2.2) := fun zz => Later.cell hcx.c3 (World.block_lt_of_cell? _ _ hcx.c3) zz
              have f0 : ∀ zz : Later wo.heap.size wo, zz.val.cell? ⟨g, k * 4 + m2 * 4, none⟩ = some (.string y2.1) := fun zz => Later.cell hcy.c0 (World.block_lt_of_cell? _ _ hcy.c0) zz
              have f1 : ∀ zz : Later wo.heap.size wo, zz.val.cell? ⟨g, k * 4 + m2 * 4 + 1, none⟩ = some (.string y2.2.1) := fun zz => Later.cell hcy.c1 (World.block_lt_of_cell? _ _ hcy.c1) zz
              have f2 : ∀ zz : Later wo.heap.size wo, zz.val.cell? ⟨g, k * 4 + m2 * 4 + 2, none⟩ = some (.int .u64 (y2.2.2.1.toNat : Int)) := fun zz => Later.cell hcy.c2 (World.block_lt_of_cell? _ _ hcy.c2) zz
              have f3 : ∀ zz : Later wo.heap.size wo, zz.val.cell? ⟨g, k * 4 + m2 * 4 + 3, none⟩ = some (.bool y2.2.2.2) := fun zz => Later.cell hcy.c3 (World.block_lt_of_cell? _ _ hcy.c3) zz
              clear hcx hcy
              obtain ⟨r, hr⟩ : ∃ r, r = eqv ltE x2 y2 := ⟨_, rfl⟩
              rw [← hr] at HO
              have HRR := Lib.hid hr
              clear hr
              go_wp2_with fail
              refine wp_region_later wo.heap.size (by kernel_rfl) (by kernel_rfl) ?_
              repeat (go_big_quiet_step ((go_at_call 42; exact Later.calls (Nat.le_refl _) (HO.out _))))
              refine wpQuiet_nil ?_
              rintro w3 ⟨zz, rfl⟩
              have HR4 := Lib.hid (HR3.out.later zz.prop)
              clear d0 d1 d2 d3 f0 f1 f2 f3
              generalize zz.val = w3 at *
              have HXY := Lib.hid (show l[k + i]'(HKL.out) = x2 ∧ l[k + i - 1]'(Nat.lt_of_le_of_lt (Nat.sub_le _ _) HKL.out) = y2 from ⟨HX2.out.symm, HY2.out.symm⟩)
              cases r
              · have HN := Lib.hid (show Cpt l (k + i + 1) (k2 + 1) (d.set k2 x2) from by
                  have := HC3.out.more HKL.out (by rw [HXY.out.1, HXY.out.2]; exact HRR.out.symm)
                  rw [HXY.out.1] at this; exact this)
                have hcx : CellsOf w3 g (k * 4 + i * 4) x2 := (HR4.out.cells (i := k + i) (by omega) (by rw [HC3.out.rest _ (by omega), HX2.out]; exact List.getElem?_eq_getElem _)).at (by omega)
                obtain ⟨v2, hv2⟩ := HR4.out.there (i := k2) (by omega)
                have hcy := HR4.out.cells (i := k2) (by omega) hv2
                have fz : ∀ o, w3.frozen? ⟨g, o, none⟩ = false := fun o => HR4.out.free o
                have hkk : k2 < n := by omega
                have HKK := Lib.hid hkk
                have y1 : (k2 : Int) < (n : Int) := by omega
                have y2' : (0 : Int) ≤ (k2 : Int) := by omega
                clear hv2 e1 HX2 HY2
                have d0 := hcx.c0
                have d1 := hcx.c1
                have d2 := hcx.c2
                have d3 := hcx.c3
                have f0 := hcy.c0
                have f1 := hcy.c1
                have f2 := hcy.c2
                have f3 := hcy.c3
                clear hcx hcy
                go_wp2_with fail
                have HR5 := Lib.hid (HR4.out.put k2 HKK.out x2)
                clear d0 d1 d2 d3 f0 f1 f2 f3 fz
                go_roundw
                case rel =>
                  refine ⟨k2 + 1, i + 1, by omega, by omega, hkk, by go_num, by go_num, d.set k2 x2, HN.out, HR5.out⟩
                case measure => have := HLT.out; simp [intOf]; omega
              · have HN := Lib.hid (show Cpt l (k + i + 1) k2 d from HC3.out.stay HKL.out (by rw [HXY.out.1, HXY.out.2]; exact HRR.out.symm))
                clear e1 HX2 HY2
                go_wp2_with fail
                go_roundw
                case rel => exact ⟨k2, i + 1, by omega, by omega, hk2, rfl, by go_num, d, HN.out, HR4.out⟩
                case measure => have := HLT.out; simp [intOf]; omega
            · have hkin : k + i = n := by omega
              have hcpt := HC3.out
              rw [hkin] at hcpt
              have hk2l : k2 + 1 ≤ n := hcpt.less
              obtain ⟨m, hm⟩ : ∃ m, m = n - k2 := ⟨_, rfl⟩
              obtain ⟨zs, w4, hr4, hz4, ho4, hg4, -⟩ := run_clear_in (P := Try.prog) wo 25 TE (.agg #[.string ByteArray.empty, .string ByteArray.empty, .int .u64 0, .bool false]) 4 Try.underlying25 (fun w => by kernel_rfl) rfl zerosE HR3.out.own k2 m (by omega) (by omega)
              have hlt4 : k2 * 4 ≤ (d.flatMap encC).length := by rw [flat_length encC_len, HR3.out.len]; omega
              have hfin := owns_less ho4 (m := k2) (by omega)
              have e4 : (splice (d.flatMap encC) (k2 * 4) zs).take (k2 * 4) = (compactL ltE l).flatMap encC := by
                unfold splice
                rw [List.take_append_of_le_length (by rw [List.length_take]; omega), List.take_take, Nat.min_self, flat_takeE, hcpt.head, HNL.out, List.take_length]
              have hk2e : k2 = (compactL ltE l).length := by
                have := hcpt.len
                rw [HNL.out, List.take_length] at this; exact this.symm
              rw [e4] at hfin
              have HF := Lib.hid (show w4.ownsRow base TE 4 (.slice (some ⟨g, 0, none⟩) k2 cap) (compactL ltE l).length ((compactL ltE l).flatMap encC) by rw [← hk2e]; exact hfin)
              have HG := Lib.hid (HR3.out.grown.trans hg4)
              have HR4 := Lib.hid hr4
              have c5 : ¬ cap = k2 := by omega
              have c6 : (k2 : Int) ≤ (n : Int) := by omega
              have c7 : (k2 : Int) ≤ (cap : Int) := by omega
              have c8 : k2 ≤ cap := by omega
              have z5 : ¬ (i : Int) < ((n - k : Nat) : Int) := by omega
              have z9 : decide (i < n - k) = false := by simpa using hlt2
              clear hr4 hz4 ho4 hg4 hfin e4 hk2e hcpt hkin hlt4 hLT hk2l
              rw [hm] at HR4
              clear hm hlt2
              have hr4 := HR4.out
              go_wp2_with fail
              clear hr4
              go_ret
              exact ⟨_, rfl, HF.out, HG.out⟩
      · have HE := Lib.hid (show w.grownBy wr (some g) ∧ wr.ownsRow base TE 4 (.slice (some ⟨g, 0, none⟩) n cap) (compactL ltE l).length ((compactL ltE l).flatMap encC) from ⟨HR1.out.grown, by
          have e : compactL ltE l = l := by
            have := HAP.out
            unfold Apart at this
            rw [List.take_of_length_le (by rw [← HNL.out]; omega)] at this; exact this
          rw [e, ← HNL.out]; exact HR1.out.own⟩)
        have z1 : ¬ (k : Int) < (n : Int) := by omega
        go_wp2_with fail
        go_ret
        exact ⟨_, rfl, HE.out.2, HE.out.1⟩
end Go.Proofs.Try.Mg
