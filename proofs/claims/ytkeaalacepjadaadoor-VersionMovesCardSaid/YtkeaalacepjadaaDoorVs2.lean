/- A row of entries that is turned in place: two change places; insertion sort. -/
import Derived.Test.YtkeaalacepjadaaDoorVK
import Derived.Test.YtkeaalacepjadaaDoorVA
import Derived.Laws.OwnMore
import Derived.RegionTactic
import Derived.ChangeAlike
set_option linter.unusedVariables false
set_option linter.unusedSimpArgs false
set_option maxRecDepth 100000
namespace Go.Proofs.Tryd.Vr
open Go.RowKit Go.Cph Go.Cph.Skip Go.Cph.So Go.Cph.Ve
variable {C : Cap}

abbrev putE (W : World) (g o : Nat) (q : Tb) : World := (((((((W.setCell ⟨g, o, none⟩ (.int .u64 (q.1.toNat : Int))).setCell ⟨g, o + 1, none⟩ (.int .i64 q.2.1)).setCell ⟨g, o + 2, none⟩ (.int .i64 q.2.2.1)).setCell ⟨g, o + 3, none⟩ (.int .i64 q.2.2.2.1)).setCell ⟨g, o + 4, none⟩ (.string q.2.2.2.2.1)).setCell ⟨g, o + 5, none⟩ (.string q.2.2.2.2.2.1)).setCell ⟨g, o + 6, none⟩ (.int .u64 (q.2.2.2.2.2.2.1.toNat : Int))).setCell ⟨g, o + 7, none⟩ (.int .u64 (q.2.2.2.2.2.2.2.toNat : Int))
theorem flat_put (l : List Tb) (i : Nat) (hi : i < l.length) (q : Tb) :
    ((((((((l.flatMap encC).set (i * 8) (.int .u64 (q.1.toNat : Int))).set (i * 8 + 1) (.int .i64 q.2.1)).set (i * 8 + 2) (.int .i64 q.2.2.1)).set (i * 8 + 3) (.int .i64 q.2.2.2.1)).set (i * 8 + 4) (.string q.2.2.2.2.1)).set (i * 8 + 5) (.string q.2.2.2.2.2.1)).set (i * 8 + 6) (.int .u64 (q.2.2.2.2.2.2.1.toNat : Int))).set (i * 8 + 7) (.int .u64 (q.2.2.2.2.2.2.2.toNat : Int)) = (l.set i q).flatMap encC := by
  induction l generalizing i with
  | nil => exact absurd hi (by simp)
  | cons x l ih =>
    cases i with
    | zero => simp [encC]
    | succ i =>
      have h := ih i (by simpa using hi)
      rw [List.flatMap_cons, List.set_cons_succ, List.flatMap_cons, ← h]
      have e : (i + 1) * 8 = i * 8 + 8 := by omega
      rw [e]
      simp [encC]
theorem owns_put {w : World} {base g n cap : Nat} {l : List Tb} (h : w.ownsRow base TE 8 (.slice (some ⟨g, 0, none⟩) n cap) n (l.flatMap encC)) (i : Nat) (hi : i < l.length) (q : Tb) :
    (putE w g (i * 8) q).ownsRow base TE 8 (.slice (some ⟨g, 0, none⟩) n cap) n ((l.set i q).flatMap encC) := by
  rw [← flat_put l i hi q]
  exact ((((((((h.stored _ _).1.stored _ _).1.stored _ _).1.stored _ _).1.stored _ _).1.stored _ _).1.stored _ _).1.stored _ _).1
theorem grown_set (w : World) (g j : Nat) (v : Value) : w.grownBy (w.setCell ⟨g, j, none⟩ v) (some g) :=
  ⟨rfl, rfl, rfl, by simp, fun k hk hne => blk_set_other (by intro e; exact hne (by rw [e]))⟩
theorem grown_put (w : World) (g o : Nat) (q : Tb) : w.grownBy (putE w g o q) (some g) := ((((((((grown_set w g _ _).trans (grown_set _ g _ _)).trans (grown_set _ g _ _)).trans (grown_set _ g _ _)).trans (grown_set _ g _ _)).trans (grown_set _ g _ _)).trans (grown_set _ g _ _)).trans (grown_set _ g _ _))
theorem grown_below {w w' : World} (h : Below w.heap.size w w') (row : Option Nat) : w.grownBy w' row := ⟨h.os, h.tape, h.output, h.size, fun k hk _ => h.block k hk⟩
theorem grown_refl (w : World) (row : Option Nat) : w.grownBy w row := ⟨rfl, rfl, rfl, Nat.le_refl _, fun _ _ _ => rfl⟩
theorem grown_drew {w w' : World} {row : Option Nat} (h : w.grownBy w' row) : w.grownBy w'.drew row := ⟨h.os, h.tape, h.output, h.size, h.block⟩
theorem row_kept1 {w w' : World} {base : Nat} {e : TypeId} {size : Nat} {v : Value} {n : Nat} {xs : List Value} (h : w.ownsRow base e size v n xs)
    (hk : ∀ k, v.ownBlock = some k → w'.heap[k]? = w.heap[k]?) : w'.ownsRow base e size v n xs := by
  obtain ⟨h1, h2⟩ := h
  refine ⟨h1, ?_⟩
  rcases h2 with h2 | ⟨g, cap, cur, rfl, h4, h5, r⟩
  · exact .inl h2
  · exact .inr ⟨g, cap, cur, rfl, h4, (hk g rfl).trans h5, r⟩
theorem put_far {W : World} {g c : Nat} {o : Obj} (h : W.heap[c]? = some o) (hne : c ≠ g) (q : Nat) (e : Tb) : (putE W g q e).heap[c]? = some o := by
  unfold putE
  rw [blk_set_other hne, blk_set_other hne, blk_set_other hne, blk_set_other hne, blk_set_other hne, blk_set_other hne, blk_set_other hne, blk_set_other hne]
  exact h
/-- A row of tables of our own, turned since w0. -/
structure Row (C : Cap) (w0 : World) (base g n cap : Nat) (d : List Tb) (W : World) : Prop where
  own : W.ownsRow base TE 8 (.slice (some ⟨g, 0, none⟩) n cap) n (d.flatMap encC)
  grown : w0.grownBy W (some g)
  len : d.length = n
  key : W.heap[C.kb]? = some (boxI C.kk)
  far : C.kb ≠ g
theorem Row.later {w0 W W' : World} {base g n cap : Nat} {d : List Tb} (h : Row C w0 base g n cap d W) (hb : Below W.heap.size W W') : Row C w0 base g n cap d W' :=
  ⟨row_kept1 h.own (fun k hk => hb.block k (h.own.lt k hk).2), h.grown.trans (grown_below hb _), h.len, blk_kept hb h.key, h.far⟩
theorem Row.put {w0 W : World} {base g n cap : Nat} {d : List Tb} (h : Row C w0 base g n cap d W) (i : Nat) (hi : i < n) (q : Tb) : Row C w0 base g n cap (d.set i q) (putE W g (i * 8) q) :=
  ⟨owns_put h.own i (by rw [h.len]; exact hi) q, h.grown.trans (grown_put _ _ _ _), by rw [List.length_set]; exact h.len, put_far h.key h.far _ _, h.far⟩
theorem Row.drew {w0 W : World} {base g n cap : Nat} {d : List Tb} (h : Row C w0 base g n cap d W) : Row C w0 base g n cap d W.drew := ⟨h.own, grown_drew h.grown, h.len, h.key, h.far⟩
theorem Row.to {w0 W : World} {base g n cap : Nat} {d d' : List Tb} (h : Row C w0 base g n cap d W) (e : d = d') : Row C w0 base g n cap d' W := e ▸ h
theorem Row.cells {w0 W : World} {base g n cap : Nat} {d : List Tb} (h : Row C w0 base g n cap d W) {i : Nat} (hi : i < n) {x : Tb} (hx : d[i]? = some x) : CellsOf W g (i * 8) x := by
  have hid : i < d.length := by rw [h.len]; exact hi
  obtain ⟨g', cap', hv, -, -, -, hcell, -⟩ := owns_shape h.own (by omega)
  cases hv
  have e : x = d[i] := by rw [List.getElem?_eq_getElem hid] at hx; exact (Option.some.inj hx).symm
  subst e
  have hl := h.len
  refine ⟨(hcell (i * 8 + 0) (by omega)).trans ?_, (hcell (i * 8 + 1) (by omega)).trans ?_, (hcell (i * 8 + 2) (by omega)).trans ?_, (hcell (i * 8 + 3) (by omega)).trans ?_, (hcell (i * 8 + 4) (by omega)).trans ?_, (hcell (i * 8 + 5) (by omega)).trans ?_, (hcell (i * 8 + 6) (by omega)).trans ?_, (hcell (i * 8 + 7) (by omega)).trans ?_⟩ <;> exact flat_at encC_len d i hid _ (by decide)
theorem Row.free {w0 W : World} {base g n cap : Nat} {d : List Tb} (h : Row C w0 base g n cap d W) (j : Nat) : W.frozen? ⟨g, j, none⟩ = false := by
  have := h.own.frozenAt (g := g) j
  exact this
theorem Row.there {w0 W : World} {base g n cap : Nat} {d : List Tb} (h : Row C w0 base g n cap d W) {i : Nat} (hi : i < n) : ∃ x, d[i]? = some x := ⟨_, List.getElem?_eq_getElem (by rw [h.len]; exact hi)⟩
abbrev CMP (C : Cap) : Value := .func (.func 46) #[] #[.pointer (some ⟨C.kb, 0, none⟩)]
def RowPost (C : Cap) (w0 : World) (base g n cap : Nat) (d : List Tb) (e : Ending) (w' : World) : Prop := e = .returned (.tuple #[]) ∧ Row C w0 base g n cap d w'

set_option maxHeartbeats 4000000 in
theorem insertion {base g n cap : Nat} (a b : Nat) (p c q : List Tb) (w0 w : World) (h : Row C w0 base g n cap (p ++ (c ++ q)) w) (ha : p.length = a) (hb : p.length + c.length = b) (hn : n ≤ 1000000) :
    Calls Tryd.prog 77 #[.slice (some ⟨g, 0, none⟩) n cap, .int .i64 a, .int .i64 b, (CMP C)] w (RowPost C w0 base g n cap (p ++ (sortL (ltK C) c ++ q))) := by
  have hbn : b ≤ n := by rw [← h.len]; simp; omega
  have han : a ≤ n := by omega
  have HR := Lib.hid h
  have HA := Lib.hid ha
  have HB := Lib.hid hb
  clear h ha hb
  go_enter Tryd.func77, Tryd.ntmps77
  go_wp2_with fail
  go_loopw [8] (fun vi wr => ∃ t i : Nat, i = a + t ∧ t ≤ c.length + 1 ∧ vi = .int .i64 i ∧ Row C w0 base g n cap (insA (ltK C) p c q t) wr) (fun vi _ => b - (intOf vi).toNat)
  case atStart => exact ⟨1, a + 1, rfl, by omega, by go_num, HR.out.to (insA_start p c q).symm⟩
  case round =>
    obtain ⟨t, i, hi, ht, rfl, hr⟩ := hrel
    have HRT := Lib.hid hr
    have HI := Lib.hid hi
    clear hr
    have hA := HA.out
    have hB := HB.out
    by_cases hlt : i < b
    · have htc : t < c.length := by omega
      have HT := Lib.hid htc
      clear ht htc hA hB hi
      go_wp2_with fail
      go_loopw [9] (fun vj wr2 => ∃ j : Nat, a ≤ j ∧ j ≤ i ∧ vj = .int .i64 j ∧ (∀ m y, j - a ≤ m → (sortL (ltK C) (c.take t))[m]? = some y → (ltK C) (c[t]'(HT.out)) y = true) ∧ Row C w0 base g n cap (insB (ltK C) p c q t (c[t]'(HT.out)) (j - a)) wr2) (fun vj _ => (intOf vj).toNat)
      case atStart =>
        have hi := HI.out
        refine ⟨i, by omega, Nat.le_refl _, rfl, fun m y hm hy => ?_, HRT.out.to ?_⟩
        · have := (List.getElem?_eq_some_iff.1 hy).1
          rw [sortL_length (weakK C), So.take_len HT.out] at this
          omega
        · rw [show i - a = t by omega]; exact insB_start (weakK C) p c q HT.out
      case round =>
        obtain ⟨wo, rfl⟩ : ∃ wo : World, wo = wr := ⟨_, rfl⟩
        obtain ⟨j, haj, hji, rfl, hall, hr⟩ := hrel
        have HRJ := Lib.hid hr
        have HALL := Lib.hid hall
        clear hall hr HRT
        by_cases hja : a < j
        · obtain ⟨m, hm⟩ : ∃ m, m = j - 1 := ⟨_, rfl⟩
          have hx := insB_at (weakK C) p c q HT.out (c[t]'(HT.out)) (k := j - a) (by have := HI.out; omega)
          obtain ⟨y, hy⟩ := HRJ.out.there (i := m) (by omega)
          obtain ⟨x, hxe⟩ : ∃ x, x = c[t]'(HT.out) := ⟨_, rfl⟩
          have hjn : j < n := by omega
          have hmn : m < n := by omega
          rw [HA.out, show a + (j - a) = j by omega] at hx
          have hcx := HRJ.out.cells hjn hx
          have hcy := HRJ.out.cells hmn hy
          have hys : (sortL (ltK C) (c.take t))[m - a]? = some y := by
            rw [← insB_prev (weakK C) p c q HT.out (c[t]'(HT.out)) (k := m - a) (by have := HI.out; omega), HA.out, ← hy]
            congr 2 <;> omega
          rw [← hxe] at hcx
          have HX := Lib.hid hxe
          have HYS := Lib.hid hys
          have HM := Lib.hid hm
          have hord := order_any C x y
          have hbef := cmpK_neg C x y
          have HBF := Lib.hid hbef
          generalize cmpK C x y = cc at *
          have HO := Lib.hid hord
          clear hxe hys hy hx hord hbef
          have e1 : (j : Int) - 1 = (m : Int) := by omega
          have z1 : (j : Int) < (n : Int) := by omega
          have z2 : (m : Int) < (n : Int) := by omega
          have z3 : decide (a < j) = true := by simpa using hja
          have z4 : (0 : Int) ≤ (j : Int) := by omega
          have z5 : (0 : Int) ≤ (m : Int) := by omega
          have HCX := Lib.hid hcx
          have HCY := Lib.hid hcy
          clear hm
          have d0 : ∀ zz : Later wo.heap.size wo, zz.val.cell? ⟨g, j * 8, none⟩ = some (.int .u64 (x.1.toNat : Int)) := fun zz => Later.cell hcx.c0 (World.block_lt_of_cell? _ _ hcx.c0) zz
          have d1 : ∀ zz : Later wo.heap.size wo, zz.val.cell? ⟨g, j * 8 + 1, none⟩ = some (.int .i64 x.2.1) := fun zz => Later.cell hcx.c1 (World.block_lt_of_cell? _ _ hcx.c1) zz
          have d2 : ∀ zz : Later wo.heap.size wo, zz.val.cell? ⟨g, j * 8 + 2, none⟩ = some (.int .i64 x.2.2.1) := fun zz => Later.cell hcx.c2 (World.block_lt_of_cell? _ _ hcx.c2) zz
          have d3 : ∀ zz : Later wo.heap.size wo, zz.val.cell? ⟨g, j * 8 + 3, none⟩ = some (.int .i64 x.2.2.2.1) := fun zz => Later.cell hcx.c3 (World.block_lt_of_cell? _ _ hcx.c3) zz
          have d4 : ∀ zz : Later wo.heap.size wo, zz.val.cell? ⟨g, j * 8 + 4, none⟩ = some (.string x.2.2.2.2.1) := fun zz => Later.cell hcx.c4 (World.block_lt_of_cell? _ _ hcx.c4) zz
          have d5 : ∀ zz : Later wo.heap.size wo, zz.val.cell? ⟨g, j * 8 + 5, none⟩ = some (.string x.2.2.2.2.2.1) := fun zz => Later.cell hcx.c5 (World.block_lt_of_cell? _ _ hcx.c5) zz
          have d6 : ∀ zz : Later wo.heap.size wo, zz.val.cell? ⟨g, j * 8 + 6, none⟩ = some (.int .u64 (x.2.2.2.2.2.2.1.toNat : Int)) := fun zz => Later.cell hcx.c6 (World.block_lt_of_cell? _ _ hcx.c6) zz
          have d7 : ∀ zz : Later wo.heap.size wo, zz.val.cell? ⟨g, j * 8 + 7, none⟩ = some (.int .u64 (x.2.2.2.2.2.2.2.toNat : Int)) := fun zz => Later.cell hcx.c7 (World.block_lt_of_cell? _ _ hcx.c7) zz
          have f0 : ∀ zz : Later wo.heap.size wo, zz.val.cell? ⟨g, m * 8, none⟩ = some (.int .u64 (y.1.toNat : Int)) := fun zz => Later.cell hcy.c0 (World.block_lt_of_cell? _ _ hcy.c0) zz
          have f1 : ∀ zz : Later wo.heap.size wo, zz.val.cell? ⟨g, m * 8 + 1, none⟩ = some (.int .i64 y.2.1) := fun zz => Later.cell hcy.c1 (World.block_lt_of_cell? _ _ hcy.c1) zz
          have f2 : ∀ zz : Later wo.heap.size wo, zz.val.cell? ⟨g, m * 8 + 2, none⟩ = some (.int .i64 y.2.2.1) := fun zz => Later.cell hcy.c2 (World.block_lt_of_cell? _ _ hcy.c2) zz
          have f3 : ∀ zz : Later wo.heap.size wo, zz.val.cell? ⟨g, m * 8 + 3, none⟩ = some (.int .i64 y.2.2.2.1) := fun zz => Later.cell hcy.c3 (World.block_lt_of_cell? _ _ hcy.c3) zz
          have f4 : ∀ zz : Later wo.heap.size wo, zz.val.cell? ⟨g, m * 8 + 4, none⟩ = some (.string y.2.2.2.2.1) := fun zz => Later.cell hcy.c4 (World.block_lt_of_cell? _ _ hcy.c4) zz
          have f5 : ∀ zz : Later wo.heap.size wo, zz.val.cell? ⟨g, m * 8 + 5, none⟩ = some (.string y.2.2.2.2.2.1) := fun zz => Later.cell hcy.c5 (World.block_lt_of_cell? _ _ hcy.c5) zz
          have f6 : ∀ zz : Later wo.heap.size wo, zz.val.cell? ⟨g, m * 8 + 6, none⟩ = some (.int .u64 (y.2.2.2.2.2.2.1.toNat : Int)) := fun zz => Later.cell hcy.c6 (World.block_lt_of_cell? _ _ hcy.c6) zz
          have f7 : ∀ zz : Later wo.heap.size wo, zz.val.cell? ⟨g, m * 8 + 7, none⟩ = some (.int .u64 (y.2.2.2.2.2.2.2.toNat : Int)) := fun zz => Later.cell hcy.c7 (World.block_lt_of_cell? _ _ hcy.c7) zz
          clear hcx hcy
          go_wp2_with fail
          refine wp_region_later wo.heap.size (by kernel_rfl) (by kernel_rfl) ?_
          repeat (go_big_quiet_step ((go_at_call 46; exact Later.calls (Nat.le_refl _) (HO.out _ (blk_kept (Later.prop _) HRJ.out.key)))))
          refine wpQuiet_nil ?_
          rintro w2 ⟨zz, rfl⟩
          have HR2 := Lib.hid (HRJ.out.later zz.prop)
          have hcx := HCX.out.kept zz.prop
          have hcy := HCY.out.kept zz.prop
          clear d0 d1 d2 d3 d4 d5 d6 d7 f0 f1 f2 f3 f4 f5 f6 f7
          generalize zz.val = w2 at *
          by_cases hc : cc < 0
          · have HLT := Lib.hid (HBF.out.1 hc)
            have d0 := hcx.c0
            have d1 := hcx.c1
            have d2 := hcx.c2
            have d3 := hcx.c3
            have d4 := hcx.c4
            have d5 := hcx.c5
            have d6 := hcx.c6
            have d7 := hcx.c7
            have f0 := hcy.c0
            have f1 := hcy.c1
            have f2 := hcy.c2
            have f3 := hcy.c3
            have f4 := hcy.c4
            have f5 := hcy.c5
            have f6 := hcy.c6
            have f7 := hcy.c7
            have z6 : IntKind.i64.wrap (m : Int) = (m : Int) := by rw [IntKind.wrap_i64]; omega
            have fz : ∀ o, w2.frozen? ⟨g, o, none⟩ = false := fun o => HR2.out.free o
            have HJN := Lib.hid hjn
            have HMN := Lib.hid hmn
            have HJA := Lib.hid hja
            clear hcx hcy
            go_wp2_with fail
            go_region
            have HR3 := Lib.hid ((HR2.out.put j HJN.out y).put m HMN.out x).drew
            clear d0 d1 d2 d3 d4 d5 d6 d7 f0 f1 f2 f3 f4 f5 f6 f7 fz z6
            go_wp2_with fail
            go_roundw
            case rel =>
              have hI := HI.out
              have hM := HM.out
              refine ⟨m, by omega, by omega, rfl, fun r z hr hz => ?_, ?_⟩
              · by_cases e : r = m - a
                · subst e; rw [HYS.out] at hz; cases hz; rw [← HX.out]; exact HLT.out
                · exact HALL.out r z (by omega) hz
              · have hd := insB_down (weakK C) p c q HT.out (c[t]'(HT.out)) y (k := m - a) (by omega) HYS.out
                rw [HA.out, show a + (m - a + 1) = j by omega, show a + (m - a) = m by omega, show m - a + 1 = j - a by omega] at hd
                have h3 := HR3.out
                rw [HX.out] at h3 ⊢
                exact h3.to hd
            case measure => simp [intOf]; omega
          · have HLT := Lib.hid (show (ltK C) x y = false by
              cases hl : (ltK C) x y with
              | false => rfl
              | true => exact absurd (HBF.out.2 hl) hc)
            clear hcx hcy
            go_wp2_with fail
            go_roundw
            case rel =>
              have hI := HI.out
              have hM := HM.out
              have hB := HB.out
              have hA := HA.out
              refine ⟨t + 1, i + 1, by omega, by have := HT.out; omega, by go_num, HR2.out.to (insB_end (weakK C) p c q HT.out (by omega) (fun z _ hz => ?_) HALL.out)⟩
              rw [show j - a - 1 = m - a by omega, HYS.out] at hz
              cases hz
              rw [← HX.out]; exact HLT.out
            case measure => simp [intOf]; omega
        · have z3 : decide (a < j) = false := by simpa using hja
          have z4 : ¬ ((a : Int) < (j : Int)) := by omega
          have z5 : decide ((a : Int) < (j : Int)) = false := by simpa using hja
          have HJA := Lib.hid hja
          clear hja
          go_wp2_with fail
          go_quiet (fail)
          go_wp2_with fail
          go_roundw
          case rel =>
            have hI := HI.out
            have hB := HB.out
            have hA := HA.out
            refine ⟨t + 1, i + 1, by omega, by have := HT.out; omega, by go_num, (show Row C w0 base g n cap _ (wo.drewN _) from HRJ.out.later ⟨rfl, rfl, rfl, Nat.le_refl _, fun _ _ => rfl⟩).to (insB_end (weakK C) p c q HT.out (by have := HJA.out; omega) (fun z hz => by have := HJA.out; omega) HALL.out)⟩
          case measure => simp [intOf]; omega
    · have HE := Lib.hid (HRT.out.to (insA_end p c q (by omega)))
      clear hA hB hi ht
      go_wp2_with fail
      go_end0
      exact ⟨rfl, HE.out⟩
end Go.Proofs.Tryd.Vr
