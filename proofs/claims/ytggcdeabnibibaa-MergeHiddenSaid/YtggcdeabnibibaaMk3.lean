/- Lists of entries put together; right lists; the version that counts. -/
import Derived.Test.YtggcdeabnibibaaMk2
set_option linter.unusedVariables false
set_option linter.unusedSimpArgs false
namespace Go.Proofs.Try.Mg
open Go.RowKit Go.Cph Go.Cph.Skip Go.Cph.So

set_option maxRecDepth 100000 in
set_option maxHeartbeats 4000000 in
theorem sorted_any (v : Value) (ls : List (List Ent)) (w : World) (h : EntsOf w v ls) (hl : ls.length ≤ 100000) (hn : ls.flatten.length ≤ 1000000) :
    Calls Try.prog 28 #[CMP, v] w (NewRow w (mergeL ltE ls.flatten)) := by
  have hb0 : Below w.heap.size w (w.alloc (.cells #[CMP] 49)) := (Below.refl _ _).alloc (Nat.le_refl _) _
  have H0 := Lib.hid (heap_alloc_new w (.cells #[CMP] 49))
  have HB0 := Lib.hid hb0
  have HS0 := Lib.hid (World.size_alloc w (.cells #[CMP] 49))
  have HL := Lib.hid h
  clear h hb0
  go_enter Try.func28, Try.ntmps28
  go_wp2_with fail
  have HC := Lib.hid (concat v ls _ (HL.out.kept HB0.out) hl hn)
  generalize w.alloc (.cells #[CMP] 49) = w0 at *
  refine HC.out.mono ?_
  rintro e w1 ⟨v1, rfl, ho, hb⟩
  have HO1 := Lib.hid ho
  have HB1 := Lib.hid (below_step HB0.out hb HB0.out.size)
  have H1 := Lib.hid (blk_kept hb H0.out)
  have HS := Lib.hid (sort_stable v1 ls.flatten w1 ho hn)
  clear ho hb
  have c0 : w1.cell? ⟨w.heap.size, 0, none⟩ = some CMP := by rw [blk_cell H1.out]; rfl
  go_wp2_with fail
  clear c0
  refine HS.out.mono ?_
  rintro e w2 ⟨rfl, ho, hg⟩
  have HO2 := Lib.hid ho
  have HB2 := Lib.hid (below_grown HB1.out hg HO1.out (by rw [HS0.out]; omega) HB1.out.size)
  have H2 := Lib.hid (show w2.heap[w.heap.size]? = some (.cells #[CMP] 49 (0, 0)) from by
    rw [hg.block _ (blk_lt H1.out) (fun e => by have := (HO1.out.lt _ e.symm).1; rw [HS0.out] at this; omega)]; exact H1.out)
  clear ho hg HS
  have HQ := Lib.hid (compact (cb := w.heap.size) v1 _ w2 HO2.out (by rw [sortL_length weakE]; exact hn) (by rw [blk_cell H2.out]; rfl) (by rw [HS0.out]; omega))
  go_wp2_with fail
  refine HQ.out.mono ?_
  rintro e w3 ⟨v3, rfl, ho, hg⟩
  have HO3 := Lib.hid ho
  have HB3 := Lib.hid (below_grown HB2.out hg HO2.out (by rw [HS0.out]; omega) HB2.out.size)
  clear ho hg
  go_wp2_with fail
  go_ret
  exact ⟨_, rfl, owns_mono HO3.out (by rw [HS0.out]; omega), HB3.out⟩

set_option maxRecDepth 100000 in
set_option maxHeartbeats 4000000 in
theorem merge_any (v : Value) (ls : List (List Ent)) (w : World) (h : EntsOf w v ls) (hl : ls.length ≤ 100000) (hn : ls.flatten.length ≤ 1000000) :
    Calls Try.prog 13 #[v] w (NewRow w (mergeL ltE ls.flatten)) := by
  have HC := Lib.hid (sorted_any v ls w h hl hn)
  clear h
  go_enter Try.func13, Try.ntmps13
  go_wp2_with fail
  refine HC.out.mono ?_
  rintro e w1 ⟨v1, rfl, ho, hb⟩
  have HO1 := Lib.hid ho
  have HB1 := Lib.hid hb
  clear ho hb
  go_wp2_with fail
  go_ret
  exact ⟨_, rfl, HO1.out, HB1.out⟩

/-! ### right lists -/
def rightB (l : List Ent) (k : Nat) : Prop := ∀ i (h : i + 1 < l.length), i + 1 < k → ltE l[i] l[i + 1] = true
theorem rightB_strict {l : List Ent} : rightB l l.length ↔ Strict ltE l := by
  constructor
  · intro h
    unfold Strict
    rw [List.pairwise_iff_getElem]
    intro i j hi hj hij
    obtain ⟨d, rfl⟩ : ∃ d, j = i + 1 + d := ⟨j - (i + 1), by omega⟩
    induction d with
    | zero => exact h i (by omega) (by omega)
    | succ d ih =>
      have h1 := ih (by omega) (by omega)
      have h2 := h (i + 1 + d) (by omega) (by omega)
      exact weakE.lt_of_lt_le h1 (weakE.asymm h2)
  · intro h i hi _
    exact List.pairwise_iff_getElem.1 h i (i + 1) (by omega) hi (by omega)
noncomputable def rightL (l : List Ent) : Bool := by classical exact decide (Strict ltE l)
theorem rightL_iff {l : List Ent} : rightL l = true ↔ Strict ltE l := by unfold rightL; simp
theorem ltE_of_cmp {a b : Ent} {cc : Int} (h : cc < 0 ↔ ltE a b = true) (hc : cc < 0) : ltE a b = true := h.1 hc

set_option maxRecDepth 100000 in
set_option maxHeartbeats 4000000 in
theorem right_any (v : Value) (l : List Ent) (w : World) (h : EntsAt w v l) (hn : l.length ≤ 1000000) :
    Calls Try.prog 11 #[v] w fun e w' => e = .returned (.bool (rightL l)) ∧ Below w.heap.size w w' := by
  obtain ⟨ao, cap, hv⟩ := elems_slice h
  have HV := Lib.hid h
  subst hv
  clear h
  go_enter Try.func11, Try.ntmps11
  go_wp2_with fail
  go_loopw [3] (fun vi wr => ∃ k : Nat, 1 ≤ k ∧ k ≤ l.length + 1 ∧ vi = .int .i64 k ∧ rightB l k ∧ Below w.heap.size w wr) (fun vi _ => l.length - (intOf vi).toNat)
  case atStart => exact ⟨1, by omega, by omega, rfl, fun i _ h => by omega, Below.refl _ _⟩
  case round =>
    obtain ⟨k, hk1, hk, rfl, hrb, hbel⟩ := hrel
    have HRB := Lib.hid hrb
    have HBE := Lib.hid hbel
    clear hrb hbel
    by_cases hlt : k < l.length
    · obtain ⟨b, off, cap', hve, hcs⟩ := ents_cells HV.out (by omega)
      cases hve
      obtain ⟨m, hm⟩ : ∃ m, m = k - 1 := ⟨_, rfl⟩
      have hml : m < l.length := by omega
      have hcx := (hcs m hml).kept HBE.out
      have hcy := (hcs k hlt).kept HBE.out
      obtain ⟨x, hx⟩ : ∃ x, x = l[m] := ⟨_, rfl⟩
      obtain ⟨y, hy⟩ : ∃ x, x = l[k] := ⟨_, rfl⟩
      rw [← hx] at hcx
      rw [← hy] at hcy
      have HN := Lib.hid (show ltE x y = true ↔ rightB l (k + 1) from by
        rw [hx, hy]
        constructor
        · intro h i hi hik
          by_cases e : i + 1 < k
          · exact HRB.out i hi e
          · obtain rfl : i = m := by omega
            have e2 : k = i + 1 := by omega
            subst e2; exact h
        · intro h
          have e2 : k = m + 1 := by omega
          subst e2
          exact h m (by omega) (by omega))
      have hord := order_any x y
      have hbef := cmpE_neg x y
      have HBF := Lib.hid hbef
      generalize cmpE x y = cc at hord HBF
      have HO := Lib.hid hord
      have e1 : (k : Int) - 1 = (m : Int) := by omega
      have y1 : (k : Int) < (l.length : Int) := by omega
      have y2 : (m : Int) < (l.length : Int) := by omega
      have y3 : (0 : Int) ≤ (k : Int) := by omega
      have y4 : (0 : Int) ≤ (m : Int) := by omega
      have HKL := Lib.hid hlt
      clear hord hbef hx hy hcs hm
      have d0 : ∀ zz : Later wr.heap.size wr, zz.val.cell? ⟨b, off + m * 4, none⟩ = some (.string x.1) := fun zz => Later.cell hcx.c0 (World.block_lt_of_cell? _ _ hcx.c0) zz
      have d1 : ∀ zz : Later wr.heap.size wr, zz.val.cell? ⟨b, off + m * 4 + 1, none⟩ = some (.string x.2.1) := fun zz => Later.cell hcx.c1 (World.block_lt_of_cell? _ _ hcx.c1) zz
      have d2 : ∀ zz : Later wr.heap.size wr, zz.val.cell? ⟨b, off + m * 4 + 2, none⟩ = some (.int .u64 (x.2.2.1.toNat : Int)) := fun zz => Later.cell hcx.c2 (World.block_lt_of_cell? _ _ hcx.c2) zz
      have d3 : ∀ zz : Later wr.heap.size wr, zz.val.cell? ⟨b, off + m * 4 + 3, none⟩ = some (.bool x.2.2.2) := fun zz => Later.cell hcx.c3 (World.block_lt_of_cell? _ _ hcx.c3) zz
      have f0 : ∀ zz : Later wr.heap.size wr, zz.val.cell? ⟨b, off + k * 4, none⟩ = some (.string y.1) := fun zz => Later.cell hcy.c0 (World.block_lt_of_cell? _ _ hcy.c0) zz
      have f1 : ∀ zz : Later wr.heap.size wr, zz.val.cell? ⟨b, off + k * 4 + 1, none⟩ = some (.string y.2.1) := fun zz => Later.cell hcy.c1 (World.block_lt_of_cell? _ _ hcy.c1) zz
      have f2 : ∀ zz : Later wr.heap.size wr, zz.val.cell? ⟨b, off + k * 4 + 2, none⟩ = some (.int .u64 (y.2.2.1.toNat : Int)) := fun zz => Later.cell hcy.c2 (World.block_lt_of_cell? _ _ hcy.c2) zz
      have f3 : ∀ zz : Later wr.heap.size wr, zz.val.cell? ⟨b, off + k * 4 + 3, none⟩ = some (.bool y.2.2.2) := fun zz => Later.cell hcy.c3 (World.block_lt_of_cell? _ _ hcy.c3) zz
      clear hcx hcy
      go_wp2_with fail
      refine wp_region_later wr.heap.size (by kernel_rfl) (by kernel_rfl) ?_
      repeat (go_big_quiet_step ((go_at_call 26; exact Later.calls (Nat.le_refl _) (HO.out _))))
      refine wpQuiet_nil ?_
      rintro w2 ⟨zz, rfl⟩
      have HB2 := Lib.hid (below_step HBE.out zz.prop HBE.out.size)
      clear d0 d1 d2 d3 f0 f1 f2 f3 HO y1 y2 y3 y4 e1
      generalize zz.val = w2 at *
      by_cases hc : cc < 0
      · have hc2 : ¬ 0 ≤ cc := by omega
        go_wp2_with fail
        go_roundw
        case rel => exact ⟨k + 1, by omega, by have := HKL.out; omega, by go_num, HN.out.1 (HBF.out.1 hc), HB2.out⟩
        case measure => have := HKL.out; simp [intOf]; omega
      · have hc2 : 0 ≤ cc := by omega
        have HE := Lib.hid (show rightL l = false from by
          rw [Bool.eq_false_iff]
          intro h
          have h1 := rightB_strict.2 (rightL_iff.1 h)
          exact hc (HBF.out.2 (HN.out.2 (fun i hi hk => h1 i hi (by omega)))))
        go_wp2_with fail
        go_ret
        exact ⟨ret_bool HE.out.symm, HB2.out⟩
    · have HE := Lib.hid (show rightL l = true from rightL_iff.2 (rightB_strict.1 fun i hi hk => HRB.out i hi (by omega)))
      go_wp2_with fail
      go_ret
      exact ⟨ret_bool HE.out.symm, HBE.out⟩

/-! ### the version that counts -/
def mayC (at_ : UInt64) (e : Ent) : Bool := decide (e.2.2.1 ≤ at_)
def CountsPost (l : List Ent) (at_ : UInt64) (w : World) (e : Ending) (w' : World) : Prop :=
  (∃ i : Nat, (∃ h : i < l.length, mayC at_ l[i] = true ∧ ∀ j (hj : j < i), mayC at_ l[j] = false) ∧ e = .returned (.tuple #[.int .i64 i, .bool true]) ∨
   (∀ x ∈ l, mayC at_ x = false) ∧ e = .returned (.tuple #[.int .i64 0, .bool false])) ∧ Below w.heap.size w w'

set_option maxRecDepth 100000 in
set_option maxHeartbeats 4000000 in
theorem counts_any (v : Value) (l : List Ent) (at_ : UInt64) (w : World) (h : EntsAt w v l) (hn : l.length ≤ 1000000) :
    Calls Try.prog 31 #[v, .int .u64 (at_.toNat : Int)] w (CountsPost l at_ w) := by
  obtain ⟨ao, cap, hv⟩ := elems_slice h
  have HV := Lib.hid h
  subst hv
  clear h
  go_enter Try.func31, Try.ntmps31
  go_wp2_with fail
  go_loopw [10] (fun vi wr => ∃ k : Nat, k ≤ l.length ∧ vi = .int .i64 k ∧ (∀ j (hj : j < l.length), j < k → mayC at_ l[j] = false) ∧ Below w.heap.size w wr) (fun vi _ => l.length - (intOf vi).toNat)
  case atStart => exact ⟨0, Nat.zero_le _, rfl, fun i _ h => by omega, Below.refl _ _⟩
  case round =>
    obtain ⟨k, hk, rfl, hrb, hbel⟩ := hrel
    have HRB := Lib.hid hrb
    have HBE := Lib.hid hbel
    clear hrb hbel
    by_cases hlt : k < l.length
    · obtain ⟨b, off, cap', hve, hcs⟩ := ents_cells HV.out (by omega)
      cases hve
      have hcx := (hcs k hlt).kept HBE.out
      obtain ⟨x, hx⟩ : ∃ x, x = l[k] := ⟨_, rfl⟩
      rw [← hx] at hcx
      have HX := Lib.hid hx
      have y1 : (k : Int) < (l.length : Int) := by omega
      have y3 : (0 : Int) ≤ (k : Int) := by omega
      have HKL := Lib.hid hlt
      have hlu := x.2.2.1.toNat_lt
      have d0 := hcx.c0
      have d1 := hcx.c1
      have d2 := hcx.c2
      have d3 := hcx.c3
      clear hcx hcs hx
      by_cases hc : mayC at_ x = true
      · have hc2 : (x.2.2.1.toNat : Int) ≤ (at_.toNat : Int) := by
          unfold mayC at hc
          rw [decide_eq_true_eq, UInt64.le_iff_toNat_le] at hc; omega
        have HC := Lib.hid hc
        clear hc
        go_wp2_with fail
        go_ret2
        refine ⟨⟨k, .inl ⟨⟨HKL.out, by rw [← HX.out]; exact HC.out, fun j hj => HRB.out j _ hj⟩, rfl⟩⟩, ?_⟩
        exact HBE.out.alloc HBE.out.size _
      · have hc2 : ¬ (x.2.2.1.toNat : Int) ≤ (at_.toNat : Int) := by
          unfold mayC at hc
          rw [decide_eq_true_eq, UInt64.le_iff_toNat_le] at hc; omega
        have HC := Lib.hid (show mayC at_ x = false by simpa using hc)
        clear hc
        go_wp2_with fail
        go_roundw
        case rel =>
          refine ⟨k + 1, HKL.out, by go_num, fun j hj hjk => ?_, HBE.out.alloc HBE.out.size _⟩
          by_cases e : j = k
          · subst e; rw [← HX.out]; exact HC.out
          · exact HRB.out j hj (by omega)
        case measure => simp [intOf]; omega
    · have HA := Lib.hid (show ∀ x ∈ l, mayC at_ x = false from fun x hx => by
        obtain ⟨i, hi, rfl⟩ := List.getElem_of_mem hx
        exact HRB.out i hi (by omega))
      go_wp2_with fail
      go_ret2
      exact ⟨⟨0, .inr ⟨HA.out, rfl⟩⟩, HBE.out⟩
end Go.Proofs.Try.Mg
