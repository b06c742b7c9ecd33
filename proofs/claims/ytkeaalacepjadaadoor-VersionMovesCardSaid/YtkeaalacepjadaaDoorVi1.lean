/- Where a number stands; whether it is there; a copy of tables. -/
import Derived.Test.YtkeaalacepjadaaDoorVk1
import Derived.Test.YtkeaalacepjadaaDoorVd1
set_option linter.unusedVariables false
set_option linter.unusedSimpArgs false
set_option maxRecDepth 100000
namespace Go.Proofs.Tryd.Vr
open Go.RowKit Go.Cph Go.Cph.Skip Go.Cph.So Go.Cph.Ve

def idxV (o : Option Nat) : Int := match o with
  | some i => i
  | none => -1
def IdxIs (l : List Tb) (n : UInt64) (o : Option Nat) : Prop := match o with
  | some k => ∃ h : k < l.length, (l[k].1 == n) = true ∧ ∀ j (hj : j < k), ((l[j]'(by omega)).1 == n) = false
  | none => ∀ x ∈ l, (x.1 == n) = false
def IdxPost (l : List Tb) (n : UInt64) (w : World) (e : Ending) (w' : World) : Prop := ∃ o : Option Nat, e = .returned (.int .i64 (idxV o)) ∧ IdxIs l n o ∧ Below w.heap.size w w'

set_option maxHeartbeats 4000000 in
theorem index_place (v : Value) (l : List Tb) (n : UInt64) (nb : Nat) (w : World) (h : TbsAt w v l) (hn : l.length ≤ 1000000) (hk : w.heap[nb]? = some (boxU n)) :
    Calls Tryd.prog 58 #[v, .func (.func 59) #[] #[.pointer (some ⟨nb, 0, none⟩)]] w (IdxPost l n w) := by
  obtain ⟨ao, cap, hv⟩ := elems_slice h
  subst hv
  have HV := Lib.hid h
  have HK := Lib.hid hk
  clear h hk
  go_enter Tryd.func58, Tryd.ntmps58
  go_wp2_with fail
  go_loopw [8] (fun vi W => ∃ i : Nat, i ≤ l.length ∧ vi = .int .i64 i ∧ (∀ j (hj : j < l.length), j < i → (l[j].1 == n) = false) ∧ Below w.heap.size w W) (fun vi _ => l.length - (intOf vi).toNat)
  case atStart => exact ⟨0, Nat.zero_le _, rfl, fun j _ hj => absurd hj (Nat.not_lt_zero _), Below.refl _ _⟩
  case round =>
    obtain ⟨i, hi, rfl, hall, hbel⟩ := hrel
    have HAL := Lib.hid hall
    have HBE := Lib.hid hbel
    by_cases hlt : i < l.length
    · obtain ⟨b, off, cap', hve, hcs⟩ := tbs_cells (HV.out.kept hbel) (by omega)
      injection hve with hx1 hx2 hx3
      subst hx1
      clear hx2 hx3
      have hcx := hcs i hlt
      have HLT := Lib.hid hlt
      obtain ⟨x, hx⟩ : ∃ x, x = l[i]'(HLT.out) := ⟨_, rfl⟩
      have HX := Lib.hid hx
      rw [← hx] at hcx
      have d0 := hcx.c0
      have d1 := hcx.c1
      have d2 := hcx.c2
      have d3 := hcx.c3
      have d4 := hcx.c4
      have d5 := hcx.c5
      have d6 := hcx.c6
      have d7 := hcx.c7
      have HW := Lib.hid (fun W hk => place1_any n nb x W hk)
      obtain ⟨r, hr⟩ : ∃ r, r = (x.1 == n) := ⟨_, rfl⟩
      have HRR := Lib.hid hr
      rw [← hr] at HW
      have k1 : (0 : Int) ≤ (i : Int) := by omega
      have k2 : (i : Int) < (l.length : Int) := by omega
      have k4 : IntKind.i64.wrap ((i : Int) + 1) = (i : Int) + 1 := by rw [IntKind.wrap_i64]; omega
      clear hbel hall hcs hcx hx hr
      go_wp2_with fail
      clear d0 d1 d2 d3 d4 d5 d6 d7
      refine (HW.out _ (blk_kept HBE.out HK.out)).mono ?_
      rintro e w1 ⟨rfl, hb⟩
      have HB1 := Lib.hid (below_step HBE.out hb HBE.out.size)
      clear hb
      cases r
      · go_wp2_with fail
        go_roundw
        case rel => exact ⟨i + 1, hlt, by go_num, fun j hj hji => by
          rcases Nat.lt_or_eq_of_le (show j ≤ i by omega) with h | h
          · exact HAL.out j hj h
          · subst h; rw [← HX.out]; exact HRR.out.symm, HB1.out⟩
        case measure => simp [intOf]; omega
      · go_wp2_with fail
        go_ret
        exact ⟨some i, rfl, ⟨HLT.out, by rw [← HX.out]; exact HRR.out.symm, fun j hj => HAL.out j _ hj⟩, HB1.out⟩
    · clear hbel hall
      go_wp2_with fail
      go_ret
      exact ⟨none, rfl, fun x hx => by
        obtain ⟨j, hj, rfl⟩ := List.getElem_of_mem hx
        exact HAL.out j hj (by omega), HBE.out⟩

set_option maxHeartbeats 4000000 in
theorem index_do (v : Value) (l : List Tb) (t : Tb) (nb : Nat) (w : World) (h : TbsAt w v l) (hn : l.length ≤ 1000000) (hk : w.heap[nb]? = some (boxT t)) :
    Calls Tryd.prog 58 #[v, .func (.func 44) #[] #[.pointer (some ⟨nb, 0, none⟩)]] w (IdxPost l t.1 w) := by
  obtain ⟨ao, cap, hv⟩ := elems_slice h
  subst hv
  have HV := Lib.hid h
  have HK := Lib.hid hk
  clear h hk
  go_enter Tryd.func58, Tryd.ntmps58
  go_wp2_with fail
  go_loopw [8] (fun vi W => ∃ i : Nat, i ≤ l.length ∧ vi = .int .i64 i ∧ (∀ j (hj : j < l.length), j < i → (l[j].1 == t.1) = false) ∧ Below w.heap.size w W) (fun vi _ => l.length - (intOf vi).toNat)
  case atStart => exact ⟨0, Nat.zero_le _, rfl, fun j _ hj => absurd hj (Nat.not_lt_zero _), Below.refl _ _⟩
  case round =>
    obtain ⟨i, hi, rfl, hall, hbel⟩ := hrel
    have HAL := Lib.hid hall
    have HBE := Lib.hid hbel
    by_cases hlt : i < l.length
    · obtain ⟨b, off, cap', hve, hcs⟩ := tbs_cells (HV.out.kept hbel) (by omega)
      injection hve with hx1 hx2 hx3
      subst hx1
      clear hx2 hx3
      have hcx := hcs i hlt
      have HLT := Lib.hid hlt
      obtain ⟨x, hx⟩ : ∃ x, x = l[i]'(HLT.out) := ⟨_, rfl⟩
      have HX := Lib.hid hx
      rw [← hx] at hcx
      have d0 := hcx.c0
      have d1 := hcx.c1
      have d2 := hcx.c2
      have d3 := hcx.c3
      have d4 := hcx.c4
      have d5 := hcx.c5
      have d6 := hcx.c6
      have d7 := hcx.c7
      have HW := Lib.hid (fun W hk => do1_any t nb x W hk)
      obtain ⟨r, hr⟩ : ∃ r, r = (x.1 == t.1) := ⟨_, rfl⟩
      have HRR := Lib.hid hr
      rw [← hr] at HW
      have k1 : (0 : Int) ≤ (i : Int) := by omega
      have k2 : (i : Int) < (l.length : Int) := by omega
      have k4 : IntKind.i64.wrap ((i : Int) + 1) = (i : Int) + 1 := by rw [IntKind.wrap_i64]; omega
      clear hbel hall hcs hcx hx hr
      go_wp2_with fail
      clear d0 d1 d2 d3 d4 d5 d6 d7
      refine (HW.out _ (blk_kept HBE.out HK.out)).mono ?_
      rintro e w1 ⟨rfl, hb⟩
      have HB1 := Lib.hid (below_step HBE.out hb HBE.out.size)
      clear hb
      cases r
      · go_wp2_with fail
        go_roundw
        case rel => exact ⟨i + 1, hlt, by go_num, fun j hj hji => by
          rcases Nat.lt_or_eq_of_le (show j ≤ i by omega) with h | h
          · exact HAL.out j hj h
          · subst h; rw [← HX.out]; exact HRR.out.symm, HB1.out⟩
        case measure => simp [intOf]; omega
      · go_wp2_with fail
        go_ret
        exact ⟨some i, rfl, ⟨HLT.out, by rw [← HX.out]; exact HRR.out.symm, fun j hj => HAL.out j _ hj⟩, HB1.out⟩
    · clear hbel hall
      go_wp2_with fail
      go_ret
      exact ⟨none, rfl, fun x hx => by
        obtain ⟨j, hj, rfl⟩ := List.getElem_of_mem hx
        exact HAL.out j hj (by omega), HBE.out⟩
theorem idx_any {l : List Tb} {n : UInt64} {o : Option Nat} (h : IdxIs l n o) : hasN l n = decide (0 ≤ idxV o) := by
  cases o with
  | some k =>
    obtain ⟨hk, h1, -⟩ := h
    have h1 : l[k].1 = n := by simpa using h1
    rw [hasN_iff.2 ⟨l[k], List.getElem_mem hk, h1⟩]
    simp [idxV]
  | none =>
    rw [hasN_no.2 fun t ht => by have := h t ht; simpa using this]
    simp [idxV]

set_option maxHeartbeats 4000000 in
theorem contains_do (v : Value) (l : List Tb) (t : Tb) (nb : Nat) (w : World) (h : TbsAt w v l) (hn : l.length ≤ 1000000) (hk : w.heap[nb]? = some (boxT t)) :
    Calls Tryd.prog 43 #[v, .func (.func 44) #[] #[.pointer (some ⟨nb, 0, none⟩)]] w fun e w' => e = .returned (.bool (hasN l t.1)) ∧ Below w.heap.size w w' := by
  have HI := Lib.hid (index_do v l t nb w h hn hk)
  clear h hk
  go_enter Tryd.func43, Tryd.ntmps43
  go_wp2_with fail
  refine HI.out.mono ?_
  rintro e w1 ⟨o, rfl, ho, hb⟩
  have HB := Lib.hid hb
  have HV := Lib.hid (idx_any ho)
  clear ho hb
  generalize idxV o = z at *
  go_wp2_with fail
  go_ret
  exact ⟨ret_bool (by rw [HV.out]), HB.out⟩

set_option maxHeartbeats 4000000 in
theorem clone_any (v : Value) (l : List Tb) (w : World) (h : TbsAt w v l) (hn : l.length ≤ 1000000) :
    Calls Tryd.prog 30 #[v] w (NewRow w l) := by
  obtain ⟨ao, cap, hv⟩ := elems_slice h
  subst hv
  cases ao with
  | none =>
    have h0 : l = [] := by
      obtain ⟨⟨ao, cap, hv, hc⟩, -⟩ := h
      cases l with
      | nil => rfl
      | cons x l =>
        obtain ⟨b, off, hb, -⟩ := hc (by simp)
        cases hv
        cases hb
    subst h0
    clear h
    have hn0 : ∀ W, (binOp .eql TS (.slice none 0 cap) (.slice none 0 0)).run Tryd.prog W = .ok (.bool true) W := fun W => Lib.run_eql_slice_nil W TS TE none 0 cap 0 0 Tryd.underlying25
    go_enter Tryd.func30, Tryd.ntmps30
    go_wp2_with fail
    go_ret
    exact ⟨_, rfl, World.ownsRow_nil _ _ _ _, Below.refl _ _⟩
  | some p =>
    have HV := Lib.hid (h.kept (below_of_alloc (w := w) (.cells #[] TE)))
    have HO := Lib.hid (owns_empty (w := w.alloc (.cells #[] TE)) (heap_alloc_new w _) (Nat.le_refl _) 8)
    have hn0 : ∀ W, (binOp .eql TS (.slice (some p) l.length cap) (.slice none 0 0)).run Tryd.prog W = .ok (.bool false) W := fun W => Lib.run_eql_slice_nil W TS TE (some p) l.length cap 0 0 Tryd.underlying25
    clear h
    go_enter Tryd.func30, Tryd.ntmps30
    go_wp2_with (at_builtin; refine wpList_append_seg rfl (.tmp 5) (.tmp 6) TS rfl w.heap.size TE _ 8 80 Tryd.underlying25 infoE rfl (by decide) _ 0 [] rfl HO.out _ _ _ rfl HV.out encC_one (by omega) (by decide) (by rw [World.size_alloc]; omega) ?_; intro v' w' ho hgr _; obtain ⟨o1, c1, hv1⟩ := owns_slice1 ho; have HO2 := Lib.hid ho; have HG2 := Lib.hid hgr; subst hv1; clear ho hgr)
    go_ret
    refine ⟨_, rfl, by have := HO2.out; simpa using this, ?_⟩
    exact below_grown (below_of_alloc _) HG2.out HO.out (Nat.le_refl _) (by rw [World.size_alloc]; omega)
end Go.Proofs.Tryd.Vr
