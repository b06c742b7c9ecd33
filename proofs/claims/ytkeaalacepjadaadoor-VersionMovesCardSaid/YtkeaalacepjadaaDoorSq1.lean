/- A row of numbers that is turned in place; insertion sort. -/
import Derived.Test.YtkeaalacepjadaaDoorProg
import Derived.Test.YtkeaalacepjadaaDoorVA
import Derived.Laws.OwnMore
import Derived.RegionTactic
import Derived.ChangeAlike
import Derived.BigQuiet
import Derived.Deep.DeepCutAuto
import Derived.Sort.AssemblyPlain
import Derived.Sort.Row
set_option linter.unusedVariables false
set_option linter.unusedSimpArgs false
set_option maxRecDepth 100000
namespace Go.Proofs.Tryd.Sq
open Go.RowKit Go.Cph Go.Sort

abbrev TU : TypeId := 27
abbrev TUs : TypeId := 36
abbrev encU (x : UInt64) : List Value := [.int .u64 (x.toNat : Int)]
theorem encU_len (x : UInt64) : (encU x).length = 1 := rfl
def ltU (x y : UInt64) : Bool := decide (x.toNat < y.toNat)
/-- A row of numbers of our own, turned since w0. -/
structure Ro (w0 : World) (base g n cap : Nat) (d : Array UInt64) (W : World) : Prop where
  own : W.ownsRow base TU 1 (.slice (some ⟨g, 0, none⟩) n cap) n (d.toList.flatMap encU)
  grown : w0.grownBy W (some g)
  len : d.size = n
theorem flat_setU (l : List UInt64) (i : Nat) (x : UInt64) : (l.flatMap encU).set i (.int .u64 (x.toNat : Int)) = (l.set i x).flatMap encU := by
  induction l generalizing i with
  | nil => simp
  | cons y l ih =>
    cases i with
    | zero => simp
    | succ i =>
      have := ih i
      simpa using this
theorem row_kept1 {w w' : World} {base : Nat} {e : TypeId} {size : Nat} {v : Value} {n : Nat} {xs : List Value} (h : w.ownsRow base e size v n xs)
    (hk : ∀ k, v.ownBlock = some k → w'.heap[k]? = w.heap[k]?) : w'.ownsRow base e size v n xs := by
  obtain ⟨h1, h2⟩ := h
  refine ⟨h1, ?_⟩
  rcases h2 with h2 | ⟨g, cap, cur, rfl, h4, h5, r⟩
  · exact .inl h2
  · exact .inr ⟨g, cap, cur, rfl, h4, (hk g rfl).trans h5, r⟩
theorem grown_set (w : World) (g j : Nat) (v : Value) : w.grownBy (w.setCell ⟨g, j, none⟩ v) (some g) :=
  ⟨rfl, rfl, rfl, by simp, fun k hk hne => blk_set_other (by intro e; exact hne (by rw [e]))⟩
theorem grown_below {w w' : World} (h : Below w.heap.size w w') (row : Option Nat) : w.grownBy w' row := ⟨h.os, h.tape, h.output, h.size, fun k hk _ => h.block k hk⟩
theorem grown_refl (w : World) (row : Option Nat) : w.grownBy w row := ⟨rfl, rfl, rfl, Nat.le_refl _, fun _ _ _ => rfl⟩
theorem grown_drew {w w' : World} {row : Option Nat} (h : w.grownBy w' row) : w.grownBy w'.drew row := ⟨h.os, h.tape, h.output, h.size, h.block⟩
section
variable {w0 W W' : World} {base g n cap : Nat} {d : Array UInt64}
theorem Ro.later (h : Ro w0 base g n cap d W) (hb : Below W.heap.size W W') : Ro w0 base g n cap d W' :=
  ⟨row_kept1 h.own (fun k hk => hb.block k (h.own.lt k hk).2), h.grown.trans (grown_below hb _), h.len⟩
theorem Ro.put (h : Ro w0 base g n cap d W) (i : Nat) (x : UInt64) : Ro w0 base g n cap (d.setIfInBounds i x) (W.setCell ⟨g, i, none⟩ (.int .u64 (x.toNat : Int))) := by
  refine ⟨?_, h.grown.trans (grown_set _ _ _ _), by rw [Array.size_setIfInBounds]; exact h.len⟩
  rw [Array.toList_setIfInBounds, ← flat_setU]
  exact (h.own.stored _ _).1
theorem Ro.drew (h : Ro w0 base g n cap d W) : Ro w0 base g n cap d W.drew := ⟨h.own, grown_drew h.grown, h.len⟩
theorem Ro.drewN (h : Ro w0 base g n cap d W) (k : Nat) : Ro w0 base g n cap d (W.drewN k) := h.later ⟨rfl, rfl, rfl, Nat.le_refl _, fun _ _ => rfl⟩
theorem Ro.to {d' : Array UInt64} (h : Ro w0 base g n cap d W) (e : d = d') : Ro w0 base g n cap d' W := e ▸ h
theorem Ro.cell (h : Ro w0 base g n cap d W) {i : Nat} (hi : i < n) : W.cell? ⟨g, i, none⟩ = some (.int .u64 (d[i]!.toNat : Int)) := by
  have hid : i < d.toList.length := by rw [Array.length_toList, h.len]; exact hi
  obtain ⟨g', cap', hv, -, -, -, hcell, -⟩ := owns_shape h.own (by omega)
  cases hv
  have := flat_at encU_len d.toList i hid 0 (by omega)
  rw [Nat.mul_one, Nat.add_zero] at this
  rw [hcell i (by omega), this]
  have e : d.toList[i] = d[i]! := by
    rw [Array.getElem_toList]
    exact (getElem!_pos d i (by rw [h.len]; exact hi)).symm
  rw [e]
  rfl
theorem Ro.free (h : Ro w0 base g n cap d W) (j : Nat) : W.frozen? ⟨g, j, none⟩ = false := by
  have := h.own.frozenAt (g := g) j
  exact this
theorem Ro.put2 (h : Ro w0 base g n cap d W) {i j : Nat} (hi : i < n) (hj : j < n) {x y : UInt64} (hx : x = d[i]!) (hy : y = d[j]!) : Ro w0 base g n cap (swp d i j) ((W.setCell ⟨g, i, none⟩ (.int .u64 (y.toNat : Int))).setCell ⟨g, j, none⟩ (.int .u64 (x.toNat : Int))) := by
  subst hx hy
  exact (h.put i d[j]!).put j d[i]!
theorem Ro.put_cell (h : Ro w0 base g n cap d W) {i j : Nat} (hi : i < n) (hj : j < n) {y : UInt64} (hy : y = d[j]!) : (W.setCell ⟨g, i, none⟩ (.int .u64 (y.toNat : Int))).cell? ⟨g, j, none⟩ = some (.int .u64 (y.toNat : Int)) := by
  rw [(h.put i y).cell hj]
  by_cases e : j = i
  · subst e
    rw [getElem!_set_same _ _ _ (by rw [h.len]; exact hj)]
  · rw [getElem!_set_other _ _ _ _ e, ← hy]
end
theorem size_swp' (d : Array UInt64) (i j : Nat) : (swp d i j).size = d.size := size_swp d i j

set_option maxHeartbeats 400000 in
theorem isNaN_any (x : Int) (w : World) : Calls Tryd.prog 61 #[.int .u64 x] w fun e w' => e = .returned (.bool false) ∧ w = w' := by
  go_enter Tryd.func61, Tryd.ntmps61
  go_wp2_with fail
  go_ret
  exact ⟨by simp, rfl⟩

set_option maxHeartbeats 400000 in
theorem less_any (x y : UInt64) (w : World) : Calls Tryd.prog 72 #[.int .u64 (x.toNat : Int), .int .u64 (y.toNat : Int)] w fun e w' => e = .returned (.bool (ltU x y)) ∧ Below w.heap.size w w' := by
  have HV := Lib.hid (show ltU x y = decide ((x.toNat : Int) < (y.toNat : Int)) from by unfold ltU; rw [decide_eq_decide]; omega)
  go_enter Tryd.func72, Tryd.ntmps72
  go_wp2_with (go_at_call 61; refine (isNaN_any _ _).mono ?_; rintro e w' ⟨rfl, rfl⟩)
  go_ret
  exact ⟨ret_bool (by rw [HV.out]; simp), Below.refl _ _⟩
def RoPost (w0 : World) (base g n cap : Nat) (d : Array UInt64) (e : Ending) (w' : World) : Prop := e = .returned (.tuple #[]) ∧ Ro w0 base g n cap d w'

set_option maxHeartbeats 8000000 in
theorem insertion {base g n cap : Nat} (a b : Nat) (d : Array UInt64) (w0 w : World) (h : Ro w0 base g n cap d w) (hab : a ≤ b) (hb : b ≤ n) (hn : n ≤ 1000000) :
    Calls Tryd.prog 66 #[.slice (some ⟨g, 0, none⟩) n cap, .int .i64 a, .int .i64 b] w (RoPost w0 base g n cap (insertionSort ltU d a b)) := by
  have HR := Lib.hid h
  clear h
  go_enter Tryd.func66, Tryd.ntmps66
  go_wp2_with fail
  go_loopw [6] (fun v6 W => ∃ (i : Nat) (e : Array UInt64), v6 = .int .i64 (i : Int) ∧ a < i ∧ i ≤ b + 1 ∧ Hid (insOuter ltU a b i e = insOuter ltU a b (a + 1) d) ∧ Ro w0 base g n cap e W) (fun v6 _ => b + 1 - (intOf v6).toNat)
  case atStart => exact ⟨a + 1, d, by go_num, by omega, by omega, Lib.hid rfl, HR.out⟩
  case round =>
    obtain ⟨i, e, rfl, hai, hib, HO, hr⟩ := hrel
    have HRE := Lib.hid hr
    clear hr
    by_cases hlt : i < b
    · have hii : (i : Int) < (b : Int) := by omega
      have HO2 := Lib.hid (show insOuter ltU a b (i + 1) (insInner ltU a i e) = insOuter ltU a b (a + 1) d from by rw [← HO.out]; conv => rhs; unfold insOuter; rw [if_pos hlt])
      obtain ⟨wo, hwo⟩ : ∃ wo, wo = wr := ⟨_, rfl⟩
      subst hwo
      go_wp2_with fail
      go_loopw [7] (fun v7 W => ∃ (j : Nat) (f : Array UInt64), v7 = .int .i64 (j : Int) ∧ a ≤ j ∧ j ≤ i ∧ Hid (insInner ltU a j f = insInner ltU a i e) ∧ Ro w0 base g n cap f W) (fun v7 _ => (intOf v7).toNat)
      case atStart => exact ⟨i, e, rfl, by omega, Nat.le_refl _, Lib.hid rfl, HRE.out⟩
      case round =>
        obtain ⟨j, f, rfl, haj, hji, HI, hr⟩ := hrel
        have HRF := Lib.hid hr
        clear hr
        by_cases hja : a < j
        · obtain ⟨m, hm⟩ : ∃ m, j = m + 1 := ⟨j - 1, by omega⟩
          have HM := Lib.hid hm
          have e1 : IntKind.i64.wrap ((j : Int) - 1) = (m : Int) := by rw [IntKind.wrap_i64]; omega
          have z3 : decide (a < j) = true := by simpa using hja
          have z4 : (j : Int) > (a : Int) := by omega
          have hjn : j < n := by omega
          have hmn : m < n := by omega
          clear hm
          obtain ⟨xq, hxq⟩ : ∃ x, x = f[j]! := ⟨_, rfl⟩
          obtain ⟨yq, hyq⟩ : ∃ y, y = f[m]! := ⟨_, rfl⟩
          have cz1 : ∀ zz : Later wr.heap.size wr, zz.val.cell? ⟨g, j, none⟩ = some (.int .u64 (xq.toNat : Int)) := fun zz => cell_kept zz.prop (by rw [hxq]; exact HRF.out.cell (hjn))
          have cz2 : ∀ zz : Later wr.heap.size wr, zz.val.cell? ⟨g, m, none⟩ = some (.int .u64 (yq.toNat : Int)) := fun zz => cell_kept zz.prop (by rw [hyq]; exact HRF.out.cell (hmn))
          have HLq := Lib.hid (fun W => less_any xq yq W)
          obtain ⟨q, hq⟩ : ∃ b, b = ltU xq yq := ⟨_, rfl⟩
          rw [← hq] at HLq
          rw [hxq, hyq] at hq
          have Hq := Lib.hid hq
          have pz1 : (j : Int) < (n : Int) := by have := hjn; omega
          have pz2 : (m : Int) < (n : Int) := by have := hmn; omega
          have pz3 : (0 : Int) ≤ (j : Int) := by omega
          have pz4 : (0 : Int) ≤ (m : Int) := by omega
          clear hxq hyq hq
          go_wp2_with fail
          refine wp_region_later wr.heap.size (by kernel_rfl) (by kernel_rfl) ?_
          repeat (go_big_quiet_step ((go_at_call 72; exact Later.calls (Nat.le_refl _) (HLq.out _))))
          refine wpQuiet_nil ?_
          rintro w2 ⟨zz, rfl⟩
          have HR2 := Lib.hid (HRF.out.later zz.prop)
          clear cz1 cz2 pz1 pz2 pz3 pz4 HLq
          generalize zz.val = w2 at *
          cases q
          · have HI3 := Lib.hid (show insOuter ltU a b (i + 1) f = insOuter ltU a b (a + 1) d from by
              rw [← HO2.out, ← HI.out, HM.out]
              have h := Hq.out
              rw [HM.out] at h
              unfold insInner
              rw [if_neg (by rw [← h]; simp)])
            have e2 : IntKind.i64.wrap ((i : Int) + 1) = ((i + 1 : Nat) : Int) := by rw [IntKind.wrap_i64]; omega
            clear e1 z3 z4
            go_wp2_with fail
            go_roundw
            case rel => exact ⟨i + 1, f, rfl, by omega, by omega, HI3, HR2.out⟩
            case measure => simp [intOf]; omega
          · have HI3 := Lib.hid (show insInner ltU a m (swp f j m) = insInner ltU a i e from by
              rw [← HI.out, HM.out]
              have h := Hq.out
              rw [HM.out] at h
              conv => rhs; unfold insInner
              rw [if_pos (by rw [← h]; simp; have := HM.out; omega)])
            clear z3 z4
            obtain ⟨xs, hxs⟩ : ∃ x, x = f[j]! := ⟨_, rfl⟩
            obtain ⟨ys, hys⟩ : ∃ y, y = f[m]! := ⟨_, rfl⟩
            have cz1 : w2.cell? ⟨g, j, none⟩ = some (.int .u64 (xs.toNat : Int)) := by rw [hxs]; exact HR2.out.cell (hjn)
            have cz2 : w2.cell? ⟨g, m, none⟩ = some (.int .u64 (ys.toNat : Int)) := by rw [hys]; exact HR2.out.cell (hmn)
            have cz3 := HR2.out.put_cell (hjn) (hmn) hys
            have HSX := Lib.hid hxs
            have HSY := Lib.hid hys
            have pz1 : (j : Int) < (n : Int) := by have := hjn; omega
            have pz2 : (m : Int) < (n : Int) := by have := hmn; omega
            have pz3 : (0 : Int) ≤ (j : Int) := by omega
            have pz4 : (0 : Int) ≤ (m : Int) := by omega
            have fz : ∀ o, w2.frozen? ⟨g, o, none⟩ = false := fun o => HR2.out.free o
            clear hxs hys
            go_wp2_with fail
            go_region
            have HR3 := Lib.hid ((HR2.out.put2 (hjn) (hmn) HSX.out HSY.out).drew)
            clear cz1 cz2 cz3 pz1 pz2 pz3 pz4 fz HSX HSY
            go_wp2_with fail
            go_roundw
            case rel => exact ⟨m, swp f j m, rfl, by have := HM.out; omega, by have := HM.out; omega, HI3, HR3.out⟩
            case measure => have := HM.out; simp [intOf]; omega
        · have z3 : decide (a < j) = false := by simpa using hja
          have z4 : ¬ ((a : Int) < (j : Int)) := by omega
          have z5 : decide ((a : Int) < (j : Int)) = false := by simpa using hja
          have HI3 := Lib.hid (show insOuter ltU a b (i + 1) f = insOuter ltU a b (a + 1) d from by
            rw [← HO2.out, ← HI.out]
            have : insInner ltU a j f = f := by
              cases j with
              | zero => rfl
              | succ j => unfold insInner; rw [if_neg (by simp; omega)]
            rw [this])
          have e2 : IntKind.i64.wrap ((i : Int) + 1) = ((i + 1 : Nat) : Int) := by rw [IntKind.wrap_i64]; omega
          clear hja
          go_wp2_with fail
          go_quiet (fail)
          go_wp2_with fail
          go_roundw
          case rel => exact ⟨i + 1, f, rfl, by omega, by omega, HI3, HRF.out.drewN _⟩
          case measure => simp [intOf]; omega
    · have HE := Lib.hid (show e = insertionSort ltU d a b from by
        have h := HO.out
        unfold insOuter at h
        rw [if_neg hlt] at h
        rw [h]; unfold insertionSort
        conv => rhs; unfold insOuter)
      go_wp2_with fail
      go_end0
      exact ⟨rfl, HRE.out.to HE.out⟩
end Go.Proofs.Tryd.Sq
