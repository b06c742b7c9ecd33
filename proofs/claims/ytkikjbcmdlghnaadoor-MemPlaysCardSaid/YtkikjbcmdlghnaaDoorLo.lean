/- The document's memory: In, At, Range. -/
import Derived.Test.YtkikjbcmdlghnaaDoorLn
set_option linter.unusedVariables false
set_option linter.unusedSimpArgs false
set_option maxRecDepth 100000
namespace Go.Proofs.Tryd.Skm
open Go.RowKit Go.Cph Go.Cph.Skip Go.Cph.Skm Go.Cph.Ok Go.Proofs.Tryd.Ok
theorem In_any (k from_ to_ : ByteArray) (w : World) (h1 : k.size ≤ 1000000) (h2 : from_.size ≤ 1000000) (h3 : to_.size ≤ 1000000) :
    Calls Tryd.prog 31 #[.string k, .string from_, .string to_] w fun e w' => e = .returned (.bool (inR from_ to_ k)) ∧ Below w.heap.size w w' := by
  have HL1 := Lib.hid (fun W => Mg.less k from_ W h1 h2)
  have HL2 := Lib.hid (fun W => Mg.less k to_ W h1 h3)
  have HDR := Lib.hid (show ∀ (W : World) n, Below W.heap.size W (W.drewN n) from fun W n => ⟨rfl, rfl, rfl, Nat.le_refl _, fun _ _ => rfl⟩)
  cases hf : klt k from_ with
  | true =>
    rw [hf] at HL1
    have HR := Lib.hid (show inR from_ to_ k = false from by unfold inR; rw [hf]; rfl)
    clear hf
    go_enter Tryd.func31, Tryd.ntmps31
    go_wp2_with fail
    refine (HL1.out _).mono ?_
    rintro e w1 ⟨rfl, n, rfl⟩
    go_wp2_with fail
    go_ret
    exact ⟨ret_bool HR.out.symm, HDR.out _ _⟩
  | false =>
    rw [hf] at HL1
    by_cases hz : to_.size = 0
    · have j1 := str_nil to_ hz
      have HR := Lib.hid (show inR from_ to_ k = true from by unfold inR below; rw [hf, decide_eq_true hz]; rfl)
      clear hf hz
      go_enter Tryd.func31, Tryd.ntmps31
      go_wp2_with fail
      refine (HL1.out _).mono ?_
      rintro e w1 ⟨rfl, n, rfl⟩
      go_wp2_with fail
      go_ret
      exact ⟨ret_bool HR.out.symm, HDR.out _ _⟩
    · have j1 := str_some to_ hz
      have HR := Lib.hid (show inR from_ to_ k = klt k to_ from by unfold inR below; rw [hf, decide_eq_false hz]; simp)
      clear hf hz
      go_enter Tryd.func31, Tryd.ntmps31
      go_wp2_with fail
      refine (HL1.out _).mono ?_
      rintro e w1 ⟨rfl, n, rfl⟩
      go_wp2_with fail
      refine (HL2.out _).mono ?_
      rintro e w2 ⟨rfl, n2, rfl⟩
      go_wp2_with fail
      go_ret
      exact ⟨ret_bool HR.out.symm, HDR.out _ _⟩

/-! ### At -/
def mat (key : ByteArray) (n : UInt64) (e : Et) : Bool := decide (e.1 = key) && decide (e.2.2.1 ≤ n)
/-- The best so far. -/
def Best (es : List Et) (key : ByteArray) (n : UInt64) (i : Nat) : Option Nat → Prop
  | none => ∀ j (h : j < es.length), j < i → mat key n es[j] = false
  | some b => ∃ h : b < es.length, b < i ∧ mat key n es[b] = true ∧ ∀ j (h2 : j < es.length), j < i → mat key n es[j] = true → es[j].2.2.1 ≤ es[b].2.2.1
def bestV : Option Nat → Int
  | none => -1
  | some b => (b : Int)
theorem Best.skip {es : List Et} {key : ByteArray} {n : UInt64} {i : Nat} {c : Option Nat} (h : Best es key n i c) (hi : i < es.length) (hm : mat key n es[i] = false) : Best es key n (i + 1) c := by
  cases c with
  | none =>
    intro j hj hji
    by_cases e : j = i
    · subst e; exact hm
    · exact h j hj (by omega)
  | some b =>
    obtain ⟨h1, h2, h3, h4⟩ := h
    refine ⟨h1, by omega, h3, fun j hj hji hmj => ?_⟩
    by_cases e : j = i
    · subst e; rw [hm] at hmj; cases hmj
    · exact h4 j hj (by omega) hmj
theorem Best.less {es : List Et} {key : ByteArray} {n : UInt64} {i b : Nat} (h : Best es key n i (some b)) (hi : i < es.length) (hle : es[i].2.2.1 ≤ (es[b]'(h.choose)).2.2.1) : Best es key n (i + 1) (some b) := by
  obtain ⟨h1, h2, h3, h4⟩ := h
  refine ⟨h1, by omega, h3, fun j hj hji hmj => ?_⟩
  by_cases e : j = i
  · subst e; exact hle
  · exact h4 j hj (by omega) hmj
theorem Best.first {es : List Et} {key : ByteArray} {n : UInt64} {i : Nat} (h : Best es key n i none) (hi : i < es.length) (hm : mat key n es[i] = true) : Best es key n (i + 1) (some i) := by
  refine ⟨hi, by omega, hm, fun j hj hji hmj => ?_⟩
  by_cases e : j = i
  · subst e; exact UInt64.le_refl _
  · have := h j hj (by omega); rw [this] at hmj; cases hmj
theorem Best.more {es : List Et} {key : ByteArray} {n : UInt64} {i b : Nat} (h : Best es key n i (some b)) (hi : i < es.length) (hm : mat key n es[i] = true) (hlt : (es[b]'(h.choose)).2.2.1 < es[i].2.2.1) : Best es key n (i + 1) (some i) := by
  obtain ⟨h1, h2, h3, h4⟩ := h
  refine ⟨hi, by omega, hm, fun j hj hji hmj => ?_⟩
  by_cases e : j = i
  · subst e; exact UInt64.le_refl _
  · have := h4 j hj (by omega) hmj
    exact UInt64.le_of_lt (UInt64.lt_of_le_of_lt this hlt)
theorem mat_true {key : ByteArray} {n : UInt64} {e : Et} : mat key n e = true ↔ e.1 = key ∧ e.2.2.1 ≤ n := by unfold mat; simp
theorem Best.none_at {es : List Et} {key : ByteArray} {n : UInt64} (h : Best es key n es.length none) : AtIs es key n zeroV false := by
  refine .inl ⟨rfl, rfl, fun y hy hk => ?_⟩
  obtain ⟨j, hj, rfl⟩ := List.getElem_of_mem hy
  have := h j hj hj
  refine Classical.byContradiction fun hc => ?_
  have h2 : mat key n es[j] = true := mat_true.2 ⟨hk, UInt64.not_lt.1 hc⟩
  rw [this] at h2; cases h2
theorem Best.some_at {es : List Et} {key : ByteArray} {n : UInt64} {b : Nat} (h : Best es key n es.length (some b)) : ∃ hb : b < es.length, AtIs es key n es[b] true := by
  obtain ⟨h1, h2, h3, h4⟩ := h
  refine ⟨h1, .inr ⟨rfl, List.getElem_mem h1, (mat_true.1 h3).1, (mat_true.1 h3).2, fun y hy hk hn => ?_⟩⟩
  obtain ⟨j, hj, rfl⟩ := List.getElem_of_mem hy
  exact h4 j hj hj (mat_true.2 ⟨hk, hn⟩)
set_option maxHeartbeats 8000000 in
theorem rAt (v : Value) (s : List Et) (key : ByteArray) (at_ : UInt64) (w : World) (h : EntsAt w v s) (hn : s.length ≤ 1000000) :
    Calls Tryd.prog 15 #[v, .string key, .int .u64 (at_.toNat : Int)] w (AtPost s key at_ w) := by
  obtain ⟨ao, cap, hv⟩ := elems_slice h
  subst hv
  have HV := Lib.hid h
  clear h
  have hba : Below w.heap.size w (w.alloc boxZ) := (Below.refl _ _).alloc (Nat.le_refl _) _
  have HBA := Lib.hid hba
  have HVA := Lib.hid (HV.out.kept hba)
  have HBX := Lib.hid (heap_alloc_new w boxZ)
  have HSZ := Lib.hid (World.size_alloc w boxZ)
  clear hba
  go_enter Tryd.func15, Tryd.ntmps15
  go_wp2_with fail
  go_loopw [8, 9] (fun vb vi W => ∃ (i : Nat) (c : Option Nat), i ≤ s.length ∧ vi = .int .i64 i ∧ vb = .int .i64 (bestV c) ∧ Best s key at_ i c ∧ Below (w.alloc boxZ).heap.size (w.alloc boxZ) W) (fun _ vi _ => s.length - (intOf vi).toNat)
  case atStart => exact ⟨0, none, Nat.zero_le _, rfl, rfl, fun j h k => by omega, Below.refl _ _⟩
  case round =>
    obtain ⟨i, c, hi, rfl, rfl, hc, hbel⟩ := hrel
    have HC := Lib.hid hc
    have HBE := Lib.hid hbel
    by_cases hlt : i < s.length
    · obtain ⟨b, off, cap', hve, hcs⟩ := ents_cells (HVA.out.kept hbel) (by omega)
      injection hve with hx1 hx2 hx3
      subst hx1
      clear hx2 hx3
      have hcx := hcs i hlt
      obtain ⟨x, hx⟩ : ∃ x, x = s[i] := ⟨_, rfl⟩
      rw [← hx] at hcx
      have HX := Lib.hid hx
      have d0 := hcx.c0
      have d2 := hcx.c2
      have k1 : (0 : Int) ≤ (i : Int) := by omega
      have k2 : (i : Int) < (s.length : Int) := by omega
      have k4 : IntKind.i64.wrap ((i : Int) + 1) = (i : Int) + 1 := by rw [IntKind.wrap_i64]; omega
      by_cases hkey : x.1 = key
      · have j1 : (x.1.toList == key.toList) = true := by rw [beq_toList]; simpa using hkey
        by_cases hle : x.2.2.1 ≤ at_
        · have j2 : (x.2.2.1.toNat : Int) ≤ (at_.toNat : Int) := by have := UInt64.le_iff_toNat_le.1 hle; omega
          have j2b : decide (x.2.2.1.toNat ≤ at_.toNat) = true := by simp; omega
          have j2c : x.2.2.1.toNat ≤ at_.toNat := by omega
          have HP := Lib.hid (show mat key at_ s[i] = true by rw [← hx]; exact mat_true.2 ⟨hkey, hle⟩)
          cases c with
          | none =>
            clear hcs hcx hx hc hbel hkey hle
            simp only [bestV]
            go_wp2_with fail
            go_quiet (fail)
            clear d0 d2
            have HB2 := Lib.hid (below_step HBE.out (show Below wr.heap.size wr (wr.drewN nq) from ⟨rfl, rfl, rfl, Nat.le_refl _, fun _ _ => rfl⟩) HBE.out.size)
            generalize wr.drewN nq = wq at *
            go_wp2_with fail
            go_roundw
            case rel => exact ⟨i + 1, some i, hlt, by go_num, rfl, HC.out.first hlt HP.out, HB2.out⟩
            case measure => simp [intOf]; omega
          | some m =>
            have hm1 : m < s.length := hc.choose
            have HM := Lib.hid hm1
            have hcy := hcs m hm1
            obtain ⟨y, hy⟩ : ∃ y, y = s[m]'hm1 := ⟨_, rfl⟩
            replace hcy : CellsE wr b (off + m * 4) y := by rw [hy]; exact hcy
            have HY := Lib.hid hy
            have e2 := hcy.c2
            have j3 : ¬ (m : Int) < 0 := by omega
            have j3b : decide ((m : Int) < 0) = false := by simp
            have j5 : (0 : Int) ≤ (m : Int) := by omega
            have j6 : (m : Int) < (s.length : Int) := by omega
            by_cases hyx : y.2.2.1 < x.2.2.1
            · have j4 : (y.2.2.1.toNat : Int) < (x.2.2.1.toNat : Int) := by have := UInt64.lt_iff_toNat_lt.1 hyx; omega
              have j4b : decide (y.2.2.1.toNat < x.2.2.1.toNat) = true := by simp; omega
              have j4c : y.2.2.1.toNat < x.2.2.1.toNat := by omega
              have HYX := Lib.hid (show (s[m]'hm1).2.2.1 < s[i].2.2.1 by rw [← hx, show s[m]'hm1 = y from hy.symm]; exact hyx)
              clear hcs hcx hx hc hbel hkey hle hcy hy hyx
              simp only [bestV]
              go_wp2_with fail
              go_quiet (fail)
              clear d0 d2 e2
              have HB2 := Lib.hid (below_step HBE.out (show Below wr.heap.size wr (wr.drewN nq) from ⟨rfl, rfl, rfl, Nat.le_refl _, fun _ _ => rfl⟩) HBE.out.size)
              generalize wr.drewN nq = wq at *
              go_wp2_with fail
              go_roundw
              case rel => exact ⟨i + 1, some i, hlt, by go_num, rfl, HC.out.more hlt HP.out HYX.out, HB2.out⟩
              case measure => simp [intOf]; omega
            · have j4 : ¬ (y.2.2.1.toNat : Int) < (x.2.2.1.toNat : Int) := by intro h; exact hyx (UInt64.lt_iff_toNat_lt.2 (by omega))
              have j4b : decide (y.2.2.1.toNat < x.2.2.1.toNat) = false := by simp; omega
              have j4c : ¬ y.2.2.1.toNat < x.2.2.1.toNat := by omega
              have HYX := Lib.hid (show s[i].2.2.1 ≤ (s[m]'hm1).2.2.1 by rw [← hx, show s[m]'hm1 = y from hy.symm]; exact UInt64.not_lt.1 hyx)
              clear hcs hcx hx hc hbel hkey hle hcy hy hyx
              simp only [bestV]
              go_wp2_with fail
              go_quiet (fail)
              clear d0 d2 e2
              have HB2 := Lib.hid (below_step HBE.out (show Below wr.heap.size wr (wr.drewN nq) from ⟨rfl, rfl, rfl, Nat.le_refl _, fun _ _ => rfl⟩) HBE.out.size)
              generalize wr.drewN nq = wq at *
              go_wp2_with fail
              go_roundw
              case rel => exact ⟨i + 1, some m, hlt, by go_num, rfl, HC.out.less hlt HYX.out, HB2.out⟩
              case measure => simp [intOf]; omega
        · have j2 : ¬ (x.2.2.1.toNat : Int) ≤ (at_.toNat : Int) := by intro e; exact hle (UInt64.le_iff_toNat_le.2 (by omega))
          have j2b : decide (x.2.2.1.toNat ≤ at_.toNat) = false := by simp; omega
          have j2c : ¬ x.2.2.1.toNat ≤ at_.toNat := by omega
          have HP := Lib.hid (show mat key at_ s[i] = false by rw [← hx]; unfold mat; simp [hle])
          clear hcs hcx hx hc hbel hkey hle
          go_wp2_with fail
          go_quiet (fail)
          clear d0 d2
          have HB2 := Lib.hid (below_step HBE.out (show Below wr.heap.size wr (wr.drewN nq) from ⟨rfl, rfl, rfl, Nat.le_refl _, fun _ _ => rfl⟩) HBE.out.size)
          generalize wr.drewN nq = wq at *
          go_wp2_with fail
          go_roundw
          case rel => exact ⟨i + 1, c, hlt, by go_num, rfl, HC.out.skip hlt HP.out, HB2.out⟩
          case measure => simp [intOf]; omega
      · have j1 : (x.1.toList == key.toList) = false := by rw [beq_toList]; simpa using hkey
        have HP := Lib.hid (show mat key at_ s[i] = false by rw [← hx]; unfold mat; simp [hkey])
        clear hcs hcx hx hc hbel hkey
        go_wp2_with fail
        go_quiet (fail)
        clear d0 d2
        have HB2 := Lib.hid (below_step HBE.out (show Below wr.heap.size wr (wr.drewN nq) from ⟨rfl, rfl, rfl, Nat.le_refl _, fun _ _ => rfl⟩) HBE.out.size)
        generalize wr.drewN nq = wq at *
        go_wp2_with fail
        go_roundw
        case rel => exact ⟨i + 1, c, hlt, by go_num, rfl, HC.out.skip hlt HP.out, HB2.out⟩
        case measure => simp [intOf]; omega
    · obtain rfl : i = s.length := by omega
      have hbx : wr.heap[w.heap.size]? = some boxZ := (hbel.block _ (by rw [HSZ.out]; omega)).trans HBX.out
      have HBZ := Lib.hid (below_step HBA.out hbel HBA.out.size)
      have HGZ := Lib.hid hbx
      have z0 := (boxZ_cells hbx).c0
      have z1 := (boxZ_cells hbx).c1
      have z2 := (boxZ_cells hbx).c2
      have z3 := (boxZ_cells hbx).c3
      have zf := (boxZ_cells hbx).fz
      cases c with
      | none =>
        have HF := Lib.hid hc.none_at
        clear hc hbel hbx hlt
        simp only [bestV]
        go_wp2_with fail
        have HQZ := Lib.hid (show ((((wr.setCell ⟨w.heap.size, 0, none⟩ (.string ⟨#[]⟩)).setCell ⟨w.heap.size, 1, none⟩ (.string ⟨#[]⟩)).setCell ⟨w.heap.size, 2, none⟩ (.int .u64 0)).setCell ⟨w.heap.size, 3, none⟩ (.bool false)).heap[w.heap.size]? = some boxZ from blk_set (blk_set (blk_set (blk_set HGZ.out 0 _) 1 _) 2 _) 3 _)
        have HBQZ := Lib.hid (show Below w.heap.size w ((((wr.setCell ⟨w.heap.size, 0, none⟩ (.string ⟨#[]⟩)).setCell ⟨w.heap.size, 1, none⟩ (.string ⟨#[]⟩)).setCell ⟨w.heap.size, 2, none⟩ (.int .u64 0)).setCell ⟨w.heap.size, 3, none⟩ (.bool false)) from put_belowE HBZ.out (Nat.le_refl _) zeroV)
        clear z0 z1 z2 z3 zf
        generalize ((((wr.setCell ⟨w.heap.size, 0, none⟩ (.string ⟨#[]⟩)).setCell ⟨w.heap.size, 1, none⟩ (.string ⟨#[]⟩)).setCell ⟨w.heap.size, 2, none⟩ (.int .u64 0)).setCell ⟨w.heap.size, 3, none⟩ (.bool false)) = w9 at *
        have z0 := (boxZ_cells HQZ.out).c0
        have z1 := (boxZ_cells HQZ.out).c1
        have z2 := (boxZ_cells HQZ.out).c2
        have z3 := (boxZ_cells HQZ.out).c3
        exact bodyPost_ret (v := .tuple #[encV zeroV, .bool false]) (by simp [results, Tryd.results15, go_sem, z0, z1, z2, z3]) rfl ⟨_, _, rfl, HF.out, HBQZ.out⟩
      | some m =>
        obtain ⟨hm, hF⟩ := hc.some_at
        obtain ⟨y, hy⟩ : ∃ y, y = s[m] := ⟨_, rfl⟩
        rw [← hy] at hF
        have HF := Lib.hid hF
        obtain ⟨b, off, cap', hve, hcs⟩ := ents_cells (HVA.out.kept hbel) (by omega)
        injection hve with hx1 hx2 hx3
        subst hx1
        clear hx2 hx3
        have hcy := hcs m hm
        rw [← hy] at hcy
        have d0 := hcy.c0
        have d1 := hcy.c1
        have d2 := hcy.c2
        have d3 := hcy.c3
        have j3 : ¬ (m : Int) < 0 := by omega
        have j3b : decide ((m : Int) < 0) = false := by simp
        have j5 : (0 : Int) ≤ (m : Int) := by omega
        have j6 : (m : Int) < (s.length : Int) := by omega
        clear hF hcy hcs hy hc hbel hbx hlt
        simp only [bestV]
        go_wp2_with fail
        have HQ := Lib.hid (put_boxZ HGZ.out y)
        have HBQ := Lib.hid (put_belowE HBZ.out (Nat.le_refl _) y)
        clear z0 z1 z2 z3 zf d0 d1 d2 d3
        generalize ((((wr.setCell ⟨w.heap.size, 0, none⟩ (.string y.1)).setCell ⟨w.heap.size, 1, none⟩ (.string y.2.1)).setCell ⟨w.heap.size, 2, none⟩ (.int .u64 (y.2.2.1.toNat : Int))).setCell ⟨w.heap.size, 3, none⟩ (.bool y.2.2.2)) = w9 at *
        have z0 : w9.cell? ⟨w.heap.size, 0, none⟩ = some (.string y.1) := (boxE_cells HQ.out).c0
        have z1 : w9.cell? ⟨w.heap.size, 1, none⟩ = some (.string y.2.1) := (boxE_cells HQ.out).c1
        have z2 : w9.cell? ⟨w.heap.size, 2, none⟩ = some (.int .u64 (y.2.2.1.toNat : Int)) := (boxE_cells HQ.out).c2
        have z3 : w9.cell? ⟨w.heap.size, 3, none⟩ = some (.bool y.2.2.2) := (boxE_cells HQ.out).c3
        exact bodyPost_ret (v := .tuple #[encV y, .bool true]) (by simp [results, Tryd.results15, go_sem, z0, z1, z2, z3]) rfl ⟨_, _, rfl, HF.out, HBQ.out⟩

/-! ### Range -/
theorem sorted_range {es : List Et} (hu : Uniq2 es) (f t : ByteArray) : RangeIs es f t ((Mg.sortD es).filter fun e => inR f t e.1) := by
  have hlt : ∀ a b : Et, Mg.ltE a b = klt (pl a) (pl b) := fun a b => (pl_pl a b).symm
  have hp : es.Pairwise (fun a b => So.eqv Mg.ltE a b = false) := by
    refine List.Pairwise.imp (fun {a b} h => ?_) hu
    rw [← Bool.not_eq_true]
    exact fun c => h ((Mg.eqvE a b).1 c)
  obtain ⟨h1, h2⟩ := Mg.sortD_is hp
  refine ⟨?_, fun x => ?_⟩
  · refine List.Pairwise.filter _ (List.Pairwise.imp (fun {a b} h => ?_) h1)
    rw [← hlt]; exact h
  · rw [List.mem_filter, h2]
theorem sorted_whole {es : List Et} (hu : Uniq2 es) : RangeIs es ⟨#[]⟩ ⟨#[]⟩ (Mg.sortD es) := by
  have := sorted_range hu ⟨#[]⟩ ⟨#[]⟩
  rwa [List.filter_eq_self.2 fun e _ => inR_all e.1] at this
def RRangePost (l : List Et) (w : World) (r : Ending) (w' : World) : Prop := ∃ v, r = .returned v ∧ EntsAt w' v l ∧ Below w.heap.size w w'
theorem filter_take (p : Et → Bool) (l : List Et) {i : Nat} (h : i < l.length) : (l.take (i + 1)).filter p = if p l[i] = true then (l.take i).filter p ++ [l[i]] else (l.take i).filter p := by
  rw [List.take_succ_eq_append_getElem h, List.filter_append]
  by_cases hp : p l[i] = true
  · rw [if_pos hp]; simp [hp]
  · rw [if_neg hp]; simp [hp]
set_option maxHeartbeats 6400000 in
theorem rRange (v : Value) (es : List Et) (f t : ByteArray) (w : World) (h : EntsAt w v es) (hn : es.length ≤ 100000) (hks : ∀ e ∈ es, e.1.size ≤ 1000000) (hf : f.size ≤ 1000000) (ht : t.size ≤ 1000000) :
    Calls Tryd.prog 21 #[v, .string f, .string t] w (RRangePost ((Mg.sortD es).filter fun e => inR f t e.1) w) := by
  have HSO := Lib.hid (Mg.sorted09 v es w h hn hks)
  obtain ⟨ss, hss⟩ : ∃ ss, ss = Mg.sortD es := ⟨_, rfl⟩
  have hsl : ss.length ≤ 100000 := by rw [hss, Mg.sortD_length]; exact hn
  have hsk : ∀ e ∈ ss, e.1.size ≤ 1000000 := fun e he => by
    have hm : ∀ r : List Et, e ∈ Mg.sortD r.reverse → e ∈ r.reverse := by
      intro r
      induction r with
      | nil => intro h; simp [Mg.sortD] at h
      | cons x r ih =>
        intro h
        rw [List.reverse_cons, Mg.sortD_snoc, Mg.mem_insD] at h
        rw [List.reverse_cons, List.mem_append]
        rcases h with rfl | h
        · exact .inr (by simp)
        · exact .inl (ih h)
    have := hm es.reverse (by rw [List.reverse_reverse, ← hss]; exact he)
    rw [List.reverse_reverse] at this
    exact hks e this
  have HSK := Lib.hid hsk
  have HF := Lib.hid hf
  have HT := Lib.hid ht
  rw [← hss] at HSO ⊢
  clear h hn hks hf ht hss hsk
  go_enter Tryd.func21, Tryd.ntmps21
  go_wp2_with fail
  refine HSO.out.mono ?_
  rintro e w1 ⟨sv, rfl, hrow, hb⟩
  have B1 := Lib.hid hb
  obtain ⟨oo, oc, hsv⟩ := owns_slice hrow
  subst hsv
  have HEL := Lib.hid (show EntsAt w1 (.slice oo ss.length oc) ss from Seg.of_owns hrow)
  clear hrow hb HSO
  go_wp2_with fail
  go_loopw [8, 9] (fun vo vi W => ∃ (i : Nat) (out : List Et), i ≤ ss.length ∧ vi = .int .i64 i ∧ out = (ss.take i).filter (fun e => inR f t e.1) ∧ W.ownsRow w1.heap.size TE 4 vo out.length (out.flatMap encE) ∧ Below w1.heap.size w1 W) (fun _ vi _ => ss.length - (intOf vi).toNat)
  case atStart => exact ⟨0, [], Nat.zero_le _, rfl, rfl, World.ownsRow_nil _ _ _ _, Below.refl _ _⟩
  case round =>
    obtain ⟨i, out, hi, rfl, hout, hown, hbel⟩ := hrel
    have hol : out.length ≤ ss.length := by rw [hout]; exact Nat.le_trans (List.length_filter_le _ _) (by rw [List.length_take]; omega)
    obtain ⟨po, pc, hvo⟩ := owns_slice hown
    subst hvo
    have HOUT := Lib.hid hout
    have HOWN := Lib.hid hown
    have HBE := Lib.hid hbel
    by_cases hlt : i < ss.length
    · obtain ⟨b, off, cap', hve, hcs⟩ := ents_cells HEL.out (by omega)
      injection hve with hx1 hx2 hx3
      subst hx1
      obtain ⟨x, hx⟩ : ∃ x, x = ss[i]'hlt := ⟨_, rfl⟩
      have hcx := hcs i hlt
      rw [← hx] at hcx
      have HCX := Lib.hid (show ∀ W, Below w1.heap.size w1 W → CellsE W b (off + i * 4) x from fun W hW => hcx.kept hW)
      have HXS := Lib.hid (show x.1.size ≤ 1000000 from by rw [hx]; exact HSK.out _ (List.getElem_mem hlt))
      have HNX := Lib.hid (show (ss.take (i + 1)).filter (fun e => inR f t e.1) = if inR f t x.1 = true then out ++ [x] else out from by rw [filter_take _ _ hlt, ← hx, ← hout])
      have d0 := (HCX.out wr HBE.out).c0
      have q1 : (0 : Int) ≤ (i : Int) := by omega
      have q2 : (i : Int) < (ss.length : Int) := by omega
      have q4 : IntKind.i64.wrap ((i : Int) + 1) = (i : Int) + 1 := by rw [IntKind.wrap_i64]; omega
      have HLT := Lib.hid hlt
      clear hx2 hx3 hcs hcx hx hout hown hbel hlt hi
      go_wp2_with fail
      refine (In_any x.1 f t wr HXS.out HF.out HT.out).mono ?_
      rintro e w3 ⟨rfl, hb⟩
      have B3 := Lib.hid (below_step HBE.out hb HBE.out.size)
      have HOW3 := Lib.hid (row_kept HOWN.out fun j hj => hb.block j (HOWN.out.lt j hj).2)
      obtain ⟨c, hc⟩ : ∃ c, c = inR f t x.1 := ⟨_, rfl⟩
      rw [← hc] at HNX ⊢
      clear hb hc d0
      cases c with
      | true =>
        have d0 := (HCX.out w3 B3.out).c0
        have d1 := (HCX.out w3 B3.out).c1
        have d2 := (HCX.out w3 B3.out).c2
        have d3 := (HCX.out w3 B3.out).c3
        obtain ⟨n, hn⟩ : ∃ n, n = out.length := ⟨_, rfl⟩
        have HNL := Lib.hid hn
        have hn1 : n + 1 ≤ 1099511627776 := by omega
        have hbw : w1.heap.size ≤ w3.heap.size := B3.out.size
        rw [← hn] at HOW3 ⊢
        clear hn
        go_wp2_with (at_builtin; refine wpList_append1 rfl (.tmp 26) (.tmp 31) TSl rfl w1.heap.size TE _ 4 48 Tryd.underlying40 infoE rfl (by decide) _ n (out.flatMap encE) (encE x) rfl HOW3.out _ 1 rfl rfl rfl (encE_one x) hn1 (by decide) hbw w1.heap.size w1 B3.out (Nat.le_refl _) ?_; intro v5 w5 ho5 hg5 hb5 hs5; have HO5 := Lib.hid ho5; have HB5 := Lib.hid hb5; clear ho5 hg5 hb5 hs5)
        go_roundw
        case rel =>
          refine ⟨i + 1, out ++ [x], HLT.out, by go_num, by rw [HNX.out]; rfl, ?_, HB5.out⟩
          rw [List.length_append, List.flatMap_append, ← HNL.out]
          exact HO5.out
        case measure => have := HLT.out; simp [intOf]; omega
      | false =>
        go_wp2_with fail
        go_roundw
        case rel => exact ⟨i + 1, out, HLT.out, by go_num, by rw [HNX.out]; rfl, HOW3.out, B3.out⟩
        case measure => have := HLT.out; simp [intOf]; omega
    · have HE := Lib.hid (show out = ss.filter (fun e => inR f t e.1) from by rw [hout, List.take_of_length_le (by omega)])
      have hq : ¬ (i : Int) < (ss.length : Int) := by omega
      clear hout hown hbel hlt hol
      go_wp2_with fail
      go_ret
      rw [RRangePost, ← HE.out]
      exact ⟨_, rfl, Seg.of_owns HOWN.out, below_step B1.out HBE.out B1.out.size⟩
end Go.Proofs.Tryd.Skm
