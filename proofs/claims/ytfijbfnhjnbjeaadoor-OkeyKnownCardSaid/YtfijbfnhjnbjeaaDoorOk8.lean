/- The laws of okey: begins, plain, Given. -/
import Derived.Test.YtfijbfnhjnbjeaaDoorOk7
set_option linter.unusedVariables false
set_option linter.unusedSimpArgs false
set_option maxRecDepth 100000
namespace Go.Proofs.Tryd.Ok
open Go.RowKit Go.Cph Go.Cph.Ok Go.Proofs.Tryd.Nu
def begL : List Pt → List Pt → Bool
  | _, [] => true
  | [], _ :: _ => false
  | a :: x, b :: y => eqP a b && begL x y
theorem begL_iff : ∀ {l m : List Pt}, begL l m = true ↔ ∃ t, l = m ++ t
  | l, [] => by cases l <;> simp [begL]
  | [], b :: y => by simp [begL]
  | a :: x, b :: y => by
    rw [begL, Bool.and_eq_true, eqP_iff, begL_iff]
    constructor
    · rintro ⟨rfl, t, rfl⟩; exact ⟨t, rfl⟩
    · rintro ⟨t, h⟩
      rw [List.cons_append] at h
      injection h with h1 h2
      exact ⟨h1, t, h2⟩
theorem begL_short {l m : List Pt} (h : l.length < m.length) : begL l m = false := by
  rw [Bool.eq_false_iff]
  intro hb
  obtain ⟨t, rfl⟩ := begL_iff.1 hb
  rw [List.length_append] at h; omega
theorem begL_drop (l m : List Pt) (i : Nat) (hl : i < l.length) (hm : i < m.length) : begL (l.drop i) (m.drop i) = (eqP l[i] m[i] && begL (l.drop (i + 1)) (m.drop (i + 1))) := by
  rw [List.drop_eq_getElem_cons hl, List.drop_eq_getElem_cons hm]; rfl
set_option maxHeartbeats 6400000 in
theorem begins_any (v u : Value) (l m : List Pt) (w : World) (h : PtsAt w v l) (k : PtsAt w u m) (hl : l.length ≤ 1000000) (hm : m.length ≤ 1000000) :
    Calls Tryd.prog 20 #[v, u] w fun e w' => e = .returned (.bool (begL l m)) ∧ Below w.heap.size w w' := by
  obtain ⟨ao, cap, rfl⟩ := elems_slice h
  obtain ⟨bo, cap2, rfl⟩ := elems_slice k
  have H := Lib.hid h
  have K := Lib.hid k
  have HL := Lib.hid hl
  have HM := Lib.hid hm
  clear h k hl hm
  by_cases hs : l.length < m.length
  · have k1 : (l.length : Int) < (m.length : Int) := by omega
    rw [begL_short hs]
    clear hs
    go_enter Tryd.func20, Tryd.ntmps20
    go_wp2_with fail
    go_ret
    exact ⟨rfl, Below.refl _ _⟩
  · have k1 : ¬ (l.length : Int) < (m.length : Int) := by omega
    have HS := Lib.hid hs
    obtain ⟨R, hR⟩ : ∃ R, R = begL l m := ⟨_, rfl⟩
    have HR := Lib.hid hR
    rw [← hR]
    clear hs hR
    go_enter Tryd.func20, Tryd.ntmps20
    go_wp2_with fail
    go_loopw [5] (fun vi W => ∃ i : Nat, i ≤ m.length ∧ vi = .int .i64 i ∧ R = begL (l.drop i) (m.drop i) ∧ Below w.heap.size w W) (fun vi _ => m.length - (intOf vi).toNat)
    case atStart => exact ⟨0, Nat.zero_le _, rfl, HR.out, Below.refl _ _⟩
    case round =>
      obtain ⟨i, hi, rfl, hr, hb⟩ := hrel
      have HB := Lib.hid hb
      by_cases hlt : i < m.length
      · have HLT := Lib.hid hlt
        have hll : i < l.length := by have := HS.out; omega
        obtain ⟨b, off, cap', hve, hcs⟩ := pts_cells (H.out.kept hb) (by omega)
        injection hve with hx1 hx2 hx3
        subst hx1
        clear hx2 hx3
        obtain ⟨b2, off2, cap2', hve, hcs2⟩ := pts_cells (K.out.kept hb) (by omega)
        injection hve with hx1 hx2 hx3
        subst hx1
        clear hx2 hx3
        have hcx := hcs i hll
        have hcy := hcs2 i hlt
        have hbd := begL_drop l m i hll hlt
        obtain ⟨p, hp⟩ : ∃ p, p = l[i]'hll := ⟨_, rfl⟩
        obtain ⟨q, hq⟩ : ∃ q, q = m[i]'hlt := ⟨_, rfl⟩
        rw [← hp] at hcx hbd
        rw [← hq] at hcy hbd
        have hqq := fun W => run_neqP p q W
        obtain ⟨e, he⟩ : ∃ e, e = eqP p q := ⟨_, rfl⟩
        rw [← he] at hqq hbd
        have HBD := Lib.hid (hr.trans hbd)
        have d0 : ∀ zz : Later wr.heap.size wr, zz.val.cell? ⟨b, off + i * 3, none⟩ = some (.bool p.text) := fun zz => Later.cell hcx.c0 (World.block_lt_of_cell? _ _ hcx.c0) zz
        have d1 : ∀ zz : Later wr.heap.size wr, zz.val.cell? ⟨b, off + i * 3 + 1, none⟩ = some (.string p.s) := fun zz => Later.cell hcx.c1 (World.block_lt_of_cell? _ _ hcx.c1) zz
        have d2 : ∀ zz : Later wr.heap.size wr, zz.val.cell? ⟨b, off + i * 3 + 2, none⟩ = some (.int .u64 (p.n.toNat : Int)) := fun zz => Later.cell hcx.c2 (World.block_lt_of_cell? _ _ hcx.c2) zz
        have e0 : ∀ zz : Later wr.heap.size wr, zz.val.cell? ⟨b2, off2 + i * 3, none⟩ = some (.bool q.text) := fun zz => Later.cell hcy.c0 (World.block_lt_of_cell? _ _ hcy.c0) zz
        have e1 : ∀ zz : Later wr.heap.size wr, zz.val.cell? ⟨b2, off2 + i * 3 + 1, none⟩ = some (.string q.s) := fun zz => Later.cell hcy.c1 (World.block_lt_of_cell? _ _ hcy.c1) zz
        have e2 : ∀ zz : Later wr.heap.size wr, zz.val.cell? ⟨b2, off2 + i * 3 + 2, none⟩ = some (.int .u64 (q.n.toNat : Int)) := fun zz => Later.cell hcy.c2 (World.block_lt_of_cell? _ _ hcy.c2) zz
        have q1 : (0 : Int) ≤ (i : Int) := by omega
        have q2 : (i : Int) < (m.length : Int) := by omega
        have q3 : (i : Int) < (l.length : Int) := by omega
        have q4 : IntKind.i64.wrap ((i : Int) + 1) = (i : Int) + 1 := by rw [IntKind.wrap_i64]; have := HM.out; omega
        clear hb hr hbd he hcs hcs2 hcx hcy hp hq hlt hll hi
        cases e
        all_goals
          go_wp2_with fail
          refine wp_region_later wr.heap.size (by kernel_rfl) (by kernel_rfl) ?_
          repeat (go_big_quiet_step (fail))
          refine wpQuiet_nil ?_
          rintro wq ⟨zz, rfl⟩
          have HB3 := Lib.hid (below_step HB.out zz.prop HB.out.size)
          clear d0 d1 d2 e0 e1 e2 hqq
          generalize zz.val = wq at *
          go_wp2_with fail
          first
            | (go_ret; exact ⟨by rw [HBD.out]; rfl, HB3.out⟩)
            | (go_roundw
               case rel => exact ⟨i + 1, HLT.out, by go_num, by rw [HBD.out]; rfl, HB3.out⟩
               case measure => have := HLT.out; simp [intOf]; omega)
      · have HE := Lib.hid (show R = true from by rw [hr, List.drop_of_length_le (show m.length ≤ i by omega)]; cases l.drop i <;> rfl)
        have q2 : ¬ (i : Int) < (m.length : Int) := by omega
        clear hb hr hlt hi
        go_wp2_with fail
        go_ret
        exact ⟨by rw [HE.out]; rfl, HB.out⟩
end Go.Proofs.Tryd.Ok
