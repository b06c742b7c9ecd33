/- ME: texts put together: Ro5 Ro6. -/
import Derived.Test.YtccopljpceolcabDoorMD
import Derived.Test.YtccopljpceolcabDoorMX
import Derived.Deep.AppendLies
/- rows.of: a key read. -/
set_option linter.unusedVariables false
set_option linter.unusedSimpArgs false
set_option maxRecDepth 100000
namespace Go.Proofs.Tryd.Rows
open Go.RowKit Go.Cph Go.Cph.Ok Go.Proofs.Tryd.Nu Go.Proofs.Tryd.Ok
open Go.Cph.Px (Ad Pf rightA bytesA rightP fromB fromOk)
open Go.Proofs.Tryd.Pfx (encA bcell)
def eqP (p q : Pt) : Bool := (p.text == q.text) && ((p.s.toList == q.s.toList) && ((p.n.toNat : Int) == (q.n.toNat : Int)))
theorem eqP_iff {p q : Pt} : eqP p q = true ↔ p = q := by
  obtain ⟨a, b, c⟩ := p
  obtain ⟨d, e, f⟩ := q
  unfold eqP
  simp only [Bool.and_eq_true, beq_iff_eq]
  constructor
  · rintro ⟨rfl, h2, h3⟩
    have h4 : b = e := list_eq (by rw [← ByteArray.toList_eq, ← ByteArray.toList_eq, h2])
    have h5 : c = f := UInt64.toNat_inj.1 (by omega)
    rw [h4, h5]
  · intro h; injection h with h1 h2 h3; subst h1 h2 h3; exact ⟨rfl, rfl, rfl⟩
theorem eqP_refl (p : Pt) : eqP p p = true := eqP_iff.2 rfl
theorem run_neqP (p q : Pt) (w : World) : (binOp .neq 86 (encP p) (encP q)).run Tryd.prog w = .ok (.bool (!(eqP p q))) w := by
  obtain ⟨a, b, c⟩ := p
  obtain ⟨d, e, f⟩ := q
  unfold eqP
  cases a <;> cases d <;> cases b1 : (b.toList == e.toList) <;> cases b2 : ((c.toNat : Int) == (f.toNat : Int)) <;> go_simp
/-- What a key's parts are of: so many further numbers. -/
def ofL (kind : UInt64) (more : Nat) : List Pt → Option (Ad × UInt64)
  | a :: b :: c :: r => if r.length = more ∧ eqP a (numP kind) = true ∧ b.n.toNat ≤ 6 ∧ c.text = true ∧ fromOk b.n.toUInt8 c.s.size = true then
      (match r with
      | [] => some (fromB b.n.toUInt8 c.s.data.toList, 0)
      | d :: _ => if d.text then none else some (fromB b.n.toUInt8 c.s.data.toList, d.n)) else none
  | _ => none
def ofK (kind : UInt64) (more : Nat) (k : ByteArray) : Option (Ad × UInt64) := (Cph.Ok.parts k.data.toList).bind (ofL kind more)
def encOf : Option (Ad × UInt64) → Value
  | none => .tuple #[.agg #[.int .u8 0, .int .u64 0, .int .u64 0], .int .u64 0, .bool false]
  | some (a, n) => .tuple #[encA a, .int .u64 (n.toNat : Int), .bool true]
theorem bel_drewN (w : World) (n : Nat) : Below w.heap.size w (w.drewN n) := ⟨rfl, rfl, rfl, Nat.le_refl _, fun _ _ => rfl⟩
theorem u8_conv (n : UInt64) : IntKind.u8.wrap (n.toNat : Int) = (n.toUInt8.toNat : Int) := by
  rw [IntKind.wrap_u8, UInt64.toNat_toUInt8]; omega
theorem esc_le (s : ByteArray) : s.size ≤ (esc s.data.toList).length := (esc_len s.data.toList).1
theorem part_small {k : ByteArray} {l : List Pt} (hk : k.size ≤ 1000000) (h : Cph.Ok.parts k.data.toList = some l) : ∀ p ∈ l, p.s.size ≤ 1000000 := by
  intro p hp
  obtain ⟨h1, h2⟩ := key_parts _ _ _ (Nat.le_refl _) h
  rw [← h2] at hp
  obtain ⟨q, hq, rfl⟩ := List.mem_map.1 hp
  have h3 : (Cph.Ok.bytes q).length ≤ (key l).length := by
    obtain ⟨x, y, rfl⟩ := List.append_of_mem hq
    rw [key_append, show key (q :: y) = Cph.Ok.bytes q ++ key y from rfl, List.length_append, List.length_append]; omega
  rw [h1] at h3
  have e : k.data.toList.length = k.size := rfl
  unfold plainP
  cases hx : q.text with
  | false => simp
  | true =>
    unfold Cph.Ok.bytes at h3
    rw [hx] at h3
    simp only [if_true, List.length_cons, List.length_append] at h3
    have := esc_le q.s
    simp only [if_true]; omega
theorem list_three {l : List Pt} (h : l.length = 3) : ∃ a b c, l = [a, b, c] := by
  match l, h with
  | [a, b, c], _ => exact ⟨a, b, c, rfl⟩
theorem list_four {l : List Pt} (h : l.length = 4) : ∃ a b c d, l = [a, b, c, d] := by
  match l, h with
  | [a, b, c, d], _ => exact ⟨a, b, c, d, rfl⟩
theorem ofL_len {kind : UInt64} {more : Nat} {l : List Pt} (h : l.length ≠ 3 + more) : ofL kind more l = none := by
  match l, h with
  | [], _ => rfl
  | [_], _ => rfl
  | [_, _], _ => rfl
  | a :: b :: c :: r, h =>
    unfold ofL
    dsimp only
    rw [if_neg]
    rintro ⟨h1, -⟩
    exact h (by simp; omega)
set_option maxHeartbeats 1600000 in
theorem of0 (k : ByteArray) (kind : UInt64) (w : World) (hs : k.size ≤ 1000000) : Calls Tryd.prog 52 #[.string k, .int .u64 (kind.toNat : Int), .int .i64 0] w fun e w' => e = .returned (encOf (ofK kind 0 k)) ∧ Below w.heap.size w w' := by
  have HB0 := Lib.hid (show Below w.heap.size w (w.alloc boxZ) from (Below.refl _ _).alloc (Nat.le_refl _) _)
  have HZC := Lib.hid (fun W (hb : Below (w.alloc boxZ).heap.size (w.alloc boxZ) W) => zeroA_kept hb)
  have HNK := Lib.hid (fun (W : World) => show Calls Tryd.prog 50 #[.int .u64 (kind.toNat : Int)] W (fun e w' => e = .returned (.agg #[.bool false, .string ⟨#[]⟩, .int .u64 (kind.toNat : Int)]) ∧ Below W.heap.size W w') from num_any kind W)
  have HK := Lib.hid (show ofK kind 0 k = (Cph.Ok.parts k.data.toList).bind (ofL kind 0) from rfl)
  have HP := Lib.hid (parts_any k (w.alloc boxZ) (by omega))
  cases hp : Cph.Ok.parts k.data.toList with
  | none =>
    rw [hp] at HP HK
    have HV := Lib.hid (show ofK kind 0 k = none from by rw [HK.out]; rfl)
    clear hp HK
    go_enter Tryd.func52, Tryd.ntmps52
    go_wp2_with fail
    refine HP.out.mono ?_
    rintro e w1 ⟨rfl, hb⟩
    have Z0 := (HZC.out w1 hb).c0
    have Z1 := (HZC.out w1 hb).c1
    have Z2 := (HZC.out w1 hb).c2
    have G0 := (HZC.out w1 hb).f0
    have G1 := (HZC.out w1 hb).f1
    have G2 := (HZC.out w1 hb).f2
    have HB := Lib.hid (below_step HB0.out hb HB0.out.size)
    clear hb
    go_wp2_with fail
    go_quiet (fail)
    go_wp2_with fail
    exact bodyPost_ret (v := encOf none) (by simp [results, Tryd.results52, go_sem, encOf, Z0, Z1, Z2]) rfl ⟨by rw [HV.out], by first | exact HB.out | exact HB.out.drew | exact below_set3 HB.out _ _ _ | exact below_set3 (below_step HB.out (bel_drewN _ _) HB.out.size) _ _ _⟩
  | some l =>
    rw [hp] at HP HK
    by_cases hl : l.length = 3
    · obtain ⟨a, b, c, rfl⟩ := list_three hl
      have HQ := Lib.hid (show ofK kind 0 k = ofL kind 0 [a, b, c] from by rw [HK.out]; rfl)
      have hqq : ∀ W, (binOp .neq 86 (.agg #[.bool a.text, .string a.s, .int .u64 (a.n.toNat : Int)]) (.agg #[.bool false, .string ⟨#[]⟩, .int .u64 (kind.toNat : Int)])).run Tryd.prog W = .ok (.bool (!(eqP a (numP kind)))) W := fun W => run_neqP a (numP kind) W
      have HSZ := Lib.hid (part_small (by omega) hp)
      have k4 : IntKind.i64.wrap 3 = 3 := rfl
      have k5 : IntKind.i64.wrap 4 = 4 := rfl
      clear hp HK hl
      go_enter Tryd.func52, Tryd.ntmps52
      go_wp2_with fail
      refine HP.out.mono ?_
      rintro e w1 ⟨⟨v, rfl, ho⟩, hb⟩
      have HBZ := Lib.hid hb
      have HB := Lib.hid (below_step HB0.out hb HB0.out.size)
      rw [show ([a, b, c] : List Pt).length = 3 from rfl] at ho
      obtain ⟨g, cap, rfl, -, hgw⟩ := ho.form (by decide)
      have HCL := Lib.hid (fun j u (h : ([a, b, c].flatMap encC)[j]? = some u) => show w1.cell? ((⟨g, 0, none⟩ : Addr).add j) = some u from ho.cells rfl j u h)
      have HGW := Lib.hid hgw
      have q0 : ∀ zz : Later w1.heap.size w1, zz.val.cell? ⟨g, 0, none⟩ = some (.bool a.text) := fun zz => Later.cell (HCL.out 0 _ rfl) HGW.out zz
      have q1 : ∀ zz : Later w1.heap.size w1, zz.val.cell? ⟨g, 1, none⟩ = some (.string a.s) := fun zz => Later.cell (HCL.out 1 _ rfl) HGW.out zz
      have q2 : ∀ zz : Later w1.heap.size w1, zz.val.cell? ⟨g, 2, none⟩ = some (.int .u64 (a.n.toNat : Int)) := fun zz => Later.cell (HCL.out 2 _ rfl) HGW.out zz
      have q3 : ∀ zz : Later w1.heap.size w1, zz.val.cell? ⟨g, 3, none⟩ = some (.bool b.text) := fun zz => Later.cell (HCL.out 3 _ rfl) HGW.out zz
      have q4 : ∀ zz : Later w1.heap.size w1, zz.val.cell? ⟨g, 4, none⟩ = some (.string b.s) := fun zz => Later.cell (HCL.out 4 _ rfl) HGW.out zz
      have q5 : ∀ zz : Later w1.heap.size w1, zz.val.cell? ⟨g, 5, none⟩ = some (.int .u64 (b.n.toNat : Int)) := fun zz => Later.cell (HCL.out 5 _ rfl) HGW.out zz
      have q6 : ∀ zz : Later w1.heap.size w1, zz.val.cell? ⟨g, 6, none⟩ = some (.bool c.text) := fun zz => Later.cell (HCL.out 6 _ rfl) HGW.out zz
      have q7 : ∀ zz : Later w1.heap.size w1, zz.val.cell? ⟨g, 7, none⟩ = some (.string c.s) := fun zz => Later.cell (HCL.out 7 _ rfl) HGW.out zz
      have q8 : ∀ zz : Later w1.heap.size w1, zz.val.cell? ⟨g, 8, none⟩ = some (.int .u64 (c.n.toNat : Int)) := fun zz => Later.cell (HCL.out 8 _ rfl) HGW.out zz
      clear hb ho HP hgw
      by_cases e1 : eqP a (numP kind) = true
      · rw [e1] at hqq
        by_cases e2 : b.n.toNat ≤ 6
        · have e2i : ¬ (6 : Int) < (b.n.toNat : Int) := by omega
          have e2d : decide ((6 : Int) < (b.n.toNat : Int)) = false := decide_eq_false e2i
          cases e3 : c.text with
          | true =>
            rw [e3] at q6
            go_wp2_with fail
            refine wp_region_later w1.heap.size (by kernel_rfl) (by kernel_rfl) ?_
            repeat (go_big_quiet_step ((go_at_call 50; exact Later.calls (Nat.le_refl _) (HNK.out _))))
            refine wpQuiet_nil ?_
            rintro wq ⟨zz, rfl⟩
            have HBQ := Lib.hid (below_step HB.out zz.prop HB.out.size)
            have HBY := Lib.hid (below_step HBZ.out zz.prop HBZ.out.size)
            have r5 := q5 zz
            have r7 := q7 zz
            clear q0 q1 q2 q3 q4 q5 q6 q7 q8
            generalize zz.val = wq at *
            have Z0 := (HZC.out wq HBY.out).c0
            have Z1 := (HZC.out wq HBY.out).c1
            have Z2 := (HZC.out wq HBY.out).c2
            have G0 := (HZC.out wq HBY.out).f0
            have G1 := (HZC.out wq HBY.out).f1
            have G2 := (HZC.out wq HBY.out).f2
            have HBQd := Lib.hid HBQ.out.drew
            have HBYd := Lib.hid HBY.out.drew
            have HCS := Lib.hid (HSZ.out c (by simp))
            have HFB := Lib.hid (fun (W : World) => fromBytes b.n.toUInt8 c.s W (Nat.le_trans HCS.out (by decide)))
            have kf := u8_conv b.n
            obtain ⟨fam, hfam⟩ : ∃ fam, fam = b.n.toUInt8 := ⟨_, rfl⟩
            rw [← hfam] at HFB kf
            have HFA := Lib.hid hfam
            have s5 : wq.drew.cell? ⟨g, 5, none⟩ = some (.int .u64 (b.n.toNat : Int)) := r5
            have s7 : wq.drew.cell? ⟨g, 7, none⟩ = some (.string c.s) := r7
            obtain ⟨x, hx⟩ : ∃ x, x = fromB fam c.s.data.toList := ⟨_, rfl⟩
            have HX := Lib.hid hx
            unfold encFB at HFB
            rw [← hx] at HFB
            have HE2 := Lib.hid e2
            have HE1 := Lib.hid e1
            clear hfam hx
            obtain ⟨f, hi, lo⟩ := x
            cases hfo : fromOk fam c.s.size with
            | false =>
              rw [hfo] at HFB
              have HV := Lib.hid (show ofK kind 0 k = none from by rw [HQ.out]; unfold ofL; dsimp only; rw [if_neg]; rintro ⟨-, -, -, -, h⟩; rw [← HFA.out, hfo] at h; cases h)
              clear hfo
              go_wp2_with fail
              go_region_with (go_at_call 66; refine (HFB.out _).mono ?_; rintro r u ⟨rfl, hb⟩; have HBV := Lib.hid (below_step HBYd.out hb HBYd.out.size); have HBU := Lib.hid (below_step HBQd.out hb HBQd.out.size); clear hb Z0 Z1 Z2 G0 G1 G2; have Z0 := (HZC.out _ HBV.out).c0; have Z1 := (HZC.out _ HBV.out).c1; have Z2 := (HZC.out _ HBV.out).c2; have G0 := (HZC.out _ HBV.out).f0; have G1 := (HZC.out _ HBV.out).f1; have G2 := (HZC.out _ HBV.out).f2)
              all_goals
                go_wp2_with fail
                exact bodyPost_ret (v := encOf none) (by simp (maxDischargeDepth := 8) [results, Tryd.results52, go_sem, encOf, Z0, Z1, Z2]) rfl ⟨by rw [HV.out], by exact below_set3 (below_set3 HBU.out _ _ _) _ _ _⟩
            | true =>
              rw [hfo] at HFB
              have HV := Lib.hid (show ofK kind 0 k = some ((f, hi, lo), 0) from by rw [HQ.out, HX.out]; unfold ofL; dsimp only; rw [if_pos ⟨rfl, HE1.out, HE2.out, e3, by rw [← HFA.out]; exact hfo⟩, HFA.out])
              clear hfo
              go_wp2_with fail
              go_region_with (go_at_call 66; refine (HFB.out _).mono ?_; rintro r u ⟨rfl, hb⟩; have HBV := Lib.hid (below_step HBYd.out hb HBYd.out.size); have HBU := Lib.hid (below_step HBQd.out hb HBQd.out.size); clear hb Z0 Z1 Z2 G0 G1 G2; have Z0 := (HZC.out _ HBV.out).c0; have Z1 := (HZC.out _ HBV.out).c1; have Z2 := (HZC.out _ HBV.out).c2; have G0 := (HZC.out _ HBV.out).f0; have G1 := (HZC.out _ HBV.out).f1; have G2 := (HZC.out _ HBV.out).f2)
              all_goals
                go_wp2_with fail
                exact bodyPost_ret (v := encOf (some ((f, hi, lo), 0))) (by simp (maxDischargeDepth := 8) [results, Tryd.results52, go_sem, encOf, Z0, Z1, Z2]) rfl ⟨by rw [HV.out], by exact below_set3 (below_set3 HBU.out _ _ _) _ _ _⟩
          | false =>
            have HV := Lib.hid (show ofK kind 0 k = none from by rw [HQ.out]; unfold ofL; dsimp only; rw [if_neg]; rintro ⟨-, -, -, h, -⟩; rw [e3] at h; cases h)
            rw [e3] at q6
            go_wp2_with fail
            refine wp_region_later w1.heap.size (by kernel_rfl) (by kernel_rfl) ?_
            repeat (go_big_quiet_step ((go_at_call 50; exact Later.calls (Nat.le_refl _) (HNK.out _))))
            refine wpQuiet_nil ?_
            rintro wq ⟨zz, rfl⟩
            have HBQ := Lib.hid (below_step HB.out zz.prop HB.out.size)
            have HBY := Lib.hid (below_step HBZ.out zz.prop HBZ.out.size)
            clear q0 q1 q2 q3 q4 q5 q6 q7 q8
            generalize zz.val = wq at *
            have Z0 := (HZC.out wq HBY.out).c0
            have Z1 := (HZC.out wq HBY.out).c1
            have Z2 := (HZC.out wq HBY.out).c2
            have G0 := (HZC.out wq HBY.out).f0
            have G1 := (HZC.out wq HBY.out).f1
            have G2 := (HZC.out wq HBY.out).f2
            go_wp2_with fail
            exact bodyPost_ret (v := encOf none) (by simp [results, Tryd.results52, go_sem, encOf, Z0, Z1, Z2]) rfl ⟨by rw [HV.out], by first | exact HBQ.out | exact below_set3 HBQ.out _ _ _⟩
        · have e2i : (6 : Int) < (b.n.toNat : Int) := by omega
          have e2d : decide ((6 : Int) < (b.n.toNat : Int)) = true := decide_eq_true e2i
          have HV := Lib.hid (show ofK kind 0 k = none from by rw [HQ.out]; unfold ofL; dsimp only; rw [if_neg]; rintro ⟨-, -, h, -⟩; exact e2 h)
          clear e2
          go_wp2_with fail
          refine wp_region_later w1.heap.size (by kernel_rfl) (by kernel_rfl) ?_
          repeat (go_big_quiet_step ((go_at_call 50; exact Later.calls (Nat.le_refl _) (HNK.out _))))
          refine wpQuiet_nil ?_
          rintro wq ⟨zz, rfl⟩
          have HBQ := Lib.hid (below_step HB.out zz.prop HB.out.size)
          have HBY := Lib.hid (below_step HBZ.out zz.prop HBZ.out.size)
          clear q0 q1 q2 q3 q4 q5 q6 q7 q8
          generalize zz.val = wq at *
          have Z0 := (HZC.out wq HBY.out).c0
          have Z1 := (HZC.out wq HBY.out).c1
          have Z2 := (HZC.out wq HBY.out).c2
          have G0 := (HZC.out wq HBY.out).f0
          have G1 := (HZC.out wq HBY.out).f1
          have G2 := (HZC.out wq HBY.out).f2
          go_wp2_with fail
          exact bodyPost_ret (v := encOf none) (by simp [results, Tryd.results52, go_sem, encOf, Z0, Z1, Z2]) rfl ⟨by rw [HV.out], by first | exact HBQ.out | exact below_set3 HBQ.out _ _ _⟩
      · have HV := Lib.hid (show ofK kind 0 k = none from by rw [HQ.out]; unfold ofL; dsimp only; rw [if_neg]; rintro ⟨-, h, -⟩; exact e1 h)
        rw [Bool.not_eq_true] at e1
        rw [e1] at hqq
        go_wp2_with fail
        refine wp_region_later w1.heap.size (by kernel_rfl) (by kernel_rfl) ?_
        repeat (go_big_quiet_step ((go_at_call 50; exact Later.calls (Nat.le_refl _) (HNK.out _))))
        refine wpQuiet_nil ?_
        rintro wq ⟨zz, rfl⟩
        have HBQ := Lib.hid (below_step HB.out zz.prop HB.out.size)
        have HBY := Lib.hid (below_step HBZ.out zz.prop HBZ.out.size)
        clear q0 q1 q2 q3 q4 q5 q6 q7 q8
        generalize zz.val = wq at *
        have Z0 := (HZC.out wq HBY.out).c0
        have Z1 := (HZC.out wq HBY.out).c1
        have Z2 := (HZC.out wq HBY.out).c2
        have G0 := (HZC.out wq HBY.out).f0
        have G1 := (HZC.out wq HBY.out).f1
        have G2 := (HZC.out wq HBY.out).f2
        go_wp2_with fail
        exact bodyPost_ret (v := encOf none) (by simp [results, Tryd.results52, go_sem, encOf, Z0, Z1, Z2]) rfl ⟨by rw [HV.out], by first | exact HBQ.out | exact below_set3 HBQ.out _ _ _⟩
    · have HV := Lib.hid (show ofK kind 0 k = none from by rw [HK.out]; exact ofL_len (more := 0) (by omega))
      have k1 : ((l.length : Int) == 3) = false := by simp; omega
      have k2 : ¬ (l.length : Int) = 3 := by omega
      have k3 : ((l.length : Int) != 3) = true := by simp; omega
      have k4 : IntKind.i64.wrap 3 = 3 := rfl
      have k5 : IntKind.i64.wrap 4 = 4 := rfl
      clear hp HK hl
      go_enter Tryd.func52, Tryd.ntmps52
      go_wp2_with fail
      refine HP.out.mono ?_
      rintro e w1 ⟨⟨v, rfl, ho⟩, hb⟩
      have Z0 := (HZC.out w1 hb).c0
      have Z1 := (HZC.out w1 hb).c1
      have Z2 := (HZC.out w1 hb).c2
      have G0 := (HZC.out w1 hb).f0
      have G1 := (HZC.out w1 hb).f1
      have G2 := (HZC.out w1 hb).f2
      have HB := Lib.hid (below_step HB0.out hb HB0.out.size)
      obtain ⟨oo, oc, hov⟩ := owns_slice1 ho
      subst hov
      clear hb ho
      go_wp2_with fail
      go_quiet (fail)
      go_wp2_with fail
      exact bodyPost_ret (v := encOf none) (by simp [results, Tryd.results52, go_sem, encOf, Z0, Z1, Z2]) rfl ⟨by rw [HV.out], by first | exact HB.out | exact HB.out.drew | exact below_set3 HB.out _ _ _ | exact below_set3 (below_step HB.out (bel_drewN _ _) HB.out.size) _ _ _⟩
end Go.Proofs.Tryd.Rows

/- rows.of: a key read, with a further number. -/
set_option linter.unusedVariables false
set_option linter.unusedSimpArgs false
set_option maxRecDepth 100000
namespace Go.Proofs.Tryd.Rows
open Go.RowKit Go.Cph Go.Cph.Ok Go.Proofs.Tryd.Nu Go.Proofs.Tryd.Ok
open Go.Cph.Px (Ad Pf rightA bytesA rightP fromB fromOk)
open Go.Proofs.Tryd.Pfx (encA bcell)
set_option maxHeartbeats 1600000 in
theorem of1 (k : ByteArray) (kind : UInt64) (w : World) (hs : k.size ≤ 1000000) : Calls Tryd.prog 52 #[.string k, .int .u64 (kind.toNat : Int), .int .i64 1] w fun e w' => e = .returned (encOf (ofK kind 1 k)) ∧ Below w.heap.size w w' := by
  have HB0 := Lib.hid (show Below w.heap.size w (w.alloc boxZ) from (Below.refl _ _).alloc (Nat.le_refl _) _)
  have HZC := Lib.hid (fun W (hb : Below (w.alloc boxZ).heap.size (w.alloc boxZ) W) => zeroA_kept hb)
  have HNK := Lib.hid (fun (W : World) => show Calls Tryd.prog 50 #[.int .u64 (kind.toNat : Int)] W (fun e w' => e = .returned (.agg #[.bool false, .string ⟨#[]⟩, .int .u64 (kind.toNat : Int)]) ∧ Below W.heap.size W w') from num_any kind W)
  have HK := Lib.hid (show ofK kind 1 k = (Cph.Ok.parts k.data.toList).bind (ofL kind 1) from rfl)
  have HP := Lib.hid (parts_any k (w.alloc boxZ) (by omega))
  cases hp : Cph.Ok.parts k.data.toList with
  | none =>
    rw [hp] at HP HK
    have HV := Lib.hid (show ofK kind 1 k = none from by rw [HK.out]; rfl)
    clear hp HK
    go_enter Tryd.func52, Tryd.ntmps52
    go_wp2_with fail
    refine HP.out.mono ?_
    rintro e w1 ⟨rfl, hb⟩
    have Z0 := (HZC.out w1 hb).c0
    have Z1 := (HZC.out w1 hb).c1
    have Z2 := (HZC.out w1 hb).c2
    have G0 := (HZC.out w1 hb).f0
    have G1 := (HZC.out w1 hb).f1
    have G2 := (HZC.out w1 hb).f2
    have HB := Lib.hid (below_step HB0.out hb HB0.out.size)
    clear hb
    go_wp2_with fail
    go_quiet (fail)
    go_wp2_with fail
    exact bodyPost_ret (v := encOf none) (by simp [results, Tryd.results52, go_sem, encOf, Z0, Z1, Z2]) rfl ⟨by rw [HV.out], by first | exact HB.out | exact HB.out.drew | exact below_set3 HB.out _ _ _ | exact below_set3 (below_step HB.out (bel_drewN _ _) HB.out.size) _ _ _⟩
  | some l =>
    rw [hp] at HP HK
    by_cases hl : l.length = 4
    · obtain ⟨a, b, c, d, rfl⟩ := list_four hl
      have HQ := Lib.hid (show ofK kind 1 k = ofL kind 1 [a, b, c, d] from by rw [HK.out]; rfl)
      have hqq : ∀ W, (binOp .neq 86 (.agg #[.bool a.text, .string a.s, .int .u64 (a.n.toNat : Int)]) (.agg #[.bool false, .string ⟨#[]⟩, .int .u64 (kind.toNat : Int)])).run Tryd.prog W = .ok (.bool (!(eqP a (numP kind)))) W := fun W => run_neqP a (numP kind) W
      have HSZ := Lib.hid (part_small (by omega) hp)
      have k4 : IntKind.i64.wrap 3 = 3 := rfl
      have k5 : IntKind.i64.wrap 4 = 4 := rfl
      clear hp HK hl
      go_enter Tryd.func52, Tryd.ntmps52
      go_wp2_with fail
      refine HP.out.mono ?_
      rintro e w1 ⟨⟨v, rfl, ho⟩, hb⟩
      have HBZ := Lib.hid hb
      have HB := Lib.hid (below_step HB0.out hb HB0.out.size)
      rw [show ([a, b, c, d] : List Pt).length = 4 from rfl] at ho
      obtain ⟨g, cap, rfl, hgb, hgw⟩ := ho.form (by decide)
      have HNE := Lib.hid (show ¬ g = w.heap.size from by rw [World.size_alloc] at hgb; omega)
      have HCL := Lib.hid (fun j u (h : ([a, b, c, d].flatMap encC)[j]? = some u) => show w1.cell? ((⟨g, 0, none⟩ : Addr).add j) = some u from ho.cells rfl j u h)
      have HGW := Lib.hid hgw
      have q0 : ∀ zz : Later w1.heap.size w1, zz.val.cell? ⟨g, 0, none⟩ = some (.bool a.text) := fun zz => Later.cell (HCL.out 0 _ rfl) HGW.out zz
      have q1 : ∀ zz : Later w1.heap.size w1, zz.val.cell? ⟨g, 1, none⟩ = some (.string a.s) := fun zz => Later.cell (HCL.out 1 _ rfl) HGW.out zz
      have q2 : ∀ zz : Later w1.heap.size w1, zz.val.cell? ⟨g, 2, none⟩ = some (.int .u64 (a.n.toNat : Int)) := fun zz => Later.cell (HCL.out 2 _ rfl) HGW.out zz
      have q3 : ∀ zz : Later w1.heap.size w1, zz.val.cell? ⟨g, 3, none⟩ = some (.bool b.text) := fun zz => Later.cell (HCL.out 3 _ rfl) HGW.out zz
      have q4 : ∀ zz : Later w1.heap.size w1, zz.val.cell? ⟨g, 4, none⟩ = some (.string b.s) := fun zz => Later.cell (HCL.out 4 _ rfl) HGW.out zz
      have q5 : ∀ zz : Later w1.heap.size w1, zz.val.cell? ⟨g, 5, none⟩ = some (.int .u64 (b.n.toNat : Int)) := fun zz => Later.cell (HCL.out 5 _ rfl) HGW.out zz
      have q6 : ∀ zz : Later w1.heap.size w1, zz.val.cell? ⟨g, 6, none⟩ = some (.bool c.text) := fun zz => Later.cell (HCL.out 6 _ rfl) HGW.out zz
      have q7 : ∀ zz : Later w1.heap.size w1, zz.val.cell? ⟨g, 7, none⟩ = some (.string c.s) := fun zz => Later.cell (HCL.out 7 _ rfl) HGW.out zz
      have q8 : ∀ zz : Later w1.heap.size w1, zz.val.cell? ⟨g, 8, none⟩ = some (.int .u64 (c.n.toNat : Int)) := fun zz => Later.cell (HCL.out 8 _ rfl) HGW.out zz
      have q9 : ∀ zz : Later w1.heap.size w1, zz.val.cell? ⟨g, 9, none⟩ = some (.bool d.text) := fun zz => Later.cell (HCL.out 9 _ rfl) HGW.out zz
      have q10 : ∀ zz : Later w1.heap.size w1, zz.val.cell? ⟨g, 10, none⟩ = some (.string d.s) := fun zz => Later.cell (HCL.out 10 _ rfl) HGW.out zz
      have q11 : ∀ zz : Later w1.heap.size w1, zz.val.cell? ⟨g, 11, none⟩ = some (.int .u64 (d.n.toNat : Int)) := fun zz => Later.cell (HCL.out 11 _ rfl) HGW.out zz
      clear hb ho HP hgw hgb
      by_cases e1 : eqP a (numP kind) = true
      · rw [e1] at hqq
        by_cases e2 : b.n.toNat ≤ 6
        · have e2i : ¬ (6 : Int) < (b.n.toNat : Int) := by omega
          have e2d : decide ((6 : Int) < (b.n.toNat : Int)) = false := decide_eq_false e2i
          cases e3 : c.text with
          | true =>
            rw [e3] at q6
            go_wp2_with fail
            refine wp_region_later w1.heap.size (by kernel_rfl) (by kernel_rfl) ?_
            repeat (go_big_quiet_step ((go_at_call 50; exact Later.calls (Nat.le_refl _) (HNK.out _))))
            refine wpQuiet_nil ?_
            rintro wq ⟨zz, rfl⟩
            have HBQ := Lib.hid (below_step HB.out zz.prop HB.out.size)
            have HBY := Lib.hid (below_step HBZ.out zz.prop HBZ.out.size)
            have r5 := q5 zz
            have r7 := q7 zz
            have r9 := q9 zz
            have r11 := q11 zz
            clear q0 q1 q2 q3 q4 q5 q6 q7 q8 q9 q10 q11
            generalize zz.val = wq at *
            have Z0 := (HZC.out wq HBY.out).c0
            have Z1 := (HZC.out wq HBY.out).c1
            have Z2 := (HZC.out wq HBY.out).c2
            have G0 := (HZC.out wq HBY.out).f0
            have G1 := (HZC.out wq HBY.out).f1
            have G2 := (HZC.out wq HBY.out).f2
            have HBQd := Lib.hid HBQ.out.drew
            have HBYd := Lib.hid HBY.out.drew
            have HCS := Lib.hid (HSZ.out c (by simp))
            have HFB := Lib.hid (fun (W : World) => fromBytes b.n.toUInt8 c.s W (Nat.le_trans HCS.out (by decide)))
            have kf := u8_conv b.n
            obtain ⟨fam, hfam⟩ : ∃ fam, fam = b.n.toUInt8 := ⟨_, rfl⟩
            rw [← hfam] at HFB kf
            have HFA := Lib.hid hfam
            have s5 : wq.drew.cell? ⟨g, 5, none⟩ = some (.int .u64 (b.n.toNat : Int)) := r5
            have s7 : wq.drew.cell? ⟨g, 7, none⟩ = some (.string c.s) := r7
            obtain ⟨x, hx⟩ : ∃ x, x = fromB fam c.s.data.toList := ⟨_, rfl⟩
            have HX := Lib.hid hx
            unfold encFB at HFB
            rw [← hx] at HFB
            have HE2 := Lib.hid e2
            have HE1 := Lib.hid e1
            clear hfam hx
            obtain ⟨f, hi, lo⟩ := x
            cases hfo : fromOk fam c.s.size with
            | false =>
              rw [hfo] at HFB
              have HV := Lib.hid (show ofK kind 1 k = none from by rw [HQ.out]; unfold ofL; dsimp only; rw [if_neg]; rintro ⟨-, -, -, -, h⟩; rw [← HFA.out, hfo] at h; cases h)
              clear hfo
              go_wp2_with fail
              go_region_with (go_at_call 66; refine (HFB.out _).mono ?_; rintro r u ⟨rfl, hb⟩; have HBV := Lib.hid (below_step HBYd.out hb HBYd.out.size); have HBU := Lib.hid (below_step HBQd.out hb HBQd.out.size); clear hb Z0 Z1 Z2 G0 G1 G2; have Z0 := (HZC.out _ HBV.out).c0; have Z1 := (HZC.out _ HBV.out).c1; have Z2 := (HZC.out _ HBV.out).c2; have G0 := (HZC.out _ HBV.out).f0; have G1 := (HZC.out _ HBV.out).f1; have G2 := (HZC.out _ HBV.out).f2)
              all_goals
                go_wp2_with fail
                exact bodyPost_ret (v := encOf none) (by simp (maxDischargeDepth := 8) [results, Tryd.results52, go_sem, encOf, Z0, Z1, Z2]) rfl ⟨by rw [HV.out], by exact below_set3 (below_set3 HBU.out _ _ _) _ _ _⟩
            | true =>
              rw [hfo] at HFB
              have s9 : wq.drew.cell? ⟨g, 9, none⟩ = some (.bool d.text) := r9
              have s11 : wq.drew.cell? ⟨g, 11, none⟩ = some (.int .u64 (d.n.toNat : Int)) := r11
              have hne1 : ¬ g = w.heap.size := HNE.out
              have hne2 : ¬ w.heap.size = g := fun h => HNE.out h.symm
              cases ht : d.text with
              | true =>
                have HV := Lib.hid (show ofK kind 1 k = none from by rw [HQ.out]; unfold ofL; dsimp only; rw [if_pos ⟨rfl, HE1.out, HE2.out, e3, by rw [← HFA.out]; exact hfo⟩, if_pos ht])
                rw [ht] at s9 r9
                clear hfo ht
                go_wp2_with fail
                go_region_with (go_at_call 66; refine (HFB.out _).mono ?_; rintro r u ⟨rfl, hb⟩; have HBV := Lib.hid (below_step HBYd.out hb HBYd.out.size); have HBU := Lib.hid (below_step HBQd.out hb HBQd.out.size); have HKB := Lib.hid hb; clear hb Z0 Z1 Z2 G0 G1 G2; have Z0 := (HZC.out _ HBV.out).c0; have Z1 := (HZC.out _ HBV.out).c1; have Z2 := (HZC.out _ HBV.out).c2; have G0 := (HZC.out _ HBV.out).f0; have G1 := (HZC.out _ HBV.out).f1; have G2 := (HZC.out _ HBV.out).f2; have u9 := Go.Cph.cell_kept HKB.out s9; have u11 := Go.Cph.cell_kept HKB.out s11)
                all_goals
                  go_wp2_with fail
                  exact bodyPost_ret (v := encOf none) (by simp (maxDischargeDepth := 8) [results, Tryd.results52, go_sem, encOf, Z0, Z1, Z2]) rfl ⟨by rw [HV.out], by exact below_set3 (below_set3 HBU.out _ _ _) _ _ _⟩
              | false =>
                have HV := Lib.hid (show ofK kind 1 k = some ((f, hi, lo), d.n) from by rw [HQ.out, HX.out]; unfold ofL; dsimp only; rw [if_pos ⟨rfl, HE1.out, HE2.out, e3, by rw [← HFA.out]; exact hfo⟩, if_neg (by rw [ht]; exact Bool.false_ne_true), HFA.out])
                rw [ht] at s9 r9
                clear hfo ht
                go_wp2_with fail
                go_region_with (go_at_call 66; refine (HFB.out _).mono ?_; rintro r u ⟨rfl, hb⟩; have HBV := Lib.hid (below_step HBYd.out hb HBYd.out.size); have HBU := Lib.hid (below_step HBQd.out hb HBQd.out.size); have HKB := Lib.hid hb; clear hb Z0 Z1 Z2 G0 G1 G2; have Z0 := (HZC.out _ HBV.out).c0; have Z1 := (HZC.out _ HBV.out).c1; have Z2 := (HZC.out _ HBV.out).c2; have G0 := (HZC.out _ HBV.out).f0; have G1 := (HZC.out _ HBV.out).f1; have G2 := (HZC.out _ HBV.out).f2; have u9 := Go.Cph.cell_kept HKB.out s9; have u11 := Go.Cph.cell_kept HKB.out s11)
                all_goals
                  go_wp2_with fail
                  exact bodyPost_ret (v := encOf (some ((f, hi, lo), d.n))) (by simp (maxDischargeDepth := 8) [results, Tryd.results52, go_sem, encOf, Z0, Z1, Z2]) rfl ⟨by rw [HV.out], by exact below_set3 (below_set3 HBU.out _ _ _) _ _ _⟩
          | false =>
            have HV := Lib.hid (show ofK kind 1 k = none from by rw [HQ.out]; unfold ofL; dsimp only; rw [if_neg]; rintro ⟨-, -, -, h, -⟩; rw [e3] at h; cases h)
            rw [e3] at q6
            go_wp2_with fail
            refine wp_region_later w1.heap.size (by kernel_rfl) (by kernel_rfl) ?_
            repeat (go_big_quiet_step ((go_at_call 50; exact Later.calls (Nat.le_refl _) (HNK.out _))))
            refine wpQuiet_nil ?_
            rintro wq ⟨zz, rfl⟩
            have HBQ := Lib.hid (below_step HB.out zz.prop HB.out.size)
            have HBY := Lib.hid (below_step HBZ.out zz.prop HBZ.out.size)
            clear q0 q1 q2 q3 q4 q5 q6 q7 q8 q9 q10 q11
            generalize zz.val = wq at *
            have Z0 := (HZC.out wq HBY.out).c0
            have Z1 := (HZC.out wq HBY.out).c1
            have Z2 := (HZC.out wq HBY.out).c2
            have G0 := (HZC.out wq HBY.out).f0
            have G1 := (HZC.out wq HBY.out).f1
            have G2 := (HZC.out wq HBY.out).f2
            go_wp2_with fail
            exact bodyPost_ret (v := encOf none) (by simp [results, Tryd.results52, go_sem, encOf, Z0, Z1, Z2]) rfl ⟨by rw [HV.out], by first | exact HBQ.out | exact below_set3 HBQ.out _ _ _⟩
        · have e2i : (6 : Int) < (b.n.toNat : Int) := by omega
          have e2d : decide ((6 : Int) < (b.n.toNat : Int)) = true := decide_eq_true e2i
          have HV := Lib.hid (show ofK kind 1 k = none from by rw [HQ.out]; unfold ofL; dsimp only; rw [if_neg]; rintro ⟨-, -, h, -⟩; exact e2 h)
          clear e2
          go_wp2_with fail
          refine wp_region_later w1.heap.size (by kernel_rfl) (by kernel_rfl) ?_
          repeat (go_big_quiet_step ((go_at_call 50; exact Later.calls (Nat.le_refl _) (HNK.out _))))
          refine wpQuiet_nil ?_
          rintro wq ⟨zz, rfl⟩
          have HBQ := Lib.hid (below_step HB.out zz.prop HB.out.size)
          have HBY := Lib.hid (below_step HBZ.out zz.prop HBZ.out.size)
          clear q0 q1 q2 q3 q4 q5 q6 q7 q8 q9 q10 q11
          generalize zz.val = wq at *
          have Z0 := (HZC.out wq HBY.out).c0
          have Z1 := (HZC.out wq HBY.out).c1
          have Z2 := (HZC.out wq HBY.out).c2
          have G0 := (HZC.out wq HBY.out).f0
          have G1 := (HZC.out wq HBY.out).f1
          have G2 := (HZC.out wq HBY.out).f2
          go_wp2_with fail
          exact bodyPost_ret (v := encOf none) (by simp [results, Tryd.results52, go_sem, encOf, Z0, Z1, Z2]) rfl ⟨by rw [HV.out], by first | exact HBQ.out | exact below_set3 HBQ.out _ _ _⟩
      · have HV := Lib.hid (show ofK kind 1 k = none from by rw [HQ.out]; unfold ofL; dsimp only; rw [if_neg]; rintro ⟨-, h, -⟩; exact e1 h)
        rw [Bool.not_eq_true] at e1
        rw [e1] at hqq
        go_wp2_with fail
        refine wp_region_later w1.heap.size (by kernel_rfl) (by kernel_rfl) ?_
        repeat (go_big_quiet_step ((go_at_call 50; exact Later.calls (Nat.le_refl _) (HNK.out _))))
        refine wpQuiet_nil ?_
        rintro wq ⟨zz, rfl⟩
        have HBQ := Lib.hid (below_step HB.out zz.prop HB.out.size)
        have HBY := Lib.hid (below_step HBZ.out zz.prop HBZ.out.size)
        clear q0 q1 q2 q3 q4 q5 q6 q7 q8 q9 q10 q11
        generalize zz.val = wq at *
        have Z0 := (HZC.out wq HBY.out).c0
        have Z1 := (HZC.out wq HBY.out).c1
        have Z2 := (HZC.out wq HBY.out).c2
        have G0 := (HZC.out wq HBY.out).f0
        have G1 := (HZC.out wq HBY.out).f1
        have G2 := (HZC.out wq HBY.out).f2
        go_wp2_with fail
        exact bodyPost_ret (v := encOf none) (by simp [results, Tryd.results52, go_sem, encOf, Z0, Z1, Z2]) rfl ⟨by rw [HV.out], by first | exact HBQ.out | exact below_set3 HBQ.out _ _ _⟩
    · have HV := Lib.hid (show ofK kind 1 k = none from by rw [HK.out]; exact ofL_len (more := 1) (by omega))
      have k1 : ((l.length : Int) == 4) = false := by simp; omega
      have k2 : ¬ (l.length : Int) = 4 := by omega
      have k3 : ((l.length : Int) != 4) = true := by simp; omega
      have k4 : IntKind.i64.wrap 3 = 3 := rfl
      have k5 : IntKind.i64.wrap 4 = 4 := rfl
      clear hp HK hl
      go_enter Tryd.func52, Tryd.ntmps52
      go_wp2_with fail
      refine HP.out.mono ?_
      rintro e w1 ⟨⟨v, rfl, ho⟩, hb⟩
      have Z0 := (HZC.out w1 hb).c0
      have Z1 := (HZC.out w1 hb).c1
      have Z2 := (HZC.out w1 hb).c2
      have G0 := (HZC.out w1 hb).f0
      have G1 := (HZC.out w1 hb).f1
      have G2 := (HZC.out w1 hb).f2
      have HB := Lib.hid (below_step HB0.out hb HB0.out.size)
      obtain ⟨oo, oc, hov⟩ := owns_slice1 ho
      subst hov
      clear hb ho
      go_wp2_with fail
      go_quiet (fail)
      go_wp2_with fail
      exact bodyPost_ret (v := encOf none) (by simp [results, Tryd.results52, go_sem, encOf, Z0, Z1, Z2]) rfl ⟨by rw [HV.out], by first | exact HB.out | exact HB.out.drew | exact below_set3 HB.out _ _ _ | exact below_set3 (below_step HB.out (bel_drewN _ _) HB.out.size) _ _ _⟩
end Go.Proofs.Tryd.Rows
