/- The document's rows: values read. -/
import Derived.Test.YtccopljpceolcaaDoorRoT
import Derived.Test.YtccopljpceolcaaDoorRoP
set_option linter.unusedVariables false
set_option linter.unusedSimpArgs false
set_option maxRecDepth 100000
namespace Go.Proofs.Tryd.Rows
open Go.RowKit Go.Cph Go.Cph.Ok Go.Proofs.Tryd.Nu Go.Proofs.Tryd.Ok
theorem ba_ne2 {a b : ByteArray} (h : ¬ a = b) : (a.toList == b.toList) = false := by
  refine beq_eq_false_iff_ne.2 fun e => h (list_eq ?_)
  rw [← ByteArray.toList_eq, ← ByteArray.toList_eq, e]
theorem ba_eq2 {a b : ByteArray} (h : a = b) : (a.toList == b.toList) = true := by rw [h]; simp
abbrev boxV0 : Obj := .cells #[.int .i64 0, .string ⟨#[]⟩, .int .u64 0, .int .u64 0, .bool false] 78 (0, 0)
structure ZeroV (w : World) (b : Nat) : Prop where
  c0 : w.cell? ⟨b, 0, none⟩ = some (.int .i64 0)
  c1 : w.cell? ⟨b, 1, none⟩ = some (.string ⟨#[]⟩)
  c2 : w.cell? ⟨b, 2, none⟩ = some (.int .u64 0)
  c3 : w.cell? ⟨b, 3, none⟩ = some (.int .u64 0)
  c4 : w.cell? ⟨b, 4, none⟩ = some (.bool false)
  f0 : w.frozen? ⟨b, 0, none⟩ = false
  f1 : w.frozen? ⟨b, 1, none⟩ = false
  f2 : w.frozen? ⟨b, 2, none⟩ = false
  f3 : w.frozen? ⟨b, 3, none⟩ = false
  f4 : w.frozen? ⟨b, 4, none⟩ = false
theorem zeroV_of {w : World} {b : Nat} (h : w.heap[b]? = some boxV0) : ZeroV w b := ⟨by rw [blk_cell h]; rfl, by rw [blk_cell h]; rfl, by rw [blk_cell h]; rfl, by rw [blk_cell h]; rfl, by rw [blk_cell h]; rfl, by rw [blk_frozen h]; rfl, by rw [blk_frozen h]; rfl, by rw [blk_frozen h]; rfl, by rw [blk_frozen h]; rfl, by rw [blk_frozen h]; rfl⟩
theorem below_set5 {w W : World} (h : Below w.heap.size w W) (x y z u v : Value) : Below w.heap.size w (((((W.setCell ⟨w.heap.size, 0, none⟩ x).setCell ⟨w.heap.size, 1, none⟩ y).setCell ⟨w.heap.size, 2, none⟩ z).setCell ⟨w.heap.size, 3, none⟩ u).setCell ⟨w.heap.size, 4, none⟩ v) :=
  ((((h.setCell (p := ⟨w.heap.size, 0, none⟩) (Nat.le_refl _) x).setCell (p := ⟨w.heap.size, 1, none⟩) (Nat.le_refl _) y).setCell (p := ⟨w.heap.size, 2, none⟩) (Nat.le_refl _) z).setCell (p := ⟨w.heap.size, 3, none⟩) (Nat.le_refl _) u).setCell (p := ⟨w.heap.size, 4, none⟩) (Nat.le_refl _) v
def encVal (h : Int) (t : ByteArray) (a u : UInt64) (ok : Bool) : Value := .agg #[.int .i64 h, .string t, .int .u64 (a.toNat : Int), .int .u64 (u.toNat : Int), .bool ok]
def valN : Option UInt64 → Value
  | none => .agg #[.int .i64 0, .string ⟨#[]⟩, .int .u64 0, .int .u64 0, .bool false]
  | some n => .agg #[.int .i64 0, .string ⟨#[]⟩, .int .u64 0, .int .u64 (n.toNat : Int), .bool true]
def valL : Option (ByteArray × UInt64) → Value
  | none => .agg #[.int .i64 0, .string ⟨#[]⟩, .int .u64 0, .int .u64 0, .bool false]
  | some (t, n) => .agg #[.int .i64 0, .string t, .int .u64 0, .int .u64 (n.toNat : Int), .bool true]
def valE : Option (UInt64 × ByteArray × UInt64 × UInt64) → Value
  | none => .agg #[.int .i64 0, .string ⟨#[]⟩, .int .u64 0, .int .u64 0, .bool false]
  | some (h, t, a, u) => .agg #[.int .i64 (h.toNat : Int), .string t, .int .u64 (a.toNat : Int), .int .u64 (u.toNat : Int), .bool true]
def valK : Option (UInt64 × ByteArray) → Value
  | none => .agg #[.int .i64 0, .string ⟨#[]⟩, .int .u64 0, .int .u64 0, .bool false]
  | some (n, t) => .agg #[.int .i64 0, .string t, .int .u64 0, .int .u64 (n.toNat : Int), .bool true]
set_option maxHeartbeats 1600000 in
theorem rrdText (s : ByteArray) (most : Nat) (w : World) (hs : s.size ≤ 1000000) (hm : most ≤ 1000000) : Calls Tryd.prog 85 #[.string s, .int .i64 (most : Int)] w fun e w' => e = .returned (encRT2 (rtextS s most)) ∧ Below w.heap.size w w' := by
  have HV := Lib.hid (fun (W : World) => rreadVar_any s W (by omega))
  have m1 : IntKind.u64.wrap (s.size : Int) = (s.size : Int) := by rw [IntKind.wrap_u64]; omega
  cases hr : readRow s.data.toList with
  | none =>
    rw [hr] at HV
    have HQ := Lib.hid (show rtextS s most = none from by unfold rtextS; rw [hr])
    clear hr
    go_enter Tryd.func85, Tryd.ntmps85
    go_wp2_with fail
    refine (HV.out _).mono ?_
    rintro e w1 ⟨rfl, hb⟩
    have HB := Lib.hid hb
    clear hb
    unfold encRV
    go_wp2_with fail
    exact bodyPost_ret (v := .tuple #[.string ⟨#[]⟩, .int .i64 0, .bool false]) (by simp [results, Tryd.results85, go_sem]) rfl ⟨(by rw [HQ.out]; rfl), HB.out⟩
  | some x =>
    obtain ⟨n, k⟩ := x
    rw [hr] at HV
    obtain ⟨hk1, hk2, hk3, hk4⟩ := row_read hr
    rw [← Go.Lib.size_eq] at hk2
    have HQ := Lib.hid (show rtextS s most = if n ≤ most ∧ k + n ≤ s.size then some (s.extract k (k + n), k + n) else none from by unfold rtextS; rw [hr])
    by_cases h1 : n ≤ s.size
    · have c1 : ¬ (s.size : Int) < (n : Int) := by omega
      have c2 : decide (s.size < n) = false := decide_eq_false (by omega)
      obtain ⟨e, he⟩ : ∃ e, e = k + n := ⟨_, rfl⟩
      have k3 : IntKind.i64.wrap (n : Int) = (n : Int) := by rw [IntKind.wrap_i64]; omega
      have k4 : IntKind.i64.wrap ((k : Int) + (n : Int)) = (e : Int) := by rw [IntKind.wrap_i64]; omega
      by_cases h2 : e ≤ s.size
      · have k5 : ¬ (s.size : Int) < (e : Int) := by omega
        have k5b : decide (s.size < e) = false := decide_eq_false (by omega)
        by_cases h3 : n ≤ most
        · have k8 : ¬ (most : Int) < (n : Int) := by omega
          have k8b : decide (most < n) = false := decide_eq_false (by omega)
          have k6 : (e : Int) ≤ (s.size : Int) := by omega
          have k7 : (0 : Int) ≤ (k : Int) := by omega
          have k9 : (k : Int) ≤ (e : Int) := by omega
          have HQ2 := Lib.hid (show rtextS s most = some (s.extract k e, e) from by rw [HQ.out, if_pos ⟨h3, by omega⟩, he])
          clear HQ hr hk1 hk2 hk3 hk4 he h1 h2 h3 hm hs
          go_enter Tryd.func85, Tryd.ntmps85
          go_wp2_with fail
          refine (HV.out _).mono ?_
          rintro e w1 ⟨rfl, hb⟩
          have HB := Lib.hid hb
          clear hb
          unfold encRV
          go_wp2_with fail
          exact bodyPost_ret (v := .tuple #[.string (s.extract k e), .int .i64 (e : Int), .bool true]) (by simp [results, Tryd.results85, go_sem]) rfl ⟨(by rw [HQ2.out]; rfl), HB.out⟩
        · have k8 : (most : Int) < (n : Int) := by omega
          have k8b : decide (most < n) = true := decide_eq_true (by omega)
          have HQ2 := Lib.hid (show rtextS s most = none from by rw [HQ.out, if_neg (fun h => h3 h.1)])
          clear HQ hr hk1 hk2 hk3 hk4 he h1 h2 h3 hm hs
          go_enter Tryd.func85, Tryd.ntmps85
          go_wp2_with fail
          refine (HV.out _).mono ?_
          rintro e w1 ⟨rfl, hb⟩
          have HB := Lib.hid hb
          clear hb
          unfold encRV
          go_wp2_with fail
          exact bodyPost_ret (v := .tuple #[.string ⟨#[]⟩, .int .i64 0, .bool false]) (by simp [results, Tryd.results85, go_sem]) rfl ⟨(by rw [HQ2.out]; rfl), HB.out⟩
      · have k5 : (s.size : Int) < (e : Int) := by omega
        have k5b : decide (s.size < e) = true := decide_eq_true (by omega)
        have HQ2 := Lib.hid (show rtextS s most = none from by rw [HQ.out, if_neg (fun h => by omega)])
        clear HQ hr hk1 hk2 hk3 hk4 he h1 h2 hm hs
        go_enter Tryd.func85, Tryd.ntmps85
        go_wp2_with fail
        refine (HV.out _).mono ?_
        rintro e w1 ⟨rfl, hb⟩
        have HB := Lib.hid hb
        clear hb
        unfold encRV
        go_wp2_with fail
        exact bodyPost_ret (v := .tuple #[.string ⟨#[]⟩, .int .i64 0, .bool false]) (by simp [results, Tryd.results85, go_sem]) rfl ⟨(by rw [HQ2.out]; rfl), HB.out⟩
    · have c1 : (s.size : Int) < (n : Int) := by omega
      have c2 : decide (s.size < n) = true := decide_eq_true (by omega)
      have HQ2 := Lib.hid (show rtextS s most = none from by rw [HQ.out, if_neg (fun h => by omega)])
      clear HQ hr hk1 hk2 hk3 hk4 h1 hm hs
      go_enter Tryd.func85, Tryd.ntmps85
      go_wp2_with fail
      refine (HV.out _).mono ?_
      rintro e w1 ⟨rfl, hb⟩
      have HB := Lib.hid hb
      clear hb
      unfold encRV
      go_wp2_with fail
      exact bodyPost_ret (v := .tuple #[.string ⟨#[]⟩, .int .i64 0, .bool false]) (by simp [results, Tryd.results85, go_sem]) rfl ⟨(by rw [HQ2.out]; rfl), HB.out⟩
set_option maxHeartbeats 1600000 in
theorem rreadNumber (s : ByteArray) (w : World) (hs : s.size ≤ 1000000) : Calls Tryd.prog 48 #[.string s] w fun e w' => e = .returned (valN (readNumS s)) ∧ Below w.heap.size w w' := by
  have HB0 := Lib.hid (show Below w.heap.size w (w.alloc boxV0) from (Below.refl _ _).alloc (Nat.le_refl _) _)
  have HX := Lib.hid (heap_alloc_new w boxV0)
  have HV := Lib.hid (fun (W : World) => rreadVar_any s W (by omega))
  cases hr : readRow s.data.toList with
  | none =>
    rw [hr] at HV
    have HQ := Lib.hid (show readNumS s = none from by unfold readNumS; rw [hr])
    clear hr
    go_enter Tryd.func48, Tryd.ntmps48
    go_wp2_with fail
    refine (HV.out _).mono ?_
    rintro e w1 ⟨rfl, hb⟩
    have HB := Lib.hid (below_step HB0.out hb HB0.out.size)
    have HXA := Lib.hid (blk_kept hb HX.out)
    clear hb
    have Z0 := (zeroV_of HXA.out).c0
    have G0 := (zeroV_of HXA.out).f0
    have Z1 := (zeroV_of HXA.out).c1
    have G1 := (zeroV_of HXA.out).f1
    have Z2 := (zeroV_of HXA.out).c2
    have G2 := (zeroV_of HXA.out).f2
    have Z3 := (zeroV_of HXA.out).c3
    have G3 := (zeroV_of HXA.out).f3
    have Z4 := (zeroV_of HXA.out).c4
    have G4 := (zeroV_of HXA.out).f4
    unfold encRV
    go_wp2_with fail
    exact bodyPost_ret (v := .agg #[.int .i64 0, .string ⟨#[]⟩, .int .u64 0, .int .u64 0, .bool false]) (by simp (maxDischargeDepth := 10) [results, Tryd.results48, go_sem, Z0, Z1, Z2, Z3, Z4]) rfl ⟨(by rw [HQ.out]; rfl), by first | exact HB.out | exact below_set5 HB.out _ _ _ _ _⟩
  | some x =>
    obtain ⟨n, k⟩ := x
    rw [hr] at HV
    obtain ⟨hk1, hk2, hk3, hk4⟩ := row_read hr
    have HQ := Lib.hid (show readNumS s = if k = s.size then some (UInt64.ofNat n) else none from by unfold readNumS; rw [hr])
    have HN := Lib.hid (show ((UInt64.ofNat n).toNat : Int) = (n : Int) from by rw [UInt64.toNat_ofNat', Nat.mod_eq_of_lt hk4])
    by_cases h : k = s.size
    · have c1 : (k : Int) = (s.size : Int) := by omega
      have c2 : ((k : Int) == (s.size : Int)) = true := by rw [c1]; simp
      have c3 : (k == s.size) = true := by rw [h]; simp
      have HQ2 := Lib.hid (show readNumS s = some (UInt64.ofNat n) from by rw [HQ.out, if_pos h])
      clear HQ hr hk1 hk2 hk3 hk4 h c1
      go_enter Tryd.func48, Tryd.ntmps48
      go_wp2_with fail
      refine (HV.out _).mono ?_
      rintro e w1 ⟨rfl, hb⟩
      have HB := Lib.hid (below_step HB0.out hb HB0.out.size)
      have HXA := Lib.hid (blk_kept hb HX.out)
      clear hb
      have Z0 := (zeroV_of HXA.out).c0
      have G0 := (zeroV_of HXA.out).f0
      have Z1 := (zeroV_of HXA.out).c1
      have G1 := (zeroV_of HXA.out).f1
      have Z2 := (zeroV_of HXA.out).c2
      have G2 := (zeroV_of HXA.out).f2
      have Z3 := (zeroV_of HXA.out).c3
      have G3 := (zeroV_of HXA.out).f3
      have Z4 := (zeroV_of HXA.out).c4
      have G4 := (zeroV_of HXA.out).f4
      unfold encRV
      go_wp2_with fail
      exact bodyPost_ret (v := .agg #[.int .i64 0, .string ⟨#[]⟩, .int .u64 0, .int .u64 (n : Int), .bool true]) (by simp (maxDischargeDepth := 10) [results, Tryd.results48, go_sem, Z0, Z1, Z2, Z3, Z4]) rfl ⟨(by rw [HQ2.out]; show _ = Ending.returned (.agg #[.int .i64 0, .string ⟨#[]⟩, .int .u64 0, .int .u64 ((UInt64.ofNat n).toNat : Int), .bool true]); rw [HN.out]), by first | exact HB.out | exact below_set5 HB.out _ _ _ _ _⟩
    · have c1 : ¬ (k : Int) = (s.size : Int) := by omega
      have c2 : ((k : Int) == (s.size : Int)) = false := beq_eq_false_iff_ne.2 c1
      have c3 : (k == s.size) = false := beq_eq_false_iff_ne.2 h
      have HQ2 := Lib.hid (show readNumS s = none from by rw [HQ.out, if_neg h])
      clear HQ hr hk1 hk2 hk3 hk4 h c1
      go_enter Tryd.func48, Tryd.ntmps48
      go_wp2_with fail
      refine (HV.out _).mono ?_
      rintro e w1 ⟨rfl, hb⟩
      have HB := Lib.hid (below_step HB0.out hb HB0.out.size)
      have HXA := Lib.hid (blk_kept hb HX.out)
      clear hb
      have Z0 := (zeroV_of HXA.out).c0
      have G0 := (zeroV_of HXA.out).f0
      have Z1 := (zeroV_of HXA.out).c1
      have G1 := (zeroV_of HXA.out).f1
      have Z2 := (zeroV_of HXA.out).c2
      have G2 := (zeroV_of HXA.out).f2
      have Z3 := (zeroV_of HXA.out).c3
      have G3 := (zeroV_of HXA.out).f3
      have Z4 := (zeroV_of HXA.out).c4
      have G4 := (zeroV_of HXA.out).f4
      unfold encRV
      go_wp2_with fail
      exact bodyPost_ret (v := .agg #[.int .i64 0, .string ⟨#[]⟩, .int .u64 0, .int .u64 0, .bool false]) (by simp (maxDischargeDepth := 10) [results, Tryd.results48, go_sem, Z0, Z1, Z2, Z3, Z4]) rfl ⟨(by rw [HQ2.out]; rfl), by first | exact HB.out | exact below_set5 HB.out _ _ _ _ _⟩
set_option maxHeartbeats 1600000 in
theorem rreadClient (s : ByteArray) (w : World) (hs : s.size ≤ 1000000) : Calls Tryd.prog 51 #[.string s] w fun e w' => e = .returned (valK (readClientS s)) ∧ Below w.heap.size w w' := by
  have HB0 := Lib.hid (show Below w.heap.size w (w.alloc boxV0) from (Below.refl _ _).alloc (Nat.le_refl _) _)
  have HX := Lib.hid (heap_alloc_new w boxV0)
  have HV := Lib.hid (fun (W : World) => rreadVar_any s W (by omega))
  cases hr : readRow s.data.toList with
  | none =>
    rw [hr] at HV
    have HQ := Lib.hid (show readClientS s = none from by unfold readClientS numsS readVarsS; rw [hr]; rfl)
    clear hr
    go_enter Tryd.func51, Tryd.ntmps51
    go_wp2_with fail
    refine (HV.out _).mono ?_
    rintro e w1 ⟨rfl, hb⟩
    have HB := Lib.hid (below_step HB0.out hb HB0.out.size)
    have HXA := Lib.hid (blk_kept hb HX.out)
    clear hb
    unfold encRV
    have Z0 := (zeroV_of HXA.out).c0
    have G0 := (zeroV_of HXA.out).f0
    have Z1 := (zeroV_of HXA.out).c1
    have G1 := (zeroV_of HXA.out).f1
    have Z2 := (zeroV_of HXA.out).c2
    have G2 := (zeroV_of HXA.out).f2
    have Z3 := (zeroV_of HXA.out).c3
    have G3 := (zeroV_of HXA.out).f3
    have Z4 := (zeroV_of HXA.out).c4
    have G4 := (zeroV_of HXA.out).f4
    go_wp2_with fail
    exact bodyPost_ret (v := .agg #[.int .i64 0, .string ⟨#[]⟩, .int .u64 0, .int .u64 0, .bool false]) (by simp (maxDischargeDepth := 10) [results, Tryd.results51, go_sem, Z0, Z1, Z2, Z3, Z4]) rfl ⟨(by rw [HQ.out]; rfl), by first | exact HB.out | exact below_set5 HB.out _ _ _ _ _⟩
  | some x =>
    obtain ⟨n, k⟩ := x
    rw [hr] at HV
    obtain ⟨hk1, hk2, hk3, hk4⟩ := row_read hr
    rw [← Go.Lib.size_eq] at hk2
    obtain ⟨u, hu⟩ : ∃ u : UInt64, u.toNat = n := ⟨UInt64.ofNat n, by rw [UInt64.toNat_ofNat', Nat.mod_eq_of_lt hk4]⟩
    subst hu
    obtain ⟨r, hrr⟩ : ∃ r, r = s.extract k s.size := ⟨_, rfl⟩
    have hz : r.size ≤ s.size := by rw [hrr, ByteArray.size_extract]; omega
    have hv : readVarsS 1 s = some ([u], r) := by
      unfold readVarsS; rw [hr]
      show (readVarsS 0 (s.extract k s.size)).map (fun x => (UInt64.ofNat u.toNat :: x.1, x.2)) = _
      rw [UInt64.ofNat_toNat, hrr]; rfl
    have HQ := Lib.hid (show readClientS s = ((rtextS r 480).bind fun y => if y.2 = r.size then some ([u], y.1) else none).bind fun x => clientLL x.2 x.1 from by unfold readClientS numsS; rw [hv]; rfl)
    have HRR := Lib.hid hrr
    have HT := Lib.hid (fun (W : World) => show Calls Tryd.prog 85 #[.string (s.extract k s.size), .int .i64 480] W (fun e w' => e = .returned (encRT2 (rtextS r 480)) ∧ Below W.heap.size W w') from by rw [← hrr]; exact rrdText r 480 W (by omega) (by decide))
    have q1 : (0 : Int) ≤ (k : Int) := by omega
    have q2 : (k : Int) ≤ (s.size : Int) := by omega
    cases ht : rtextS r 480 with
    | none =>
      rw [ht] at HT HQ
      have HQ2 := Lib.hid (show readClientS s = none from HQ.out)
      unfold encRT2 at HT
      clear hr hk1 hk2 hk3 hk4 hz hv ht hrr hs HQ
      go_enter Tryd.func51, Tryd.ntmps51
      go_wp2_with fail
      refine (HV.out _).mono ?_
      rintro e w1 ⟨rfl, hb⟩
      have HB := Lib.hid (below_step HB0.out hb HB0.out.size)
      have HXA := Lib.hid (blk_kept hb HX.out)
      clear hb
      unfold encRV
      go_wp2_with fail
      refine (HT.out _).mono ?_
      rintro e w2 ⟨rfl, hb⟩
      replace HB := Lib.hid (below_step HB.out hb HB.out.size)
      replace HXA := Lib.hid (blk_kept hb HXA.out)
      clear hb
      have Z0 := (zeroV_of HXA.out).c0
      have G0 := (zeroV_of HXA.out).f0
      have Z1 := (zeroV_of HXA.out).c1
      have G1 := (zeroV_of HXA.out).f1
      have Z2 := (zeroV_of HXA.out).c2
      have G2 := (zeroV_of HXA.out).f2
      have Z3 := (zeroV_of HXA.out).c3
      have G3 := (zeroV_of HXA.out).f3
      have Z4 := (zeroV_of HXA.out).c4
      have G4 := (zeroV_of HXA.out).f4
      go_wp2_with fail
      exact bodyPost_ret (v := .agg #[.int .i64 0, .string ⟨#[]⟩, .int .u64 0, .int .u64 0, .bool false]) (by simp (maxDischargeDepth := 10) [results, Tryd.results51, go_sem, Z0, Z1, Z2, Z3, Z4]) rfl ⟨(by rw [HQ2.out]; rfl), by first | exact HB.out | exact below_set5 HB.out _ _ _ _ _⟩
    | some y =>
      obtain ⟨t, z⟩ := y
      rw [ht] at HT HQ
      have hag := again_iff hv ht
      have h48 := (rtext_row ht).2.2.1
      have HQ2 := Lib.hid (show readClientS s = if z = r.size then some (u, t) else none from by
        rw [HQ.out]
        show (if z = r.size then some ([u], t) else none).bind _ = _
        by_cases hzz : z = r.size
        · rw [if_pos hzz, if_pos hzz]; rfl
        · rw [if_neg hzz, if_neg hzz]; rfl)
      unfold encRT2 at HT
      obtain ⟨K, hK⟩ : ∃ K, K = clientV u t := ⟨_, rfl⟩
      have HLA := Lib.hid (fun (W : World) => show Calls Tryd.prog 29 #[.int .u64 (u.toNat : Int), .string t] W (fun e w' => e = .returned (.tuple #[.string K, .int .i64 0]) ∧ Below W.heap.size W w') from by
        have := rlast u t W (by omega)
        rw [if_pos h48, ← hK] at this
        exact this)
      have hag2 : K = s ↔ z = r.size := by
        rw [hK]
        unfold clientV
        rw [rows_one] at hag
        exact hag
      clear hr hk1 hk2 hk3 hk4 hz hv ht hrr hs HQ hag hK h48
      by_cases hzz : z = r.size
      · have e1 := ba_eq2 (hag2.2 hzz)
        have HQ3 := Lib.hid (show readClientS s = some (u, t) from by rw [HQ2.out, if_pos hzz])
        clear hzz hag2
        go_enter Tryd.func51, Tryd.ntmps51
        go_wp2_with fail
        refine (HV.out _).mono ?_
        rintro e w1 ⟨rfl, hb⟩
        have HB := Lib.hid (below_step HB0.out hb HB0.out.size)
        have HXA := Lib.hid (blk_kept hb HX.out)
        clear hb
        unfold encRV
        go_wp2_with fail
        refine (HT.out _).mono ?_
        rintro e w2 ⟨rfl, hb⟩
        replace HB := Lib.hid (below_step HB.out hb HB.out.size)
        replace HXA := Lib.hid (blk_kept hb HXA.out)
        clear hb
        go_wp2_with fail
        refine (HLA.out _).mono ?_
        rintro e w3 ⟨rfl, hb⟩
        replace HB := Lib.hid (below_step HB.out hb HB.out.size)
        replace HXA := Lib.hid (blk_kept hb HXA.out)
        clear hb
        have Z0 := (zeroV_of HXA.out).c0
        have G0 := (zeroV_of HXA.out).f0
        have Z1 := (zeroV_of HXA.out).c1
        have G1 := (zeroV_of HXA.out).f1
        have Z2 := (zeroV_of HXA.out).c2
        have G2 := (zeroV_of HXA.out).f2
        have Z3 := (zeroV_of HXA.out).c3
        have G3 := (zeroV_of HXA.out).f3
        have Z4 := (zeroV_of HXA.out).c4
        have G4 := (zeroV_of HXA.out).f4
        go_wp2_with fail
        exact bodyPost_ret (v := .agg #[.int .i64 0, .string t, .int .u64 0, .int .u64 (u.toNat : Int), .bool true]) (by simp (maxDischargeDepth := 10) [results, Tryd.results51, go_sem, Z0, Z1, Z2, Z3, Z4]) rfl ⟨(by rw [HQ3.out]; rfl), by first | exact HB.out | exact below_set5 HB.out _ _ _ _ _⟩
      · have e1 := ba_ne2 (fun e => hzz (hag2.1 e))
        have HQ3 := Lib.hid (show readClientS s = none from by rw [HQ2.out, if_neg hzz])
        clear hzz hag2
        go_enter Tryd.func51, Tryd.ntmps51
        go_wp2_with fail
        refine (HV.out _).mono ?_
        rintro e w1 ⟨rfl, hb⟩
        have HB := Lib.hid (below_step HB0.out hb HB0.out.size)
        have HXA := Lib.hid (blk_kept hb HX.out)
        clear hb
        unfold encRV
        go_wp2_with fail
        refine (HT.out _).mono ?_
        rintro e w2 ⟨rfl, hb⟩
        replace HB := Lib.hid (below_step HB.out hb HB.out.size)
        replace HXA := Lib.hid (blk_kept hb HXA.out)
        clear hb
        go_wp2_with fail
        refine (HLA.out _).mono ?_
        rintro e w3 ⟨rfl, hb⟩
        replace HB := Lib.hid (below_step HB.out hb HB.out.size)
        replace HXA := Lib.hid (blk_kept hb HXA.out)
        clear hb
        have Z0 := (zeroV_of HXA.out).c0
        have G0 := (zeroV_of HXA.out).f0
        have Z1 := (zeroV_of HXA.out).c1
        have G1 := (zeroV_of HXA.out).f1
        have Z2 := (zeroV_of HXA.out).c2
        have G2 := (zeroV_of HXA.out).f2
        have Z3 := (zeroV_of HXA.out).c3
        have G3 := (zeroV_of HXA.out).f3
        have Z4 := (zeroV_of HXA.out).c4
        have G4 := (zeroV_of HXA.out).f4
        go_wp2_with fail
        exact bodyPost_ret (v := .agg #[.int .i64 0, .string ⟨#[]⟩, .int .u64 0, .int .u64 0, .bool false]) (by simp (maxDischargeDepth := 10) [results, Tryd.results51, go_sem, Z0, Z1, Z2, Z3, Z4]) rfl ⟨(by rw [HQ3.out]; rfl), by first | exact HB.out | exact below_set5 HB.out _ _ _ _ _⟩
set_option maxHeartbeats 3200000 in
theorem rreadLease (s : ByteArray) (w : World) (hs : s.size ≤ 1000000) : Calls Tryd.prog 49 #[.string s] w fun e w' => e = .returned (valL (readLeaseS s)) ∧ Below w.heap.size w w' := by
  have HB0 := Lib.hid (show Below w.heap.size w (w.alloc boxV0) from (Below.refl _ _).alloc (Nat.le_refl _) _)
  have HX := Lib.hid (heap_alloc_new w boxV0)
  have HT := Lib.hid (fun (W : World) => show Calls Tryd.prog 85 #[.string s, .int .i64 32] W (fun e w' => e = .returned (encRT2 (rtextS s 32)) ∧ Below W.heap.size W w') from rrdText s 32 W (by omega) (by decide))
  cases ht : rtextS s 32 with
  | none =>
    rw [ht] at HT
    have HQ := Lib.hid (show readLeaseS s = none from by unfold readLeaseS; rw [ht]; rfl)
    unfold encRT2 at HT
    clear ht
    go_enter Tryd.func49, Tryd.ntmps49
    go_wp2_with fail
    refine (HT.out _).mono ?_
    rintro e w1 ⟨rfl, hb⟩
    have HB := Lib.hid (below_step HB0.out hb HB0.out.size)
    have HXA := Lib.hid (blk_kept hb HX.out)
    clear hb
    have Z0 := (zeroV_of HXA.out).c0
    have G0 := (zeroV_of HXA.out).f0
    have Z1 := (zeroV_of HXA.out).c1
    have G1 := (zeroV_of HXA.out).f1
    have Z2 := (zeroV_of HXA.out).c2
    have G2 := (zeroV_of HXA.out).f2
    have Z3 := (zeroV_of HXA.out).c3
    have G3 := (zeroV_of HXA.out).f3
    have Z4 := (zeroV_of HXA.out).c4
    have G4 := (zeroV_of HXA.out).f4
    go_wp2_with fail
    exact bodyPost_ret (v := .agg #[.int .i64 0, .string ⟨#[]⟩, .int .u64 0, .int .u64 0, .bool false]) (by simp (maxDischargeDepth := 10) [results, Tryd.results49, go_sem, Z0, Z1, Z2, Z3, Z4]) rfl ⟨(by rw [HQ.out]; rfl), by first | exact HB.out | exact below_set5 HB.out _ _ _ _ _⟩
  | some y =>
    obtain ⟨t, z⟩ := y
    rw [ht] at HT
    obtain ⟨r1, r2, r3, r4⟩ := rtext_row ht
    have HQ := Lib.hid (show readLeaseS s = if t.size = 0 then none else (readNumS (s.extract z s.size)).map fun u => (t, u) from by unfold readLeaseS; rw [ht]; rfl)
    have HN := Lib.hid (fun (W : World) => rreadNumber (s.extract z s.size) W (by rw [ByteArray.size_extract]; omega))
    have HL0 := Lib.hid (fun (u : UInt64) (W : World) => rlease t u W (by omega))
    have q1 : (0 : Int) ≤ (z : Int) := by omega
    have q2 : (z : Int) ≤ (s.size : Int) := by omega
    unfold encRT2 at HT
    cases hn : readNumS (s.extract z s.size) with
    | none =>
      rw [hn] at HN HQ
      have HQ2 := Lib.hid (show readLeaseS s = none from by rw [HQ.out]; split <;> rfl)
      obtain ⟨K, E, hke⟩ : ∃ (K : ByteArray) (E : Int), (if ownerB t then Value.tuple #[.string (leaseV t 0), .int .i64 0] else .tuple #[.string ⟨#[]⟩, .int .i64 1]) = .tuple #[.string K, .int .i64 E] := by
        cases ownerB t
        · exact ⟨_, _, rfl⟩
        · exact ⟨_, _, rfl⟩
      have HLE := Lib.hid (fun (W : World) => show Calls Tryd.prog 25 #[.string t, .int .u64 0] W (fun e w' => e = .returned (.tuple #[.string K, .int .i64 E]) ∧ Below W.heap.size W w') from by rw [← hke]; exact HL0.out 0 W)
      unfold valN at HN
      clear ht hn r1 r2 r3 r4 HQ HL0 hke hs
      go_enter Tryd.func49, Tryd.ntmps49
      go_wp2_with fail
      refine (HT.out _).mono ?_
      rintro e w1 ⟨rfl, hb⟩
      have HB := Lib.hid (below_step HB0.out hb HB0.out.size)
      have HXA := Lib.hid (blk_kept hb HX.out)
      clear hb
      go_wp2_with fail
      refine (HN.out _).mono ?_
      rintro e w2 ⟨rfl, hb⟩
      replace HB := Lib.hid (below_step HB.out hb HB.out.size)
      have HX1 := Lib.hid (blk_kept hb HXA.out)
      replace HXA := Lib.hid (blk_kept hb HXA.out)
      clear hb
      have HXN := Lib.hid (show (w2.alloc (.cells #[.int .i64 0, .string ⟨#[]⟩, .int .u64 0, .int .u64 0, .bool false] 78 (0, 0))).heap[w2.heap.size]? = some (.cells #[.int .i64 0, .string ⟨#[]⟩, .int .u64 0, .int .u64 0, .bool false] 78 (0, 0)) from heap_alloc_new w2 (.cells #[.int .i64 0, .string ⟨#[]⟩, .int .u64 0, .int .u64 0, .bool false] 78 (0, 0)))
      have hlt := HB.out.size
      replace HXA := Lib.hid (blk_alloc HXA.out (.cells #[.int .i64 0, .string ⟨#[]⟩, .int .u64 0, .int .u64 0, .bool false] 78 (0, 0)))
      have hne := blk_lt HXA.out
      replace HB := Lib.hid (HB.out.alloc HB.out.size (.cells #[.int .i64 0, .string ⟨#[]⟩, .int .u64 0, .int .u64 0, .bool false] 78 (0, 0)))
      have HNE := Lib.hid (show w.heap.size ≠ w2.heap.size by have h1 := blk_lt HX1.out; omega)
      go_upto_region 5 with (fail)
      obtain ⟨WA, hWA⟩ : ∃ W, W = w2.alloc (.cells #[.int .i64 0, .string ⟨#[]⟩, .int .u64 0, .int .u64 0, .bool false] 78 (0, 0)) := ⟨_, rfl⟩
      rw [← hWA] at HXN HXA HB ⊢
      have fx : WA.frozen? ⟨w2.heap.size, 1, none⟩ = false := by rw [blk_frozen HXN.out]; rfl
      have cx : WA.cell? ⟨w2.heap.size, 1, none⟩ = some (.string ⟨#[]⟩) := by rw [blk_cell HXN.out]; rfl
      have cx3 : WA.cell? ⟨w2.heap.size, 3, none⟩ = some (.int .u64 0) := by rw [blk_cell HXN.out]; rfl
      have HXM := Lib.hid (show (WA.setCell ⟨w2.heap.size, 1, none⟩ (.string t)).heap[w2.heap.size]? = some (.cells #[.int .i64 0, .string t, .int .u64 0, .int .u64 0, .bool false] 78 (0, 0)) from blk_set HXN.out 1 (.string t))
      have HXR := Lib.hid (show (WA.setCell ⟨w2.heap.size, 1, none⟩ (.string t)).heap[w.heap.size]? = some boxV0 from by rw [blk_set_other HNE.out]; exact HXA.out)
      have HB2 := Lib.hid (show Below w.heap.size w (WA.setCell ⟨w2.heap.size, 1, none⟩ (.string t)) from HB.out.setCell (p := ⟨w2.heap.size, 1, none⟩) hlt _)
      clear hWA hlt hne
      go_wp2_with fail
      refine (HLE.out _).mono ?_
      rintro e w3 ⟨rfl, hb⟩
      replace HB := Lib.hid (below_step HB2.out hb HB2.out.size)
      replace HXA := Lib.hid (blk_kept hb HXR.out)
      replace HXM := Lib.hid (blk_kept hb HXM.out)
      clear hb fx cx cx3 HXN HB2 HXR
      have Y0 : w3.cell? ⟨w2.heap.size, 0, none⟩ = some (.int .i64 0) := by rw [blk_cell HXM.out]; rfl
      have Y1 : w3.cell? ⟨w2.heap.size, 1, none⟩ = some (.string t) := by rw [blk_cell HXM.out]; rfl
      have Y2 : w3.cell? ⟨w2.heap.size, 2, none⟩ = some (.int .u64 0) := by rw [blk_cell HXM.out]; rfl
      have Y3 : w3.cell? ⟨w2.heap.size, 3, none⟩ = some (.int .u64 0) := by rw [blk_cell HXM.out]; rfl
      have Y4 : w3.cell? ⟨w2.heap.size, 4, none⟩ = some (.bool false) := by rw [blk_cell HXM.out]; rfl
      have Z0 := (zeroV_of HXA.out).c0
      have G0 := (zeroV_of HXA.out).f0
      have Z1 := (zeroV_of HXA.out).c1
      have G1 := (zeroV_of HXA.out).f1
      have Z2 := (zeroV_of HXA.out).c2
      have G2 := (zeroV_of HXA.out).f2
      have Z3 := (zeroV_of HXA.out).c3
      have G3 := (zeroV_of HXA.out).f3
      have Z4 := (zeroV_of HXA.out).c4
      have G4 := (zeroV_of HXA.out).f4
      go_wp2_with fail
      exact bodyPost_ret (v := .agg #[.int .i64 0, .string ⟨#[]⟩, .int .u64 0, .int .u64 0, .bool false]) (by simp (maxDischargeDepth := 10) [results, Tryd.results49, go_sem, Z0, Z1, Z2, Z3, Z4]) rfl ⟨(by rw [HQ2.out]; rfl), by first | exact HB.out | exact below_set5 HB.out _ _ _ _ _⟩
    | some u =>
      rw [hn] at HN HQ
      have hag := lease_again ht hn
      unfold valN at HN
      by_cases h0 : t.size = 0
      · have HQ2 := Lib.hid (show readLeaseS s = none from by rw [HQ.out, if_pos h0])
        have HLE := Lib.hid (fun (W : World) => show Calls Tryd.prog 25 #[.string t, .int .u64 (u.toNat : Int)] W (fun e w' => e = .returned (.tuple #[.string ⟨#[]⟩, .int .i64 1]) ∧ Below W.heap.size W w') from by
          have := HL0.out u W
          rw [if_neg (show ¬ ownerB t = true from by unfold ownerB; rw [h0]; decide)] at this; exact this)
        clear ht hn r1 r2 r3 r4 HQ HL0 hs hag h0
        go_enter Tryd.func49, Tryd.ntmps49
        go_wp2_with fail
        refine (HT.out _).mono ?_
        rintro e w1 ⟨rfl, hb⟩
        have HB := Lib.hid (below_step HB0.out hb HB0.out.size)
        have HXA := Lib.hid (blk_kept hb HX.out)
        clear hb
        go_wp2_with fail
        refine (HN.out _).mono ?_
        rintro e w2 ⟨rfl, hb⟩
        replace HB := Lib.hid (below_step HB.out hb HB.out.size)
        have HX1 := Lib.hid (blk_kept hb HXA.out)
        replace HXA := Lib.hid (blk_kept hb HXA.out)
        clear hb
        have HXN := Lib.hid (show (w2.alloc (.cells #[.int .i64 0, .string ⟨#[]⟩, .int .u64 0, .int .u64 (u.toNat : Int), .bool true] 78 (0, 0))).heap[w2.heap.size]? = some (.cells #[.int .i64 0, .string ⟨#[]⟩, .int .u64 0, .int .u64 (u.toNat : Int), .bool true] 78 (0, 0)) from heap_alloc_new w2 (.cells #[.int .i64 0, .string ⟨#[]⟩, .int .u64 0, .int .u64 (u.toNat : Int), .bool true] 78 (0, 0)))
        have hlt := HB.out.size
        replace HXA := Lib.hid (blk_alloc HXA.out (.cells #[.int .i64 0, .string ⟨#[]⟩, .int .u64 0, .int .u64 (u.toNat : Int), .bool true] 78 (0, 0)))
        have hne := blk_lt HXA.out
        replace HB := Lib.hid (HB.out.alloc HB.out.size (.cells #[.int .i64 0, .string ⟨#[]⟩, .int .u64 0, .int .u64 (u.toNat : Int), .bool true] 78 (0, 0)))
        have HNE := Lib.hid (show w.heap.size ≠ w2.heap.size by have h1 := blk_lt HX1.out; omega)
        go_upto_region 5 with (fail)
        obtain ⟨WA, hWA⟩ : ∃ W, W = w2.alloc (.cells #[.int .i64 0, .string ⟨#[]⟩, .int .u64 0, .int .u64 (u.toNat : Int), .bool true] 78 (0, 0)) := ⟨_, rfl⟩
        rw [← hWA] at HXN HXA HB ⊢
        have fx : WA.frozen? ⟨w2.heap.size, 1, none⟩ = false := by rw [blk_frozen HXN.out]; rfl
        have cx : WA.cell? ⟨w2.heap.size, 1, none⟩ = some (.string ⟨#[]⟩) := by rw [blk_cell HXN.out]; rfl
        have cx3 : WA.cell? ⟨w2.heap.size, 3, none⟩ = some (.int .u64 (u.toNat : Int)) := by rw [blk_cell HXN.out]; rfl
        have HXM := Lib.hid (show (WA.setCell ⟨w2.heap.size, 1, none⟩ (.string t)).heap[w2.heap.size]? = some (.cells #[.int .i64 0, .string t, .int .u64 0, .int .u64 (u.toNat : Int), .bool true] 78 (0, 0)) from blk_set HXN.out 1 (.string t))
        have HXR := Lib.hid (show (WA.setCell ⟨w2.heap.size, 1, none⟩ (.string t)).heap[w.heap.size]? = some boxV0 from by rw [blk_set_other HNE.out]; exact HXA.out)
        have HB2 := Lib.hid (show Below w.heap.size w (WA.setCell ⟨w2.heap.size, 1, none⟩ (.string t)) from HB.out.setCell (p := ⟨w2.heap.size, 1, none⟩) hlt _)
        clear hWA hlt hne
        go_wp2_with fail
        refine (HLE.out _).mono ?_
        rintro e w3 ⟨rfl, hb⟩
        replace HB := Lib.hid (below_step HB2.out hb HB2.out.size)
        replace HXA := Lib.hid (blk_kept hb HXR.out)
        replace HXM := Lib.hid (blk_kept hb HXM.out)
        clear hb fx cx cx3 HXN HB2 HXR
        have Y0 : w3.cell? ⟨w2.heap.size, 0, none⟩ = some (.int .i64 0) := by rw [blk_cell HXM.out]; rfl
        have Y1 : w3.cell? ⟨w2.heap.size, 1, none⟩ = some (.string t) := by rw [blk_cell HXM.out]; rfl
        have Y2 : w3.cell? ⟨w2.heap.size, 2, none⟩ = some (.int .u64 0) := by rw [blk_cell HXM.out]; rfl
        have Y3 : w3.cell? ⟨w2.heap.size, 3, none⟩ = some (.int .u64 (u.toNat : Int)) := by rw [blk_cell HXM.out]; rfl
        have Y4 : w3.cell? ⟨w2.heap.size, 4, none⟩ = some (.bool true) := by rw [blk_cell HXM.out]; rfl
        have Z0 := (zeroV_of HXA.out).c0
        have G0 := (zeroV_of HXA.out).f0
        have Z1 := (zeroV_of HXA.out).c1
        have G1 := (zeroV_of HXA.out).f1
        have Z2 := (zeroV_of HXA.out).c2
        have G2 := (zeroV_of HXA.out).f2
        have Z3 := (zeroV_of HXA.out).c3
        have G3 := (zeroV_of HXA.out).f3
        have Z4 := (zeroV_of HXA.out).c4
        have G4 := (zeroV_of HXA.out).f4
        go_wp2_with fail
        exact bodyPost_ret (v := .agg #[.int .i64 0, .string ⟨#[]⟩, .int .u64 0, .int .u64 0, .bool false]) (by simp (maxDischargeDepth := 10) [results, Tryd.results49, go_sem, Z0, Z1, Z2, Z3, Z4]) rfl ⟨(by rw [HQ2.out]; rfl), by first | exact HB.out | exact below_set5 HB.out _ _ _ _ _⟩
      · have HQ2 := Lib.hid (show readLeaseS s = some (t, u) from by rw [HQ.out, if_neg h0]; rfl)
        have HLE := Lib.hid (fun (W : World) => show Calls Tryd.prog 25 #[.string t, .int .u64 (u.toNat : Int)] W (fun e w' => e = .returned (.tuple #[.string s, .int .i64 0]) ∧ Below W.heap.size W w') from by
          have := HL0.out u W
          rw [if_pos (show ownerB t = true from by unfold ownerB; rw [decide_eq_true (show 0 < t.size by omega), decide_eq_true r3]; rfl), hag] at this; exact this)
        have e1 : (s.toList == s.toList) = true := by simp
        clear ht hn r1 r2 r3 r4 HQ HL0 hs hag h0
        go_enter Tryd.func49, Tryd.ntmps49
        go_wp2_with fail
        refine (HT.out _).mono ?_
        rintro e w1 ⟨rfl, hb⟩
        have HB := Lib.hid (below_step HB0.out hb HB0.out.size)
        have HXA := Lib.hid (blk_kept hb HX.out)
        clear hb
        go_wp2_with fail
        refine (HN.out _).mono ?_
        rintro e w2 ⟨rfl, hb⟩
        replace HB := Lib.hid (below_step HB.out hb HB.out.size)
        have HX1 := Lib.hid (blk_kept hb HXA.out)
        replace HXA := Lib.hid (blk_kept hb HXA.out)
        clear hb
        have HXN := Lib.hid (show (w2.alloc (.cells #[.int .i64 0, .string ⟨#[]⟩, .int .u64 0, .int .u64 (u.toNat : Int), .bool true] 78 (0, 0))).heap[w2.heap.size]? = some (.cells #[.int .i64 0, .string ⟨#[]⟩, .int .u64 0, .int .u64 (u.toNat : Int), .bool true] 78 (0, 0)) from heap_alloc_new w2 (.cells #[.int .i64 0, .string ⟨#[]⟩, .int .u64 0, .int .u64 (u.toNat : Int), .bool true] 78 (0, 0)))
        have hlt := HB.out.size
        replace HXA := Lib.hid (blk_alloc HXA.out (.cells #[.int .i64 0, .string ⟨#[]⟩, .int .u64 0, .int .u64 (u.toNat : Int), .bool true] 78 (0, 0)))
        have hne := blk_lt HXA.out
        replace HB := Lib.hid (HB.out.alloc HB.out.size (.cells #[.int .i64 0, .string ⟨#[]⟩, .int .u64 0, .int .u64 (u.toNat : Int), .bool true] 78 (0, 0)))
        have HNE := Lib.hid (show w.heap.size ≠ w2.heap.size by have h1 := blk_lt HX1.out; omega)
        go_upto_region 5 with (fail)
        obtain ⟨WA, hWA⟩ : ∃ W, W = w2.alloc (.cells #[.int .i64 0, .string ⟨#[]⟩, .int .u64 0, .int .u64 (u.toNat : Int), .bool true] 78 (0, 0)) := ⟨_, rfl⟩
        rw [← hWA] at HXN HXA HB ⊢
        have fx : WA.frozen? ⟨w2.heap.size, 1, none⟩ = false := by rw [blk_frozen HXN.out]; rfl
        have cx : WA.cell? ⟨w2.heap.size, 1, none⟩ = some (.string ⟨#[]⟩) := by rw [blk_cell HXN.out]; rfl
        have cx3 : WA.cell? ⟨w2.heap.size, 3, none⟩ = some (.int .u64 (u.toNat : Int)) := by rw [blk_cell HXN.out]; rfl
        have HXM := Lib.hid (show (WA.setCell ⟨w2.heap.size, 1, none⟩ (.string t)).heap[w2.heap.size]? = some (.cells #[.int .i64 0, .string t, .int .u64 0, .int .u64 (u.toNat : Int), .bool true] 78 (0, 0)) from blk_set HXN.out 1 (.string t))
        have HXR := Lib.hid (show (WA.setCell ⟨w2.heap.size, 1, none⟩ (.string t)).heap[w.heap.size]? = some boxV0 from by rw [blk_set_other HNE.out]; exact HXA.out)
        have HB2 := Lib.hid (show Below w.heap.size w (WA.setCell ⟨w2.heap.size, 1, none⟩ (.string t)) from HB.out.setCell (p := ⟨w2.heap.size, 1, none⟩) hlt _)
        clear hWA hlt hne
        go_wp2_with fail
        refine (HLE.out _).mono ?_
        rintro e w3 ⟨rfl, hb⟩
        replace HB := Lib.hid (below_step HB2.out hb HB2.out.size)
        replace HXA := Lib.hid (blk_kept hb HXR.out)
        replace HXM := Lib.hid (blk_kept hb HXM.out)
        clear hb fx cx cx3 HXN HB2 HXR
        have Y0 : w3.cell? ⟨w2.heap.size, 0, none⟩ = some (.int .i64 0) := by rw [blk_cell HXM.out]; rfl
        have Y1 : w3.cell? ⟨w2.heap.size, 1, none⟩ = some (.string t) := by rw [blk_cell HXM.out]; rfl
        have Y2 : w3.cell? ⟨w2.heap.size, 2, none⟩ = some (.int .u64 0) := by rw [blk_cell HXM.out]; rfl
        have Y3 : w3.cell? ⟨w2.heap.size, 3, none⟩ = some (.int .u64 (u.toNat : Int)) := by rw [blk_cell HXM.out]; rfl
        have Y4 : w3.cell? ⟨w2.heap.size, 4, none⟩ = some (.bool true) := by rw [blk_cell HXM.out]; rfl
        have Z0 := (zeroV_of HXA.out).c0
        have G0 := (zeroV_of HXA.out).f0
        have Z1 := (zeroV_of HXA.out).c1
        have G1 := (zeroV_of HXA.out).f1
        have Z2 := (zeroV_of HXA.out).c2
        have G2 := (zeroV_of HXA.out).f2
        have Z3 := (zeroV_of HXA.out).c3
        have G3 := (zeroV_of HXA.out).f3
        have Z4 := (zeroV_of HXA.out).c4
        have G4 := (zeroV_of HXA.out).f4
        go_wp2_with fail
        exact bodyPost_ret (v := .agg #[.int .i64 0, .string t, .int .u64 0, .int .u64 (u.toNat : Int), .bool true]) (by simp (maxDischargeDepth := 10) [results, Tryd.results49, go_sem, Z0, Z1, Z2, Z3, Z4]) rfl ⟨(by rw [HQ2.out]; rfl), by first | exact HB.out | exact below_set5 HB.out _ _ _ _ _⟩
end Go.Proofs.Tryd.Rows
