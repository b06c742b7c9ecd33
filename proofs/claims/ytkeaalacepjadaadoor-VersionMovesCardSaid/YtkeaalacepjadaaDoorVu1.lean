/- The document's tests of texts and tables. -/
import Derived.Test.YtkeaalacepjadaaDoorVJ
import Derived.Deep.QuietTactic
import Derived.BigQuiet
set_option linter.unusedVariables false
set_option linter.unusedSimpArgs false
set_option maxRecDepth 100000
namespace Go.Proofs.Tryd.Vr
open Go.RowKit Go.Cph Go.Cph.Skip Go.Cph.So Go.Cph.Ve
theorem bl_cons (x y : UInt8) (xs ys : List UInt8) (h : x ≠ y) : Op.bytesLess (x :: xs) (y :: ys) = decide (x.toNat < y.toNat) := by
  have hb : (x == y) = false := by simpa using h
  simp [Op.bytesLess, hb, h]
  first
    | done
    | (rw [UInt8.lt_iff_toNat_lt])
theorem bl_same (x : UInt8) (xs ys : List UInt8) : Op.bytesLess (x :: xs) (x :: ys) = Op.bytesLess xs ys := by simp [Op.bytesLess]
theorem klt_drop (a b : ByteArray) : klt a b = Op.bytesLess (a.data.toList.drop 0) (b.data.toList.drop 0) := by
  unfold klt; rw [ByteArray.toList_eq, ByteArray.toList_eq]; rfl
theorem drop_cons (s : ByteArray) (k : Nat) (h : k < s.size) : s.data.toList.drop k = s[k] :: s.data.toList.drop (k + 1) := by
  rw [List.drop_eq_getElem_cons (by simpa using h)]; rfl
theorem drop_end (s : ByteArray) (k : Nat) (h : s.size ≤ k) : s.data.toList.drop k = [] := List.drop_of_length_le (by simpa using h)
theorem bl_end1 (ys : List UInt8) : Op.bytesLess [] ys = decide (0 < ys.length) := by cases ys <;> simp [Op.bytesLess]
theorem bl_end2 (xs : List UInt8) : Op.bytesLess xs [] = false := by cases xs <;> simp [Op.bytesLess]

set_option maxHeartbeats 1000000 in
theorem less (a b : ByteArray) (w : World) (ha : a.size ≤ 1000000) (hb : b.size ≤ 1000000) :
    Calls Tryd.prog 64 #[.string a, .string b] w fun e w' => e = .returned (.bool (klt a b)) ∧ ∃ n, w' = w.drewN n := by
  have HK := Lib.hid (klt_drop a b)
  go_enter Tryd.func64, Tryd.ntmps64
  go_wp2_with fail
  go_loopw [5] (fun i wr => ∃ k n : Nat, k ≤ a.size ∧ k ≤ b.size ∧ i = .int .i64 k ∧ wr = w.drewN n ∧ klt a b = Op.bytesLess (a.data.toList.drop k) (b.data.toList.drop k))
    (fun i _ => a.size - (intOf i).toNat)
  case atStart => exact ⟨0, 0, by omega, by omega, rfl, rfl, HK.out⟩
  case round =>
    obtain ⟨k, n, hka, hkb, rfl, rfl, hk⟩ := hrel
    have H := Lib.hid hk
    clear hk
    by_cases hlt : k < a.size ∧ k < b.size
    · obtain ⟨h1, h2⟩ := hlt
      have k0 : (0 : Int) ≤ (k : Int) := by omega
      have k1 : (k : Int) < (a.size : Int) := by omega
      have k2 : (k : Int) < (b.size : Int) := by omega
      have HD := Lib.hid (show klt a b = Op.bytesLess (a[k] :: a.data.toList.drop (k + 1)) (b[k] :: b.data.toList.drop (k + 1)) by rw [H.out, drop_cons a k h1, drop_cons b k h2])
      by_cases he : a[k] = b[k]
      · have hz : ((a[k].toNat : Int) == (b[k].toNat : Int)) = true := by simp [he]
        have HN := Lib.hid (show klt a b = Op.bytesLess (a.data.toList.drop (k + 1)) (b.data.toList.drop (k + 1)) by rw [HD.out, he, bl_same])
        clear he
        go_wp2_with fail
        go_quiet (fail)
        go_wp2_with fail
        go_roundw
        case rel => exact ⟨k + 1, _, by omega, by omega, by go_num, rfl, HN.out⟩
        case measure => simp [intOf]; omega
      · have hz : ((a[k].toNat : Int) == (b[k].toNat : Int)) = false := by
          have : a[k].toNat ≠ b[k].toNat := fun e => he (UInt8.toNat_inj.1 e)
          simpa using fun e => this (by omega)
        have HN := Lib.hid (show klt a b = decide (a[k].toNat < b[k].toNat) by rw [HD.out, bl_cons _ _ _ _ he])
        clear he
        go_wp2_with fail
        go_quiet (fail)
        go_wp2_with fail
        go_quiet (fail)
        go_wp2_with fail
        go_ret
        exact ⟨ret_bool (by rw [HN.out]; try simp), _, by rw [World.drewN_drewN, World.drewN_drewN]⟩
    · have HE := Lib.hid (show klt a b = decide (a.size < b.size) by
        rw [H.out]
        rcases Nat.lt_or_ge k a.size with h | h
        · have hb' : k = b.size := by omega
          rw [drop_end b k (by omega), bl_end2]
          simp; omega
        · have ha' : k = a.size := by omega
          rw [drop_end a k (by omega), bl_end1]
          simp; omega)
      by_cases h1 : k < a.size
      · have h2 : ¬ (k : Int) < (b.size : Int) := by omega
        have k1 : (k : Int) < (a.size : Int) := by omega
        clear hlt
        go_wp2_with fail
        go_ret
        exact ⟨ret_bool (by rw [HE.out]; try simp), _, rfl⟩
      · have k1 : ¬ (k : Int) < (a.size : Int) := by omega
        clear hlt
        go_wp2_with fail
        go_ret
        exact ⟨ret_bool (by rw [HE.out]; try simp), _, rfl⟩



def TextOK (s : ByteArray) : Prop := s.size ≤ 1000000
def SmallT (t : Tb) : Prop := TextOK (tF t) ∧ TextOK (tL t)
theorem drewN_below (w : World) (n : Nat) : Below w.heap.size w (w.drewN n) := ⟨rfl, rfl, rfl, Nat.le_refl _, fun _ _ => rfl⟩
theorem less_below (a b : ByteArray) (w : World) (ha : TextOK a) (hb : TextOK b) : Calls Tryd.prog 64 #[.string a, .string b] w fun e w' => e = .returned (.bool (klt a b)) ∧ Below w.heap.size w w' :=
  (less a b w ha hb).mono fun e w' ⟨h, n, hw⟩ => ⟨h, by rw [hw]; exact drewN_below w n⟩
set_option maxHeartbeats 1000000 in
theorem above_any (a b : ByteArray) (w : World) (ha : TextOK a) (hb : TextOK b) : Calls Tryd.prog 53 #[.string a, .string b] w fun e w' => e = .returned (.bool (klt b a)) ∧ Below w.heap.size w w' := by
  have HC := Lib.hid (less_below b a w hb ha)
  clear ha hb
  go_enter Tryd.func53, Tryd.ntmps53
  go_wp2_with (go_at_call 64; refine HC.out.mono ?_; rintro e w1 ⟨rfl, hb1⟩; have HB := Lib.hid hb1; clear hb1)
  go_ret
  exact ⟨rfl, HB.out⟩
set_option maxHeartbeats 1000000 in
theorem key14_any (s : ByteArray) (w : World) : Calls Tryd.prog 63 #[.string s] w fun e w' => e = .returned (.bool (keyB s)) ∧ w = w' := by
  by_cases h1 : 1 ≤ s.size
  · have k1 : (s.size : Int) ≥ 1 := by omega
    by_cases h2 : s.size ≤ 64
    · have k2 : (s.size : Int) ≤ 64 := by omega
      have HV := Lib.hid (show keyB s = true from by unfold keyB; rw [decide_eq_true h1, decide_eq_true h2]; rfl)
      go_enter Tryd.func63, Tryd.ntmps63
      go_wp2_with fail
      go_ret
      exact ⟨ret_bool (by rw [HV.out]; try simp [h2]), rfl⟩
    · have k2 : ¬ (s.size : Int) ≤ 64 := by omega
      have HV := Lib.hid (show keyB s = false from by unfold keyB; rw [decide_eq_false h2]; simp)
      go_enter Tryd.func63, Tryd.ntmps63
      go_wp2_with fail
      go_ret
      exact ⟨ret_bool (by rw [HV.out]; try simp; try omega), rfl⟩
  · have k1 : ¬ (s.size : Int) ≥ 1 := by omega
    have HV := Lib.hid (show keyB s = false from by unfold keyB; rw [decide_eq_false h1]; rfl)
    go_enter Tryd.func63, Tryd.ntmps63
    go_wp2_with fail
    go_ret
    exact ⟨ret_bool HV.out.symm, rfl⟩

set_option maxHeartbeats 4000000 in
theorem table_any (t : Tb) (w : World) (hs : SmallT t) : Calls Tryd.prog 49 #[encT t] w fun e w' => e = .returned (.bool (tableD t)) ∧ Below w.heap.size w w' := by
  have HK1 := Lib.hid (fun W => key14_any t.2.2.2.2.1 W)
  have HK2 := Lib.hid (fun W => key14_any t.2.2.2.2.2.1 W)
  have HK3 := Lib.hid (fun W => above_any t.2.2.2.2.1 t.2.2.2.2.2.1 W hs.1 hs.2)
  obtain ⟨b1, h1⟩ : ∃ b, b = (decide (1 ≤ (tN t).toNat)) := ⟨_, rfl⟩
  obtain ⟨b2, h2⟩ : ∃ b, b = (decide ((tN t).toNat ≤ 1099511627776)) := ⟨_, rfl⟩
  obtain ⟨b3, h3⟩ : ∃ b, b = (decide (0 ≤ tV t)) := ⟨_, rfl⟩
  obtain ⟨b4, h4⟩ : ∃ b, b = (decide (tV t ≤ 3)) := ⟨_, rfl⟩
  obtain ⟨b5, h5⟩ : ∃ b, b = (decide (1 ≤ tC t)) := ⟨_, rfl⟩
  obtain ⟨b6, h6⟩ : ∃ b, b = (decide (1 ≤ tS t)) := ⟨_, rfl⟩
  obtain ⟨b7, h7⟩ : ∃ b, b = (keyB (tF t)) := ⟨_, rfl⟩
  obtain ⟨b8, h8⟩ : ∃ b, b = (keyB (tL t)) := ⟨_, rfl⟩
  obtain ⟨b9, h9⟩ : ∃ b, b = (!klt (tL t) (tF t)) := ⟨_, rfl⟩
  obtain ⟨b10, h10⟩ : ∃ b, b = (decide (1 ≤ (tA t).toNat)) := ⟨_, rfl⟩
  obtain ⟨b11, h11⟩ : ∃ b, b = (decide ((tA t).toNat ≤ (tM t).toNat)) := ⟨_, rfl⟩
  have HV := Lib.hid (show tableD t = (b1 && (b2 && (b3 && (b4 && (b5 && (b6 && (b7 && (b8 && (b9 && (b10 && (b11))))))))))) from by
    rw [h1, h2, h3, h4, h5, h6, h7, h8, h9, h10, h11, Bool.eq_iff_iff]
    unfold tableD rightT
    simp only [Bool.and_eq_true]
    constructor <;> (intro h; simp only [h, and_self]))
  have HK3b := Lib.hid (show klt t.2.2.2.2.2.1 t.2.2.2.2.1 = !b9 from by rw [h9]; simp)
  rw [HK3b.out] at HK3
  rw [show keyB t.2.2.2.2.1 = b7 from h7.symm] at HK1
  rw [show keyB t.2.2.2.2.2.1 = b8 from h8.symm] at HK2
  have HP1 := Lib.hid (show b1 = false ↔ (t.1.toNat : Int) < 1 from by rw [h1, decide_eq_false_iff_not]; (try dsimp only [tN, tC, tS, tA, tM, tV]); first | done | omega | exact Iff.rfl)
  have HP2 := Lib.hid (show b2 = false ↔ (t.1.toNat : Int) > 1099511627776 from by rw [h2, decide_eq_false_iff_not]; (try dsimp only [tN, tC, tS, tA, tM, tV]); first | done | omega | exact Iff.rfl)
  have HP3 := Lib.hid (show b3 = false ↔ t.2.1 < 0 from by rw [h3, decide_eq_false_iff_not]; (try dsimp only [tN, tC, tS, tA, tM, tV]); first | done | omega | exact Iff.rfl)
  have HP4 := Lib.hid (show b4 = false ↔ t.2.1 > 3 from by rw [h4, decide_eq_false_iff_not]; (try dsimp only [tN, tC, tS, tA, tM, tV]); first | done | omega | exact Iff.rfl)
  have HP5 := Lib.hid (show b5 = false ↔ t.2.2.1 < 1 from by rw [h5, decide_eq_false_iff_not]; (try dsimp only [tN, tC, tS, tA, tM, tV]); first | done | omega | exact Iff.rfl)
  have HP6 := Lib.hid (show b6 = false ↔ t.2.2.2.1 < 1 from by rw [h6, decide_eq_false_iff_not]; (try dsimp only [tN, tC, tS, tA, tM, tV]); first | done | omega | exact Iff.rfl)
  have HP10 := Lib.hid (show b10 = true ↔ (t.2.2.2.2.2.2.1.toNat : Int) ≥ 1 from by rw [h10, decide_eq_true_eq]; (try dsimp only [tN, tC, tS, tA, tM, tV]); first | done | omega | exact Iff.rfl)
  have HP11 := Lib.hid (show b11 = true ↔ (t.2.2.2.2.2.2.1.toNat : Int) ≤ (t.2.2.2.2.2.2.2.toNat : Int) from by rw [h11, decide_eq_true_eq]; (try dsimp only [tN, tC, tS, tA, tM, tV]); first | done | omega | exact Iff.rfl)
  have HR11 := Lib.hid (show decide (t.2.2.2.2.2.2.1.toNat ≤ t.2.2.2.2.2.2.2.toNat) = b11 from h11.symm)
  clear h1 h2 h3 h4 h5 h6 h7 h8 h9 h10 h11
  have HB := Lib.hid (below_of_alloc (w := w) (boxT t))
  have HCX := Lib.hid (box_cells (heap_alloc_new w (boxT t)))
  have hcx := HCX.out
  have c0 := hcx.c0
  have c1 := hcx.c1
  have c2 := hcx.c2
  have c3 := hcx.c3
  have c4 := hcx.c4
  have c5 := hcx.c5
  have c6 := hcx.c6
  have c7 := hcx.c7
  clear hcx hs HK3b
  go_enter Tryd.func49, Tryd.ntmps49
  cases b1
  · have q1 : (t.1.toNat : Int) < 1 := HP1.out.1 rfl
    go_wp2_with fail
    go_ret
    exact ⟨ret_bool HV.out.symm, HB.out⟩
  · have q1 : ¬ (t.1.toNat : Int) < 1 := fun h => by have := HP1.out.2 h; cases this
    cases b2
    · have q2 : (t.1.toNat : Int) > 1099511627776 := HP2.out.1 rfl
      go_wp2_with fail
      go_ret
      exact ⟨ret_bool HV.out.symm, HB.out⟩
    · have q2 : ¬ (t.1.toNat : Int) > 1099511627776 := fun h => by have := HP2.out.2 h; cases this
      cases b3
      · have q3 : t.2.1 < 0 := HP3.out.1 rfl
        go_wp2_with fail
        go_ret
        exact ⟨ret_bool HV.out.symm, HB.out⟩
      · have q3 : ¬ t.2.1 < 0 := fun h => by have := HP3.out.2 h; cases this
        cases b4
        · have q4 : t.2.1 > 3 := HP4.out.1 rfl
          go_wp2_with fail
          go_ret
          exact ⟨ret_bool HV.out.symm, HB.out⟩
        · have q4 : ¬ t.2.1 > 3 := fun h => by have := HP4.out.2 h; cases this
          cases b5
          · have q5 : t.2.2.1 < 1 := HP5.out.1 rfl
            go_wp2_with fail
            go_ret
            exact ⟨ret_bool HV.out.symm, HB.out⟩
          · have q5 : ¬ t.2.2.1 < 1 := fun h => by have := HP5.out.2 h; cases this
            cases b6
            · have q6 : t.2.2.2.1 < 1 := HP6.out.1 rfl
              go_wp2_with fail
              go_ret
              exact ⟨ret_bool HV.out.symm, HB.out⟩
            · have q6 : ¬ t.2.2.2.1 < 1 := fun h => by have := HP6.out.2 h; cases this
              go_wp2_with fail
              refine (HK1.out _).mono ?_
              rintro e w7 ⟨rfl, rfl⟩
              cases b7
              · go_wp2_with fail
                go_ret
                exact ⟨ret_bool HV.out.symm, HB.out⟩
              · skip
                go_wp2_with fail
                refine (HK2.out _).mono ?_
                rintro e w8 ⟨rfl, rfl⟩
                cases b8
                · go_wp2_with fail
                  go_ret
                  exact ⟨ret_bool HV.out.symm, HB.out⟩
                · skip
                  go_wp2_with fail
                  refine (HK3.out _).mono ?_
                  rintro e w9 ⟨rfl, hb9⟩
                  have HB9 := Lib.hid (below_step HB.out hb9 HB.out.size)
                  have hcy := HCX.out.kept hb9
                  have d0 := hcy.c0
                  have d1 := hcy.c1
                  have d2 := hcy.c2
                  have d3 := hcy.c3
                  have d4 := hcy.c4
                  have d5 := hcy.c5
                  have d6 := hcy.c6
                  have d7 := hcy.c7
                  clear hb9 hcy c0 c1 c2 c3 c4 c5 c6 c7
                  cases b9
                  · go_wp2_with fail
                    go_ret
                    exact ⟨ret_bool HV.out.symm, HB9.out⟩
                  · skip
                    cases b10
                    · have q10 : ¬ (t.2.2.2.2.2.2.1.toNat : Int) ≥ 1 := fun h => by have := HP10.out.2 h; cases this
                      go_wp2_with fail
                      go_ret
                      exact ⟨ret_bool HV.out.symm, HB9.out⟩
                    · have q10 : (t.2.2.2.2.2.2.1.toNat : Int) ≥ 1 := HP10.out.1 rfl
                      have r11 := HR11.out
                      cases b11
                      · have q11 : ¬ (t.2.2.2.2.2.2.1.toNat : Int) ≤ (t.2.2.2.2.2.2.2.toNat : Int) := fun h => by have := HP11.out.2 h; cases this
                        go_wp2_with fail
                        go_ret
                        exact ⟨ret_bool HV.out.symm, HB9.out⟩
                      · have q11 : (t.2.2.2.2.2.2.1.toNat : Int) ≤ (t.2.2.2.2.2.2.2.toNat : Int) := HP11.out.1 rfl
                        go_wp2_with fail
                        go_ret
                        exact ⟨ret_bool HV.out.symm, HB9.out⟩

set_option maxHeartbeats 4000000 in
theorem meets_any (t : Tb) (f g : ByteArray) (w : World) (hs : SmallT t) (hf : TextOK f) (hg : TextOK g) : Calls Tryd.prog 35 #[encT t, .string f, .string g] w fun e w' => e = .returned (.bool (meetsT t f g)) ∧ Below w.heap.size w w' := by
  have HK1 := Lib.hid (fun W => above_any f g W hf hg)
  have HK2 := Lib.hid (fun W => above_any t.2.2.2.2.1 g W hs.1 hg)
  have HK3 := Lib.hid (fun W => above_any f t.2.2.2.2.2.1 W hf hs.2)
  obtain ⟨b1, h1⟩ : ∃ b, b = klt g f := ⟨_, rfl⟩
  obtain ⟨b2, h2⟩ : ∃ b, b = klt g t.2.2.2.2.1 := ⟨_, rfl⟩
  obtain ⟨b3, h3⟩ : ∃ b, b = klt t.2.2.2.2.2.1 f := ⟨_, rfl⟩
  have HV := Lib.hid (show meetsT t f g = (!b1 && (!b2 && !b3)) from by rw [h1, h2, h3]; rfl)
  rw [← h1] at HK1
  rw [← h2] at HK2
  rw [← h3] at HK3
  have HB := Lib.hid (below_of_alloc (w := w) (boxT t))
  have HCX := Lib.hid (box_cells (heap_alloc_new w (boxT t)))
  clear h1 h2 h3 hs hf hg
  go_enter Tryd.func35, Tryd.ntmps35
  go_wp2_with fail
  refine (HK1.out _).mono ?_
  rintro e w1 ⟨rfl, hb1⟩
  have HB1 := Lib.hid (below_step HB.out hb1 HB.out.size)
  have HC1 := Lib.hid (HCX.out.kept hb1)
  clear hb1
  cases b1
  · have hcx := HC1.out
    have c0 := hcx.c0
    have c1 := hcx.c1
    have c2 := hcx.c2
    have c3 := hcx.c3
    have c4 := hcx.c4
    have c5 := hcx.c5
    have c6 := hcx.c6
    have c7 := hcx.c7
    clear hcx
    go_wp2_with fail
    refine (HK2.out _).mono ?_
    rintro e w2 ⟨rfl, hb2⟩
    have HB2 := Lib.hid (below_step HB1.out hb2 HB1.out.size)
    have hcy := HC1.out.kept hb2
    have d0 := hcy.c0
    have d1 := hcy.c1
    have d2 := hcy.c2
    have d3 := hcy.c3
    have d4 := hcy.c4
    have d5 := hcy.c5
    have d6 := hcy.c6
    have d7 := hcy.c7
    clear hb2 hcy c0 c1 c2 c3 c4 c5 c6 c7
    cases b2
    · go_wp2_with fail
      refine (HK3.out _).mono ?_
      rintro e w3 ⟨rfl, hb3⟩
      have HB3 := Lib.hid (below_step HB2.out hb3 HB2.out.size)
      clear hb3 d0 d1 d2 d3 d4 d5 d6 d7
      cases b3
      · go_wp2_with fail
        go_ret
        exact ⟨ret_bool HV.out.symm, HB3.out⟩
      · go_wp2_with fail
        go_ret
        exact ⟨ret_bool HV.out.symm, HB3.out⟩
    · go_wp2_with fail
      go_ret
      exact ⟨ret_bool HV.out.symm, HB2.out⟩
  · go_wp2_with fail
    go_ret
    exact ⟨ret_bool HV.out.symm, HB1.out⟩
def befD (a b : Tb) : Bool := if tV a = 0 then decide ((tN b).toNat < (tN a).toNat) else klt (tF a) (tF b)
theorem befD_level {k : Nat} {a b : Tb} (h : tV a = (k : Int)) : befD a b = bef k a b := by
  unfold befD bef
  by_cases hk : k = 0
  · rw [if_pos hk, if_pos (by rw [h, hk]; rfl)]
  · rw [if_neg hk, if_neg (by rw [h]; omega)]

set_option maxHeartbeats 4000000 in
theorem before_any (a b : Tb) (w : World) (ha : SmallT a) (hb : SmallT b) : Calls Tryd.prog 52 #[encT a, encT b] w fun e w' => e = .returned (.bool (befD a b)) ∧ Below w.heap.size w w' := by
  have HB := Lib.hid (bel2 (w := w) (boxT a) (boxT b))
  have HK := Lib.hid (fun W => less_below a.2.2.2.2.1 b.2.2.2.2.1 W ha.1 hb.1)
  have hcx := box_cells (blk_alloc (heap_alloc_new w (boxT a)) (boxT b))
  have c0 := hcx.c0
  have c1 := hcx.c1
  have c2 := hcx.c2
  have c3 := hcx.c3
  have c4 := hcx.c4
  have c5 := hcx.c5
  have c6 := hcx.c6
  have c7 := hcx.c7
  have hcy := box_cells (alloc2_new w (boxT a) (boxT b))
  have d0 := hcy.c0
  have d1 := hcy.c1
  have d2 := hcy.c2
  have d3 := hcy.c3
  have d4 := hcy.c4
  have d5 := hcy.c5
  have d6 := hcy.c6
  have d7 := hcy.c7
  clear hcx hcy ha hb
  by_cases hk : a.2.1 = 0
  · have hz : (a.2.1 == 0) = true := by simp [hk]
    have HV := Lib.hid (show befD a b = decide ((a.1.toNat : Int) > (b.1.toNat : Int)) from by unfold befD; rw [if_pos hk, decide_eq_decide]; dsimp only [tN]; omega)
    clear hk
    go_enter Tryd.func52, Tryd.ntmps52
    go_wp2_with fail
    go_ret
    exact ⟨ret_bool (by rw [HV.out]; simp), HB.out⟩
  · have hz : (a.2.1 == 0) = false := by simpa using hk
    have HV := Lib.hid (show befD a b = klt a.2.2.2.2.1 b.2.2.2.2.1 from by unfold befD; rw [if_neg hk])
    clear hk
    go_enter Tryd.func52, Tryd.ntmps52
    go_wp2_with fail
    refine (HK.out _).mono ?_
    rintro e w1 ⟨rfl, hb1⟩
    have HB1 := Lib.hid (below_step HB.out hb1 HB.out.size)
    clear hb1
    go_wp2_with fail
    go_ret
    exact ⟨ret_bool HV.out.symm, HB1.out⟩
end Go.Proofs.Tryd.Vr
