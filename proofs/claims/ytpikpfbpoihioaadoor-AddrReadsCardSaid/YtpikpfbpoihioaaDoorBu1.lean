/- The document's digit of a letter; where :: stands. -/
import Derived.Test.YtpikpfbpoihioaaDoorBt6
set_option linter.unusedVariables false
set_option linter.unusedSimpArgs false
set_option maxRecDepth 100000
namespace Go.Proofs.Tryd.Tx
open Go.RowKit Go.Cph Go.Cph.Tx
open Go.Cph.Ok (ofBs)
def optI (o : Option Nat) : Int := match o with | none => -1 | some d => (d : Int)
set_option maxHeartbeats 1600000 in
theorem digit_any (c : UInt8) (b : Nat) (hb : b = 10 ∨ b = 16) (w : World) : Calls Tryd.prog 61 #[.int .u8 (c.toNat : Int), .int .i64 (b : Int)] w fun e w' => e = .returned (.int .i64 (optI (dval b c))) ∧ w' = w := by
  have hc := c.toNat_lt
  obtain ⟨n, hn⟩ : ∃ n, n = c.toNat := ⟨_, rfl⟩
  have HD := Lib.hid (show dval b c = if 48 ≤ n ∧ n ≤ 57 then (if n - 48 < b then some (n - 48) else none) else if 97 ≤ n ∧ n ≤ 102 then (if n - 87 < b then some (n - 87) else none) else none from by
    rw [hn]; unfold dval
    rcases hb with rfl | rfl <;> (repeat' split) <;> first | rfl | omega | (congr 1; omega))
  rw [← hn] at hc ⊢
  obtain ⟨R, hR⟩ : ∃ R, R = dval b c := ⟨_, rfl⟩
  rw [← hR] at HD ⊢
  clear hn hR
  by_cases h1 : 48 ≤ n ∧ n ≤ 57
  · have HV := Lib.hid (HD.out.trans (if_pos h1))
    have a1 : (n : Int) ≥ 48 := by omega
    have a2 : (n : Int) ≤ 57 := by omega
    have a3 : IntKind.u8.wrap ((n : Int) - 48) = ((n - 48 : Nat) : Int) := by rw [IntKind.wrap_u8]; omega
    have a4 : ¬ (n : Int) ≥ 97 := by omega
    have a5 : IntKind.i64.wrap ((n - 48 : Nat) : Int) = ((n - 48 : Nat) : Int) := by rw [IntKind.wrap_i64]; omega
    obtain ⟨m, hm⟩ : ∃ m, m = n - 48 := ⟨_, rfl⟩
    rw [← hm] at HV a3 a5
    clear hm h1
    by_cases h2 : m < b
    · have HW := Lib.hid (HV.out.trans (if_pos h2))
      have a6 : ¬ (m : Int) ≥ (b : Int) := by omega
      clear h2 hb
      go_enter Tryd.func61, Tryd.ntmps61
      go_wp2_with fail
      go_ret
      exact ⟨ret_int (by rw [HW.out]; rfl), rfl⟩
    · have HW := Lib.hid (HV.out.trans (if_neg h2))
      have a6 : (m : Int) ≥ (b : Int) := by omega
      clear h2 hb
      go_enter Tryd.func61, Tryd.ntmps61
      go_wp2_with fail
      go_ret
      exact ⟨ret_int (by rw [HW.out]; rfl), rfl⟩
  · by_cases h3 : 97 ≤ n ∧ n ≤ 102
    · have HV := Lib.hid (HD.out.trans ((if_neg h1).trans (if_pos h3)))
      have a1 : (n : Int) ≥ 48 := by omega
      have a2 : ¬ (n : Int) ≤ 57 := by omega
      have a4 : (n : Int) ≥ 97 := by omega
      have a4' : (n : Int) ≤ 102 := by omega
      have a3 : IntKind.u8.wrap ((n : Int) - 97) = (n : Int) - 97 := by rw [IntKind.wrap_u8]; omega
      have a5 : IntKind.i64.wrap ((n : Int) - 97) = (n : Int) - 97 := by rw [IntKind.wrap_i64]; omega
      have a7 : IntKind.i64.wrap ((n : Int) - 97 + 10) = ((n - 87 : Nat) : Int) := by rw [IntKind.wrap_i64]; omega
      obtain ⟨m, hm⟩ : ∃ m, m = n - 87 := ⟨_, rfl⟩
      rw [← hm] at HV a7
      clear hm h1 h3
      by_cases h2 : m < b
      · have HW := Lib.hid (HV.out.trans (if_pos h2))
        have a6 : ¬ (m : Int) ≥ (b : Int) := by omega
        clear h2 hb
        go_enter Tryd.func61, Tryd.ntmps61
        go_wp2_with fail
        go_ret
        exact ⟨ret_int (by rw [HW.out]; rfl), rfl⟩
      · have HW := Lib.hid (HV.out.trans (if_neg h2))
        have a6 : (m : Int) ≥ (b : Int) := by omega
        clear h2 hb
        go_enter Tryd.func61, Tryd.ntmps61
        go_wp2_with fail
        go_ret
        exact ⟨ret_int (by rw [HW.out]; rfl), rfl⟩
    · have HW := Lib.hid (HD.out.trans ((if_neg h1).trans (if_neg h3)))
      have a6 : ¬ ((-1 : Int) ≥ (b : Int)) := by omega
      clear hb
      rcases (show n < 48 ∨ (57 < n ∧ n < 97) ∨ 102 < n by omega) with k | k | k
      · have a1 : ¬ (n : Int) ≥ 48 := by omega
        have a4 : ¬ (n : Int) ≥ 97 := by omega
        clear h1 h3 k
        go_enter Tryd.func61, Tryd.ntmps61
        go_wp2_with fail
        go_ret
        exact ⟨ret_int (by rw [HW.out]; rfl), rfl⟩
      · have a1 : (n : Int) ≥ 48 := by omega
        have a2 : ¬ (n : Int) ≤ 57 := by omega
        have a4 : ¬ (n : Int) ≥ 97 := by omega
        clear h1 h3 k
        go_enter Tryd.func61, Tryd.ntmps61
        go_wp2_with fail
        go_ret
        exact ⟨ret_int (by rw [HW.out]; rfl), rfl⟩
      · have a1 : (n : Int) ≥ 48 := by omega
        have a2 : ¬ (n : Int) ≤ 57 := by omega
        have a4 : (n : Int) ≥ 97 := by omega
        have a4' : ¬ (n : Int) ≤ 102 := by omega
        clear h1 h3 k
        go_enter Tryd.func61, Tryd.ntmps61
        go_wp2_with fail
        go_ret
        exact ⟨ret_int (by rw [HW.out]; rfl), rfl⟩
end Go.Proofs.Tryd.Tx
