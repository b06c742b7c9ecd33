/- Where :: stands, as the document looks for it. -/
import Derived.Test.YtpikpfbpoihioaaDoorBu1
set_option linter.unusedVariables false
set_option linter.unusedSimpArgs false
set_option maxRecDepth 100000
namespace Go.Proofs.Tryd.Tx
open Go.RowKit Go.Cph Go.Cph.Tx
open Go.Cph.Ok (ofBs)
theorem cut_drop (l : Bs) (k : Nat) (h : k + 1 < l.length) : cutAt (l.drop k) = if l[k] = 58 ∧ l[k + 1] = 58 then some 0 else (cutAt (l.drop (k + 1))).map (· + 1) := by
  rw [List.drop_eq_getElem_cons (show k < l.length by omega), cut_cons]
  simp [h]
theorem cut_end (l : Bs) (k : Nat) (h : l.length ≤ k + 1) : cutAt (l.drop k) = none := by
  by_cases e : k < l.length
  · rw [List.drop_eq_getElem_cons e, cut_cons, List.drop_of_length_le h]; simp [cutAt]
  · rw [List.drop_of_length_le (by omega)]; rfl
theorem ofBs_get (l : Bs) (k : Nat) (h : k < l.length) (h' : k < (ofBs l).size) : (ofBs l)[k]'h' = l[k] := by
  rfl
theorem sign_eq (l : Bs) (k : Nat) (h : k < l.length) (h' : k < (ofBs l).size) (c : UInt8) : ((((ofBs l)[k]'h').toNat : Int) == (c.toNat : Int)) = decide (l[k] = c) := by
  rw [ofBs_get l k h h', Pfx.u8_eq, Bool.eq_iff_iff, beq_iff_eq, decide_eq_true_eq]
set_option maxHeartbeats 1600000 in
theorem cut_any (l : Bs) (hl : l.length ≤ 1000000) (w : World) : Calls Tryd.prog 46 #[.string (ofBs l)] w fun e w' => e = .returned (.int .i64 (optI (cutAt l))) ∧ w' = w := by
  obtain ⟨R, hR⟩ : ∃ R, R = cutAt l := ⟨_, rfl⟩
  have HR := Lib.hid (show R = (cutAt (l.drop 0)).map (· + 0) from by rw [hR]; simp)
  rw [← hR]
  clear hR
  have hsz : (ofBs l).size = l.length := ofBs_size l
  go_enter Tryd.func46, Tryd.ntmps46
  go_wp2_with fail
  go_loopw [3] (fun v3 W => W = w ∧ ∃ k : Nat, k ≤ l.length ∧ v3 = .int .i64 (k : Int) ∧ Hid (R = (cutAt (l.drop k)).map (· + k))) (fun v3 _ => l.length - (intOf v3).toNat)
  case atStart => exact ⟨rfl, 0, by omega, rfl, HR⟩
  case round =>
    obtain ⟨rfl, k, hk, rfl, HK⟩ := hrel
    have k1 : IntKind.i64.wrap ((k : Int) + 1) = ((k + 1 : Nat) : Int) := by rw [IntKind.wrap_i64]; omega
    by_cases hlt : k + 1 < l.length
    · have hi : ((k + 1 : Nat) : Int) < (l.length : Int) := by omega
      have hi2 : (k : Int) < (l.length : Int) := by omega
      have HC := Lib.hid (cut_drop l k hlt)
      have e0 : ((((ofBs l)[k]'(by omega)).toNat : Int) == 58) = decide (l[k] = 58) := sign_eq l k (by omega) _ 58
      have e1 : ((((ofBs l)[k + 1]'(by omega)).toNat : Int) == 58) = decide (l[k + 1] = 58) := sign_eq l (k + 1) (by omega) _ 58
      by_cases h0 : l[k] = 58
      · rw [decide_eq_true h0] at e0
        by_cases h1 : l[k + 1] = 58
        · have HV := Lib.hid (show R = some k from by rw [HK.out, HC.out, if_pos ⟨h0, h1⟩]; simp)
          rw [decide_eq_true h1] at e1
          clear h0 h1
          go_wp2_with fail
          go_ret
          exact ⟨ret_int (by rw [HV.out]; rfl), rfl⟩
        · have HV := Lib.hid (show R = (cutAt (l.drop (k + 1))).map (· + (k + 1)) from by
            rw [HK.out, HC.out, if_neg (fun h => h1 h.2)]
            cases cutAt (l.drop (k + 1)) <;> simp <;> omega)
          rw [decide_eq_false h1] at e1
          clear h0 h1
          go_wp2_with fail
          go_roundw
          case rel => exact ⟨trivial, k + 1, by omega, rfl, HV⟩
          case measure => simp [intOf]; omega
      · rw [decide_eq_false h0] at e0
        have HV := Lib.hid (show R = (cutAt (l.drop (k + 1))).map (· + (k + 1)) from by
          rw [HK.out, HC.out, if_neg (fun h => h0 h.1)]
          cases cutAt (l.drop (k + 1)) <;> simp <;> omega)
        clear h0 e1
        go_wp2_with fail
        go_roundw
        case rel => exact ⟨trivial, k + 1, by omega, rfl, HV⟩
        case measure => simp [intOf]; omega
    · have hi : ¬ ((k + 1 : Nat) : Int) < (l.length : Int) := by omega
      have HV := Lib.hid (show R = none from by rw [HK.out, cut_end l k (by omega)]; rfl)
      go_wp2_with fail
      go_ret
      exact ⟨ret_int (by rw [HV.out]; rfl), rfl⟩
end Go.Proofs.Tryd.Tx
