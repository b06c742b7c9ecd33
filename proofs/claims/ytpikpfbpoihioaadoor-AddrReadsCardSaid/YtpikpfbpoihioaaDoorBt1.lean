/- The document's numbers in digits. -/
import Derived.Test.YtpikpfbpoihioaaDoorAu4
import Derived.BigQuiet
set_option linter.unusedVariables false
set_option linter.unusedSimpArgs false
set_option maxRecDepth 100000
namespace Go.Proofs.Tryd.Tx
open Go.RowKit Go.Cph Go.Cph.Tx
open Go.Cph.Ok (ofBs)
theorem hex_at (m : Nat) (h : m < 16) : (⟨#[48, 49, 50, 51, 52, 53, 54, 55, 56, 57, 97, 98, 99, 100, 101, 102]⟩ : ByteArray).extract m (m + 1) = ofBs [dig m] := by
  have : ∀ k : Fin 16, (⟨#[48, 49, 50, 51, 52, 53, 54, 55, 56, 57, 97, 98, 99, 100, 101, 102]⟩ : ByteArray).extract k.val (k.val + 1) = ofBs [dig k.val] := by decide +kernel
  exact this ⟨m, h⟩
set_option maxHeartbeats 1600000 in
theorem in10 (n : Nat) (hn : n < 65536) (w : World) : Calls Tryd.prog 42 #[.int .i64 (n : Int), .int .i64 10] w fun e w' => e = .returned (.string (ofBs (digs 10 n))) ∧ Below w.heap.size w w' := by
  have HB := Lib.hid (fun k => below_drewN (Below.refl w.heap.size w) k)
  go_enter Tryd.func42, Tryd.ntmps42
  have hr : Int.tmod (n : Int) 10 = ((n % 10 : Nat) : Int) := by rw [Int.tmod_eq_emod_of_nonneg (by omega)]; omega
  have hw : IntKind.i64.wrap (((n % 10 : Nat) : Int) + 1) = ((n % 10 + 1 : Nat) : Int) := by rw [IntKind.wrap_i64]; omega
  have hl : ((n % 10 + 1 : Nat) : Int) ≤ 16 := by omega
  have hx := hex_at (n % 10) (by omega)
  go_wp2_with fail
  go_quiet (fail)
  go_wp2_with fail
  clear hr hw hl hx
  go_loopw [0, 5] (fun v0 v5 W => ∃ (m : Nat) (t : Bs), v0 = .int .i64 (m : Int) ∧ v5 = .string (ofBs (dig (m % 10) :: t)) ∧ Hid (m < 65536 ∧ digs 10 n = digs 10 m ++ t) ∧ Below w.heap.size w W) (fun v0 _ _ => (intOf v0).toNat)
  case atStart => exact ⟨n, [], rfl, by rw [hex_at (n % 10) (by omega)], Lib.hid ⟨hn, by simp⟩, HB.out _⟩
  case round =>
    obtain ⟨m, t, rfl, rfl, HM, hb⟩ := hrel
    have HB2 := Lib.hid hb
    clear hb
    by_cases hm : m < 10
    · have hmi : ¬ ((m : Int) ≥ 10) := by omega
      have HV := Lib.hid (show digs 10 n = dig (m % 10) :: t from by rw [HM.out.2, digs_small 10 m hm, Nat.mod_eq_of_lt hm]; rfl)
      go_wp2_with fail
      go_ret
      exact ⟨ret_str (by rw [HV.out]), HB2.out⟩
    · have hmi : (m : Int) ≥ 10 := by omega
      obtain ⟨q, hq⟩ : ∃ q, q = m / 10 := ⟨_, rfl⟩
      have HV := Lib.hid (show digs 10 n = digs 10 q ++ (dig (m % 10) :: t) from by
        rw [HM.out.2, digs_big 10 m (by omega) (by omega) (by have := HM.out.1; omega), hq, List.append_assoc]; rfl)
      have HQ := Lib.hid (show q < 65536 ∧ q < m from by have := HM.out.1; omega)
      have hd : Int.tdiv (m : Int) 10 = (q : Int) := by rw [hq, Int.tdiv_eq_ediv_of_nonneg (by omega)]; omega
      have hd2 : (m : Int) / 10 = (q : Int) := by omega
      have hr : Int.tmod (q : Int) 10 = ((q % 10 : Nat) : Int) := by rw [Int.tmod_eq_emod_of_nonneg (by omega)]; omega
      have hw : IntKind.i64.wrap (((q % 10 : Nat) : Int) + 1) = ((q % 10 + 1 : Nat) : Int) := by rw [IntKind.wrap_i64]; omega
      have hl : ((q % 10 + 1 : Nat) : Int) ≤ 16 := by omega
      have hwq : IntKind.i64.wrap (q : Int) = (q : Int) := by rw [IntKind.wrap_i64]; have := HM.out.1; omega
      have hx := hex_at (q % 10) (by omega)
      have hlen : t.length ≤ 6 := by
        have h1 := digs_len 10 n
        rw [HM.out.2, List.length_append] at h1; omega
      have hc := cat_run [dig (q % 10)] (dig (m % 10) :: t) (by simp; omega)
      clear hq hlen
      go_wp2_with fail
      go_quiet (fail)
      go_roundw
      case rel => exact ⟨_, _, _, _, _, _, _, _, _, _, _, _, _, _, _, _, _, _, ⟨q, dig (m % 10) :: t, rfl, rfl, Lib.hid ⟨HQ.out.1, HV.out⟩, below_drewN HB2.out _⟩, rfl⟩
      case measure => have := HQ.out.2; simp [intOf]; omega
set_option maxHeartbeats 1600000 in
theorem in16 (n : Nat) (hn : n < 65536) (w : World) : Calls Tryd.prog 42 #[.int .i64 (n : Int), .int .i64 16] w fun e w' => e = .returned (.string (ofBs (digs 16 n))) ∧ Below w.heap.size w w' := by
  have HB := Lib.hid (fun k => below_drewN (Below.refl w.heap.size w) k)
  go_enter Tryd.func42, Tryd.ntmps42
  have hr : Int.tmod (n : Int) 16 = ((n % 16 : Nat) : Int) := by rw [Int.tmod_eq_emod_of_nonneg (by omega)]; omega
  have hw : IntKind.i64.wrap (((n % 16 : Nat) : Int) + 1) = ((n % 16 + 1 : Nat) : Int) := by rw [IntKind.wrap_i64]; omega
  have hl : ((n % 16 + 1 : Nat) : Int) ≤ 16 := by omega
  have hx := hex_at (n % 16) (by omega)
  go_wp2_with fail
  go_quiet (fail)
  go_wp2_with fail
  clear hr hw hl hx
  go_loopw [0, 5] (fun v0 v5 W => ∃ (m : Nat) (t : Bs), v0 = .int .i64 (m : Int) ∧ v5 = .string (ofBs (dig (m % 16) :: t)) ∧ Hid (m < 65536 ∧ digs 16 n = digs 16 m ++ t) ∧ Below w.heap.size w W) (fun v0 _ _ => (intOf v0).toNat)
  case atStart => exact ⟨n, [], rfl, by rw [hex_at (n % 16) (by omega)], Lib.hid ⟨hn, by simp⟩, HB.out _⟩
  case round =>
    obtain ⟨m, t, rfl, rfl, HM, hb⟩ := hrel
    have HB2 := Lib.hid hb
    clear hb
    by_cases hm : m < 16
    · have hmi : ¬ ((m : Int) ≥ 16) := by omega
      have HV := Lib.hid (show digs 16 n = dig (m % 16) :: t from by rw [HM.out.2, digs_small 16 m hm, Nat.mod_eq_of_lt hm]; rfl)
      go_wp2_with fail
      go_ret
      exact ⟨ret_str (by rw [HV.out]), HB2.out⟩
    · have hmi : (m : Int) ≥ 16 := by omega
      obtain ⟨q, hq⟩ : ∃ q, q = m / 16 := ⟨_, rfl⟩
      have HV := Lib.hid (show digs 16 n = digs 16 q ++ (dig (m % 16) :: t) from by
        rw [HM.out.2, digs_big 16 m (by omega) (by omega) (by have := HM.out.1; omega), hq, List.append_assoc]; rfl)
      have HQ := Lib.hid (show q < 65536 ∧ q < m from by have := HM.out.1; omega)
      have hd : Int.tdiv (m : Int) 16 = (q : Int) := by rw [hq, Int.tdiv_eq_ediv_of_nonneg (by omega)]; omega
      have hd2 : (m : Int) / 16 = (q : Int) := by omega
      have hr : Int.tmod (q : Int) 16 = ((q % 16 : Nat) : Int) := by rw [Int.tmod_eq_emod_of_nonneg (by omega)]; omega
      have hw : IntKind.i64.wrap (((q % 16 : Nat) : Int) + 1) = ((q % 16 + 1 : Nat) : Int) := by rw [IntKind.wrap_i64]; omega
      have hl : ((q % 16 + 1 : Nat) : Int) ≤ 16 := by omega
      have hwq : IntKind.i64.wrap (q : Int) = (q : Int) := by rw [IntKind.wrap_i64]; have := HM.out.1; omega
      have hx := hex_at (q % 16) (by omega)
      have hlen : t.length ≤ 6 := by
        have h1 := digs_len 16 n
        rw [HM.out.2, List.length_append] at h1; omega
      have hc := cat_run [dig (q % 16)] (dig (m % 16) :: t) (by simp; omega)
      clear hq hlen
      go_wp2_with fail
      go_quiet (fail)
      go_roundw
      case rel => exact ⟨_, _, _, _, _, _, _, _, _, _, _, _, _, _, _, _, _, _, ⟨q, dig (m % 16) :: t, rfl, rfl, Lib.hid ⟨HQ.out.1, HV.out⟩, below_drewN HB2.out _⟩, rfl⟩
      case measure => have := HQ.out.2; simp [intOf]; omega
end Go.Proofs.Tryd.Tx
