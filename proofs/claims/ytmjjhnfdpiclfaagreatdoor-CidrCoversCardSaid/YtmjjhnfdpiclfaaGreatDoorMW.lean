/- MW: texts put together: Bt1 Bt2 Bt3 Bt4 Bt5 Bt6. -/
import Derived.Test.YtmjjhnfdpiclfaaGreatDoorMU
import Derived.BigQuiet
import Derived.Test.YtmjjhnfdpiclfaaGreatDoorBz1
import Derived.Test.YtmjjhnfdpiclfaaGreatDoorAz2
import Derived.Test.YtmjjhnfdpiclfaaGreatDoorAa3
/- The document's numbers in digits. -/
set_option linter.unusedVariables false
set_option linter.unusedSimpArgs false
set_option maxRecDepth 100000
namespace Go.Proofs.Tryz.Tx
open Go.RowKit Go.Cph Go.Cph.Tx
open Go.Cph.Ok (ofBs)
theorem hex_at (m : Nat) (h : m < 16) : (⟨#[48, 49, 50, 51, 52, 53, 54, 55, 56, 57, 97, 98, 99, 100, 101, 102]⟩ : ByteArray).extract m (m + 1) = ofBs [dig m] := by
  have : ∀ k : Fin 16, (⟨#[48, 49, 50, 51, 52, 53, 54, 55, 56, 57, 97, 98, 99, 100, 101, 102]⟩ : ByteArray).extract k.val (k.val + 1) = ofBs [dig k.val] := by decide +kernel
  exact this ⟨m, h⟩
set_option maxHeartbeats 1600000 in
theorem in10 (n : Nat) (hn : n < 65536) (w : World) : Calls Tryz.prog 74 #[.int .i64 (n : Int), .int .i64 10] w fun e w' => e = .returned (.string (ofBs (digs 10 n))) ∧ Below w.heap.size w w' := by
  have HB := Lib.hid (fun k => below_drewN (Below.refl w.heap.size w) k)
  go_enter Tryz.func74, Tryz.ntmps74
  have hr : Int.tmod (n : Int) 10 = ((n % 10 : Nat) : Int) := by rw [Int.tmod_eq_emod_of_nonneg (by omega)]; omega
  have hw : IntKind.i64.wrap (((n % 10 : Nat) : Int) + 1) = ((n % 10 + 1 : Nat) : Int) := by rw [IntKind.wrap_i64]; omega
  have hl : ((n % 10 + 1 : Nat) : Int) ≤ 16 := by omega
  have hx := hex_at (n % 10) (by omega)
  go_wp2_with fail
  go_quiet (fail)
  go_wp2_with fail
  clear hr hw hl hx
  go_loopw [0, 5] (fun v0 v5 W => ∃ (m : Nat) (t : Bs), v0 = .int .i64 (m : Int) ∧ v5 = .string (ofBs (dig (m % 10) :: t)) ∧ Hid (m < 65536 ∧ digs 10 n = digs 10 m ++ t) ∧ Below w.heap.size w W) (fun v0 _ _ => (intOf v0).toNat)
  case atStart => exact ⟨n, [], rfl, by rw [hex_at (n % 10) (by omega)], Lib.hid ⟨hn, by simp⟩, HB.out _⟩
  case round =>
    obtain ⟨m, t, rfl, rfl, HM, hb⟩ := hrel
    have HB2 := Lib.hid hb
    clear hb
    by_cases hm : m < 10
    · have hmi : ¬ ((m : Int) ≥ 10) := by omega
      have HV := Lib.hid (show digs 10 n = dig (m % 10) :: t from by rw [HM.out.2, digs_small 10 m hm, Nat.mod_eq_of_lt hm]; rfl)
      go_wp2_with fail
      go_ret
      exact ⟨ret_str (by rw [HV.out]), HB2.out⟩
    · have hmi : (m : Int) ≥ 10 := by omega
      obtain ⟨q, hq⟩ : ∃ q, q = m / 10 := ⟨_, rfl⟩
      have HV := Lib.hid (show digs 10 n = digs 10 q ++ (dig (m % 10) :: t) from by
        rw [HM.out.2, digs_big 10 m (by omega) (by omega) (by have := HM.out.1; omega), hq, List.append_assoc]; rfl)
      have HQ := Lib.hid (show q < 65536 ∧ q < m from by have := HM.out.1; omega)
      have hd : Int.tdiv (m : Int) 10 = (q : Int) := by rw [hq, Int.tdiv_eq_ediv_of_nonneg (by omega)]; omega
      have hd2 : (m : Int) / 10 = (q : Int) := by omega
      have hr : Int.tmod (q : Int) 10 = ((q % 10 : Nat) : Int) := by rw [Int.tmod_eq_emod_of_nonneg (by omega)]; omega
      have hw : IntKind.i64.wrap (((q % 10 : Nat) : Int) + 1) = ((q % 10 + 1 : Nat) : Int) := by rw [IntKind.wrap_i64]; omega
      have hl : ((q % 10 + 1 : Nat) : Int) ≤ 16 := by omega
      have hwq : IntKind.i64.wrap (q : Int) = (q : Int) := by rw [IntKind.wrap_i64]; have := HM.out.1; omega
      have hx := hex_at (q % 10) (by omega)
      have hlen : t.length ≤ 6 := by
        have h1 := digs_len 10 n
        rw [HM.out.2, List.length_append] at h1; omega
      have hc := cat_run [dig (q % 10)] (dig (m % 10) :: t) (by simp; omega)
      clear hq hlen
      go_wp2_with fail
      go_quiet (fail)
      go_roundw
      case rel => exact ⟨_, _, _, _, _, _, _, _, _, _, _, _, _, _, _, _, _, _, ⟨q, dig (m % 10) :: t, rfl, rfl, Lib.hid ⟨HQ.out.1, HV.out⟩, below_drewN HB2.out _⟩, rfl⟩
      case measure => have := HQ.out.2; simp [intOf]; omega
set_option maxHeartbeats 1600000 in
theorem in16 (n : Nat) (hn : n < 65536) (w : World) : Calls Tryz.prog 74 #[.int .i64 (n : Int), .int .i64 16] w fun e w' => e = .returned (.string (ofBs (digs 16 n))) ∧ Below w.heap.size w w' := by
  have HB := Lib.hid (fun k => below_drewN (Below.refl w.heap.size w) k)
  go_enter Tryz.func74, Tryz.ntmps74
  have hr : Int.tmod (n : Int) 16 = ((n % 16 : Nat) : Int) := by rw [Int.tmod_eq_emod_of_nonneg (by omega)]; omega
  have hw : IntKind.i64.wrap (((n % 16 : Nat) : Int) + 1) = ((n % 16 + 1 : Nat) : Int) := by rw [IntKind.wrap_i64]; omega
  have hl : ((n % 16 + 1 : Nat) : Int) ≤ 16 := by omega
  have hx := hex_at (n % 16) (by omega)
  go_wp2_with fail
  go_quiet (fail)
  go_wp2_with fail
  clear hr hw hl hx
  go_loopw [0, 5] (fun v0 v5 W => ∃ (m : Nat) (t : Bs), v0 = .int .i64 (m : Int) ∧ v5 = .string (ofBs (dig (m % 16) :: t)) ∧ Hid (m < 65536 ∧ digs 16 n = digs 16 m ++ t) ∧ Below w.heap.size w W) (fun v0 _ _ => (intOf v0).toNat)
  case atStart => exact ⟨n, [], rfl, by rw [hex_at (n % 16) (by omega)], Lib.hid ⟨hn, by simp⟩, HB.out _⟩
  case round =>
    obtain ⟨m, t, rfl, rfl, HM, hb⟩ := hrel
    have HB2 := Lib.hid hb
    clear hb
    by_cases hm : m < 16
    · have hmi : ¬ ((m : Int) ≥ 16) := by omega
      have HV := Lib.hid (show digs 16 n = dig (m % 16) :: t from by rw [HM.out.2, digs_small 16 m hm, Nat.mod_eq_of_lt hm]; rfl)
      go_wp2_with fail
      go_ret
      exact ⟨ret_str (by rw [HV.out]), HB2.out⟩
    · have hmi : (m : Int) ≥ 16 := by omega
      obtain ⟨q, hq⟩ : ∃ q, q = m / 16 := ⟨_, rfl⟩
      have HV := Lib.hid (show digs 16 n = digs 16 q ++ (dig (m % 16) :: t) from by
        rw [HM.out.2, digs_big 16 m (by omega) (by omega) (by have := HM.out.1; omega), hq, List.append_assoc]; rfl)
      have HQ := Lib.hid (show q < 65536 ∧ q < m from by have := HM.out.1; omega)
      have hd : Int.tdiv (m : Int) 16 = (q : Int) := by rw [hq, Int.tdiv_eq_ediv_of_nonneg (by omega)]; omega
      have hd2 : (m : Int) / 16 = (q : Int) := by omega
      have hr : Int.tmod (q : Int) 16 = ((q % 16 : Nat) : Int) := by rw [Int.tmod_eq_emod_of_nonneg (by omega)]; omega
      have hw : IntKind.i64.wrap (((q % 16 : Nat) : Int) + 1) = ((q % 16 + 1 : Nat) : Int) := by rw [IntKind.wrap_i64]; omega
      have hl : ((q % 16 + 1 : Nat) : Int) ≤ 16 := by omega
      have hwq : IntKind.i64.wrap (q : Int) = (q : Int) := by rw [IntKind.wrap_i64]; have := HM.out.1; omega
      have hx := hex_at (q % 16) (by omega)
      have hlen : t.length ≤ 6 := by
        have h1 := digs_len 16 n
        rw [HM.out.2, List.length_append] at h1; omega
      have hc := cat_run [dig (q % 16)] (dig (m % 16) :: t) (by simp; omega)
      clear hq hlen
      go_wp2_with fail
      go_quiet (fail)
      go_roundw
      case rel => exact ⟨_, _, _, _, _, _, _, _, _, _, _, _, _, _, _, _, _, _, ⟨q, dig (m % 16) :: t, rfl, rfl, Lib.hid ⟨HQ.out.1, HV.out⟩, below_drewN HB2.out _⟩, rfl⟩
      case measure => have := HQ.out.2; simp [intOf]; omega
end Go.Proofs.Tryz.Tx

/- The document's longest run of groups that are 0. -/
set_option linter.unusedVariables false
set_option linter.unusedSimpArgs false
set_option maxRecDepth 100000
namespace Go.Proofs.Tryz.Tx
open Go.RowKit Go.Cph Go.Cph.Tx
open Go.Cph.Ok (ofBs)
open Go.Proofs.Tryz.Pfx (BsAt bs_cells)
def zb (l : Bs) (i : Nat) : Bool := l.getD (2 * i) 0 == 0 && l.getD (2 * i + 1) 0 == 0
theorem u8_z (c : UInt8) : ((c.toNat : Int) == 0) = (c == 0) := Pfx.u8_eq c 0
theorem zcount_at (z : Nat → Bool) (k n : Nat) (h : k + n < 8) (hz : z (k + n) = true) : zcount z (8 - k - n) (k + n) = 1 + zcount z (8 - k - (n + 1)) (k + (n + 1)) := by
  obtain ⟨f, hf⟩ : ∃ f, 8 - k - n = f + 1 := ⟨8 - k - n - 1, by omega⟩
  rw [hf, show 8 - k - (n + 1) = f from by omega]
  conv => lhs; unfold zcount
  rw [if_pos hz]; rw [show k + (n + 1) = k + n + 1 from by omega]; omega
theorem zcount_off (z : Nat → Bool) (k n : Nat) (h : k + n < 8) (hz : z (k + n) = false) : zcount z (8 - k - n) (k + n) = 0 := by
  obtain ⟨f, hf⟩ : ∃ f, 8 - k - n = f + 1 := ⟨8 - k - n - 1, by omega⟩
  rw [hf]
  unfold zcount
  rw [if_neg (by simp [hz])]
theorem zeroS_le (z : Nat → Bool) : ∀ k, k ≤ 8 → (zeroS z k).1 + (zeroS z k).2 ≤ 8 := by
  have hc : ∀ f i, zcount z f i ≤ f := by
    intro f
    induction f with
    | zero => intro i; exact Nat.le_refl _
    | succ f ih => intro i; unfold zcount; split
                   · have := ih (i + 1); omega
                   · omega
  intro k
  induction k with
  | zero => intro _; simp [zeroS]
  | succ k ih => intro hk; unfold zeroS; split
                 · have := hc (8 - k) k; simp only; omega
                 · exact ih (by omega)
set_option maxHeartbeats 3200000 in
theorem zeros_any (l : Bs) (v : Value) (w : World) (hl : l.length = 16) (h : BsAt w v l) : Calls Tryz.prog 75 #[v] w fun e w' => e = .returned (.tuple #[.int .i64 ((zeroS (zb l) 8).1 : Int), .int .i64 ((zeroS (zb l) 8).2 : Int)]) ∧ Below w.heap.size w w' := by
  obtain ⟨b, off, cap, rfl, hcs⟩ := bs_cells h (by omega)
  have HC := Lib.hid (show ∀ j, j < 16 → w.cell? ⟨b, off + j, none⟩ = some (.int .u8 ((l.getD j 0).toNat : Int)) from fun j hj => by
    have h1 : j < l.length := by omega
    rw [hcs j h1]; simp [h1])
  obtain ⟨z, hz⟩ : ∃ z, z = zb l := ⟨_, rfl⟩
  have HZ := Lib.hid (show ∀ i, z i = (l.getD (2 * i) 0 == 0 && l.getD (2 * i + 1) 0 == 0) from fun i => by rw [hz]; rfl)
  rw [← hz]
  clear hz hcs h
  rw [hl]
  go_enter Tryz.func75, Tryz.ntmps75
  go_wp2_with fail
  go_loopw [4, 5, 6] (fun v4 v5 v6 W => W = w ∧ ∃ k p m : Nat, k ≤ 8 ∧ v6 = .int .i64 (k : Int) ∧ v4 = .int .i64 (p : Int) ∧ v5 = .int .i64 (m : Int) ∧ Hid (zeroS z k = (p, m))) (fun _ _ v6 _ => (8 - intOf v6).toNat)
  case atStart => exact ⟨rfl, 0, 0, 0, by omega, rfl, rfl, rfl, Lib.hid rfl⟩
  case round =>
    obtain ⟨rfl, k, p, m, hk, rfl, rfl, rfl, HS⟩ := hrel
    by_cases h8 : k < 8
    · have h8i : (k : Int) < 8 := by omega
      go_wp2_with fail
      go_loopw [7] (fun v7 W => W = wr ∧ ∃ n : Nat, k + n ≤ 8 ∧ v7 = .int .i64 (n : Int) ∧ Hid (zcount z (8 - k) k = n + zcount z (8 - k - n) (k + n))) (fun v7 _ => (8 - intOf v7).toNat)
      case atStart => exact ⟨rfl, 0, by omega, rfl, Lib.hid (by simp)⟩
      case round =>
        obtain ⟨rfl, n, hn, rfl, HN⟩ := hrel
        have k1 : IntKind.i64.wrap ((k : Int) + (n : Int)) = ((k + n : Nat) : Int) := by rw [IntKind.wrap_i64]; omega
        have k2 : IntKind.i64.wrap (2 * ((k + n : Nat) : Int)) = ((2 * (k + n) : Nat) : Int) := by rw [IntKind.wrap_i64]; omega
        have k3 : IntKind.i64.wrap (((2 * (k + n) : Nat) : Int) + 1) = ((2 * (k + n) + 1 : Nat) : Int) := by rw [IntKind.wrap_i64]; omega
        have k4 : IntKind.i64.wrap ((n : Int) + 1) = ((n + 1 : Nat) : Int) := by rw [IntKind.wrap_i64]; omega
        have k5 : IntKind.i64.wrap ((k : Int) + 1) = ((k + 1 : Nat) : Int) := by rw [IntKind.wrap_i64]; omega
        have HEND := Lib.hid (show n = zcount z (8 - k) k → zeroS z (k + 1) = if m < n then (k, n) else (p, m) from fun e => by
          conv => lhs; unfold zeroS
          rw [HS.out, ← e])
        by_cases hkn : k + n < 8
        · have hkni : ((k + n : Nat) : Int) < 8 := by omega
          have b1 : ((2 * (k + n) : Nat) : Int) < 16 := by omega
          have b2 : ((2 * (k + n) + 1 : Nat) : Int) < 16 := by omega
          have q0 := HC.out (2 * (k + n)) (by omega)
          have q1 := HC.out (2 * (k + n) + 1) (by omega)
          have hz := HZ.out (k + n)
          obtain ⟨c0, hc0⟩ : ∃ c, c = l.getD (2 * (k + n)) 0 := ⟨_, rfl⟩
          obtain ⟨c1, hc1⟩ : ∃ c, c = l.getD (2 * (k + n) + 1) 0 := ⟨_, rfl⟩
          rw [← hc0] at q0 hz
          rw [← hc1] at q1 hz
          clear hc0 hc1
          cases e0 : (c0 == 0)
          · have z0 : ((c0.toNat : Int) == 0) = false := by rw [u8_z, e0]
            rw [e0, Bool.false_and] at hz
            have HF := Lib.hid (HEND.out (by rw [HN.out, zcount_off z k n hkn hz]; omega))
            clear e0 hz
            by_cases hm : m < n
            · have hmi : (m : Int) < (n : Int) := by omega
              go_wp2_with fail
              go_roundw
              case rel => exact ⟨trivial, k + 1, k, n, by omega, rfl, rfl, rfl, Lib.hid (by rw [HF.out, if_pos hm])⟩
              case measure => simp [intOf]; omega
            · have hmi : ¬ (m : Int) < (n : Int) := by omega
              go_wp2_with fail
              go_roundw
              case rel => exact ⟨trivial, k + 1, p, m, by omega, rfl, rfl, rfl, Lib.hid (by rw [HF.out, if_neg hm])⟩
              case measure => simp [intOf]; omega
          · have z0 : ((c0.toNat : Int) == 0) = true := by rw [u8_z, e0]
            rw [e0, Bool.true_and] at hz
            clear e0
            cases e1 : (c1 == 0)
            · have z1 : ((c1.toNat : Int) == 0) = false := by rw [u8_z, e1]
              rw [e1] at hz
              have HF := Lib.hid (HEND.out (by rw [HN.out, zcount_off z k n hkn hz]; omega))
              clear e1 hz
              by_cases hm : m < n
              · have hmi : (m : Int) < (n : Int) := by omega
                go_wp2_with fail
                go_roundw
                case rel => exact ⟨trivial, k + 1, k, n, by omega, rfl, rfl, rfl, Lib.hid (by rw [HF.out, if_pos hm])⟩
                case measure => simp [intOf]; omega
              · have hmi : ¬ (m : Int) < (n : Int) := by omega
                go_wp2_with fail
                go_roundw
                case rel => exact ⟨trivial, k + 1, p, m, by omega, rfl, rfl, rfl, Lib.hid (by rw [HF.out, if_neg hm])⟩
                case measure => simp [intOf]; omega
            · have z1 : ((c1.toNat : Int) == 0) = true := by rw [u8_z, e1]
              rw [e1] at hz
              have HF := Lib.hid (show zcount z (8 - k) k = (n + 1) + zcount z (8 - k - (n + 1)) (k + (n + 1)) from by rw [HN.out, zcount_at z k n hkn hz]; omega)
              clear e1 hz
              go_wp2_with fail
              go_roundw
              case rel => exact ⟨trivial, n + 1, by omega, rfl, HF⟩
              case measure => simp [intOf]; omega
        · have hkni : ¬ ((k + n : Nat) : Int) < 8 := by omega
          have HF := Lib.hid (HEND.out (by rw [HN.out, show 8 - k - n = 0 from by omega]; rfl))
          by_cases hm : m < n
          · have hmi : (m : Int) < (n : Int) := by omega
            go_wp2_with fail
            go_roundw
            case rel => exact ⟨trivial, k + 1, k, n, by omega, rfl, rfl, rfl, Lib.hid (by rw [HF.out, if_pos hm])⟩
            case measure => simp [intOf]; omega
          · have hmi : ¬ (m : Int) < (n : Int) := by omega
            go_wp2_with fail
            go_roundw
            case rel => exact ⟨trivial, k + 1, p, m, by omega, rfl, rfl, rfl, Lib.hid (by rw [HF.out, if_neg hm])⟩
            case measure => simp [intOf]; omega
    · obtain rfl : k = 8 := by omega
      have HF := Lib.hid HS.out
      go_wp2_with fail
      go_ret2
      exact ⟨by rw [HF.out]; rfl, Below.refl _ _⟩
end Go.Proofs.Tryz.Tx

/- The document's text, plainly: groups out of bytes, signs one by one. No program. -/
set_option linter.unusedVariables false
set_option linter.unusedSimpArgs false
namespace Go.Cph.Tx
open Go.Cph.Px (Ad rightA num bytesA bytesN rightA_iff)
open Go.Proofs.Tryz.Tx (zb)
theorem bytesA6 (hi lo : UInt64) : bytesA (6, hi, lo) = bytesN hi.toNat 8 ++ bytesN lo.toNat 8 := by
  rw [← Px.bytes16 6 hi lo]; rfl
theorem bytesA6_len (hi lo : UInt64) : (bytesA (6, hi, lo)).length = 16 := by rw [bytesA6, List.length_append, Px.bytesN_length, Px.bytesN_length]
theorem b_at (hi lo : UInt64) (j : Nat) (h : j < 16) : (bytesA (6, hi, lo)).getD j 0 = UInt8.ofNat (if j < 8 then hi.toNat / 256 ^ (7 - j) else lo.toNat / 256 ^ (15 - j)) := by
  rw [bytesA6, List.getD_eq_getElem?_getD]
  by_cases h8 : j < 8
  · rw [List.getElem?_append_left (by rw [Px.bytesN_length]; exact h8), Px.bytesN_at _ _ _ h8, if_pos h8]; rfl
  · rw [List.getElem?_append_right (by rw [Px.bytesN_length]; omega), Px.bytesN_length, Px.bytesN_at _ _ _ (by omega), if_neg h8, show 8 - 1 - (j - 8) = 15 - j from by omega]; rfl
theorem grp_bytes (hi lo : UInt64) (i : Nat) (h : i < 8) : 256 * ((bytesA (6, hi, lo)).getD (2 * i) 0).toNat + ((bytesA (6, hi, lo)).getD (2 * i + 1) 0).toNat = grp (6, hi, lo) i := by
  rw [b_at hi lo _ (by omega), b_at hi lo _ (by omega), UInt8.toNat_ofNat', UInt8.toNat_ofNat']
  unfold grp
  generalize hx : hi.toNat = x
  generalize hy : lo.toNat = y
  rcases (show i = 0 ∨ i = 1 ∨ i = 2 ∨ i = 3 ∨ i = 4 ∨ i = 5 ∨ i = 6 ∨ i = 7 by omega) with rfl | rfl | rfl | rfl | rfl | rfl | rfl | rfl
  all_goals simp [hx, hy]
  all_goals omega
theorem zb_eq (hi lo : UInt64) (i : Nat) (h : i < 8) : zb (bytesA (6, hi, lo)) i = zf (6, hi, lo) i := by
  have hg := grp_bytes hi lo i h
  unfold zb zf
  rw [← hg]
  generalize (bytesA (6, hi, lo)).getD (2 * i) 0 = a
  generalize (bytesA (6, hi, lo)).getD (2 * i + 1) 0 = b
  rw [Bool.eq_iff_iff]
  simp only [Bool.and_eq_true, beq_iff_eq]
  constructor
  · rintro ⟨rfl, rfl⟩; rfl
  · intro e
    exact ⟨UInt8.toNat_inj.1 (by show a.toNat = 0; omega), UInt8.toNat_inj.1 (by show b.toNat = 0; omega)⟩
theorem zb_zeroS (hi lo : UInt64) : zeroS (zb (bytesA (6, hi, lo))) 8 = zeroS (zf (6, hi, lo)) 8 := zeroS_congr 8 (Nat.le_refl _) (zb_eq hi lo)
theorem dtoks_succ (p m i : Nat) : dtoks p m (i + 1) = dtoks p m i ++ dtok p m i := by
  unfold dtoks; rw [List.range_succ, List.flatMap_append]; simp
theorem flat_step (w : Nat → Bs) (p m i : Nat) : flat w (dtoks p m (i + 1)) = flat w (dtoks p m i) ++ flat w (dtok p m i) := by rw [dtoks_succ, flat_append]
theorem flat_at (w : Nat → Bs) (p m i : Nat) (h : i < 8) : flat w (dtok p m i) = if 1 < m ∧ p ≤ i ∧ i < p + m then (if i = p then [58, 58] else []) else (if 0 < i ∧ (m < 2 ∨ i ≠ p + m) then [58] else []) ++ w i := by
  unfold dtok
  have h8 : i ≠ 8 := by omega
  split
  · split <;> rfl
  · rw [flat_append]
    congr 1
    · split <;> rfl
    · show (if i = 8 then [58] else w i) ++ [] = w i
      rw [if_neg h8, List.append_nil]
theorem joinC_snoc (c : UInt8) : ∀ (l : List Bs) (x : Bs), l ≠ [] → joinC c (l ++ [x]) = joinC c l ++ [c] ++ x := by
  intro l
  induction l with
  | nil => intro x h; exact absurd rfl h
  | cons a r ih =>
    intro x _
    cases r with
    | nil => show a ++ c :: x = a ++ [c] ++ x; simp
    | cons b t =>
      show a ++ c :: joinC c (b :: t ++ [x]) = a ++ c :: joinC c (b :: t) ++ [c] ++ x
      rw [ih x (by simp)]; simp
theorem flat_len (w : Nat → Bs) (hw : ∀ i, (w i).length ≤ 6) : ∀ l : List Nat, (flat w l).length ≤ 6 * l.length := by
  intro l
  induction l with
  | nil => exact Nat.le_refl _
  | cons a r ih =>
    show ((if a = 8 then [58] else w a) ++ flat w r).length ≤ _
    rw [List.length_append, List.length_cons]
    have := hw a
    split
    · simp; omega
    · omega
theorem dtok_len (p m i : Nat) : (dtok p m i).length ≤ 2 := by unfold dtok; split <;> split <;> simp
theorem dtoks_len (p m : Nat) : ∀ i, (dtoks p m i).length ≤ 2 * i := by
  intro i
  induction i with
  | zero => exact Nat.le_refl _
  | succ i ih => rw [dtoks_succ, List.length_append]; have := dtok_len p m i; omega
end Go.Cph.Tx

/- The document's text of an address. -/
set_option linter.unusedVariables false
set_option linter.unusedSimpArgs false
set_option maxRecDepth 100000
namespace Go.Proofs.Tryz.Tx
open Go.RowKit Go.Cph Go.Cph.Tx
open Go.Cph.Ok (ofBs)
open Go.Cph.Px (Ad rightA bytesA zeroA lessA fromB fromOk)
open Go.Proofs.Tryz.Pfx (encA bcell ad_eq BsAt bs_cells encB rbytes BytesPost)
abbrev boxR (a : Ad) : Obj := .cells #[.int .u8 (a.1.toNat : Int), .int .u64 (a.2.1.toNat : Int), .int .u64 (a.2.2.toNat : Int)] 30 (0, 0)
abbrev TextPost (t : Bs) (w : World) (e : Ending) (w' : World) : Prop := e = .returned (.string (ofBs t)) ∧ Below w.heap.size w w'
set_option maxHeartbeats 1600000 in
theorem rtext_other (f : UInt8) (x y : UInt64) (w : World) (h4 : f ≠ 4) (h6 : f ≠ 6) : Calls Tryz.prog 52 #[encA (f, x, y)] w (TextPost [] w) := by
  obtain ⟨l, hl⟩ : ∃ l, l = bytesA (f, x, y) := ⟨_, rfl⟩
  have HBY := Lib.hid (fun W => rbytes (f, x, y) W)
  rw [← hl] at HBY
  clear hl
  have z4 : ((f.toNat : Int) == 4) = false := by rw [show ((f.toNat : Int) == 4) = (f == 4) from Pfx.u8_eq f 4]; simpa using h4
  have z6 : ((f.toNat : Int) != 6) = true := by rw [bne, show ((f.toNat : Int) == 6) = (f == 6) from Pfx.u8_eq f 6]; simpa using h6
  clear h4 h6
  have HBX := Lib.hid (show Below w.heap.size w (w.alloc (boxR (f, x, y))) from (Below.refl _ _).alloc (Nat.le_refl _) _)
  have HX := Lib.hid (heap_alloc_new w (boxR (f, x, y)))
  have c0 : (w.alloc (boxR (f, x, y))).cell? ⟨w.heap.size, 0, none⟩ = some (.int .u8 (f.toNat : Int)) := by rw [blk_cell HX.out]; rfl
  have c1 : (w.alloc (boxR (f, x, y))).cell? ⟨w.heap.size, 1, none⟩ = some (.int .u64 (x.toNat : Int)) := by rw [blk_cell HX.out]; rfl
  have c2 : (w.alloc (boxR (f, x, y))).cell? ⟨w.heap.size, 2, none⟩ = some (.int .u64 (y.toNat : Int)) := by rw [blk_cell HX.out]; rfl
  go_enter Tryz.func52, Tryz.ntmps52
  go_wp2_with fail
  refine (HBY.out _).mono ?_
  rintro e w1 ⟨v', rfl, ho, hb⟩
  have HB1 := Lib.hid (below_step HBX.out hb HBX.out.size)
  have HX1 := Lib.hid (blk_kept hb HX.out)
  have HO := Lib.hid (show BsAt w1 v' l from Seg.of_owns ho)
  clear hb ho c0 c1 c2 HX HBX
  have c0 : w1.cell? ⟨w.heap.size, 0, none⟩ = some (.int .u8 (f.toNat : Int)) := by rw [blk_cell HX1.out]; rfl
  go_wp2_with fail
  go_ret
  exact ⟨rfl, HB1.out⟩
set_option maxHeartbeats 3200000 in
theorem rtext_4 (f : UInt8) (x y : UInt64) (w : World) (h4 : f = 4) : Calls Tryz.prog 52 #[encA (f, x, y)] w (TextPost (joinC 46 ((bytesA (f, x, y)).map fun c => digs 10 c.toNat)) w) := by
  obtain ⟨l, hl⟩ : ∃ l, l = bytesA (f, x, y) := ⟨_, rfl⟩
  have HLL := Lib.hid (show l.length ≤ 16 from by rw [hl]; exact Pfx.bytesA_le _)
  have HBY := Lib.hid (fun W => rbytes (f, x, y) W)
  rw [← hl] at HBY ⊢
  clear hl
  have z4 : ((f.toNat : Int) == 4) = true := by rw [show ((f.toNat : Int) == 4) = (f == 4) from Pfx.u8_eq f 4]; simpa using h4
  clear h4
  have HBX := Lib.hid (show Below w.heap.size w (w.alloc (boxR (f, x, y))) from (Below.refl _ _).alloc (Nat.le_refl _) _)
  have HX := Lib.hid (heap_alloc_new w (boxR (f, x, y)))
  have c0 : (w.alloc (boxR (f, x, y))).cell? ⟨w.heap.size, 0, none⟩ = some (.int .u8 (f.toNat : Int)) := by rw [blk_cell HX.out]; rfl
  have c1 : (w.alloc (boxR (f, x, y))).cell? ⟨w.heap.size, 1, none⟩ = some (.int .u64 (x.toNat : Int)) := by rw [blk_cell HX.out]; rfl
  have c2 : (w.alloc (boxR (f, x, y))).cell? ⟨w.heap.size, 2, none⟩ = some (.int .u64 (y.toNat : Int)) := by rw [blk_cell HX.out]; rfl
  go_enter Tryz.func52, Tryz.ntmps52
  go_wp2_with fail
  refine (HBY.out _).mono ?_
  rintro e w1 ⟨v', rfl, ho, hb⟩
  have HB1 := Lib.hid (below_step HBX.out hb HBX.out.size)
  have HX1 := Lib.hid (blk_kept hb HX.out)
  have HO := Lib.hid (show BsAt w1 v' l from Seg.of_owns ho)
  clear hb ho c0 c1 c2 HX HBX
  have c0 : w1.cell? ⟨w.heap.size, 0, none⟩ = some (.int .u8 (f.toNat : Int)) := by rw [blk_cell HX1.out]; rfl
  obtain ⟨ao, cap, rfl⟩ := elems_slice HO.out
  go_wp2_with fail
  go_loopw [4, 5] (fun v4 v5 W => ∃ (i : Nat) (s : Bs), i ≤ l.length ∧ v5 = .int .i64 (i : Int) ∧ v4 = .string (ofBs s) ∧ Hid (s = joinC 46 ((l.take i).map fun c => digs 10 c.toNat)) ∧ Below w1.heap.size w1 W) (fun _ v5 _ => l.length - (intOf v5).toNat)
  case atStart => exact ⟨0, [], by omega, rfl, rfl, Lib.hid rfl, Below.refl _ _⟩
  case round =>
    obtain ⟨i, s, hi, rfl, rfl, HS, hb⟩ := hrel
    have HB2 := Lib.hid hb
    clear hb
    have hli := HLL.out
    by_cases hil : i < l.length
    · have hii : (i : Int) < (l.length : Int) := by omega
      obtain ⟨b, off, cap', hve, hcs⟩ := bs_cells HO.out (by omega)
      cases hve
      have q0 := cell_kept HB2.out (hcs i hil)
      obtain ⟨c, hc⟩ : ∃ c, c = l[i] := ⟨_, rfl⟩
      have HT := Lib.hid (show l.take (i + 1) = l.take i ++ [c] from by rw [hc]; simp)
      rw [← hc] at q0
      clear hc hcs
      have k1 : IntKind.i64.wrap ((i : Int) + 1) = ((i + 1 : Nat) : Int) := by rw [IntKind.wrap_i64]; omega
      have hs : s.length ≤ 200 := by
        rw [HS.out]
        have := joinC_len 46 ((l.take i).map fun c => digs 10 c.toNat) (fun x hx => by obtain ⟨c, -, rfl⟩ := List.mem_map.1 hx; exact digs_len _ _)
        rw [List.length_map, List.length_take] at this; omega
      have hcl := digs_len 10 c.toNat
      have HIN := Lib.hid (fun W => in10 c.toNat (by have := c.toNat_lt; omega) W)
      obtain ⟨d, hd⟩ : ∃ d, d = digs 10 c.toNat := ⟨_, rfl⟩
      rw [← hd] at HIN hcl
      by_cases h0 : i = 0
      · have hi0 : ¬ (i : Int) > 0 := by omega
        have HN := Lib.hid (show s ++ d = joinC 46 ((l.take (i + 1)).map fun c => digs 10 c.toNat) from by rw [HS.out, HT.out, hd, h0]; rfl)
        clear h0
        have hk := cat_run s d (by omega)
        have HK := Lib.hid hk
        clear hd hk
        go_wp2_with fail
        refine (HIN.out _).mono ?_
        rintro e w2 ⟨rfl, hb⟩
        have HB3 := Lib.hid (below_step HB2.out hb HB2.out.size)
        clear hb q0
        have hk := HK.out
        go_wp2_with fail
        go_roundw
        case rel => exact ⟨i + 1, s ++ d, by omega, rfl, rfl, Lib.hid HN.out, HB3.out⟩
        case measure => simp [intOf]; omega
      · have hi0 : (i : Int) > 0 := by omega
        have HN := Lib.hid (show s ++ [46] ++ d = joinC 46 ((l.take (i + 1)).map fun c => digs 10 c.toNat) from by
          rw [HT.out, List.map_append, List.map_singleton, joinC_snoc 46 _ _ (by intro e; have h1 := congrArg List.length e; rw [List.length_map, List.length_take] at h1; simp only [List.length_nil] at h1; omega), ← HS.out, hd])
        have hk1 : ∀ W, (Op.stringOp .add (ofBs s) ⟨#[46]⟩).run Tryz.prog W = .ok (.string (ofBs (s ++ [46]))) W := cat_run s [46] (by simp; omega)
        have HK := Lib.hid (cat_run (s ++ [46]) d (by simp; omega))
        clear hd
        go_wp2_with fail
        refine (HIN.out _).mono ?_
        rintro e w2 ⟨rfl, hb⟩
        have HB3 := Lib.hid (below_step HB2.out hb HB2.out.size)
        clear hb q0 hk1
        have hk := HK.out
        go_wp2_with fail
        go_roundw
        case rel => exact ⟨i + 1, s ++ [46] ++ d, by omega, rfl, by simp, Lib.hid HN.out, HB3.out⟩
        case measure => simp [intOf]; omega
    · obtain rfl : i = l.length := by omega
      have HN := Lib.hid (show s = joinC 46 (l.map fun c => digs 10 c.toNat) from by rw [HS.out, List.take_length])
      go_wp2_with fail
      go_ret
      exact ⟨ret_str (by rw [HN.out]), HB1.out.trans (HB2.out.mono HB1.out.size)⟩
end Go.Proofs.Tryz.Tx

/- The document's text of an address of V6. -/
set_option linter.unusedVariables false
set_option linter.unusedSimpArgs false
set_option maxRecDepth 100000
namespace Go.Proofs.Tryz.Tx
open Go.RowKit Go.Cph Go.Cph.Tx
open Go.Cph.Ok (ofBs)
open Go.Cph.Px (Ad rightA bytesA zeroA lessA fromB fromOk)
open Go.Proofs.Tryz.Pfx (encA bcell ad_eq BsAt bs_cells encB rbytes BytesPost)
set_option maxHeartbeats 16000000 in
theorem rtext_6 (f : UInt8) (x y : UInt64) (w : World) (h6 : f = 6) : Calls Tryz.prog 52 #[encA (f, x, y)] w (TextPost (text6 (f, x, y)) w) := by
  obtain ⟨l, hl⟩ : ∃ l, l = bytesA (f, x, y) := ⟨_, rfl⟩
  have HLL := Lib.hid (show l.length = 16 from by rw [hl, h6]; exact bytesA6_len x y)
  have HBY := Lib.hid (fun W => rbytes (f, x, y) W)
  rw [← hl] at HBY
  obtain ⟨G, hG⟩ : ∃ G, G = grp (f, x, y) := ⟨_, rfl⟩
  have HG := Lib.hid (show ∀ i, i < 8 → 256 * (l.getD (2 * i) 0).toNat + (l.getD (2 * i + 1) 0).toNat = G i from fun i hi => by rw [hl, hG, h6]; exact grp_bytes x y i hi)
  obtain ⟨p, hp⟩ : ∃ p, p = (zeroS (zb l) 8).1 := ⟨_, rfl⟩
  obtain ⟨m, hm⟩ : ∃ m, m = (zeroS (zb l) 8).2 := ⟨_, rfl⟩
  have HPM := Lib.hid (show p + m ≤ 8 from by rw [hp, hm]; exact zeroS_le _ 8 (Nat.le_refl _))
  have HT := Lib.hid (show text6 (f, x, y) = flat (fun i => digs 16 (G i)) (dtoks p m 8) from by
    rw [text6_doc, hp, hm, hl, h6, hG, h6, zb_zeroS]; rfl)
  have HZS := Lib.hid (show ∀ v W, BsAt W v l → Calls Tryz.prog 75 #[v] W fun e w' => e = .returned (.tuple #[.int .i64 (p : Int), .int .i64 (m : Int)]) ∧ Below W.heap.size W w' from fun v W h => by rw [hp, hm]; exact zeros_any l v W HLL.out h)
  obtain ⟨T, hT⟩ : ∃ T, T = text6 (f, x, y) := ⟨_, rfl⟩
  rw [← hT] at HT ⊢
  obtain ⟨wd', hwd⟩ : ∃ u, u = fun i => digs 16 (G i) := ⟨_, rfl⟩
  have HWD := Lib.hid (show ∀ i, wd' i = digs 16 (G i) from fun i => by rw [hwd])
  rw [← hwd] at HT
  clear hl hG hp hm hT hwd
  have z4 : ((f.toNat : Int) == 4) = false := by rw [show ((f.toNat : Int) == 4) = (f == 4) from Pfx.u8_eq f 4, h6]; rfl
  have z6 : ((f.toNat : Int) != 6) = false := by rw [bne, show ((f.toNat : Int) == 6) = (f == 6) from Pfx.u8_eq f 6, h6]; rfl
  clear h6
  have HBX := Lib.hid (show Below w.heap.size w (w.alloc (boxR (f, x, y))) from (Below.refl _ _).alloc (Nat.le_refl _) _)
  have HX := Lib.hid (heap_alloc_new w (boxR (f, x, y)))
  have c0 : (w.alloc (boxR (f, x, y))).cell? ⟨w.heap.size, 0, none⟩ = some (.int .u8 (f.toNat : Int)) := by rw [blk_cell HX.out]; rfl
  have c1 : (w.alloc (boxR (f, x, y))).cell? ⟨w.heap.size, 1, none⟩ = some (.int .u64 (x.toNat : Int)) := by rw [blk_cell HX.out]; rfl
  have c2 : (w.alloc (boxR (f, x, y))).cell? ⟨w.heap.size, 2, none⟩ = some (.int .u64 (y.toNat : Int)) := by rw [blk_cell HX.out]; rfl
  go_enter Tryz.func52, Tryz.ntmps52
  go_wp2_with fail
  refine (HBY.out _).mono ?_
  rintro e w1 ⟨v', rfl, ho, hb⟩
  have HB1 := Lib.hid (below_step HBX.out hb HBX.out.size)
  have HX1 := Lib.hid (blk_kept hb HX.out)
  have HO := Lib.hid (show BsAt w1 v' l from Seg.of_owns ho)
  clear hb ho c0 c1 c2 HX HBX
  have c0 : w1.cell? ⟨w.heap.size, 0, none⟩ = some (.int .u8 (f.toNat : Int)) := by rw [blk_cell HX1.out]; rfl
  have HZ1 := Lib.hid (HZS.out _ _ HO.out)
  go_wp2_with fail
  refine HZ1.out.mono ?_
  rintro e w2 ⟨rfl, hb⟩
  have HB2 := Lib.hid (below_step HB1.out hb HB1.out.size)
  obtain ⟨b, off, cap, rfl, hcs⟩ := bs_cells HO.out (by have := HLL.out; omega)
  rw [HLL.out]
  have HC := Lib.hid (show ∀ W, Below w2.heap.size w2 W → ∀ j, j < 16 → W.cell? ⟨b, off + j, none⟩ = some (.int .u8 ((l.getD j 0).toNat : Int)) from fun W hW j hj => by
    have h1 : j < l.length := by have := HLL.out; omega
    rw [cell_kept hW (cell_kept hb (hcs j h1))]; simp [h1])
  have HLT := Lib.hid (show b < w2.heap.size from by
    have h1 : 0 < l.length := by have := HLL.out; omega
    exact World.block_lt_of_cell? _ _ (cell_kept hb (hcs 0 h1)))
  clear hb hcs HZ1 HZS HO HBY c0
  have hpm := HPM.out
  have k0 : IntKind.i64.wrap ((p : Int) + (m : Int)) = ((p + m : Nat) : Int) := by rw [IntKind.wrap_i64]; omega
  go_wp2_with fail
  go_loopw [4, 8] (fun v4 v8 W => ∃ (i : Nat) (s : Bs), i ≤ 8 ∧ v8 = .int .i64 (i : Int) ∧ v4 = .string (ofBs s) ∧ Hid (s = flat wd' (dtoks p m i)) ∧ Below w2.heap.size w2 W) (fun _ v8 _ => 8 - (intOf v8).toNat)
  case atStart => exact ⟨0, [], by omega, rfl, rfl, Lib.hid rfl, Below.refl _ _⟩
  case round =>
    obtain ⟨i, s, hi, rfl, rfl, HS, hb⟩ := hrel
    have HB3 := Lib.hid hb
    clear hb
    by_cases hi8 : i < 8
    · have hii : (i : Int) < 8 := by omega
      have hs : s.length ≤ 96 := by
        rw [HS.out]
        have h1 := flat_len wd' (fun i => by rw [HWD.out]; exact digs_len _ _) (dtoks p m i)
        have h2 := dtoks_len p m i
        omega
      have HN0 := Lib.hid (show flat wd' (dtoks p m (i + 1)) = s ++ flat wd' (dtok p m i) from by rw [flat_step, ← HS.out])
      have HFA := Lib.hid (flat_at wd' p m i hi8)
      have k1 : IntKind.i64.wrap ((i : Int) + 1) = ((i + 1 : Nat) : Int) := by rw [IntKind.wrap_i64]; omega
      have k2 : IntKind.i64.wrap (2 * (i : Int)) = ((2 * i : Nat) : Int) := by rw [IntKind.wrap_i64]; omega
      have k3 : IntKind.i64.wrap (((2 * i : Nat) : Int) + 1) = ((2 * i + 1 : Nat) : Int) := by rw [IntKind.wrap_i64]; omega
      have b1 : ((2 * i : Nat) : Int) < 16 := by omega
      have b2 : ((2 * i + 1 : Nat) : Int) < 16 := by omega
      have hq0 := HC.out wr HB3.out (2 * i) (by omega)
      have hq1 := HC.out wr HB3.out (2 * i + 1) (by omega)
      have hg := HG.out i hi8
      have hwi := HWD.out i
      obtain ⟨c0, hc0⟩ : ∃ c, c = l.getD (2 * i) 0 := ⟨_, rfl⟩
      obtain ⟨c1, hc1⟩ : ∃ c, c = l.getD (2 * i + 1) 0 := ⟨_, rfl⟩
      rw [← hc0] at hq0 hg
      rw [← hc1] at hq1 hg
      clear hc0 hc1
      obtain ⟨g, hgg⟩ : ∃ g, g = G i := ⟨_, rfl⟩
      rw [← hgg] at hg hwi
      clear hgg
      have hl0 := c0.toNat_lt
      have hl1 := c1.toNat_lt
      have k4 : IntKind.i64.wrap (256 * (c0.toNat : Int)) = ((256 * c0.toNat : Nat) : Int) := by rw [IntKind.wrap_i64]; omega
      have k5 : IntKind.i64.wrap (256 * (c0.toNat : Int) + (c1.toNat : Int)) = (g : Int) := by rw [IntKind.wrap_i64]; omega
      have HIN := Lib.hid (fun W => in16 g (by omega) W)
      have hdl := digs_len 16 g
      obtain ⟨d, hd⟩ : ∃ d, d = digs 16 g := ⟨_, rfl⟩
      rw [← hd] at HIN hdl hwi
      rw [hwi] at HFA
      clear hd hwi hg hl0 hl1
      rcases (show (1 < m ∧ i = p) ∨ (1 < m ∧ p < i ∧ i < p + m) ∨ (1 < m ∧ i < p ∧ i = 0) ∨ (1 < m ∧ i < p ∧ 0 < i) ∨ (1 < m ∧ i = p + m) ∨ (1 < m ∧ p + m < i) ∨ (m < 2 ∧ i = 0) ∨ (m < 2 ∧ 0 < i) by omega) with hcase | hcase | hcase | hcase | hcase | hcase | hcase | hcase
      · skip
        have f0 : (m : Int) > 1 := by omega
        have f1 : (i : Int) ≥ (p : Int) := by omega
        have f2 : (i : Int) < ((p + m : Nat) : Int) := by omega
        have f3 : ((i : Int) == (p : Int)) = true := by rw [beq_iff_eq]; omega
        have hk1 : ∀ W, (Op.stringOp .add (ofBs s) ⟨#[58, 58]⟩).run Tryz.prog W = .ok (.string (ofBs (s ++ [58, 58]))) W := cat_run s [58, 58] (by simp; omega)
        have HN := Lib.hid (show s ++ [58, 58] = flat wd' (dtoks p m (i + 1)) from by rw [HN0.out, HFA.out, if_pos (by omega), if_pos (by omega)])
        have HIP := Lib.hid hcase.2
        clear hcase
        go_wp2_with fail
        go_roundw
        case rel => exact ⟨i + 1, s ++ [58, 58], by omega, (by have := HIP.out; first | (congr 1; done) | (congr 1; omega)), rfl, Lib.hid (HN.out), HB3.out⟩
        case measure => simp [intOf]; omega
      · skip
        have f0 : (m : Int) > 1 := by omega
        have f1 : (i : Int) ≥ (p : Int) := by omega
        have f2 : (i : Int) < ((p + m : Nat) : Int) := by omega
        have f3 : ((i : Int) == (p : Int)) = false := by rw [beq_eq_false_iff_ne]; omega
        have HN := Lib.hid (show s = flat wd' (dtoks p m (i + 1)) from by rw [HN0.out, HFA.out, if_pos (by omega), if_neg (by omega), List.append_nil])
        clear hcase
        go_wp2_with fail
        go_roundw
        case rel => exact ⟨i + 1, s, by omega, rfl, rfl, Lib.hid (HN.out), HB3.out⟩
        case measure => simp [intOf]; omega
      · skip
        have f0 : (m : Int) > 1 := by omega
        have f1 : ¬ (i : Int) ≥ (p : Int) := by omega
        have f2 : ¬ (i : Int) > 0 := by omega
        have hk2 := cat_run s d (by omega)
        have HN := Lib.hid (show s ++ d = flat wd' (dtoks p m (i + 1)) from by rw [HN0.out, HFA.out, if_neg (by omega), if_neg (by omega), List.nil_append])
        clear hcase
        have q0 : ∀ zz : Later wr.heap.size wr, zz.val.cell? ⟨b, off + 2 * i, none⟩ = some (.int .u8 (c0.toNat : Int)) := fun zz => (zz.prop.cell (Nat.lt_of_lt_of_le HLT.out HB3.out.size)).trans hq0
        have q1 : ∀ zz : Later wr.heap.size wr, zz.val.cell? ⟨b, off + (2 * i + 1), none⟩ = some (.int .u8 (c1.toNat : Int)) := fun zz => (zz.prop.cell (Nat.lt_of_lt_of_le HLT.out HB3.out.size)).trans hq1
        go_wp2_with fail
        refine wp_region_later wr.heap.size (by kernel_rfl) (by kernel_rfl) ?_
        repeat (go_big_quiet_step ((go_at_call 74; with_reducible exact Later.calls (Nat.le_refl _) (HIN.out _))))
        refine wpQuiet_nil ?_
        rintro w3 ⟨zz, rfl⟩
        have HB4 := Lib.hid (below_step HB3.out zz.prop HB3.out.size)
        clear q0 q1
        go_wp2_with fail
        go_roundw
        case rel => exact ⟨i + 1, s ++ d, by omega, rfl, rfl, Lib.hid (HN.out), HB4.out⟩
        case measure => simp [intOf]; omega
      · skip
        have f0 : (m : Int) > 1 := by omega
        have f1 : ¬ (i : Int) ≥ (p : Int) := by omega
        have f2 : (i : Int) > 0 := by omega
        have f3 : ¬ (m : Int) < 2 := by omega
        have f4 : ((i : Int) != ((p + m : Nat) : Int)) = true := by rw [bne_iff_ne]; omega
        have hk1 : ∀ W, (Op.stringOp .add (ofBs s) ⟨#[58]⟩).run Tryz.prog W = .ok (.string (ofBs (s ++ [58]))) W := cat_run s [58] (by simp; omega)
        have hk2 := cat_run (s ++ [58]) d (by simp; omega)
        have HN := Lib.hid (show s ++ [58] ++ d = flat wd' (dtoks p m (i + 1)) from by rw [HN0.out, HFA.out, if_neg (by omega), if_pos (by omega), List.append_assoc])
        clear hcase
        have q0 : ∀ zz : Later wr.heap.size wr, zz.val.cell? ⟨b, off + 2 * i, none⟩ = some (.int .u8 (c0.toNat : Int)) := fun zz => (zz.prop.cell (Nat.lt_of_lt_of_le HLT.out HB3.out.size)).trans hq0
        have q1 : ∀ zz : Later wr.heap.size wr, zz.val.cell? ⟨b, off + (2 * i + 1), none⟩ = some (.int .u8 (c1.toNat : Int)) := fun zz => (zz.prop.cell (Nat.lt_of_lt_of_le HLT.out HB3.out.size)).trans hq1
        go_wp2_with fail
        refine wp_region_later wr.heap.size (by kernel_rfl) (by kernel_rfl) ?_
        repeat (go_big_quiet_step ((go_at_call 74; with_reducible exact Later.calls (Nat.le_refl _) (HIN.out _))))
        refine wpQuiet_nil ?_
        rintro w3 ⟨zz, rfl⟩
        have HB4 := Lib.hid (below_step HB3.out zz.prop HB3.out.size)
        clear q0 q1
        go_wp2_with fail
        go_roundw
        case rel => exact ⟨i + 1, s ++ [58] ++ d, by omega, rfl, by simp, Lib.hid (HN.out), HB4.out⟩
        case measure => simp [intOf]; omega
      · skip
        have f0 : (m : Int) > 1 := by omega
        have f1 : (i : Int) ≥ (p : Int) := by omega
        have f2 : ¬ (i : Int) < ((p + m : Nat) : Int) := by omega
        have f3 : (i : Int) > 0 := by omega
        have f4 : ¬ (m : Int) < 2 := by omega
        have f5 : ((i : Int) != ((p + m : Nat) : Int)) = false := by rw [bne_eq_false_iff_eq]; omega
        have hk2 := cat_run s d (by omega)
        have HN := Lib.hid (show s ++ d = flat wd' (dtoks p m (i + 1)) from by rw [HN0.out, HFA.out, if_neg (by omega), if_neg (by omega), List.nil_append])
        clear hcase
        have q0 : ∀ zz : Later wr.heap.size wr, zz.val.cell? ⟨b, off + 2 * i, none⟩ = some (.int .u8 (c0.toNat : Int)) := fun zz => (zz.prop.cell (Nat.lt_of_lt_of_le HLT.out HB3.out.size)).trans hq0
        have q1 : ∀ zz : Later wr.heap.size wr, zz.val.cell? ⟨b, off + (2 * i + 1), none⟩ = some (.int .u8 (c1.toNat : Int)) := fun zz => (zz.prop.cell (Nat.lt_of_lt_of_le HLT.out HB3.out.size)).trans hq1
        go_wp2_with fail
        refine wp_region_later wr.heap.size (by kernel_rfl) (by kernel_rfl) ?_
        repeat (go_big_quiet_step ((go_at_call 74; with_reducible exact Later.calls (Nat.le_refl _) (HIN.out _))))
        refine wpQuiet_nil ?_
        rintro w3 ⟨zz, rfl⟩
        have HB4 := Lib.hid (below_step HB3.out zz.prop HB3.out.size)
        clear q0 q1
        go_wp2_with fail
        go_roundw
        case rel => exact ⟨i + 1, s ++ d, by omega, rfl, rfl, Lib.hid (HN.out), HB4.out⟩
        case measure => simp [intOf]; omega
      · skip
        have f0 : (m : Int) > 1 := by omega
        have f1 : (i : Int) ≥ (p : Int) := by omega
        have f2 : ¬ (i : Int) < ((p + m : Nat) : Int) := by omega
        have f3 : (i : Int) > 0 := by omega
        have f4 : ¬ (m : Int) < 2 := by omega
        have f5 : ((i : Int) != ((p + m : Nat) : Int)) = true := by rw [bne_iff_ne]; omega
        have hk1 : ∀ W, (Op.stringOp .add (ofBs s) ⟨#[58]⟩).run Tryz.prog W = .ok (.string (ofBs (s ++ [58]))) W := cat_run s [58] (by simp; omega)
        have hk2 := cat_run (s ++ [58]) d (by simp; omega)
        have HN := Lib.hid (show s ++ [58] ++ d = flat wd' (dtoks p m (i + 1)) from by rw [HN0.out, HFA.out, if_neg (by omega), if_pos (by omega), List.append_assoc])
        clear hcase
        have q0 : ∀ zz : Later wr.heap.size wr, zz.val.cell? ⟨b, off + 2 * i, none⟩ = some (.int .u8 (c0.toNat : Int)) := fun zz => (zz.prop.cell (Nat.lt_of_lt_of_le HLT.out HB3.out.size)).trans hq0
        have q1 : ∀ zz : Later wr.heap.size wr, zz.val.cell? ⟨b, off + (2 * i + 1), none⟩ = some (.int .u8 (c1.toNat : Int)) := fun zz => (zz.prop.cell (Nat.lt_of_lt_of_le HLT.out HB3.out.size)).trans hq1
        go_wp2_with fail
        refine wp_region_later wr.heap.size (by kernel_rfl) (by kernel_rfl) ?_
        repeat (go_big_quiet_step ((go_at_call 74; with_reducible exact Later.calls (Nat.le_refl _) (HIN.out _))))
        refine wpQuiet_nil ?_
        rintro w3 ⟨zz, rfl⟩
        have HB4 := Lib.hid (below_step HB3.out zz.prop HB3.out.size)
        clear q0 q1
        go_wp2_with fail
        go_roundw
        case rel => exact ⟨i + 1, s ++ [58] ++ d, by omega, rfl, by simp, Lib.hid (HN.out), HB4.out⟩
        case measure => simp [intOf]; omega
      · skip
        have f0 : ¬ (m : Int) > 1 := by omega
        have f1 : ¬ (i : Int) > 0 := by omega
        have hk2 := cat_run s d (by omega)
        have HN := Lib.hid (show s ++ d = flat wd' (dtoks p m (i + 1)) from by rw [HN0.out, HFA.out, if_neg (by omega), if_neg (by omega), List.nil_append])
        clear hcase
        have q0 : ∀ zz : Later wr.heap.size wr, zz.val.cell? ⟨b, off + 2 * i, none⟩ = some (.int .u8 (c0.toNat : Int)) := fun zz => (zz.prop.cell (Nat.lt_of_lt_of_le HLT.out HB3.out.size)).trans hq0
        have q1 : ∀ zz : Later wr.heap.size wr, zz.val.cell? ⟨b, off + (2 * i + 1), none⟩ = some (.int .u8 (c1.toNat : Int)) := fun zz => (zz.prop.cell (Nat.lt_of_lt_of_le HLT.out HB3.out.size)).trans hq1
        go_wp2_with fail
        refine wp_region_later wr.heap.size (by kernel_rfl) (by kernel_rfl) ?_
        repeat (go_big_quiet_step ((go_at_call 74; with_reducible exact Later.calls (Nat.le_refl _) (HIN.out _))))
        refine wpQuiet_nil ?_
        rintro w3 ⟨zz, rfl⟩
        have HB4 := Lib.hid (below_step HB3.out zz.prop HB3.out.size)
        clear q0 q1
        go_wp2_with fail
        go_roundw
        case rel => exact ⟨i + 1, s ++ d, by omega, rfl, rfl, Lib.hid (HN.out), HB4.out⟩
        case measure => simp [intOf]; omega
      · skip
        have f0 : ¬ (m : Int) > 1 := by omega
        have f1 : (i : Int) > 0 := by omega
        have f2 : (m : Int) < 2 := by omega
        have hk1 : ∀ W, (Op.stringOp .add (ofBs s) ⟨#[58]⟩).run Tryz.prog W = .ok (.string (ofBs (s ++ [58]))) W := cat_run s [58] (by simp; omega)
        have hk2 := cat_run (s ++ [58]) d (by simp; omega)
        have HN := Lib.hid (show s ++ [58] ++ d = flat wd' (dtoks p m (i + 1)) from by rw [HN0.out, HFA.out, if_neg (by omega), if_pos (by omega), List.append_assoc])
        clear hcase
        have q0 : ∀ zz : Later wr.heap.size wr, zz.val.cell? ⟨b, off + 2 * i, none⟩ = some (.int .u8 (c0.toNat : Int)) := fun zz => (zz.prop.cell (Nat.lt_of_lt_of_le HLT.out HB3.out.size)).trans hq0
        have q1 : ∀ zz : Later wr.heap.size wr, zz.val.cell? ⟨b, off + (2 * i + 1), none⟩ = some (.int .u8 (c1.toNat : Int)) := fun zz => (zz.prop.cell (Nat.lt_of_lt_of_le HLT.out HB3.out.size)).trans hq1
        go_wp2_with fail
        refine wp_region_later wr.heap.size (by kernel_rfl) (by kernel_rfl) ?_
        repeat (go_big_quiet_step ((go_at_call 74; with_reducible exact Later.calls (Nat.le_refl _) (HIN.out _))))
        refine wpQuiet_nil ?_
        rintro w3 ⟨zz, rfl⟩
        have HB4 := Lib.hid (below_step HB3.out zz.prop HB3.out.size)
        clear q0 q1
        go_wp2_with fail
        go_roundw
        case rel => exact ⟨i + 1, s ++ [58] ++ d, by omega, rfl, by simp, Lib.hid (HN.out), HB4.out⟩
        case measure => simp [intOf]; omega
    · obtain rfl : i = 8 := by omega
      have HN := Lib.hid (show s = T from by rw [HS.out, HT.out])
      go_wp2_with fail
      go_ret
      exact ⟨ret_str (by rw [HN.out]), HB2.out.trans (HB3.out.mono HB2.out.size)⟩
theorem rtext_any (a : Ad) (w : World) : Calls Tryz.prog 52 #[encA a] w (TextPost (textA a) w) := by
  obtain ⟨f, x, y⟩ := a
  by_cases h6 : f = 6
  · have : textA (f, x, y) = text6 (f, x, y) := by
      unfold textA
      rw [if_pos (Px.rightA_iff.2 (.inl h6)), if_pos h6]
    rw [this]; exact rtext_6 f x y w h6
  · by_cases h4 : f = 4
    · have : textA (f, x, y) = joinC 46 ((bytesA (f, x, y)).map fun c => digs 10 c.toNat) := by
        unfold textA
        cases hr : rightA (f, x, y) with
        | true => rw [if_pos rfl, if_neg h6]; rfl
        | false => rw [if_neg (by simp)]; unfold bytesA; rw [hr]; rfl
      rw [this]; exact rtext_4 f x y w h4
    · have : textA (f, x, y) = [] := by
        unfold textA
        cases hr : rightA (f, x, y) with
        | true => rcases Px.rightA_iff.1 hr with h | h
                  · exact absurd h h6
                  · exact absurd h.1 h4
        | false => rfl
      rw [this]; exact rtext_other f x y w h4 h6
end Go.Proofs.Tryz.Tx

/- The document's order, its address of a program's one, its addresses held against each other; its FromBytes of any family. -/
set_option linter.unusedVariables false
set_option linter.unusedSimpArgs false
set_option maxRecDepth 100000
namespace Go.Proofs.Tryz.Tx
open Go.RowKit Go.Cph Go.Cph.Tx
open Go.Cph.Ok (ofBs)
open Go.Cph.Px (Ad rightA bytesA zeroA lessA fromB fromOk)
open Go.Proofs.Tryz.Pfx
open Go.Proofs.Tryz.Rows (boxZR below_set3 rfrom)
theorem less_fam {f g : UInt8} (x y u v : UInt64) (h : f ≠ g) : lessA (f, x, y) (g, u, v) = decide (f.toNat < g.toNat) := by
  rw [Bool.eq_iff_iff, decide_eq_true_eq]; simp [lessA, h]
theorem less_hi {f : UInt8} {x u : UInt64} (y v : UInt64) (h : x ≠ u) : lessA (f, x, y) (f, u, v) = decide (x.toNat < u.toNat) := by
  rw [Bool.eq_iff_iff, decide_eq_true_eq]; simp [lessA, h]
theorem less_lo {f : UInt8} {x : UInt64} (y v : UInt64) : lessA (f, x, y) (f, x, v) = decide (y.toNat < v.toNat) := by
  rw [Bool.eq_iff_iff, decide_eq_true_eq]; simp [lessA]
theorem neq_of {x y : Int} {b : Bool} (h : (x == y) = b) : (x != y) = !b := by simp [bne, h]
set_option maxHeartbeats 1000000 in
theorem rless (a b : Ad) (w : World) : Calls Tryz.prog 53 #[encA a, encA b] w fun e w' => e = .returned (.bool (lessA a b)) ∧ Below w.heap.size w w' := by
  obtain ⟨f, x, y⟩ := a
  obtain ⟨g, u, v⟩ := b
  have hb : Below w.heap.size w ((w.alloc (.cells #[.int .u8 (f.toNat : Int), .int .u64 (x.toNat : Int), .int .u64 (y.toNat : Int)] 30)).alloc (.cells #[.int .u8 (g.toNat : Int), .int .u64 (u.toNat : Int), .int .u64 (v.toNat : Int)] 30)) := ((Below.refl _ _).alloc (Nat.le_refl _) _).alloc (by simp) _
  have HB := Lib.hid hb
  clear hb
  by_cases hf : f = g
  · subst hf
    by_cases hx : x = u
    · subst hx
      have HV := Lib.hid (less_lo (f := f) (x := x) y v)
      go_enter Tryz.func53, Tryz.ntmps53
      go_wp2_with fail
      go_ret
      exact ⟨ret_bool HV.out.symm, HB.out⟩
    · have HV := Lib.hid (less_hi (f := f) y v hx)
      have z := neq_of (u64_eq x u)
      rw [show (x == u) = false by simpa using hx] at z
      simp only [Bool.not_false] at z
      clear hx
      go_enter Tryz.func53, Tryz.ntmps53
      go_wp2_with fail
      go_ret
      exact ⟨ret_bool HV.out.symm, HB.out⟩
  · have HV := Lib.hid (less_fam x y u v hf)
    have z := neq_of (u8_eq f g)
    rw [show (f == g) = false by simpa using hf] at z
    simp only [Bool.not_false] at z
    clear hf
    go_enter Tryz.func53, Tryz.ntmps53
    go_wp2_with fail
    go_ret
    exact ⟨ret_bool HV.out.symm, HB.out⟩
set_option maxHeartbeats 4000000 in
theorem given19 (a : Ad) (w : World) : Calls Tryz.prog 8 #[encA a] w fun e w' => e = .returned (encA a) ∧ Below w.heap.size w w' := by
  have hb0 : Below w.heap.size w ((w.alloc (.cells #[.int .u8 (a.1.toNat : Int), .int .u64 (a.2.1.toNat : Int), .int .u64 (a.2.2.toNat : Int)] 24)).alloc (.cells #[.int .u8 0, .int .u64 0, .int .u64 0] 30)) := (((Below.refl _ _).alloc (Nat.le_refl _) _).alloc (by simp) _)
  have h1 : ((w.alloc (.cells #[.int .u8 (a.1.toNat : Int), .int .u64 (a.2.1.toNat : Int), .int .u64 (a.2.2.toNat : Int)] 24)).alloc (.cells #[.int .u8 0, .int .u64 0, .int .u64 0] 30)).heap[w.heap.size]? = some (.cells #[.int .u8 (a.1.toNat : Int), .int .u64 (a.2.1.toNat : Int), .int .u64 (a.2.2.toNat : Int)] 24 (0, 0)) := (blk_alloc (heap_alloc_new w (.cells #[.int .u8 (a.1.toNat : Int), .int .u64 (a.2.1.toNat : Int), .int .u64 (a.2.2.toNat : Int)] 24)) _)
  have h2 : ((w.alloc (.cells #[.int .u8 (a.1.toNat : Int), .int .u64 (a.2.1.toNat : Int), .int .u64 (a.2.2.toNat : Int)] 24)).alloc (.cells #[.int .u8 0, .int .u64 0, .int .u64 0] 30)).heap[w.heap.size + 1]? = some (.cells #[.int .u8 0, .int .u64 0, .int .u64 0] 30 (0, 0)) := by have h := (heap_alloc_new (w.alloc (.cells #[.int .u8 (a.1.toNat : Int), .int .u64 (a.2.1.toNat : Int), .int .u64 (a.2.2.toNat : Int)] 24)) (.cells #[.int .u8 0, .int .u64 0, .int .u64 0] 30)); simpa [World.size_alloc] using h
  have H1 := Lib.hid h1
  have H2 := Lib.hid h2
  have HB0 := Lib.hid hb0
  clear hb0 h1 h2
  have a0 : ((w.alloc (.cells #[.int .u8 (a.1.toNat : Int), .int .u64 (a.2.1.toNat : Int), .int .u64 (a.2.2.toNat : Int)] 24)).alloc (.cells #[.int .u8 0, .int .u64 0, .int .u64 0] 30)).cell? ⟨w.heap.size, 0, none⟩ = some (.int .u8 (a.1.toNat : Int)) := (by rw [blk_cell H1.out]; rfl)
  have a1 : ((w.alloc (.cells #[.int .u8 (a.1.toNat : Int), .int .u64 (a.2.1.toNat : Int), .int .u64 (a.2.2.toNat : Int)] 24)).alloc (.cells #[.int .u8 0, .int .u64 0, .int .u64 0] 30)).cell? ⟨w.heap.size, 1, none⟩ = some (.int .u64 (a.2.1.toNat : Int)) := (by rw [blk_cell H1.out]; rfl)
  have a2 : ((w.alloc (.cells #[.int .u8 (a.1.toNat : Int), .int .u64 (a.2.1.toNat : Int), .int .u64 (a.2.2.toNat : Int)] 24)).alloc (.cells #[.int .u8 0, .int .u64 0, .int .u64 0] 30)).cell? ⟨w.heap.size, 2, none⟩ = some (.int .u64 (a.2.2.toNat : Int)) := (by rw [blk_cell H1.out]; rfl)
  have s0 : ((w.alloc (.cells #[.int .u8 (a.1.toNat : Int), .int .u64 (a.2.1.toNat : Int), .int .u64 (a.2.2.toNat : Int)] 24)).alloc (.cells #[.int .u8 0, .int .u64 0, .int .u64 0] 30)).cell? ⟨w.heap.size + 1, 0, none⟩ = some (.int .u8 0) := (by rw [blk_cell H2.out]; rfl)
  have s1 : ((w.alloc (.cells #[.int .u8 (a.1.toNat : Int), .int .u64 (a.2.1.toNat : Int), .int .u64 (a.2.2.toNat : Int)] 24)).alloc (.cells #[.int .u8 0, .int .u64 0, .int .u64 0] 30)).cell? ⟨w.heap.size + 1, 1, none⟩ = some (.int .u64 0) := (by rw [blk_cell H2.out]; rfl)
  have s2 : ((w.alloc (.cells #[.int .u8 (a.1.toNat : Int), .int .u64 (a.2.1.toNat : Int), .int .u64 (a.2.2.toNat : Int)] 24)).alloc (.cells #[.int .u8 0, .int .u64 0, .int .u64 0] 30)).cell? ⟨w.heap.size + 1, 2, none⟩ = some (.int .u64 0) := (by rw [blk_cell H2.out]; rfl)
  have f0 : ((w.alloc (.cells #[.int .u8 (a.1.toNat : Int), .int .u64 (a.2.1.toNat : Int), .int .u64 (a.2.2.toNat : Int)] 24)).alloc (.cells #[.int .u8 0, .int .u64 0, .int .u64 0] 30)).frozen? ⟨w.heap.size + 1, 0, none⟩ = false := (by rw [blk_frozen H2.out]; rfl)
  have f1 : ((w.alloc (.cells #[.int .u8 (a.1.toNat : Int), .int .u64 (a.2.1.toNat : Int), .int .u64 (a.2.2.toNat : Int)] 24)).alloc (.cells #[.int .u8 0, .int .u64 0, .int .u64 0] 30)).frozen? ⟨w.heap.size + 1, 1, none⟩ = false := (by rw [blk_frozen H2.out]; rfl)
  have f2 : ((w.alloc (.cells #[.int .u8 (a.1.toNat : Int), .int .u64 (a.2.1.toNat : Int), .int .u64 (a.2.2.toNat : Int)] 24)).alloc (.cells #[.int .u8 0, .int .u64 0, .int .u64 0] 30)).frozen? ⟨w.heap.size + 1, 2, none⟩ = false := (by rw [blk_frozen H2.out]; rfl)
  go_enter Tryz.func8, Tryz.ntmps8
  go_wp2_with fail
  refine bodyPost_ret (v := encA a) (by simp [results, Tryz.results8, go_sem]) rfl ⟨rfl, ?_⟩
  exact ((Below.refl _ _).alloc (Nat.le_refl _) _).alloc (by simp) _

theorem run_eqlR (p q : Ad) (w : World) : (binOp .eql 30 (encA p) (encA q)).run Tryz.prog w = .ok (.bool ((p == q))) w := by
  rw [ad_bool]
  cases b0 : ((p.1.toNat : Int) == q.1.toNat) <;> cases b1 : ((p.2.1.toNat : Int) == q.2.1.toNat) <;> cases b2 : ((p.2.2.toNat : Int) == q.2.2.toNat) <;> go_simp
theorem run_neqR (p q : Ad) (w : World) : (binOp .neq 30 (encA p) (encA q)).run Tryz.prog w = .ok (.bool (!(p == q))) w := by
  rw [ad_bool]
  cases b0 : ((p.1.toNat : Int) == q.1.toNat) <;> cases b1 : ((p.2.1.toNat : Int) == q.2.1.toNat) <;> cases b2 : ((p.2.2.toNat : Int) == q.2.2.toNat) <;> go_simp
set_option maxHeartbeats 800000 in
theorem rfrom_other (f : UInt8) (v : Value) (l : List UInt8) (w : World) (h : BsAt w v l) (h4 : f ≠ 4) (h6 : f ≠ 6) :
    Calls Tryz.prog 62 #[.int .u8 (f.toNat : Int), v] w fun e w' => e = .returned (.tuple #[.agg #[.int .u8 0, .int .u64 0, .int .u64 0], .bool false]) ∧ Below w.heap.size w w' := by
  obtain ⟨ao, cap, rfl⟩ := elems_slice h
  obtain ⟨n, hn⟩ : ∃ n, n = l.length := ⟨_, rfl⟩
  rw [← hn]
  have HB := Lib.hid (show Below w.heap.size w (w.alloc boxZR) from (Below.refl _ _).alloc (Nat.le_refl _) _)
  have hx := heap_alloc_new w boxZR
  have f0 : (w.alloc boxZR).frozen? ⟨w.heap.size, 0, none⟩ = false := by rw [blk_frozen hx]; rfl
  have f1 : (w.alloc boxZR).frozen? ⟨w.heap.size, 1, none⟩ = false := by rw [blk_frozen hx]; rfl
  have f2 : (w.alloc boxZR).frozen? ⟨w.heap.size, 2, none⟩ = false := by rw [blk_frozen hx]; rfl
  have c0 : (w.alloc boxZR).cell? ⟨w.heap.size, 0, none⟩ = some (.int .u8 0) := by rw [blk_cell hx]; rfl
  have c1 : (w.alloc boxZR).cell? ⟨w.heap.size, 1, none⟩ = some (.int .u64 0) := by rw [blk_cell hx]; rfl
  have c2 : (w.alloc boxZR).cell? ⟨w.heap.size, 2, none⟩ = some (.int .u64 0) := by rw [blk_cell hx]; rfl
  have z4 : ((f.toNat : Int) == 4) = false := by rw [show ((f.toNat : Int) == 4) = (f == 4) from Pfx.u8_eq f 4]; simpa using h4
  have z6 : ((f.toNat : Int) == 6) = false := by rw [show ((f.toNat : Int) == 6) = (f == 6) from Pfx.u8_eq f 6]; simpa using h6
  clear h4 h6 hx hn h
  go_enter Tryz.func62, Tryz.ntmps62
  go_wp2_with fail
  exact bodyPost_ret (v := .tuple #[.agg #[.int .u8 0, .int .u64 0, .int .u64 0], .bool false]) (by simp [results, Tryz.results62, go_sem, c0, c1, c2]) rfl ⟨rfl, by first | exact HB.out | exact below_set3 HB.out _ _ _⟩
theorem rfrom_any (f : UInt8) (v : Value) (l : List UInt8) (w : World) (h : BsAt w v l) :
    Calls Tryz.prog 62 #[.int .u8 (f.toNat : Int), v] w fun e w' => e = .returned (.tuple #[encA (fromB f l), .bool (fromOk f l.length)]) ∧ Below w.heap.size w w' := by
  by_cases h4 : f = 4
  · exact rfrom f v l w h (.inl h4)
  by_cases h6 : f = 6
  · exact rfrom f v l w h (.inr h6)
  have hk : fromOk f l.length = false := by unfold fromOk; simp [h4, h6]
  have e : fromB f l = zeroA := by unfold fromB; rw [hk]; rfl
  rw [e, hk]
  exact rfrom_other f v l w h h4 h6
end Go.Proofs.Tryz.Tx
