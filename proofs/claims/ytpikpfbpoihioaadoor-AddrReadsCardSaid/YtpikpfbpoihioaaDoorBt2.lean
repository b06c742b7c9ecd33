/- The document's longest run of groups that are 0. -/
import Derived.Test.YtpikpfbpoihioaaDoorBt1
set_option linter.unusedVariables false
set_option linter.unusedSimpArgs false
set_option maxRecDepth 100000
namespace Go.Proofs.Tryd.Tx
open Go.RowKit Go.Cph Go.Cph.Tx
open Go.Cph.Ok (ofBs)
open Go.Proofs.Tryd.Pfx (BsAt bs_cells)
def zb (l : Bs) (i : Nat) : Bool := l.getD (2 * i) 0 == 0 && l.getD (2 * i + 1) 0 == 0
theorem u8_z (c : UInt8) : ((c.toNat : Int) == 0) = (c == 0) := Pfx.u8_eq c 0
theorem zcount_at (z : Nat → Bool) (k n : Nat) (h : k + n < 8) (hz : z (k + n) = true) : zcount z (8 - k - n) (k + n) = 1 + zcount z (8 - k - (n + 1)) (k + (n + 1)) := by
  obtain ⟨f, hf⟩ : ∃ f, 8 - k - n = f + 1 := ⟨8 - k - n - 1, by omega⟩
  rw [hf, show 8 - k - (n + 1) = f from by omega]
  conv => lhs; unfold zcount
  rw [if_pos hz]; rw [show k + (n + 1) = k + n + 1 from by omega]; omega
theorem zcount_off (z : Nat → Bool) (k n : Nat) (h : k + n < 8) (hz : z (k + n) = false) : zcount z (8 - k - n) (k + n) = 0 := by
  obtain ⟨f, hf⟩ : ∃ f, 8 - k - n = f + 1 := ⟨8 - k - n - 1, by omega⟩
  rw [hf]
  unfold zcount
  rw [if_neg (by simp [hz])]
theorem zeroS_le (z : Nat → Bool) : ∀ k, k ≤ 8 → (zeroS z k).1 + (zeroS z k).2 ≤ 8 := by
  have hc : ∀ f i, zcount z f i ≤ f := by
    intro f
    induction f with
    | zero => intro i; exact Nat.le_refl _
    | succ f ih => intro i; unfold zcount; split
                   · have := ih (i + 1); omega
                   · omega
  intro k
  induction k with
  | zero => intro _; simp [zeroS]
  | succ k ih => intro hk; unfold zeroS; split
                 · have := hc (8 - k) k; simp only; omega
                 · exact ih (by omega)
set_option maxHeartbeats 3200000 in
theorem zeros_any (l : Bs) (v : Value) (w : World) (hl : l.length = 16) (h : BsAt w v l) : Calls Tryd.prog 43 #[v] w fun e w' => e = .returned (.tuple #[.int .i64 ((zeroS (zb l) 8).1 : Int), .int .i64 ((zeroS (zb l) 8).2 : Int)]) ∧ Below w.heap.size w w' := by
  obtain ⟨b, off, cap, rfl, hcs⟩ := bs_cells h (by omega)
  have HC := Lib.hid (show ∀ j, j < 16 → w.cell? ⟨b, off + j, none⟩ = some (.int .u8 ((l.getD j 0).toNat : Int)) from fun j hj => by
    have h1 : j < l.length := by omega
    rw [hcs j h1]; simp [h1])
  obtain ⟨z, hz⟩ : ∃ z, z = zb l := ⟨_, rfl⟩
  have HZ := Lib.hid (show ∀ i, z i = (l.getD (2 * i) 0 == 0 && l.getD (2 * i + 1) 0 == 0) from fun i => by rw [hz]; rfl)
  rw [← hz]
  clear hz hcs h
  rw [hl]
  go_enter Tryd.func43, Tryd.ntmps43
  go_wp2_with fail
  go_loopw [4, 5, 6] (fun v4 v5 v6 W => W = w ∧ ∃ k p m : Nat, k ≤ 8 ∧ v6 = .int .i64 (k : Int) ∧ v4 = .int .i64 (p : Int) ∧ v5 = .int .i64 (m : Int) ∧ Hid (zeroS z k = (p, m))) (fun _ _ v6 _ => (8 - intOf v6).toNat)
  case atStart => exact ⟨rfl, 0, 0, 0, by omega, rfl, rfl, rfl, Lib.hid rfl⟩
  case round =>
    obtain ⟨rfl, k, p, m, hk, rfl, rfl, rfl, HS⟩ := hrel
    by_cases h8 : k < 8
    · have h8i : (k : Int) < 8 := by omega
      go_wp2_with fail
      go_loopw [7] (fun v7 W => W = wr ∧ ∃ n : Nat, k + n ≤ 8 ∧ v7 = .int .i64 (n : Int) ∧ Hid (zcount z (8 - k) k = n + zcount z (8 - k - n) (k + n))) (fun v7 _ => (8 - intOf v7).toNat)
      case atStart => exact ⟨rfl, 0, by omega, rfl, Lib.hid (by simp)⟩
      case round =>
        obtain ⟨rfl, n, hn, rfl, HN⟩ := hrel
        have k1 : IntKind.i64.wrap ((k : Int) + (n : Int)) = ((k + n : Nat) : Int) := by rw [IntKind.wrap_i64]; omega
        have k2 : IntKind.i64.wrap (2 * ((k + n : Nat) : Int)) = ((2 * (k + n) : Nat) : Int) := by rw [IntKind.wrap_i64]; omega
        have k3 : IntKind.i64.wrap (((2 * (k + n) : Nat) : Int) + 1) = ((2 * (k + n) + 1 : Nat) : Int) := by rw [IntKind.wrap_i64]; omega
        have k4 : IntKind.i64.wrap ((n : Int) + 1) = ((n + 1 : Nat) : Int) := by rw [IntKind.wrap_i64]; omega
        have k5 : IntKind.i64.wrap ((k : Int) + 1) = ((k + 1 : Nat) : Int) := by rw [IntKind.wrap_i64]; omega
        have HEND := Lib.hid (show n = zcount z (8 - k) k → zeroS z (k + 1) = if m < n then (k, n) else (p, m) from fun e => by
          conv => lhs; unfold zeroS
          rw [HS.out, ← e])
        by_cases hkn : k + n < 8
        · have hkni : ((k + n : Nat) : Int) < 8 := by omega
          have b1 : ((2 * (k + n) : Nat) : Int) < 16 := by omega
          have b2 : ((2 * (k + n) + 1 : Nat) : Int) < 16 := by omega
          have q0 := HC.out (2 * (k + n)) (by omega)
          have q1 := HC.out (2 * (k + n) + 1) (by omega)
          have hz := HZ.out (k + n)
          obtain ⟨c0, hc0⟩ : ∃ c, c = l.getD (2 * (k + n)) 0 := ⟨_, rfl⟩
          obtain ⟨c1, hc1⟩ : ∃ c, c = l.getD (2 * (k + n) + 1) 0 := ⟨_, rfl⟩
          rw [← hc0] at q0 hz
          rw [← hc1] at q1 hz
          clear hc0 hc1
          cases e0 : (c0 == 0)
          · have z0 : ((c0.toNat : Int) == 0) = false := by rw [u8_z, e0]
            rw [e0, Bool.false_and] at hz
            have HF := Lib.hid (HEND.out (by rw [HN.out, zcount_off z k n hkn hz]; omega))
            clear e0 hz
            by_cases hm : m < n
            · have hmi : (m : Int) < (n : Int) := by omega
              go_wp2_with fail
              go_roundw
              case rel => exact ⟨trivial, k + 1, k, n, by omega, rfl, rfl, rfl, Lib.hid (by rw [HF.out, if_pos hm])⟩
              case measure => simp [intOf]; omega
            · have hmi : ¬ (m : Int) < (n : Int) := by omega
              go_wp2_with fail
              go_roundw
              case rel => exact ⟨trivial, k + 1, p, m, by omega, rfl, rfl, rfl, Lib.hid (by rw [HF.out, if_neg hm])⟩
              case measure => simp [intOf]; omega
          · have z0 : ((c0.toNat : Int) == 0) = true := by rw [u8_z, e0]
            rw [e0, Bool.true_and] at hz
            clear e0
            cases e1 : (c1 == 0)
            · have z1 : ((c1.toNat : Int) == 0) = false := by rw [u8_z, e1]
              rw [e1] at hz
              have HF := Lib.hid (HEND.out (by rw [HN.out, zcount_off z k n hkn hz]; omega))
              clear e1 hz
              by_cases hm : m < n
              · have hmi : (m : Int) < (n : Int) := by omega
                go_wp2_with fail
                go_roundw
                case rel => exact ⟨trivial, k + 1, k, n, by omega, rfl, rfl, rfl, Lib.hid (by rw [HF.out, if_pos hm])⟩
                case measure => simp [intOf]; omega
              · have hmi : ¬ (m : Int) < (n : Int) := by omega
                go_wp2_with fail
                go_roundw
                case rel => exact ⟨trivial, k + 1, p, m, by omega, rfl, rfl, rfl, Lib.hid (by rw [HF.out, if_neg hm])⟩
                case measure => simp [intOf]; omega
            · have z1 : ((c1.toNat : Int) == 0) = true := by rw [u8_z, e1]
              rw [e1] at hz
              have HF := Lib.hid (show zcount z (8 - k) k = (n + 1) + zcount z (8 - k - (n + 1)) (k + (n + 1)) from by rw [HN.out, zcount_at z k n hkn hz]; omega)
              clear e1 hz
              go_wp2_with fail
              go_roundw
              case rel => exact ⟨trivial, n + 1, by omega, rfl, HF⟩
              case measure => simp [intOf]; omega
        · have hkni : ¬ ((k + n : Nat) : Int) < 8 := by omega
          have HF := Lib.hid (HEND.out (by rw [HN.out, show 8 - k - n = 0 from by omega]; rfl))
          by_cases hm : m < n
          · have hmi : (m : Int) < (n : Int) := by omega
            go_wp2_with fail
            go_roundw
            case rel => exact ⟨trivial, k + 1, k, n, by omega, rfl, rfl, rfl, Lib.hid (by rw [HF.out, if_pos hm])⟩
            case measure => simp [intOf]; omega
          · have hmi : ¬ (m : Int) < (n : Int) := by omega
            go_wp2_with fail
            go_roundw
            case rel => exact ⟨trivial, k + 1, p, m, by omega, rfl, rfl, rfl, Lib.hid (by rw [HF.out, if_neg hm])⟩
            case measure => simp [intOf]; omega
    · obtain rfl : k = 8 := by omega
      have HF := Lib.hid HS.out
      go_wp2_with fail
      go_ret2
      exact ⟨by rw [HF.out]; rfl, Below.refl _ _⟩
end Go.Proofs.Tryd.Tx
