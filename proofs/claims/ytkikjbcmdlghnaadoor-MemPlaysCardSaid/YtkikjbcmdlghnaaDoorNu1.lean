/- Layer num: how many bytes a number needs; its bytes put behind others. -/
import Derived.Test.YtkikjbcmdlghnaaDoorProg
import Derived.Test.YtkikjbcmdlghnaaDoorOx1
import Derived.Test.YtkikjbcmdlghnaaDoorShelf
import Derived.Test.YtkikjbcmdlghnaaDoorSeg
set_option linter.unusedVariables false
set_option linter.unusedSimpArgs false
namespace Go.Proofs.Tryd.Nu
open Go.RowKit Go.Cph Go.Cph.Ok
abbrev T8 : TypeId := 5
abbrev TB : TypeId := 59
theorem info8 : (Tryd.prog.info? T8).map (fun i => (i.zero, i.size, i.bytes)) = some (some (.int .u8 0), 1, 1) := by kernel_rfl
theorem ret_i {a b : Int} (h : a = b) : Ending.returned (.int .i64 a) = .returned (.int .i64 b) := by rw [h]
def bitsN (n : Nat) : Int := (Lib.bitLen n : Int)
theorem bits_bd (n : Nat) (h : n < 18446744073709551616) : 0 ≤ bitsN n ∧ bitsN n ≤ 64 := by
  have := bitLen_blen h
  have := blen_8 h
  unfold bitsN; omega
set_option maxHeartbeats 800000 in
theorem behind_any (n : UInt64) (w : World) : Calls Tryd.prog 47 #[.int .u64 (n.toNat : Int)] w fun e w' => e = .returned (.int .i64 (behind n.toNat : Int)) ∧ w' = w := by
  have hn : n.toNat < 18446744073709551616 := n.toNat_lt
  have hbd := bits_bd _ hn
  have HC := Lib.hid (show ∀ W, Calls Tryd.prog 54 #[.int .u64 (n.toNat : Int)] W fun e w' => e = .returned (.int .i64 (bitsN n.toNat)) ∧ w' = W from fun W => Tryd.bits_Len64 (n.toNat : Int) W (by omega) (by omega))
  by_cases hs : n.toNat < 248
  · have h1 : (n.toNat : Int) < 248 := by omega
    have he : behind n.toNat = 0 := by unfold behind; rw [if_pos hs]
    rw [he]
    clear hbd hs he
    go_enter Tryd.func47, Tryd.ntmps47
    go_wp2_with fail
    go_ret
    exact ⟨rfl, rfl⟩
  · have h1 : ¬ (n.toNat : Int) < 248 := by omega
    have he : behind n.toNat = blen n.toNat := by unfold behind; rw [if_neg hs]
    have HE := Lib.hid (show (bitsN n.toNat + 7) / 8 = (behind n.toNat : Int) from by
      rw [he, ← bitLen_blen hn]; unfold bitsN; omega)
    obtain ⟨k, hk⟩ : ∃ k, k = bitsN n.toNat := ⟨_, rfl⟩
    rw [← hk] at hbd HE HC
    have h2 := hbd.1
    have h3 := hbd.2
    clear hs hk hbd he
    go_enter Tryd.func47, Tryd.ntmps47
    go_wp2_with fail
    refine (HC.out _).mono ?_
    rintro e w1 ⟨rfl, rfl⟩
    go_wp2_with fail
    go_ret
    exact ⟨ret_i HE.out, rfl⟩
abbrev byteCells (l : Bs) : List Value := Go.Lib.byteCells l
theorem byte_one (l : Bs) : ∀ u ∈ byteCells l, u.oneCell' = true := by
  intro u hu
  obtain ⟨b, -, rfl⟩ := List.mem_map.1 hu
  rfl
theorem byteCells_append (l m : Bs) : byteCells (l ++ m) = byteCells l ++ byteCells m := List.map_append
theorem byteCells_len (l : Bs) : (byteCells l).length = l.length := List.length_map ..
theorem byte_eq (n q : Nat) : ((n : Int) / 2 ^ (8 * q) % 256) = ((UInt8.ofNat (n / 256 ^ q)).toNat : Int) := by
  have e : (2 : Nat) ^ (8 * q) = 256 ^ q := by rw [Nat.pow_mul]
  have e2 : ((2 : Int) ^ (8 * q)) = ((256 ^ q : Nat) : Int) := by rw [← e]; simp
  rw [ofNat_toNat, e2]
  simp
set_option maxHeartbeats 1600000 in
theorem put_any (base : Nat) (w0 : World) (v : Value) (xs : Bs) (n : UInt64) (width : Nat) (w : World) (ho : w.ownsRow base T8 1 v xs.length (byteCells xs)) (hl : xs.length ≤ 1099511627000) (hw : width ≤ 8) (hb : Below base w0 w) (hbw : base ≤ w.heap.size) :
    Calls Tryd.prog 48 #[v, .int .u64 (n.toNat : Int), .int .i64 (width : Int)] w fun e w' => ∃ v', e = .returned v' ∧ w'.ownsRow base T8 1 v' (xs ++ be width n.toNat).length (byteCells (xs ++ be width n.toNat)) ∧ Below base w0 w' ∧ base ≤ w'.heap.size := by
  have HO := Lib.hid ho
  have HB := Lib.hid hb
  have HW := Lib.hid hbw
  have HL := Lib.hid hl
  have hn : n.toNat < 18446744073709551616 := n.toNat_lt
  have HN := Lib.hid hn
  have k0 : IntKind.i64.wrap ((width : Int) - 1) = (width : Int) - 1 := by rw [IntKind.wrap_i64]; omega
  clear ho hb hbw hl hn
  go_enter Tryd.func48, Tryd.ntmps48
  go_wp2_with fail
  go_loopw [0, 7] (fun vo vi W => ∃ (r : Nat) (ys : Bs), r ≤ width ∧ vi = .int .i64 ((r : Int) - 1) ∧ be width n.toNat = ys ++ be r n.toNat ∧ W.ownsRow base T8 1 vo (xs ++ ys).length (byteCells (xs ++ ys)) ∧ Below base w0 W ∧ base ≤ W.heap.size) (fun _ vi _ => (intOf vi + 1).toNat)
  case atStart => exact ⟨width, [], Nat.le_refl _, rfl, rfl, by simpa using HO.out, HB.out, HW.out⟩
  case round =>
    obtain ⟨r, ys, hr, hvi, hbe, ho, hb, hbw⟩ := hrel
    have HY := Lib.hid (show ys.length ≤ 8 from by have := congrArg List.length hbe; rw [be_len, List.length_append] at this; omega)
    obtain ⟨oo, oc, hov⟩ := owns_slice1 ho
    subst hov
    have HO2 := Lib.hid ho
    have HB2 := Lib.hid hb
    have HW2 := Lib.hid hbw
    have HE := Lib.hid hbe
    obtain ⟨k, hk⟩ : ∃ k, k = (xs ++ ys).length := ⟨_, rfl⟩
    have HK := Lib.hid hk
    rw [← hk] at HO2 ⊢
    have HKB := Lib.hid (show k + 1 ≤ 1099511627776 from by have h1 := HY.out; have h2 := HL.out; rw [List.length_append] at hk; omega)
    cases r with
    | zero =>
      have e0 : (((0 : Nat) : Int) - 1) = -1 := rfl
      rw [e0] at hvi
      subst hvi
      have HF := Lib.hid (show be width n.toNat = ys from by rw [hbe]; simp [be])
      clear ho hb hbw hbe hr hk
      go_wp2_with fail
      go_ret
      exact ⟨_, rfl, by rw [HF.out, ← HK.out]; exact HO2.out, HB2.out, HW2.out⟩
    | succ q =>
      have e1 : (((q + 1 : Nat) : Int) - 1) = (q : Int) := by omega
      rw [e1] at hvi
      subst hvi
      have k1 : (0 : Int) ≤ (q : Int) := by omega
      have k2 : (q : Int) ≤ 7 := by omega
      obtain ⟨c, hc⟩ : ∃ c, c = UInt8.ofNat (n.toNat / 256 ^ q) := ⟨_, rfl⟩
      have KX := byte_eq n.toNat q
      rw [← hc] at KX
      have HS := Lib.hid (show be width n.toNat = (ys ++ [c]) ++ be q n.toNat from by rw [hbe, hc, List.append_assoc]; rfl)
      have HQ := Lib.hid hr
      have k4 : IntKind.i64.wrap ((q : Int) - 1) = (q : Int) - 1 := by rw [IntKind.wrap_i64]; omega
      clear ho hb hbw hbe hk hc e1 hr
      go_wp2_with (at_builtin; refine wpList_append1 rfl (.tmp 14) (.tmp 20) TB rfl base T8 _ 1 1 Tryd.underlying59 info8 rfl (by decide) _ k (byteCells (xs ++ ys)) [.int .u8 (c.toNat : Int)] rfl HO2.out _ 1 rfl rfl rfl (by simp [Value.oneCell']) HKB.out (by decide) HW2.out base w0 HB2.out (Nat.le_refl _) ?_; intro v5 w5 ho5 hg5 hb5 hs5; have HO5 := Lib.hid ho5; have HB5 := Lib.hid hb5; have HW5 := Lib.hid (Nat.le_trans HW2.out (Nat.le_of_lt hs5)); clear ho5 hg5 hb5 hs5)
      go_roundw
      case rel => exact ⟨q, ys ++ [c], by have := HQ.out; omega, rfl, HS.out, by rw [show (xs ++ (ys ++ [c])).length = k + 1 from by rw [HK.out]; simp; omega, ← List.append_assoc, byteCells_append]; exact HO5.out, HB5.out, HW5.out⟩
      case measure => first | (simp [intOf]; done) | (simp [intOf]; omega)
end Go.Proofs.Tryd.Nu
