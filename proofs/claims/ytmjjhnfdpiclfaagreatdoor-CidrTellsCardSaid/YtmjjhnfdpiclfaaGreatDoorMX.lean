/- MX: texts put together: Bu1 Bu2 Bu3 Bu4 Bu5. -/
import Derived.Test.YtmjjhnfdpiclfaaGreatDoorMW
import Derived.Test.YtmjjhnfdpiclfaaGreatDoorMT
import Derived.Test.YtmjjhnfdpiclfaaGreatDoorBt8
import Derived.Test.YtmjjhnfdpiclfaaGreatDoorMV
/- The document's digit of a letter; where :: stands. -/
set_option linter.unusedVariables false
set_option linter.unusedSimpArgs false
set_option maxRecDepth 100000
namespace Go.Proofs.Tryz.Tx
open Go.RowKit Go.Cph Go.Cph.Tx
open Go.Cph.Ok (ofBs)
def optI (o : Option Nat) : Int := match o with | none => -1 | some d => (d : Int)
set_option maxHeartbeats 1600000 in
theorem digit_any (c : UInt8) (b : Nat) (hb : b = 10 ∨ b = 16) (w : World) : Calls Tryz.prog 85 #[.int .u8 (c.toNat : Int), .int .i64 (b : Int)] w fun e w' => e = .returned (.int .i64 (optI (dval b c))) ∧ w' = w := by
  have hc := c.toNat_lt
  obtain ⟨n, hn⟩ : ∃ n, n = c.toNat := ⟨_, rfl⟩
  have HD := Lib.hid (show dval b c = if 48 ≤ n ∧ n ≤ 57 then (if n - 48 < b then some (n - 48) else none) else if 97 ≤ n ∧ n ≤ 102 then (if n - 87 < b then some (n - 87) else none) else none from by
    rw [hn]; unfold dval
    rcases hb with rfl | rfl <;> (repeat' split) <;> first | rfl | omega | (congr 1; omega))
  rw [← hn] at hc ⊢
  obtain ⟨R, hR⟩ : ∃ R, R = dval b c := ⟨_, rfl⟩
  rw [← hR] at HD ⊢
  clear hn hR
  by_cases h1 : 48 ≤ n ∧ n ≤ 57
  · have HV := Lib.hid (HD.out.trans (if_pos h1))
    have a1 : (n : Int) ≥ 48 := by omega
    have a2 : (n : Int) ≤ 57 := by omega
    have a3 : IntKind.u8.wrap ((n : Int) - 48) = ((n - 48 : Nat) : Int) := by rw [IntKind.wrap_u8]; omega
    have a4 : ¬ (n : Int) ≥ 97 := by omega
    have a5 : IntKind.i64.wrap ((n - 48 : Nat) : Int) = ((n - 48 : Nat) : Int) := by rw [IntKind.wrap_i64]; omega
    obtain ⟨m, hm⟩ : ∃ m, m = n - 48 := ⟨_, rfl⟩
    rw [← hm] at HV a3 a5
    clear hm h1
    by_cases h2 : m < b
    · have HW := Lib.hid (HV.out.trans (if_pos h2))
      have a6 : ¬ (m : Int) ≥ (b : Int) := by omega
      clear h2 hb
      go_enter Tryz.func85, Tryz.ntmps85
      go_wp2_with fail
      go_ret
      exact ⟨ret_int (by rw [HW.out]; rfl), rfl⟩
    · have HW := Lib.hid (HV.out.trans (if_neg h2))
      have a6 : (m : Int) ≥ (b : Int) := by omega
      clear h2 hb
      go_enter Tryz.func85, Tryz.ntmps85
      go_wp2_with fail
      go_ret
      exact ⟨ret_int (by rw [HW.out]; rfl), rfl⟩
  · by_cases h3 : 97 ≤ n ∧ n ≤ 102
    · have HV := Lib.hid (HD.out.trans ((if_neg h1).trans (if_pos h3)))
      have a1 : (n : Int) ≥ 48 := by omega
      have a2 : ¬ (n : Int) ≤ 57 := by omega
      have a4 : (n : Int) ≥ 97 := by omega
      have a4' : (n : Int) ≤ 102 := by omega
      have a3 : IntKind.u8.wrap ((n : Int) - 97) = (n : Int) - 97 := by rw [IntKind.wrap_u8]; omega
      have a5 : IntKind.i64.wrap ((n : Int) - 97) = (n : Int) - 97 := by rw [IntKind.wrap_i64]; omega
      have a7 : IntKind.i64.wrap ((n : Int) - 97 + 10) = ((n - 87 : Nat) : Int) := by rw [IntKind.wrap_i64]; omega
      obtain ⟨m, hm⟩ : ∃ m, m = n - 87 := ⟨_, rfl⟩
      rw [← hm] at HV a7
      clear hm h1 h3
      by_cases h2 : m < b
      · have HW := Lib.hid (HV.out.trans (if_pos h2))
        have a6 : ¬ (m : Int) ≥ (b : Int) := by omega
        clear h2 hb
        go_enter Tryz.func85, Tryz.ntmps85
        go_wp2_with fail
        go_ret
        exact ⟨ret_int (by rw [HW.out]; rfl), rfl⟩
      · have HW := Lib.hid (HV.out.trans (if_neg h2))
        have a6 : (m : Int) ≥ (b : Int) := by omega
        clear h2 hb
        go_enter Tryz.func85, Tryz.ntmps85
        go_wp2_with fail
        go_ret
        exact ⟨ret_int (by rw [HW.out]; rfl), rfl⟩
    · have HW := Lib.hid (HD.out.trans ((if_neg h1).trans (if_neg h3)))
      have a6 : ¬ ((-1 : Int) ≥ (b : Int)) := by omega
      clear hb
      rcases (show n < 48 ∨ (57 < n ∧ n < 97) ∨ 102 < n by omega) with k | k | k
      · have a1 : ¬ (n : Int) ≥ 48 := by omega
        have a4 : ¬ (n : Int) ≥ 97 := by omega
        clear h1 h3 k
        go_enter Tryz.func85, Tryz.ntmps85
        go_wp2_with fail
        go_ret
        exact ⟨ret_int (by rw [HW.out]; rfl), rfl⟩
      · have a1 : (n : Int) ≥ 48 := by omega
        have a2 : ¬ (n : Int) ≤ 57 := by omega
        have a4 : ¬ (n : Int) ≥ 97 := by omega
        clear h1 h3 k
        go_enter Tryz.func85, Tryz.ntmps85
        go_wp2_with fail
        go_ret
        exact ⟨ret_int (by rw [HW.out]; rfl), rfl⟩
      · have a1 : (n : Int) ≥ 48 := by omega
        have a2 : ¬ (n : Int) ≤ 57 := by omega
        have a4 : (n : Int) ≥ 97 := by omega
        have a4' : ¬ (n : Int) ≤ 102 := by omega
        clear h1 h3 k
        go_enter Tryz.func85, Tryz.ntmps85
        go_wp2_with fail
        go_ret
        exact ⟨ret_int (by rw [HW.out]; rfl), rfl⟩
end Go.Proofs.Tryz.Tx

/- Where :: stands, as the document looks for it. -/
set_option linter.unusedVariables false
set_option linter.unusedSimpArgs false
set_option maxRecDepth 100000
namespace Go.Proofs.Tryz.Tx
open Go.RowKit Go.Cph Go.Cph.Tx
open Go.Cph.Ok (ofBs)
theorem cut_drop (l : Bs) (k : Nat) (h : k + 1 < l.length) : cutAt (l.drop k) = if l[k] = 58 ∧ l[k + 1] = 58 then some 0 else (cutAt (l.drop (k + 1))).map (· + 1) := by
  rw [List.drop_eq_getElem_cons (show k < l.length by omega), cut_cons]
  simp [h]
theorem cut_end (l : Bs) (k : Nat) (h : l.length ≤ k + 1) : cutAt (l.drop k) = none := by
  by_cases e : k < l.length
  · rw [List.drop_eq_getElem_cons e, cut_cons, List.drop_of_length_le h]; simp [cutAt]
  · rw [List.drop_of_length_le (by omega)]; rfl
theorem ofBs_get (l : Bs) (k : Nat) (h : k < l.length) (h' : k < (ofBs l).size) : (ofBs l)[k]'h' = l[k] := by
  rfl
theorem sign_eq (l : Bs) (k : Nat) (h : k < l.length) (h' : k < (ofBs l).size) (c : UInt8) : ((((ofBs l)[k]'h').toNat : Int) == (c.toNat : Int)) = decide (l[k] = c) := by
  rw [ofBs_get l k h h', Pfx.u8_eq, Bool.eq_iff_iff, beq_iff_eq, decide_eq_true_eq]
set_option maxHeartbeats 1600000 in
theorem cut_any (l : Bs) (hl : l.length ≤ 1000000) (w : World) : Calls Tryz.prog 63 #[.string (ofBs l)] w fun e w' => e = .returned (.int .i64 (optI (cutAt l))) ∧ w' = w := by
  obtain ⟨R, hR⟩ : ∃ R, R = cutAt l := ⟨_, rfl⟩
  have HR := Lib.hid (show R = (cutAt (l.drop 0)).map (· + 0) from by rw [hR]; simp)
  rw [← hR]
  clear hR
  have hsz : (ofBs l).size = l.length := ofBs_size l
  go_enter Tryz.func63, Tryz.ntmps63
  go_wp2_with fail
  go_loopw [3] (fun v3 W => W = w ∧ ∃ k : Nat, k ≤ l.length ∧ v3 = .int .i64 (k : Int) ∧ Hid (R = (cutAt (l.drop k)).map (· + k))) (fun v3 _ => l.length - (intOf v3).toNat)
  case atStart => exact ⟨rfl, 0, by omega, rfl, HR⟩
  case round =>
    obtain ⟨rfl, k, hk, rfl, HK⟩ := hrel
    have k1 : IntKind.i64.wrap ((k : Int) + 1) = ((k + 1 : Nat) : Int) := by rw [IntKind.wrap_i64]; omega
    by_cases hlt : k + 1 < l.length
    · have hi : ((k + 1 : Nat) : Int) < (l.length : Int) := by omega
      have hi2 : (k : Int) < (l.length : Int) := by omega
      have HC := Lib.hid (cut_drop l k hlt)
      have e0 : ((((ofBs l)[k]'(by omega)).toNat : Int) == 58) = decide (l[k] = 58) := sign_eq l k (by omega) _ 58
      have e1 : ((((ofBs l)[k + 1]'(by omega)).toNat : Int) == 58) = decide (l[k + 1] = 58) := sign_eq l (k + 1) (by omega) _ 58
      by_cases h0 : l[k] = 58
      · rw [decide_eq_true h0] at e0
        by_cases h1 : l[k + 1] = 58
        · have HV := Lib.hid (show R = some k from by rw [HK.out, HC.out, if_pos ⟨h0, h1⟩]; simp)
          rw [decide_eq_true h1] at e1
          clear h0 h1
          go_wp2_with fail
          go_ret
          exact ⟨ret_int (by rw [HV.out]; rfl), rfl⟩
        · have HV := Lib.hid (show R = (cutAt (l.drop (k + 1))).map (· + (k + 1)) from by
            rw [HK.out, HC.out, if_neg (fun h => h1 h.2)]
            cases cutAt (l.drop (k + 1)) <;> simp <;> omega)
          rw [decide_eq_false h1] at e1
          clear h0 h1
          go_wp2_with fail
          go_roundw
          case rel => exact ⟨trivial, k + 1, by omega, rfl, HV⟩
          case measure => simp [intOf]; omega
      · rw [decide_eq_false h0] at e0
        have HV := Lib.hid (show R = (cutAt (l.drop (k + 1))).map (· + (k + 1)) from by
          rw [HK.out, HC.out, if_neg (fun h => h0 h.1)]
          cases cutAt (l.drop (k + 1)) <;> simp <;> omega)
        clear h0 e1
        go_wp2_with fail
        go_roundw
        case rel => exact ⟨trivial, k + 1, by omega, rfl, HV⟩
        case measure => simp [intOf]; omega
    · have hi : ¬ ((k + 1 : Nat) : Int) < (l.length : Int) := by omega
      have HV := Lib.hid (show R = none from by rw [HK.out, cut_end l k (by omega)]; rfl)
      go_wp2_with fail
      go_ret
      exact ⟨ret_int (by rw [HV.out]; rfl), rfl⟩
end Go.Proofs.Tryz.Tx

/- The document's words between signs. -/
set_option linter.unusedVariables false
set_option linter.unusedSimpArgs false
set_option maxRecDepth 100000
namespace Go.Proofs.Tryz.Tx
open Go.RowKit Go.Cph Go.Cph.Tx
open Go.Cph.Ok (ofBs)
abbrev intV (l : List Nat) : List Value := l.map fun (n : Nat) => Value.int .i64 (n : Int)
theorem infoI : (Tryz.prog.info? 3).map (fun i => (i.zero, i.size, i.bytes)) = some (some (.int .i64 0), 1, 8) := by kernel_rfl
def WordsPost (r : Option (List Nat)) (w : World) (e : Ending) (w' : World) : Prop := Below w.heap.size w w' ∧ match r with
  | none => e = .returned (.tuple #[.slice none 0 0, .bool false])
  | some L => ∃ v, e = .returned (.tuple #[v, .bool true]) ∧ w'.ownsRow w.heap.size 3 1 v L.length (intV L)
theorem WordsPost.none {w w' : World} {r : Option (List Nat)} (h : r = .none) (hb : Below w.heap.size w w') : WordsPost r w (.returned (.tuple #[.slice .none 0 0, .bool false])) w' := by
  subst h; exact ⟨hb, rfl⟩
theorem WordsPost.some {w w' : World} {r : Option (List Nat)} {L : List Nat} {v : Value} (h : r = .some L) (ho : w'.ownsRow w.heap.size 3 1 v L.length (intV L)) (hb : Below w.heap.size w w') : WordsPost r w (.returned (.tuple #[v, .bool true])) w' := by
  subst h; exact ⟨hb, v, rfl, ho⟩
/-- What is left to read: behind the text's end the words stand. -/
def restW (b most : Nat) (sign : UInt8) (l : Bs) (k : Nat) (ws : List Nat) (cur : Option Nat) : Option (List Nat) := if k ≤ l.length then wordsF b most sign ws cur (l.drop k) else .some ws
theorem rest_end (b most : Nat) (sign : UInt8) (l : Bs) (ws : List Nat) (cur : Option Nat) : restW b most sign l l.length ws cur = cur.map fun n => ws ++ [n] := by
  unfold restW; rw [if_pos (Nat.le_refl _), List.drop_length]; rfl
theorem rest_at (b most : Nat) (sign : UInt8) (l : Bs) (k : Nat) (hk : k < l.length) (ws : List Nat) (cur : Option Nat) : restW b most sign l k ws cur =
    if l[k] = sign then (match cur with | .none => .none | .some n => restW b most sign l (k + 1) (ws ++ [n]) .none)
    else (match stepD b most cur l[k] with | .none => .none | .some n => restW b most sign l (k + 1) ws (.some n)) := by
  unfold restW
  have h1 : k + 1 ≤ l.length := hk
  rw [if_pos (by omega), List.drop_eq_getElem_cons hk]
  simp only [if_pos h1]
  rfl
theorem step_eq (b most : Nat) (cur : Option Nat) (c : UInt8) : stepD b most cur c = (dval b c).bind fun d => if cur = .some 0 then .none else if b * cur.getD 0 + d ≤ most then .some (b * cur.getD 0 + d) else .none := by
  unfold stepD; cases dval b c <;> rfl
set_option maxHeartbeats 8000000 in
theorem words_any (l : Bs) (sign : UInt8) (b most : Nat) (hb : b = 10 ∨ b = 16) (hm : most ≤ 65535) (hl : l.length ≤ 1000000) (w : World) :
    Calls Tryz.prog 61 #[.string (ofBs l), .int .u8 (sign.toNat : Int), .int .i64 (b : Int), .int .i64 (most : Int)] w (WordsPost (wordsF b most sign [] .none l) w) := by
  obtain ⟨R, hR⟩ : ∃ R, R = wordsF b most sign [] .none l := ⟨_, rfl⟩
  have HR := Lib.hid (show R = restW b most sign l 0 [] .none from by rw [hR]; unfold restW; rw [if_pos (by omega)]; rfl)
  rw [← hR]
  clear hR
  have hsz : (ofBs l).size = l.length := ofBs_size l
  have hbi : (b : Int) ≤ 16 := by omega
  go_enter Tryz.func61, Tryz.ntmps61
  go_wp2_with fail
  go_loopw [10, 11, 12] (fun v10 v11 v12 W => ∃ (k : Nat) (ws : List Nat) (cur : Option Nat) (z : Int), k ≤ l.length + 1 ∧ v12 = .int .i64 (k : Int) ∧ v11 = .int .i64 z ∧ Hid (z = optI cur ∧ ∀ n, cur = .some n → n ≤ most) ∧ Hid (R = restW b most sign l k ws cur) ∧ W.ownsRow w.heap.size 3 1 v10 ws.length (intV ws) ∧ ws.length ≤ k ∧ Below w.heap.size w W) (fun _ _ v12 _ => l.length + 1 - (intOf v12).toNat)
  case atStart => exact ⟨0, [], .none, -1, by omega, rfl, rfl, Lib.hid ⟨rfl, fun n h => by cases h⟩, HR, World.ownsRow_nil _ _ _ _, Nat.le_refl _, Below.refl _ _⟩
  case round =>
    obtain ⟨k, ws, cur, z, hk, rfl, rfl, HZ, HRE, ho, hwk, hbel⟩ := hrel
    have HO := Lib.hid ho
    have HB := Lib.hid hbel
    clear ho hbel
    have k1 : IntKind.i64.wrap ((k : Int) + 1) = ((k + 1 : Nat) : Int) := by rw [IntKind.wrap_i64]; omega
    by_cases hkl : k ≤ l.length
    · have hki : (k : Int) ≤ (l.length : Int) := by omega
      have HWL := Lib.hid (show ws.length + 1 ≤ 1099511627776 from by omega)
      have hz := HZ.out
      by_cases hke : k = l.length
      · have hei : ((k : Int) == (l.length : Int)) = true := by rw [beq_iff_eq]; omega
        have HRE2 := Lib.hid (show R = cur.map fun n => ws ++ [n] from by rw [HRE.out, hke, rest_end])
        have HKE := Lib.hid hke
        clear hke
        cases cur with
        | none =>
          obtain rfl : z = -1 := hz.1
          clear hz
          go_wp2_with fail
          go_ret2
          exact WordsPost.none HRE2.out HB.out
        | some n =>
          obtain rfl : z = (n : Int) := hz.1
          have hn0 : ¬ (n : Int) < 0 := by omega
          clear hz
          go_wp2_with (at_builtin; refine wpList_append1 rfl (.tmp 33) (.tmp 35) 92 rfl w.heap.size 3 _ 1 8 Tryz.underlying92 infoI rfl (by decide) _ ws.length (intV ws) [.int .i64 (n : Int)] rfl HO.out _ 1 rfl rfl rfl (by simp [Value.oneCell']) HWL.out (by decide) HB.out.size w.heap.size w HB.out (Nat.le_refl _) ?_; intro v' w' ho hgr hb' hsz'; have HO4 := Lib.hid ho; have HB4 := Lib.hid hb'; clear ho hgr hb' hsz')
          go_roundw
          case rel => exact ⟨k + 1, ws ++ [n], .none, -1, by omega, rfl, rfl, Lib.hid ⟨rfl, fun n h => by cases h⟩, Lib.hid (by rw [HRE2.out]; unfold restW; rw [if_neg (by have := HKE.out; omega)]; rfl), by simpa [intV] using HO4.out, by simp; omega, HB4.out⟩
          case measure => simp [intOf]; omega
      · have hei : ((k : Int) == (l.length : Int)) = false := by rw [beq_eq_false_iff_ne]; omega
        have hk2 : k < l.length := by omega
        have hk2i : (k : Int) < (l.length : Int) := by omega
        have e0 : ((((ofBs l)[k]'(by omega)).toNat : Int) == (sign.toNat : Int)) = decide (l[k] = sign) := sign_eq l k hk2 _ sign
        have HRE2 := Lib.hid (HRE.out.trans (rest_at b most sign l k hk2 ws cur))
        have HDG := Lib.hid (show ∀ W, Calls Tryz.prog 85 #[.int .u8 (((ofBs l)[k]'(by omega)).toNat : Int), .int .i64 (b : Int)] W fun e w' => e = .returned (.int .i64 (optI (dval b l[k]))) ∧ w' = W from fun W => digit_any _ b hb W)
        by_cases hs : l[k] = sign
        · have HRE3 := Lib.hid (HRE2.out.trans (if_pos hs))
          rw [decide_eq_true hs] at e0
          clear hs hke
          cases cur with
          | none =>
            obtain rfl : z = -1 := hz.1
            clear hz
            go_wp2_with fail
            go_ret2
            exact WordsPost.none HRE3.out HB.out
          | some n =>
            obtain rfl : z = (n : Int) := hz.1
            have hn0 : ¬ (n : Int) < 0 := by omega
            clear hz
            go_wp2_with (at_builtin; refine wpList_append1 rfl (.tmp 33) (.tmp 35) 92 rfl w.heap.size 3 _ 1 8 Tryz.underlying92 infoI rfl (by decide) _ ws.length (intV ws) [.int .i64 (n : Int)] rfl HO.out _ 1 rfl rfl rfl (by simp [Value.oneCell']) HWL.out (by decide) HB.out.size w.heap.size w HB.out (Nat.le_refl _) ?_; intro v' w' ho hgr hb' hsz'; have HO4 := Lib.hid ho; have HB4 := Lib.hid hb'; clear ho hgr hb' hsz')
            go_roundw
            case rel => exact ⟨k + 1, ws ++ [n], .none, -1, by omega, rfl, rfl, Lib.hid ⟨rfl, fun n h => by cases h⟩, Lib.hid HRE3.out, by simpa [intV] using HO4.out, by simp; omega, HB4.out⟩
            case measure => simp [intOf]; omega
        · have HRE3 := Lib.hid (HRE2.out.trans (if_neg hs))
          rw [decide_eq_false hs] at e0
          clear hs hke
          obtain ⟨D, hD⟩ : ∃ D, D = dval b l[k] := ⟨_, rfl⟩
          have HST := Lib.hid (show stepD b most cur l[k] = D.bind fun d => if cur = .some 0 then .none else if b * cur.getD 0 + d ≤ most then .some (b * cur.getD 0 + d) else .none from by rw [hD, step_eq])
          rw [← hD] at HDG
          have HDB := Lib.hid (show ∀ d, D = .some d → d < b from fun d h => (dval_some (by omega) (hD ▸ h)).1)
          clear hD
          cases D with
          | none =>
            have HDG2 := Lib.hid (show ∀ W, Calls Tryz.prog 85 #[.int .u8 (((ofBs l)[k]'(by omega)).toNat : Int), .int .i64 (b : Int)] W fun e w' => e = .returned (.int .i64 (-1)) ∧ w' = W from HDG.out)
            have HV := Lib.hid (show R = .none from by rw [HRE3.out, HST.out]; rfl)
            clear hz HDG
            go_wp2_with fail
            refine (HDG2.out _).mono ?_
            rintro e w1 ⟨rfl, rfl⟩
            go_wp2_with fail
            go_ret2
            exact WordsPost.none HV.out HB.out
          | some d =>
            have HDG2 := Lib.hid (show ∀ W, Calls Tryz.prog 85 #[.int .u8 (((ofBs l)[k]'(by omega)).toNat : Int), .int .i64 (b : Int)] W fun e w' => e = .returned (.int .i64 (d : Int)) ∧ w' = W from HDG.out)
            have hdb := HDB.out d rfl
            have hd0 : ¬ (d : Int) < 0 := by omega
            have kd : IntKind.i64.wrap (d : Int) = (d : Int) := by rw [IntKind.wrap_i64]; omega
            clear HDG HDB
            cases cur with
            | none =>
              obtain rfl : z = -1 := hz.1
              have HRE4 := Lib.hid (show R = match (if d ≤ most then some d else none) with | .none => .none | .some n => restW b most sign l (k + 1) ws (.some n) from by
                rw [HRE3.out, HST.out]; simp)
              clear hz
              by_cases hmo : d ≤ most
              · have hmi : ¬ ((d : Nat) : Int) > (most : Int) := by omega
                have HV := Lib.hid (HRE4.out.trans (by rw [if_pos hmo]))
                have HMO := Lib.hid hmo
                clear hmo
                go_wp2_with fail
                refine (HDG2.out _).mono ?_
                rintro e w1 ⟨rfl, rfl⟩
                go_wp2_with fail
                go_roundw
                case rel => exact ⟨k + 1, ws, .some (d), _, by omega, rfl, rfl, Lib.hid ⟨rfl, fun n h => by cases h; exact HMO.out⟩, Lib.hid HV.out, HO.out, by omega, HB.out⟩
                case measure => simp [intOf]; omega
              · have hmi : ((d : Nat) : Int) > (most : Int) := by omega
                have HV := Lib.hid (HRE4.out.trans (by rw [if_neg hmo]))
                clear hmo
                go_wp2_with fail
                refine (HDG2.out _).mono ?_
                rintro e w1 ⟨rfl, rfl⟩
                go_wp2_with fail
                go_ret2
                exact WordsPost.none HV.out HB.out
            | some n =>
              obtain rfl : z = (n : Int) := hz.1
              have hnm := hz.2 n rfl
              clear hz
              by_cases hn : n = 0
              · subst hn
                have HV := Lib.hid (show R = .none from by rw [HRE3.out, HST.out]; rfl)
                go_wp2_with fail
                refine (HDG2.out _).mono ?_
                rintro e w1 ⟨rfl, rfl⟩
                go_wp2_with fail
                go_ret2
                exact WordsPost.none HV.out HB.out
              · have hn0 : ((n : Int) == 0) = false := by rw [beq_eq_false_iff_ne]; omega
                have hn1 : ¬ (n : Int) < 0 := by omega
                have HRE4 := Lib.hid (show R = match (if b * n + d ≤ most then some (b * n + d) else none) with | .none => .none | .some n => restW b most sign l (k + 1) ws (.some n) from by
                  rw [HRE3.out, HST.out]; simp [hn])
                have hqb : b * n ≤ 16 * 65535 := Nat.mul_le_mul (by omega) (by omega)
                obtain ⟨q, hq⟩ : ∃ q, q = b * n := ⟨_, rfl⟩
                have kq : IntKind.i64.wrap ((b : Int) * (n : Int)) = (q : Int) := by rw [IntKind.wrap_i64, ← Int.natCast_mul, ← hq]; omega
                have ks : IntKind.i64.wrap ((q : Int) + (d : Int)) = ((q + d : Nat) : Int) := by rw [IntKind.wrap_i64]; omega
                rw [← hq] at HRE4
                clear hq hn hqb
                by_cases hmo : q + d ≤ most
                · have hmi : ¬ ((q + d : Nat) : Int) > (most : Int) := by omega
                  have HV := Lib.hid (HRE4.out.trans (by rw [if_pos hmo]))
                  have HMO := Lib.hid hmo
                  clear hmo
                  go_wp2_with fail
                  refine (HDG2.out _).mono ?_
                  rintro e w1 ⟨rfl, rfl⟩
                  go_wp2_with fail
                  go_roundw
                  case rel => exact ⟨k + 1, ws, .some (q + d), _, by omega, rfl, rfl, Lib.hid ⟨rfl, fun n h => by cases h; exact HMO.out⟩, Lib.hid HV.out, HO.out, by omega, HB.out⟩
                  case measure => simp [intOf]; omega
                · have hmi : ((q + d : Nat) : Int) > (most : Int) := by omega
                  have HV := Lib.hid (HRE4.out.trans (by rw [if_neg hmo]))
                  clear hmo
                  go_wp2_with fail
                  refine (HDG2.out _).mono ?_
                  rintro e w1 ⟨rfl, rfl⟩
                  go_wp2_with fail
                  go_ret2
                  exact WordsPost.none HV.out HB.out
    · have hki : ¬ (k : Int) ≤ (l.length : Int) := by omega
      have HV := Lib.hid (show R = .some ws from by rw [HRE.out]; unfold restW; rw [if_neg hkl])
      go_wp2_with fail
      go_ret2
      exact WordsPost.some HV.out HO.out HB.out
end Go.Proofs.Tryz.Tx

/- The document's reading of a text: what its parts want. -/
set_option linter.unusedVariables false
set_option linter.unusedSimpArgs false
set_option maxRecDepth 100000
namespace Go.Proofs.Tryz.Tx
open Go.RowKit Go.Cph Go.Cph.Tx
open Go.Cph.Ok (ofBs)
open Go.Cph.Px (Ad rightA bytesA zeroA lessA fromB fromOk)
open Go.Proofs.Tryz.Pfx (encA BsAt encB encB_len)
theorem bs_four (W : World) (a b c d : UInt8) : BsAt (W.alloc (.cells #[.int .u8 (a.toNat : Int), .int .u8 (b.toNat : Int), .int .u8 (c.toNat : Int), .int .u8 (d.toNat : Int)] 5)) (.slice (some ⟨W.heap.size, 0, none⟩) 4 4) [a, b, c, d] :=
  ⟨⟨_, _, rfl, fun _ => ⟨W.heap.size, 0, rfl, fun j hj => by
    rw [Nat.zero_add, blk_cell (heap_alloc_new W _)]
    have hj4 : j < 4 := by simpa using hj
    rcases (show j = 0 ∨ j = 1 ∨ j = 2 ∨ j = 3 by omega) with rfl | rfl | rfl | rfl <;> rfl⟩⟩, rfl⟩
theorem ofBs_take (l : Bs) (k : Nat) : (ofBs l).extract 0 k = ofBs (l.take k) := by
  apply ByteArray.ext
  apply Array.ext'
  simp [ofBs, ByteArray.data_extract]
theorem ofBs_drop (l : Bs) (k : Nat) : (ofBs l).extract k l.length = ofBs (l.drop k) := by
  apply ByteArray.ext
  apply Array.ext'
  simp [ofBs, ByteArray.data_extract]
  exact List.take_of_length_le (by simp)
/-- What words tells, in one form. -/
structure WordsIs (r : Option (List Nat)) (base : Nat) (w' : World) (ao : Option Addr) (n cap : Nat) (ok : Bool) : Prop where
  out : (ok = false ∧ r = none ∧ ao = none ∧ n = 0 ∧ cap = 0) ∨ (ok = true ∧ ∃ L, r = some L ∧ n = L.length ∧ w'.ownsRow base 3 1 (.slice ao n cap) L.length (intV L))
theorem words_any2 (l : Bs) (sign : UInt8) (b most : Nat) (hb : b = 10 ∨ b = 16) (hm : most ≤ 65535) (hl : l.length ≤ 1000000) (w : World) :
    Calls Tryz.prog 61 #[.string (ofBs l), .int .u8 (sign.toNat : Int), .int .i64 (b : Int), .int .i64 (most : Int)] w fun e w' => ∃ ao n cap ok, e = .returned (.tuple #[.slice ao n cap, .bool ok]) ∧ Below w.heap.size w w' ∧ WordsIs (wordsF b most sign [] .none l) w.heap.size w' ao n cap ok := by
  refine (words_any l sign b most hb hm hl w).mono ?_
  rintro e w' ⟨hbl, hp⟩
  cases hr : wordsF b most sign [] .none l with
  | none =>
    rw [hr] at hp
    obtain rfl := hp
    exact ⟨_, _, _, _, rfl, hbl, ⟨.inl ⟨rfl, rfl, rfl, rfl, rfl⟩⟩⟩
  | some L =>
    rw [hr] at hp
    obtain ⟨v, rfl, ho⟩ := hp
    obtain ⟨ao, cap, rfl⟩ := owns_slice1 ho
    exact ⟨_, _, _, _, rfl, hbl, ⟨.inr ⟨rfl, L, rfl, rfl, ho⟩⟩⟩
end Go.Proofs.Tryz.Tx

/- The document reads a text: which words it found, in one form. -/
set_option linter.unusedVariables false
set_option linter.unusedSimpArgs false
set_option maxRecDepth 100000
namespace Go.Proofs.Tryz.Tx
open Go.RowKit Go.Cph Go.Cph.Tx
open Go.Cph.Ok (ofBs)
open Go.Cph.Px (Ad rightA bytesA zeroA lessA fromB fromOk)
open Go.Proofs.Tryz.Pfx (encA BsAt encB encB_len infoB encB_one)
open Go.Proofs.Tryz.Rows (boxZR)
theorem four_case {l : Bs} {W : World} {base : Nat} {ao : Option Addr} {n cap : Nat} {ok : Bool} (h : WordsIs (wordsF 10 255 46 [] none l) base W ao n cap ok) (hc : true = (ok && n == 4)) :
    ∃ (α β γ δ : UInt8) (g : Nat), ao = some ⟨g, 0, none⟩ ∧ n = 4 ∧ W.cell? ⟨g, 0, none⟩ = some (.int .i64 (α.toNat : Int)) ∧ W.cell? ⟨g, 1, none⟩ = some (.int .i64 (β.toNat : Int)) ∧ W.cell? ⟨g, 2, none⟩ = some (.int .i64 (γ.toNat : Int)) ∧ W.cell? ⟨g, 3, none⟩ = some (.int .i64 (δ.toNat : Int)) ∧ docParse l = some (fromB 4 [α, β, γ, δ]) := by
  rcases h.out with ⟨rfl, _⟩ | ⟨rfl, L, hR, rfl, ho⟩
  · simp at hc
  · have h4 : L.length = 4 := by simpa using hc.symm
    obtain ⟨_, _, h3⟩ := (words_iff 10 255 46 (by omega) (by omega) (by omega) (.inl rfl) l L).1 hR
    match L, h4, hR, h3, ho with
    | [a, b, c, d], _, hR, h3, ho =>
      have ha := h3 a (by simp)
      have hb := h3 b (by simp)
      have hcc := h3 c (by simp)
      have hd := h3 d (by simp)
      obtain ⟨g, cap', hv, -, -, -, hcl, -⟩ := owns_shape ho (by simp)
      cases hv
      have e : ∀ x, x ≤ 255 → (UInt8.ofNat x).toNat = x := fun x hx => by rw [UInt8.toNat_ofNat']; omega
      refine ⟨UInt8.ofNat a, UInt8.ofNat b, UInt8.ofNat c, UInt8.ofNat d, g, rfl, rfl, ?_, ?_, ?_, ?_, ?_⟩
      · rw [hcl 0 (by simp), e a ha]; rfl
      · rw [hcl 1 (by simp), e b hb]; rfl
      · rw [hcl 2 (by simp), e c hcc]; rfl
      · rw [hcl 3 (by simp), e d hd]; rfl
      · unfold docParse; rw [hR]; rfl
theorem other_case {l : Bs} {W : World} {base : Nat} {ao : Option Addr} {n cap : Nat} {ok : Bool} (h : WordsIs (wordsF 10 255 46 [] none l) base W ao n cap ok) (hc : false = (ok && n == 4)) : docParse l = doc6 l := by
  unfold docParse
  rcases h.out with ⟨rfl, hR, _⟩ | ⟨rfl, L, hR, rfl, ho⟩
  · rw [hR]
  · rw [hR]; dsimp only
    rw [if_neg (by simpa using hc.symm)]
theorem cut_lt : ∀ {l : Bs} {k : Nat}, cutAt l = some k → k + 2 ≤ l.length
  | [], k, h => by simp [cutAt] at h
  | a :: r, k, h => by
    rw [cut_cons] at h
    split at h
    · rename_i hh
      cases h
      cases r with
      | nil => simp at hh
      | cons b r => simp
    · cases hc : cutAt r with
      | none => rw [hc] at h; cases h
      | some j =>
        rw [hc] at h
        have := cut_lt hc
        simp at h
        simp; omega
theorem joinC_ge (c : UInt8) : ∀ l : List Bs, l.length ≤ (joinC c l).length + 1
  | [] => by simp
  | [x] => by simp
  | x :: y :: r => by
    have := joinC_ge c (y :: r)
    show (x :: y :: r).length ≤ (x ++ c :: joinC c (y :: r)).length + 1
    rw [List.length_append, List.length_cons, List.length_cons, List.length_cons]
    rw [List.length_cons] at this
    omega
theorem docWords_len {s : Bs} {L : List Nat} (h : docWords s = some L) : L.length ≤ s.length + 1 := by
  obtain ⟨_, h2, _⟩ := (words_iff 16 65535 58 (by omega) (by omega) (by omega) (.inr rfl) s L).1 h
  have := joinC_ge 58 (L.map (digs 16))
  rw [← h2, List.length_map] at this
  exact this
/-- What stands in the two rows, ahead of the test. -/
structure GroupsIs (l : Bs) (base : Nat) (W : World) (aL : Option Addr) (nL cL : Nat) (ok : Bool) (aM : Option Addr) (nM cM : Nat) (z : Int) : Prop where
  small : nL ≤ 1000001 ∧ nM ≤ 1000001
  out : (docGroups l = none ∧ (ok = false ∨ (ok = true ∧ 8 < nL + nM) ∨ (ok = true ∧ ¬ 8 < nL + nM ∧ z < 0 ∧ nL ≠ 8))) ∨
    (ok = true ∧ ¬ 8 < nL + nM ∧ (¬ z < 0 ∨ (z < 0 ∧ nL = 8)) ∧ ∃ L M, nL = L.length ∧ nM = M.length ∧ docGroups l = some (L ++ List.replicate (8 - (nL + nM)) 0 ++ M) ∧
      W.ownsRow base 3 1 (.slice aL nL cL) nL (intV L) ∧ W.ownsRow base 3 1 (.slice aM nM cM) nM (intV M) ∧ ∀ q, (Value.slice aL nL cL).ownBlock = some q → (Value.slice aM nM cM).ownBlock ≠ some q)
theorem groups_none {l : Bs} (hl : l.length ≤ 1000000) {base : Nat} {W : World} {ao : Option Addr} {n cap : Nat} {ok : Bool} (hc : cutAt l = none) (h : WordsIs (docWords l) base W ao n cap ok) : GroupsIs l base W ao n cap ok none 0 0 (-1) := by
  rcases h.out with ⟨rfl, hR, rfl, rfl, rfl⟩ | ⟨rfl, L, hR, rfl, ho⟩
  · exact ⟨by omega, .inl ⟨by unfold docGroups; rw [hc]; dsimp only; rw [hR]; rfl, .inl rfl⟩⟩
  · have hlen := docWords_len hR
    have hg : docGroups l = if L.length = 8 then some L else none := by unfold docGroups; rw [hc]; dsimp only; rw [hR]; rfl
    refine ⟨by omega, ?_⟩
    by_cases h8 : 8 < L.length + 0
    · exact .inl ⟨by rw [hg, if_neg (by omega)], .inr (.inl ⟨rfl, h8⟩)⟩
    · by_cases h9 : L.length = 8
      · exact .inr ⟨rfl, h8, .inr ⟨by omega, h9⟩, L, [], rfl, rfl, by rw [hg, if_pos h9, h9]; simp, ho, World.ownsRow_nil _ _ _ _, fun q _ k => by cases k⟩
      · exact .inl ⟨by rw [hg, if_neg h9], .inr (.inr ⟨rfl, h8, by omega, h9⟩)⟩
theorem words_nil (base : Nat) (W : World) : WordsIs (some []) base W none 0 0 true := ⟨.inr ⟨rfl, [], rfl, rfl, World.ownsRow_nil _ _ _ _⟩⟩
theorem groups_stop {l : Bs} {base : Nat} {W W' : World} {ao : Option Addr} {n cap k : Nat} (hc : cutAt l = some k) (h : WordsIs (if 0 < k then docWords (l.take k) else some []) base W ao n cap false) : GroupsIs l base W' ao n cap false none 0 0 (k : Int) := by
  rcases h.out with ⟨_, hR, rfl, rfl, rfl⟩ | ⟨h, _⟩
  · exact ⟨by omega, .inl ⟨by unfold docGroups; rw [hc]; dsimp only; rw [hR]; rfl, .inl rfl⟩⟩
  · exact absurd h (by decide)
theorem groups_cut {l : Bs} (hl : l.length ≤ 1000000) {base : Nat} {W W' : World} {ao am : Option Addr} {n cap k m cm : Nat} {ok : Bool} (hc : cutAt l = some k) (h : WordsIs (if 0 < k then docWords (l.take k) else some []) base W ao n cap true)
    (hb : Below W.heap.size W W') (hbase : base ≤ W.heap.size) (h2 : WordsIs (if k + 2 < l.length then docWords (l.drop (k + 2)) else some []) W.heap.size W' am m cm ok) : GroupsIs l base W' ao n cap ok am m cm (k : Int) := by
  rcases h.out with ⟨h, _⟩ | ⟨_, L, hL, rfl, hoL⟩
  · exact absurd h (by decide)
  have hLl : L.length ≤ 1000001 := by
    split at hL
    · have := docWords_len hL; rw [List.length_take] at this; omega
    · cases hL; simp
  rcases h2.out with ⟨rfl, hR, rfl, rfl, rfl⟩ | ⟨rfl, M, hM, rfl, hoM⟩
  · exact ⟨by omega, .inl ⟨by unfold docGroups; rw [hc]; dsimp only; rw [hL]; dsimp only [Option.bind_some]; rw [hR]; rfl, .inl rfl⟩⟩
  · have hMl : M.length ≤ 1000001 := by
      split at hM
      · have := docWords_len hM; rw [List.length_drop] at this; omega
      · cases hM; simp
    have hg : docGroups l = if 8 < L.length + M.length then none else some (L ++ List.replicate (8 - (L.length + M.length)) 0 ++ M) := by
      unfold docGroups; rw [hc]; dsimp only; rw [hL]; dsimp only [Option.bind_some]; rw [hM]; rfl
    refine ⟨⟨hLl, hMl⟩, ?_⟩
    by_cases h8 : 8 < L.length + M.length
    · exact .inl ⟨by rw [hg, if_pos h8], .inr (.inl ⟨rfl, h8⟩)⟩
    · refine .inr ⟨rfl, h8, .inl (by omega), L, M, rfl, rfl, by rw [hg, if_neg h8], row_kept1 hoL fun q hq => hb.block q (hoL.lt q hq).2, owns_mono hoM hbase, fun q hq k => ?_⟩
      have h1 := (hoL.lt q hq).2
      have h2 := (hoM.lt q k).1
      omega
theorem bl_drew {w W : World} (h : Below w.heap.size w W) : Below w.heap.size w W.drew := h.drew
theorem bl_alloc {w W : World} (h : Below w.heap.size w W) (o : Obj) : Below w.heap.size w (W.alloc o) := h.alloc h.size o
theorem bl_set {w W : World} (h : Below w.heap.size w W) {p : Addr} (hp : w.heap.size ≤ p.block) (v : Value) : Below w.heap.size w (W.setCell p v) := h.setCell hp v
theorem hp_new1 (w : World) (o1 o2 : Obj) : ((w.alloc o1).alloc o2).heap[w.heap.size + 1]? = some o2 := by
  have := heap_alloc_new (w.alloc o1) o2
  rwa [World.size_alloc] at this
theorem bs_four_at {W : World} {g : Nat} {a b c d : UInt8} {T : TypeId} {fr : Nat × Nat} (h : W.heap[g]? = some (.cells #[.int .u8 (a.toNat : Int), .int .u8 (b.toNat : Int), .int .u8 (c.toNat : Int), .int .u8 (d.toNat : Int)] T fr)) : BsAt W (.slice (some ⟨g, 0, none⟩) 4 4) [a, b, c, d] :=
  ⟨⟨_, _, rfl, fun _ => ⟨g, 0, rfl, fun j hj => by
    rw [Nat.zero_add, blk_cell h]
    have hj4 : j < 4 := by simpa using hj
    rcases (show j = 0 ∨ j = 1 ∨ j = 2 ∨ j = 3 by omega) with rfl | rfl | rfl | rfl <;> rfl⟩⟩, rfl⟩
theorem intV_snoc (L : List Nat) (r : Nat) : intV (L ++ List.replicate (r + 1) 0) = intV (L ++ List.replicate r 0) ++ [.int .i64 0] := by
  unfold intV
  rw [List.replicate_succ', ← List.append_assoc, List.map_append]
  rfl
theorem intV_one (L : List Nat) : ∀ u ∈ intV L, u.oneCell' = true := by
  intro u hu
  obtain ⟨n, _, rfl⟩ := List.mem_map.1 hu
  rfl
theorem zero_seg (W : World) : Seg (W.alloc (.cells #[.int .i64 0] 3)) 1 (.slice (some ⟨W.heap.size, 0, none⟩) 1 1) 1 [.int .i64 0] :=
  ⟨⟨_, _, rfl, fun _ => ⟨W.heap.size, 0, rfl, fun j hj => by rw [Nat.zero_add, blk_cell (heap_alloc_new W _)]; simp⟩⟩, rfl⟩
abbrev TB : TypeId := 5
abbrev TBs : TypeId := 63
/-- append of two bytes in a region that draws its order. -/
theorem step_push2 {ops : Array Oper} {o : Oper} {a : Act} {W w0 : World} {K : Act → World → Prop} {Q : Exit → Act → World → Prop} {E : Prop} {v : Value} {n : Nat} {xs : List Value} {c d : UInt8} {base : Nat}
    (hg : o.guard = none) (s x : Operand) (hop : o.op = Op.call { callee := Callee.builtin Builtin.append, args := #[s, x], argTypes := #[TBs, TBs] }) {b : Nat} {fr : Nat × Nat} {T : TypeId}
    (hs : a.eval s = v) (hx : a.eval x = .slice (some ⟨b, 0, none⟩) 2 2) (hb : W.heap[b]? = some (.cells #[.int .u8 (c.toNat : Int), .int .u8 (d.toNat : Int)] T fr)) (ho : W.ownsRow base TB 1 v n xs) (HB : Below base w0 W) (hbase : base ≤ W.heap.size) (hn : n ≤ 1099511627000)
    (hK : ∀ v' W', W'.ownsRow base TB 1 v' (n + 2) (xs ++ [c, d].flatMap encB) → Below base w0 W' → base ≤ W'.heap.size → K (a.put o.dst v') W') :
    if Region.wanted o (yielded ops a.tmps) = true then Oper.wp Tryz.prog o a W K Q else E := by
  have hsg : Seg W 1 (.slice (some ⟨b, 0, none⟩) 2 2) 2 ([c, d].flatMap encB) := ⟨⟨_, _, rfl, fun _ => ⟨b, 0, rfl, fun j hj => by
    rw [Nat.zero_add, blk_cell hb]
    rcases (show j = 0 ∨ j = 1 by omega) with rfl | rfl <;> rfl⟩⟩, rfl⟩
  obtain ⟨v', W', hr, ho', hgr, -⟩ := run_append_seg (P := Tryz.prog) W TBs o.type TB _ 1 1 Tryz.underlying63 infoB rfl (by decide) ho hsg encB_one (by omega) (by decide) hbase
  exact step_append hg s x TBs TBs hop _ _ hs hx hr (hK v' W' ho' (below_grown HB hgr ho (Nat.le_refl _) hbase) (Nat.le_trans hbase hgr.size))
theorem bytesG_take (G : List Nat) (i : Nat) (h : i < G.length) : bytesG (G.take (i + 1)) = bytesG (G.take i) ++ [UInt8.ofNat (G[i] / 256), UInt8.ofNat (G[i] % 256)] := by
  unfold bytesG
  rw [List.take_succ_eq_append_getElem h, List.flatMap_append]
  rfl
/-- A group's two bytes, as the walk has them. -/
theorem hi_byte (g : Nat) (h : g ≤ 65535) : IntKind.u8.wrap ((g / 256 : Nat) : Int) = ((UInt8.ofNat (g / 256)).toNat : Int) := by
  rw [IntKind.wrap_u8, UInt8.toNat_ofNat']; omega
theorem lo_byte (g : Nat) : IntKind.u8.wrap ((g % 256 : Nat) : Int) = ((UInt8.ofNat (g % 256)).toNat : Int) := by
  rw [IntKind.wrap_u8, UInt8.toNat_ofNat']; omega
end Go.Proofs.Tryz.Tx
