/- The document's words between signs. -/
import Derived.Test.YtpikpfbpoihioaaDoorBu2
import Derived.Test.YtpikpfbpoihioaaDoorAt4
set_option linter.unusedVariables false
set_option linter.unusedSimpArgs false
set_option maxRecDepth 100000
namespace Go.Proofs.Tryd.Tx
open Go.RowKit Go.Cph Go.Cph.Tx
open Go.Cph.Ok (ofBs)
abbrev intV (l : List Nat) : List Value := l.map fun (n : Nat) => Value.int .i64 (n : Int)
theorem infoI : (Tryd.prog.info? 3).map (fun i => (i.zero, i.size, i.bytes)) = some (some (.int .i64 0), 1, 8) := by kernel_rfl
def WordsPost (r : Option (List Nat)) (w : World) (e : Ending) (w' : World) : Prop := Below w.heap.size w w' ∧ match r with
  | none => e = .returned (.tuple #[.slice none 0 0, .bool false])
  | some L => ∃ v, e = .returned (.tuple #[v, .bool true]) ∧ w'.ownsRow w.heap.size 3 1 v L.length (intV L)
theorem WordsPost.none {w w' : World} {r : Option (List Nat)} (h : r = .none) (hb : Below w.heap.size w w') : WordsPost r w (.returned (.tuple #[.slice .none 0 0, .bool false])) w' := by
  subst h; exact ⟨hb, rfl⟩
theorem WordsPost.some {w w' : World} {r : Option (List Nat)} {L : List Nat} {v : Value} (h : r = .some L) (ho : w'.ownsRow w.heap.size 3 1 v L.length (intV L)) (hb : Below w.heap.size w w') : WordsPost r w (.returned (.tuple #[v, .bool true])) w' := by
  subst h; exact ⟨hb, v, rfl, ho⟩
/-- What is left to read: behind the text's end the words stand. -/
def restW (b most : Nat) (sign : UInt8) (l : Bs) (k : Nat) (ws : List Nat) (cur : Option Nat) : Option (List Nat) := if k ≤ l.length then wordsF b most sign ws cur (l.drop k) else .some ws
theorem rest_end (b most : Nat) (sign : UInt8) (l : Bs) (ws : List Nat) (cur : Option Nat) : restW b most sign l l.length ws cur = cur.map fun n => ws ++ [n] := by
  unfold restW; rw [if_pos (Nat.le_refl _), List.drop_length]; rfl
theorem rest_at (b most : Nat) (sign : UInt8) (l : Bs) (k : Nat) (hk : k < l.length) (ws : List Nat) (cur : Option Nat) : restW b most sign l k ws cur =
    if l[k] = sign then (match cur with | .none => .none | .some n => restW b most sign l (k + 1) (ws ++ [n]) .none)
    else (match stepD b most cur l[k] with | .none => .none | .some n => restW b most sign l (k + 1) ws (.some n)) := by
  unfold restW
  have h1 : k + 1 ≤ l.length := hk
  rw [if_pos (by omega), List.drop_eq_getElem_cons hk]
  simp only [if_pos h1]
  rfl
theorem step_eq (b most : Nat) (cur : Option Nat) (c : UInt8) : stepD b most cur c = (dval b c).bind fun d => if cur = .some 0 then .none else if b * cur.getD 0 + d ≤ most then .some (b * cur.getD 0 + d) else .none := by
  unfold stepD; cases dval b c <;> rfl
set_option maxHeartbeats 8000000 in
theorem words_any (l : Bs) (sign : UInt8) (b most : Nat) (hb : b = 10 ∨ b = 16) (hm : most ≤ 65535) (hl : l.length ≤ 1000000) (w : World) :
    Calls Tryd.prog 45 #[.string (ofBs l), .int .u8 (sign.toNat : Int), .int .i64 (b : Int), .int .i64 (most : Int)] w (WordsPost (wordsF b most sign [] .none l) w) := by
  obtain ⟨R, hR⟩ : ∃ R, R = wordsF b most sign [] .none l := ⟨_, rfl⟩
  have HR := Lib.hid (show R = restW b most sign l 0 [] .none from by rw [hR]; unfold restW; rw [if_pos (by omega)]; rfl)
  rw [← hR]
  clear hR
  have hsz : (ofBs l).size = l.length := ofBs_size l
  have hbi : (b : Int) ≤ 16 := by omega
  go_enter Tryd.func45, Tryd.ntmps45
  go_wp2_with fail
  go_loopw [10, 11, 12] (fun v10 v11 v12 W => ∃ (k : Nat) (ws : List Nat) (cur : Option Nat) (z : Int), k ≤ l.length + 1 ∧ v12 = .int .i64 (k : Int) ∧ v11 = .int .i64 z ∧ Hid (z = optI cur ∧ ∀ n, cur = .some n → n ≤ most) ∧ Hid (R = restW b most sign l k ws cur) ∧ W.ownsRow w.heap.size 3 1 v10 ws.length (intV ws) ∧ ws.length ≤ k ∧ Below w.heap.size w W) (fun _ _ v12 _ => l.length + 1 - (intOf v12).toNat)
  case atStart => exact ⟨0, [], .none, -1, by omega, rfl, rfl, Lib.hid ⟨rfl, fun n h => by cases h⟩, HR, World.ownsRow_nil _ _ _ _, Nat.le_refl _, Below.refl _ _⟩
  case round =>
    obtain ⟨k, ws, cur, z, hk, rfl, rfl, HZ, HRE, ho, hwk, hbel⟩ := hrel
    have HO := Lib.hid ho
    have HB := Lib.hid hbel
    clear ho hbel
    have k1 : IntKind.i64.wrap ((k : Int) + 1) = ((k + 1 : Nat) : Int) := by rw [IntKind.wrap_i64]; omega
    by_cases hkl : k ≤ l.length
    · have hki : (k : Int) ≤ (l.length : Int) := by omega
      have HWL := Lib.hid (show ws.length + 1 ≤ 1099511627776 from by omega)
      have hz := HZ.out
      by_cases hke : k = l.length
      · have hei : ((k : Int) == (l.length : Int)) = true := by rw [beq_iff_eq]; omega
        have HRE2 := Lib.hid (show R = cur.map fun n => ws ++ [n] from by rw [HRE.out, hke, rest_end])
        have HKE := Lib.hid hke
        clear hke
        cases cur with
        | none =>
          obtain rfl : z = -1 := hz.1
          clear hz
          go_wp2_with fail
          go_ret2
          exact WordsPost.none HRE2.out HB.out
        | some n =>
          obtain rfl : z = (n : Int) := hz.1
          have hn0 : ¬ (n : Int) < 0 := by omega
          clear hz
          go_wp2_with (at_builtin; refine wpList_append1 rfl (.tmp 33) (.tmp 35) 74 rfl w.heap.size 3 _ 1 8 Tryd.underlying74 infoI rfl (by decide) _ ws.length (intV ws) [.int .i64 (n : Int)] rfl HO.out _ 1 rfl rfl rfl (by simp [Value.oneCell']) HWL.out (by decide) HB.out.size w.heap.size w HB.out (Nat.le_refl _) ?_; intro v' w' ho hgr hb' hsz'; have HO4 := Lib.hid ho; have HB4 := Lib.hid hb'; clear ho hgr hb' hsz')
          go_roundw
          case rel => exact ⟨k + 1, ws ++ [n], .none, -1, by omega, rfl, rfl, Lib.hid ⟨rfl, fun n h => by cases h⟩, Lib.hid (by rw [HRE2.out]; unfold restW; rw [if_neg (by have := HKE.out; omega)]; rfl), by simpa [intV] using HO4.out, by simp; omega, HB4.out⟩
          case measure => simp [intOf]; omega
      · have hei : ((k : Int) == (l.length : Int)) = false := by rw [beq_eq_false_iff_ne]; omega
        have hk2 : k < l.length := by omega
        have hk2i : (k : Int) < (l.length : Int) := by omega
        have e0 : ((((ofBs l)[k]'(by omega)).toNat : Int) == (sign.toNat : Int)) = decide (l[k] = sign) := sign_eq l k hk2 _ sign
        have HRE2 := Lib.hid (HRE.out.trans (rest_at b most sign l k hk2 ws cur))
        have HDG := Lib.hid (show ∀ W, Calls Tryd.prog 61 #[.int .u8 (((ofBs l)[k]'(by omega)).toNat : Int), .int .i64 (b : Int)] W fun e w' => e = .returned (.int .i64 (optI (dval b l[k]))) ∧ w' = W from fun W => digit_any _ b hb W)
        by_cases hs : l[k] = sign
        · have HRE3 := Lib.hid (HRE2.out.trans (if_pos hs))
          rw [decide_eq_true hs] at e0
          clear hs hke
          cases cur with
          | none =>
            obtain rfl : z = -1 := hz.1
            clear hz
            go_wp2_with fail
            go_ret2
            exact WordsPost.none HRE3.out HB.out
          | some n =>
            obtain rfl : z = (n : Int) := hz.1
            have hn0 : ¬ (n : Int) < 0 := by omega
            clear hz
            go_wp2_with (at_builtin; refine wpList_append1 rfl (.tmp 33) (.tmp 35) 74 rfl w.heap.size 3 _ 1 8 Tryd.underlying74 infoI rfl (by decide) _ ws.length (intV ws) [.int .i64 (n : Int)] rfl HO.out _ 1 rfl rfl rfl (by simp [Value.oneCell']) HWL.out (by decide) HB.out.size w.heap.size w HB.out (Nat.le_refl _) ?_; intro v' w' ho hgr hb' hsz'; have HO4 := Lib.hid ho; have HB4 := Lib.hid hb'; clear ho hgr hb' hsz')
            go_roundw
            case rel => exact ⟨k + 1, ws ++ [n], .none, -1, by omega, rfl, rfl, Lib.hid ⟨rfl, fun n h => by cases h⟩, Lib.hid HRE3.out, by simpa [intV] using HO4.out, by simp; omega, HB4.out⟩
            case measure => simp [intOf]; omega
        · have HRE3 := Lib.hid (HRE2.out.trans (if_neg hs))
          rw [decide_eq_false hs] at e0
          clear hs hke
          obtain ⟨D, hD⟩ : ∃ D, D = dval b l[k] := ⟨_, rfl⟩
          have HST := Lib.hid (show stepD b most cur l[k] = D.bind fun d => if cur = .some 0 then .none else if b * cur.getD 0 + d ≤ most then .some (b * cur.getD 0 + d) else .none from by rw [hD, step_eq])
          rw [← hD] at HDG
          have HDB := Lib.hid (show ∀ d, D = .some d → d < b from fun d h => (dval_some (by omega) (hD ▸ h)).1)
          clear hD
          cases D with
          | none =>
            have HDG2 := Lib.hid (show ∀ W, Calls Tryd.prog 61 #[.int .u8 (((ofBs l)[k]'(by omega)).toNat : Int), .int .i64 (b : Int)] W fun e w' => e = .returned (.int .i64 (-1)) ∧ w' = W from HDG.out)
            have HV := Lib.hid (show R = .none from by rw [HRE3.out, HST.out]; rfl)
            clear hz HDG
            go_wp2_with fail
            refine (HDG2.out _).mono ?_
            rintro e w1 ⟨rfl, rfl⟩
            go_wp2_with fail
            go_ret2
            exact WordsPost.none HV.out HB.out
          | some d =>
            have HDG2 := Lib.hid (show ∀ W, Calls Tryd.prog 61 #[.int .u8 (((ofBs l)[k]'(by omega)).toNat : Int), .int .i64 (b : Int)] W fun e w' => e = .returned (.int .i64 (d : Int)) ∧ w' = W from HDG.out)
            have hdb := HDB.out d rfl
            have hd0 : ¬ (d : Int) < 0 := by omega
            have kd : IntKind.i64.wrap (d : Int) = (d : Int) := by rw [IntKind.wrap_i64]; omega
            clear HDG HDB
            cases cur with
            | none =>
              obtain rfl : z = -1 := hz.1
              have HRE4 := Lib.hid (show R = match (if d ≤ most then some d else none) with | .none => .none | .some n => restW b most sign l (k + 1) ws (.some n) from by
                rw [HRE3.out, HST.out]; simp)
              clear hz
              by_cases hmo : d ≤ most
              · have hmi : ¬ ((d : Nat) : Int) > (most : Int) := by omega
                have HV := Lib.hid (HRE4.out.trans (by rw [if_pos hmo]))
                have HMO := Lib.hid hmo
                clear hmo
                go_wp2_with fail
                refine (HDG2.out _).mono ?_
                rintro e w1 ⟨rfl, rfl⟩
                go_wp2_with fail
                go_roundw
                case rel => exact ⟨k + 1, ws, .some (d), _, by omega, rfl, rfl, Lib.hid ⟨rfl, fun n h => by cases h; exact HMO.out⟩, Lib.hid HV.out, HO.out, by omega, HB.out⟩
                case measure => simp [intOf]; omega
              · have hmi : ((d : Nat) : Int) > (most : Int) := by omega
                have HV := Lib.hid (HRE4.out.trans (by rw [if_neg hmo]))
                clear hmo
                go_wp2_with fail
                refine (HDG2.out _).mono ?_
                rintro e w1 ⟨rfl, rfl⟩
                go_wp2_with fail
                go_ret2
                exact WordsPost.none HV.out HB.out
            | some n =>
              obtain rfl : z = (n : Int) := hz.1
              have hnm := hz.2 n rfl
              clear hz
              by_cases hn : n = 0
              · subst hn
                have HV := Lib.hid (show R = .none from by rw [HRE3.out, HST.out]; rfl)
                go_wp2_with fail
                refine (HDG2.out _).mono ?_
                rintro e w1 ⟨rfl, rfl⟩
                go_wp2_with fail
                go_ret2
                exact WordsPost.none HV.out HB.out
              · have hn0 : ((n : Int) == 0) = false := by rw [beq_eq_false_iff_ne]; omega
                have hn1 : ¬ (n : Int) < 0 := by omega
                have HRE4 := Lib.hid (show R = match (if b * n + d ≤ most then some (b * n + d) else none) with | .none => .none | .some n => restW b most sign l (k + 1) ws (.some n) from by
                  rw [HRE3.out, HST.out]; simp [hn])
                have hqb : b * n ≤ 16 * 65535 := Nat.mul_le_mul (by omega) (by omega)
                obtain ⟨q, hq⟩ : ∃ q, q = b * n := ⟨_, rfl⟩
                have kq : IntKind.i64.wrap ((b : Int) * (n : Int)) = (q : Int) := by rw [IntKind.wrap_i64, ← Int.natCast_mul, ← hq]; omega
                have ks : IntKind.i64.wrap ((q : Int) + (d : Int)) = ((q + d : Nat) : Int) := by rw [IntKind.wrap_i64]; omega
                rw [← hq] at HRE4
                clear hq hn hqb
                by_cases hmo : q + d ≤ most
                · have hmi : ¬ ((q + d : Nat) : Int) > (most : Int) := by omega
                  have HV := Lib.hid (HRE4.out.trans (by rw [if_pos hmo]))
                  have HMO := Lib.hid hmo
                  clear hmo
                  go_wp2_with fail
                  refine (HDG2.out _).mono ?_
                  rintro e w1 ⟨rfl, rfl⟩
                  go_wp2_with fail
                  go_roundw
                  case rel => exact ⟨k + 1, ws, .some (q + d), _, by omega, rfl, rfl, Lib.hid ⟨rfl, fun n h => by cases h; exact HMO.out⟩, Lib.hid HV.out, HO.out, by omega, HB.out⟩
                  case measure => simp [intOf]; omega
                · have hmi : ((q + d : Nat) : Int) > (most : Int) := by omega
                  have HV := Lib.hid (HRE4.out.trans (by rw [if_neg hmo]))
                  clear hmo
                  go_wp2_with fail
                  refine (HDG2.out _).mono ?_
                  rintro e w1 ⟨rfl, rfl⟩
                  go_wp2_with fail
                  go_ret2
                  exact WordsPost.none HV.out HB.out
    · have hki : ¬ (k : Int) ≤ (l.length : Int) := by omega
      have HV := Lib.hid (show R = .some ws from by rw [HRE.out]; unfold restW; rw [if_neg hkl])
      go_wp2_with fail
      go_ret2
      exact WordsPost.some HV.out HO.out HB.out
end Go.Proofs.Tryd.Tx
