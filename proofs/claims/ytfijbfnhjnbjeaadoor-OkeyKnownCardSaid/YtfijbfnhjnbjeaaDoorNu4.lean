/- Layer num: ReadVar. -/
import Derived.Test.YtfijbfnhjnbjeaaDoorNu3
set_option linter.unusedVariables false
set_option linter.unusedSimpArgs false
set_option maxRecDepth 100000
namespace Go.Proofs.Tryd.Nu
open Go.RowKit Go.Cph Go.Cph.Ok
def encRV : Option (Nat × Nat) → Value
  | none => .tuple #[.int .u64 0, .int .i64 0, .bool false]
  | some (n, k) => .tuple #[.int .u64 (n : Int), .int .i64 (k : Int), .bool true]
theorem bytes_cons (s : ByteArray) (h : 0 < s.size) : s.data.toList = s[0] :: s.data.toList.drop 1 := by
  have h1 : 0 < s.data.toList.length := by rw [← Go.Lib.size_eq]; exact h
  have h2 : s[0] = s.data.toList[0] := rfl
  rw [h2, List.getElem_cons_drop]
  rfl
set_option maxHeartbeats 3200000 in
theorem readVar_any (s : ByteArray) (w : World) (hs : s.size ≤ 1099511627776) :
    Calls Tryd.prog 26 #[.string s] w fun e w' => e = .returned (encRV (readRow s.data.toList)) ∧ Below w.heap.size w w' := by
  by_cases h0 : s.size = 0
  · have hse : s = ⟨#[]⟩ := by
      cases s with
      | mk d => 
        have : d = #[] := Array.eq_empty_of_size_eq_zero h0
        rw [this]
    subst hse
    go_enter Tryd.func26, Tryd.ntmps26
    go_wp2_with fail
    exact bodyPost_ret (v := .tuple #[.int .u64 0, .int .i64 0, .bool false]) (by simp [results, Tryd.results26, go_sem]) rfl ⟨rfl, Below.refl _ _⟩
  · have hl := bytes_cons s (by omega)
    obtain ⟨c, hc⟩ : ∃ c, c = s[0]'(by omega) := ⟨_, rfl⟩
    rw [← hc] at hl
    have hz : (0 : Int) < (s.size : Int) := by omega
    have hz2 : 0 < s.size := by omega
    have he : s.toList.isEmpty = false := by
      rw [ByteArray.toList_eq, hl]; rfl
    have hcr : (s[0]'(by omega)).toNat = c.toNat := by rw [hc]
    have h8 : c.toNat < 256 := c.toNat_lt
    have HL := Lib.hid hl
    have HEX := Lib.hid (show (s.extract 1 s.size).data.toList = s.data.toList.drop 1 from by
      simp
      exact List.take_of_length_le (by rw [List.length_tail, ← Go.Lib.size_eq]; exact Nat.le_refl _))
    obtain ⟨d, hd⟩ : ∃ d, d = c.toNat := ⟨_, rfl⟩
    rw [← hd] at hcr h8
    have HD := Lib.hid hd
    clear hl hc h0 hd
    by_cases h1 : d < 248
    · have c1 : (d : Int) < 248 := by omega
      have HR := Lib.hid (show readRow s.data.toList = some (d, 1) from by rw [HL.out, readRow_cons, ← HD.out, if_pos h1])
      go_enter Tryd.func26, Tryd.ntmps26
      go_wp2_with fail
      exact bodyPost_ret (v := .tuple #[.int .u64 (d : Int), .int .i64 1, .bool true]) (by simp [results, Tryd.results26, go_sem]) rfl ⟨by rw [HR.out]; rfl, Below.refl _ _⟩
    · have c1 : (248 : Int) ≤ (d : Int) := by omega
      obtain ⟨k, hk⟩ : ∃ k, d = k + 247 := ⟨d - 247, by omega⟩
      have hk1 : 1 ≤ k := by omega
      have hk8 : k ≤ 8 := by omega
      have ks : IntKind.i64.wrap ((d : Int) - 248) = (k : Int) - 1 := by rw [IntKind.wrap_i64]; omega
      have ks2 : IntKind.i64.wrap ((k : Int) - 1 + 1) = (k : Int) := by rw [IntKind.wrap_i64]; omega
      have ks3 : IntKind.i64.wrap (1 + (k : Int)) = 1 + (k : Int) := by rw [IntKind.wrap_i64]; omega
      have kn : ¬ (k : Int) < 1 := by omega
      obtain ⟨t, ht⟩ : ∃ t, t = s.extract 1 s.size := ⟨_, rfl⟩
      have HT := Lib.hid ht
      have hts : t.size + 1 = s.size := by rw [ht, ByteArray.size_extract]; omega
      have HTL := Lib.hid (show s.data.toList = c :: t.data.toList from by rw [HT.out, HEX.out]; exact HL.out)
      have HBG := Lib.hid (fun W => (show Calls Tryd.prog 38 #[.string (s.extract 1 s.size), .int .i64 (k : Int)] W (fun e w' => e = .returned (.tuple #[.int .u64 (if t.size < k then 0 else (val (t.data.toList.take k) : Int)), .bool (!decide (t.size < k))]) ∧ Below W.heap.size W w') from by
        rw [← HT.out]; exact big_any t k W hk1 hk8 (by omega)))
      have HRR := Lib.hid (show readRow s.data.toList = if t.size < k then none else if row (val (t.data.toList.take k)) = c :: t.data.toList.take k then some (val (t.data.toList.take k), k + 1) else none from by
        rw [HTL.out, readRow_cons, ← HD.out, if_neg h1, show d - 247 = k by omega, ← Go.Lib.size_eq])
      have HRB := Lib.hid (show ¬ t.size < k → (row (val (t.data.toList.take k)) = c :: t.data.toList.take k ↔ behind (val (t.data.toList.take k)) = k) from fun hn => by
        have hle : (t.data.toList.take k).length = k := by rw [List.length_take, ← Go.Lib.size_eq]; omega
        have := row_behind (c := c) (t := t.data.toList.take k) (by rw [← HD.out]; omega) (by rw [hle, ← HD.out]; omega)
        rw [hle] at this; exact this)
      have HVL := Lib.hid (show val (t.data.toList.take k) < 18446744073709551616 from by
        refine Nat.lt_of_lt_of_le (val_lt _) ?_
        rw [← p8]
        exact Nat.pow_le_pow_right (by omega) (by rw [List.length_take]; omega))
      have hk9 : (k : Int) ≤ 8 := by omega
      have hk0 : (1 : Int) ≤ (k : Int) := by omega
      have HK := Lib.hid hk
      clear hts hk h1 ht
      obtain ⟨x, hx⟩ : ∃ x, x = val (t.data.toList.take k) := ⟨_, rfl⟩
      rw [← hx] at HBG HRR HRB HVL
      clear hx
      by_cases hsz : t.size < k
      · rw [if_pos hsz, decide_eq_true hsz] at HBG
        rw [if_pos hsz] at HRR
        clear hsz HRB
        go_enter Tryd.func26, Tryd.ntmps26
        go_wp2_with fail
        refine (HBG.out _).mono ?_
        rintro e w1 ⟨rfl, hb⟩
        have HB := Lib.hid hb
        clear hb
        go_wp2_with fail
        exact bodyPost_ret (v := .tuple #[.int .u64 0, .int .i64 0, .bool false]) (by simp [results, Tryd.results26, go_sem]) rfl ⟨by rw [HRR.out]; rfl, HB.out⟩
      · rw [if_neg hsz, decide_eq_false hsz] at HBG
        rw [if_neg hsz] at HRR
        have hrb := HRB.out hsz
        obtain ⟨n, hn⟩ : ∃ n : UInt64, n.toNat = x := ⟨UInt64.ofNat x, by rw [UInt64.toNat_ofNat', Nat.mod_eq_of_lt HVL.out]⟩
        rw [← hn] at HBG HRR hrb
        have HBH := Lib.hid (fun W => behind_any n W)
        obtain ⟨b, hbb⟩ : ∃ b, b = behind n.toNat := ⟨_, rfl⟩
        rw [← hbb] at HBH hrb
        by_cases hq : b = k
        · have hr := hrb.2 hq
          rw [if_pos hr] at HRR
          subst hq
          clear hr hrb hbb hn hsz HRB HVL
          go_enter Tryd.func26, Tryd.ntmps26
          go_wp2_with fail
          refine (HBG.out _).mono ?_
          rintro e w1 ⟨rfl, hb⟩
          have HB := Lib.hid hb
          clear hb
          go_wp2_with fail
          refine (HBH.out _).mono ?_
          rintro e w2 ⟨rfl, rfl⟩
          go_wp2_with fail
          exact bodyPost_ret (v := .tuple #[.int .u64 (n.toNat : Int), .int .i64 (1 + (b : Int)), .bool true]) (by simp [results, Tryd.results26, go_sem]) rfl ⟨by rw [HRR.out]; show _ = Ending.returned (.tuple #[_, .int .i64 ((b + 1 : Nat) : Int), _]); rw [show ((b + 1 : Nat) : Int) = 1 + (b : Int) by omega], HB.out⟩
        · have hr : ¬ row n.toNat = c :: t.data.toList.take k := fun e => hq (hrb.1 e)
          rw [if_neg hr] at HRR
          have hq2 : ((b : Int) == (k : Int)) = false := by simp; omega
          have hq3 : ((b : Int) != (k : Int)) = true := by rw [bne, hq2]; rfl
          have hq4 : ¬ (b : Int) = (k : Int) := by omega
          clear hr hrb hbb hn hsz HRB HVL hq
          go_enter Tryd.func26, Tryd.ntmps26
          go_wp2_with fail
          refine (HBG.out _).mono ?_
          rintro e w1 ⟨rfl, hb⟩
          have HB := Lib.hid hb
          clear hb
          go_wp2_with fail
          refine (HBH.out _).mono ?_
          rintro e w2 ⟨rfl, rfl⟩
          go_wp2_with fail
          exact bodyPost_ret (v := .tuple #[.int .u64 0, .int .i64 0, .bool false]) (by simp [results, Tryd.results26, go_sem]) rfl ⟨by rw [HRR.out]; rfl, HB.out⟩
end Go.Proofs.Tryd.Nu
