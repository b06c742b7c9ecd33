/- The document's rows of numbers: ReadVar. -/
import Derived.Test.YtfijbfnhjnbjeaaDoorNr1
set_option linter.unusedVariables false
set_option linter.unusedSimpArgs false
set_option maxRecDepth 100000
namespace Go.Proofs.Tryd.Nu
open Go.RowKit Go.Cph Go.Cph.Ok
theorem list_ne {a b : ByteArray} (h : a.data.toList ≠ b.data.toList) : ¬ a = b := fun e => h (by rw [e])
theorem list_eq {a b : ByteArray} (h : a.data.toList = b.data.toList) : a = b := by
  cases a; cases b
  congr 1
  exact Array.ext' h
set_option maxHeartbeats 3200000 in
theorem rreadVar_any (s : ByteArray) (w : World) (hs : s.size ≤ 1099511627776) :
    Calls Tryd.prog 41 #[.string s] w fun e w' => e = .returned (encRV (readRow s.data.toList)) ∧ Below w.heap.size w w' := by
  by_cases h0 : s.size = 0
  · have hse : s = ⟨#[]⟩ := by
      cases s with
      | mk d => 
        have : d = #[] := Array.eq_empty_of_size_eq_zero h0
        rw [this]
    subst hse
    go_enter Tryd.func41, Tryd.ntmps41
    go_wp2_with fail
    exact bodyPost_ret (v := .tuple #[.int .u64 0, .int .i64 0, .bool false]) (by simp [results, Tryd.results41, go_sem]) rfl ⟨rfl, Below.refl _ _⟩
  · have hl := bytes_cons s (by omega)
    obtain ⟨c, hc⟩ : ∃ c, c = s[0]'(by omega) := ⟨_, rfl⟩
    rw [← hc] at hl
    have hz : (0 : Int) < (s.size : Int) := by omega
    have hz2 : 0 < s.size := by omega
    have he : s.toList.isEmpty = false := by
      rw [ByteArray.toList_eq, hl]; rfl
    have hcr : (s[0]'(by omega)).toNat = c.toNat := by rw [hc]
    have h8 : c.toNat < 256 := c.toNat_lt
    have HL := Lib.hid hl
    have HEX := Lib.hid (show (s.extract 1 s.size).data.toList = s.data.toList.drop 1 from by
      simp
      exact List.take_of_length_le (by rw [List.length_tail, ← Go.Lib.size_eq]; exact Nat.le_refl _))
    obtain ⟨d, hd⟩ : ∃ d, d = c.toNat := ⟨_, rfl⟩
    rw [← hd] at hcr h8
    have HD := Lib.hid hd
    clear hl hc h0 hd
    by_cases h1 : d < 248
    · have c1 : (d : Int) < 248 := by omega
      have HR := Lib.hid (show readRow s.data.toList = some (d, 1) from by rw [HL.out, readRow_cons, ← HD.out, if_pos h1])
      go_enter Tryd.func41, Tryd.ntmps41
      go_wp2_with fail
      exact bodyPost_ret (v := .tuple #[.int .u64 (d : Int), .int .i64 1, .bool true]) (by simp [results, Tryd.results41, go_sem]) rfl ⟨by rw [HR.out]; rfl, Below.refl _ _⟩
    · have c1 : (248 : Int) ≤ (d : Int) := by omega
      obtain ⟨k, hk⟩ : ∃ k, d = k + 247 := ⟨d - 247, by omega⟩
      have hk1 : 1 ≤ k := by omega
      have hk8 : k ≤ 8 := by omega
      have ks : IntKind.i64.wrap ((d : Int) - 246) = ((k + 1 : Nat) : Int) := by rw [IntKind.wrap_i64]; omega
      have ks2 : ((d : Int) - 246) = ((k + 1 : Nat) : Int) := by omega
      obtain ⟨t, ht⟩ : ∃ t, t = s.extract 1 s.size := ⟨_, rfl⟩
      have HT := Lib.hid ht
      have hts : t.size + 1 = s.size := by rw [ht, ByteArray.size_extract]; omega
      have HTL := Lib.hid (show s.data.toList = c :: t.data.toList from by rw [HT.out, HEX.out]; exact HL.out)
      have HRR := Lib.hid (show readRow s.data.toList = if t.size < k then none else if row (val (t.data.toList.take k)) = c :: t.data.toList.take k then some (val (t.data.toList.take k), k + 1) else none from by
        rw [HTL.out, readRow_cons, ← HD.out, if_neg h1, show d - 247 = k by omega, ← Go.Lib.size_eq])
      have HTS := Lib.hid hts
      have HVL := Lib.hid (show val (t.data.toList.take k) < 18446744073709551616 from by
        refine Nat.lt_of_lt_of_le (val_lt _) ?_
        rw [← p8]
        exact Nat.pow_le_pow_right (by omega) (by rw [List.length_take]; omega))
      obtain ⟨to, hto⟩ : ∃ to, to = k + 1 := ⟨_, rfl⟩
      rw [← hto] at ks ks2
      have ht1 : (to : Int) ≤ 9 := by omega
      have ht2 : (2 : Int) ≤ (to : Int) := by omega
      have HTO := Lib.hid hto
      have HK8 := Lib.hid hk8
      have HGT := Lib.hid (show ∀ j (h : j < k) (hs : j < t.size) (h2 : j + 1 < s.size), s[j + 1] = t[j] from fun j h hs h2 => by
        have h3 := HTL.out
        have e1 : s[j + 1] = s.data.toList[j + 1]'(by rw [← Go.Lib.size_eq]; omega) := rfl
        have e2 : t[j] = t.data.toList[j]'(by rw [← Go.Lib.size_eq]; omega) := rfl
        rw [e1, e2]
        simp only [h3, List.getElem_cons_succ])
      clear hts ht h1
      by_cases hsz : t.size < k
      · rw [if_pos hsz] at HRR
        have q1 : (s.size : Int) < (to : Int) := by have := HTS.out; omega
        clear hsz hk hk1 hk8 hto
        go_enter Tryd.func41, Tryd.ntmps41
        go_wp2_with fail
        exact bodyPost_ret (v := .tuple #[.int .u64 0, .int .i64 0, .bool false]) (by simp [results, Tryd.results41, go_sem]) rfl ⟨by rw [HRR.out]; rfl, Below.refl _ _⟩
      · rw [if_neg hsz] at HRR
        have q1 : ¬ (s.size : Int) < (to : Int) := by have := HTS.out; omega
        have HSZ := Lib.hid hsz
        have HK1 := Lib.hid hk1
        clear hsz hk hk8 hto hk1
        go_enter Tryd.func41, Tryd.ntmps41
        go_wp2_with fail
        go_loopw [6, 7] (fun vn vi W => ∃ j : Nat, j ≤ k ∧ vi = .int .i64 ((j + 1 : Nat) : Int) ∧ vn = .int .u64 (val (t.data.toList.take j) : Int) ∧ W = w) (fun _ vi _ => to - (intOf vi).toNat)
        case atStart => exact ⟨0, Nat.zero_le _, rfl, rfl, rfl⟩
        case round =>
          obtain ⟨j, hj, rfl, rfl, rfl⟩ := hrel
          by_cases hlt : j < k
          · have HLT := Lib.hid hlt
            have hjs : j < t.size := by have := HSZ.out; omega
            have hjs2 : j + 1 < s.size := by have := HTS.out; omega
            obtain ⟨i, hi⟩ : ∃ i, i = j + 1 := ⟨_, rfl⟩
            have HI := Lib.hid hi
            have hsi := HGT.out j hlt hjs hjs2
            obtain ⟨x, hx⟩ : ∃ x, x = t[j]'hjs := ⟨_, rfl⟩
            rw [← hx] at hsi
            have HTK := Lib.hid (show t.data.toList.take (j + 1) = t.data.toList.take j ++ [x] from by rw [hx]; exact take_snoc t j hjs)
            have hv := val_step (t.data.toList.take j) x (by rw [List.length_take]; have := HK8.out; omega)
            rw [← HTK.out] at hv
            obtain ⟨y, hy⟩ : ∃ y, y = val (t.data.toList.take j) := ⟨_, rfl⟩
            rw [← hy] at hv ⊢
            have HV := Lib.hid hv.2
            have hv1 := hv.1
            have hx8 : x.toNat < 256 := x.toNat_lt
            subst hi
            have hsz : (s[j + 1]'hjs2).toNat = x.toNat := by rw [hsi]
            have q2 : ((j + 1 : Nat) : Int) < (to : Int) := by have := HTO.out; omega
            have q3 : ((j + 1 : Nat) : Int) < (s.size : Int) := by omega
            have q4 : IntKind.i64.wrap (((j + 1 : Nat) : Int) + 1) = ((j + 1 + 1 : Nat) : Int) := by rw [IntKind.wrap_i64]; omega
            have q5 : 256 * (y : Int) + (x.toNat : Int) = ((y * 256 + x.toNat : Nat) : Int) := by omega
            clear hy hv hx hsi hlt hj
            go_wp2_with fail
            go_roundw
            case rel => exact ⟨j + 1, HLT.out, by go_num, by rw [HV.out]; go_num, by first | rfl | trivial⟩
            case measure => have := HTO.out; have := HLT.out; simp [intOf]; omega
          · have hjk : j = k := by omega
            subst hjk
            obtain ⟨x, hx⟩ : ∃ x, x = val (t.data.toList.take j) := ⟨_, rfl⟩
            rw [← hx] at HRR HVL ⊢
            obtain ⟨n, hn⟩ : ∃ n : UInt64, n.toNat = x := ⟨UInt64.ofNat x, by rw [UInt64.toNat_ofNat', Nat.mod_eq_of_lt HVL.out]⟩
            subst hn
            have HTO2 := Lib.hid (show ((j + 1 : Nat) : Int) = (to : Int) from by have := HTO.out; omega)
            rw [HTO2.out]
            have q2 : ¬ (to : Int) < (to : Int) := by omega
            have q5 : (0 : Int) ≤ (to : Int) := by omega
            have HB13 := Lib.hid (fun W => row_any n W)
            obtain ⟨A, hA⟩ : ∃ A, A = ofBs (row n.toNat) := ⟨_, rfl⟩
            rw [← hA] at HB13
            have HEX2 := Lib.hid (show (s.extract 0 to).data.toList = c :: t.data.toList.take j from by
              rw [show (s.extract 0 to).data.toList = s.data.toList.take to from by simp, HTL.out, HTO.out]; rfl)
            have HALL := Lib.hid (show A.data.toList = row n.toNat from by rw [hA]; rfl)
            clear hx hA hlt hj
            by_cases hr : row n.toNat = c :: t.data.toList.take j
            · rw [if_pos hr] at HRR
              have hab : A = s.extract 0 to := list_eq (by rw [HALL.out, HEX2.out, hr])
              clear hr
              subst hab
              go_wp2_with fail
              refine wp_region_later wr.heap.size (by kernel_rfl) (by kernel_rfl) ?_
              repeat (go_big_quiet_step ((go_at_call 36; exact Later.calls (Nat.le_refl _) (HB13.out _))))
              refine wpQuiet_nil ?_
              rintro wq ⟨zz, rfl⟩
              have HZ := Lib.hid zz.prop
              generalize zz.val = wq at *
              go_wp2_with fail
              exact bodyPost_ret (v := .tuple #[.int .u64 (n.toNat : Int), .int .i64 (to : Int), .bool true]) (by simp [results, Tryd.results41, go_sem]) rfl ⟨by rw [HRR.out, ← HTO.out]; rfl, HZ.out⟩
            · rw [if_neg hr] at HRR
              have hab : (A.toList == (s.extract 0 to).toList) = false := by
                rw [ByteArray.toList_eq, ByteArray.toList_eq, beq_eq_false_iff_ne, HALL.out, HEX2.out]; exact hr
              clear hr
              go_wp2_with fail
              refine wp_region_later wr.heap.size (by kernel_rfl) (by kernel_rfl) ?_
              repeat (go_big_quiet_step ((go_at_call 36; exact Later.calls (Nat.le_refl _) (HB13.out _))))
              refine wpQuiet_nil ?_
              rintro wq ⟨zz, rfl⟩
              have HZ := Lib.hid zz.prop
              generalize zz.val = wq at *
              go_wp2_with fail
              exact bodyPost_ret (v := .tuple #[.int .u64 0, .int .i64 0, .bool false]) (by simp [results, Tryd.results41, go_sem]) rfl ⟨by rw [HRR.out]; rfl, HZ.out⟩
end Go.Proofs.Tryd.Nu
