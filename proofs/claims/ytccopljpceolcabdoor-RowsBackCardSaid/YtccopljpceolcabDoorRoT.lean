/- rows: events' and clients' values read; what is read was written. -/
import Derived.Test.YtccopljpceolcabDoorRoS
set_option linter.unusedVariables false
set_option linter.unusedSimpArgs false
set_option maxRecDepth 100000
namespace Go.Proofs.Tryd.Rows
open Go.RowKit Go.Cph Go.Cph.Ok Go.Proofs.Tryd.Nu Go.Proofs.Tryd.Ok
theorem ext_list (s : ByteArray) (k : Nat) : (s.extract k s.size).data.toList = s.data.toList.drop k := by
  simp
  exact List.take_of_length_le (by rw [List.length_drop, ← Go.Lib.size_eq]; exact Nat.le_refl _)
theorem ext_list2 (s : ByteArray) (k n : Nat) : (s.extract k (k + n)).data.toList = (s.data.toList.drop k).take n := by
  simp
theorem rtext_row {s t : ByteArray} {most z : Nat} (h : rtextS s most = some (t, z)) : s.data.toList.take z = textB t ∧ z ≤ s.size ∧ t.size ≤ most ∧ z = (textB t).length := by
  have hle := rtext_le h
  unfold rtextS at h
  cases hr : readRow s.data.toList with
  | none => rw [hr] at h; cases h
  | some x =>
    obtain ⟨n, k⟩ := x
    rw [hr] at h
    replace h : (if n ≤ most ∧ k + n ≤ s.size then some (s.extract k (k + n), k + n) else none) = some (t, z) := h
    obtain ⟨hk1, hk2, hk3, hk4⟩ := row_read hr
    split at h
    · rename_i hc
      injection h with h
      injection h with h1 h2
      have e1 : s.data.toList.take z = textB t := by
        subst h1 h2
        unfold textB
        rw [ext_list2, List.take_add, hk3, show (s.extract k (k + n)).size = n from by rw [ByteArray.size_extract]; omega]
      refine ⟨e1, hle.1, hle.2, ?_⟩
      rw [← e1, List.length_take]
      have := hle.1
      rw [Go.Lib.size_eq] at this
      omega
    · cases h
theorem num_row {s : ByteArray} {u : UInt64} (h : readNumS s = some u) : s.data.toList = row u.toNat := by
  unfold readNumS at h
  cases hr : readRow s.data.toList with
  | none => rw [hr] at h; cases h
  | some x =>
    obtain ⟨n, k⟩ := x
    rw [hr] at h
    replace h : (if k = s.size then some (UInt64.ofNat n) else none) = some u := h
    obtain ⟨hk1, hk2, hk3, hk4⟩ := row_read hr
    split at h
    · rename_i hc
      injection h with h
      rw [← h, UInt64.toNat_ofNat', Nat.mod_eq_of_lt hk4, ← hk3]
      exact (List.take_of_length_le (by rw [← Go.Lib.size_eq, hc]; exact Nat.le_refl _)).symm
    · cases h
theorem lease_again {s t : ByteArray} {u : UInt64} {most z : Nat} (h1 : rtextS s most = some (t, z)) (h2 : readNumS (s.extract z s.size) = some u) : leaseV t u = s := by
  obtain ⟨e1, e2, e3, e4⟩ := rtext_row h1
  have e5 := num_row h2
  rw [ext_list] at e5
  unfold leaseV
  apply list_eq2
  rw [ofBs_list, ← e1, ← e5, List.take_append_drop]
theorem vars_rows : ∀ (j : Nat) (s : ByteArray) (x : List UInt64 × ByteArray), readVarsS j s = some x → s.data.toList = rows x.1 ++ x.2.data.toList
  | 0, s, x, h => by injection h with h; subst h; rfl
  | j + 1, s, x, h => by
    unfold readVarsS at h
    cases hr : readRow s.data.toList with
    | none => rw [hr] at h; cases h
    | some y =>
      obtain ⟨n, k⟩ := y
      rw [hr] at h
      replace h : (readVarsS j (s.extract k s.size)).map (fun x => (UInt64.ofNat n :: x.1, x.2)) = some x := h
      obtain ⟨hk1, hk2, hk3, hk4⟩ := row_read hr
      cases hv : readVarsS j (s.extract k s.size) with
      | none => rw [hv] at h; cases h
      | some z =>
        rw [hv] at h
        injection h with h
        have h1 := vars_rows j _ z hv
        rw [ext_list] at h1
        subst h
        show s.data.toList = (row (UInt64.ofNat n).toNat ++ rows z.1) ++ z.2.data.toList
        rw [UInt64.toNat_ofNat', Nat.mod_eq_of_lt hk4, ← hk3, List.append_assoc, ← h1, List.take_append_drop]
/-- Written again: just if nothing is behind it. -/
theorem again_iff {s r t : ByteArray} {l : List UInt64} {j most z : Nat} (h1 : readVarsS j s = some (l, r)) (h2 : rtextS r most = some (t, z)) : ofBs (rows l ++ textB t) = s ↔ z = r.size := by
  have e0 := vars_rows _ _ _ h1
  obtain ⟨e1, e2, e3, e4⟩ := rtext_row h2
  have e0' : s.data.toList = rows l ++ r.data.toList := e0
  constructor
  · intro h
    have h3 : rows l ++ textB t = s.data.toList := by rw [← h, ofBs_list]
    rw [e0'] at h3
    have h4 := List.append_cancel_left h3
    rw [e4, h4, Go.Lib.size_eq]
  · intro h
    apply list_eq2
    rw [ofBs_list, e0', ← e1, h, List.take_of_length_le (by rw [Go.Lib.size_eq]; exact Nat.le_refl _)]
theorem bel_drewN2 (w : World) (n : Nat) : Below w.heap.size w (w.drewN n) := ⟨rfl, rfl, rfl, Nat.le_refl _, fun _ _ => rfl⟩
def encEO : Option (UInt64 × ByteArray × UInt64 × UInt64) → Value
  | none => .tuple #[.int .i64 0, .string ⟨#[]⟩, .int .u64 0, .int .u64 0, .bool false]
  | some (h, t, a, u) => .tuple #[.int .i64 (h.toNat : Int), .string t, .int .u64 (a.toNat : Int), .int .u64 (u.toNat : Int), .bool true]
def encKO : Option (UInt64 × ByteArray) → Value
  | none => .tuple #[.int .u64 0, .string ⟨#[]⟩, .bool false]
  | some (n, t) => .tuple #[.int .u64 (n.toNat : Int), .string t, .bool true]
theorem nums_len2 {many most : Nat} {s t : ByteArray} {l : List UInt64} (h : numsS many most s = some (l, t)) : l.length = many ∧ t.size ≤ most := by
  unfold numsS at h
  cases hv : readVarsS many s with
  | none => rw [hv] at h; cases h
  | some x =>
    rw [hv] at h
    replace h : ((rtextS x.2 most).bind fun y => if y.2 = x.2.size then some (x.1, y.1) else none) = some (l, t) := h
    cases hr : rtextS x.2 most with
    | none => rw [hr] at h; cases h
    | some y =>
      obtain ⟨t', z⟩ := y
      rw [hr] at h
      replace h : (if z = x.2.size then some (x.1, t') else none) = some (l, t) := h
      split at h
      · injection h with h
        injection h with h3 h4
        subst h3 h4
        exact ⟨(vars_len _ _ _ hv).1, (rtext_le hr).2⟩
      · cases h
theorem list1 {l : List UInt64} (h : l.length = 1) : ∃ a, l = [a] := by
  match l, h with
  | [a], _ => exact ⟨a, rfl⟩
theorem list3 {l : List UInt64} (h : l.length = 3) : ∃ a b c, l = [a, b, c] := by
  match l, h with
  | [a, b, c], _ => exact ⟨a, b, c, rfl⟩
set_option maxHeartbeats 1600000 in
theorem readEvent (s : ByteArray) (w : World) (hs : s.size ≤ 1000000) : Calls Tryd.prog 9 #[.string s] w fun e w' => e = .returned (encEO (readEventS s)) ∧ Below w.heap.size w w' := by
  have HN := Lib.hid (fun (W : World) => show Calls Tryd.prog 38 #[.string s, .int .i64 3, .int .i64 32] W _ from numbers_any s 3 32 W hs (by decide) (by decide))
  cases hr : numsS 3 32 s with
  | none =>
    rw [hr] at HN
    have HQ := Lib.hid (show readEventS s = none from by unfold readEventS; rw [hr]; rfl)
    clear hr
    go_enter Tryd.func9, Tryd.ntmps9
    go_wp2_with fail
    refine (HN.out _).mono ?_
    rintro e w1 ⟨rfl, hb⟩
    have HB := Lib.hid hb
    clear hb
    go_wp2_with fail
    exact bodyPost_ret (v := .tuple #[.int .i64 0, .string ⟨#[]⟩, .int .u64 0, .int .u64 0, .bool false]) (by simp [results, Tryd.results9, go_sem]) rfl ⟨(by rw [HQ.out]; rfl), HB.out⟩
  | some x =>
    obtain ⟨l, t⟩ := x
    rw [hr] at HN
    obtain ⟨h, a, u, rfl⟩ := list3 (nums_len2 hr).1
    have HQ := Lib.hid (show readEventS s = if t.size = 0 then none else if 1 ≤ h.toNat ∧ h.toNat ≤ 4 then some (h, t, a, u) else none from by unfold readEventS; rw [hr]; rfl)
    obtain ⟨hn, hhn⟩ : ∃ hn, hn = h.toNat := ⟨_, rfl⟩
    have HHN := Lib.hid hhn
    rw [← hhn] at HQ
    clear hr hhn
    by_cases h0 : t.size = 0
    · have HQ2 := Lib.hid (show readEventS s = none from by rw [HQ.out, if_pos h0])
      obtain rfl := size0 h0
      clear h0 HQ
      go_enter Tryd.func9, Tryd.ntmps9
      go_wp2_with fail
      refine (HN.out _).mono ?_
      rintro e w1 ⟨⟨v, rfl, ho⟩, hb⟩
      have HB := Lib.hid hb
      obtain ⟨g, cap, rfl, _, hg, _, hcs, _⟩ := owns_shape ho (by simp)
      have c0 : w1.cell? ⟨g, 0, none⟩ = some (.int .u64 (hn : Int)) := by rw [hcs 0 (by simp)]; show some (Value.int .u64 (h.toNat : Int)) = _; rw [← HHN.out]; first | rfl | done
      have c1 : w1.cell? ⟨g, 1, none⟩ = some (.int .u64 (a.toNat : Int)) := by rw [hcs 1 (by simp)]; rfl
      have c2 : w1.cell? ⟨g, 2, none⟩ = some (.int .u64 (u.toNat : Int)) := by rw [hcs 2 (by simp)]; rfl
      rw [show ([h, a, u] : List UInt64).length = 3 from rfl]
      clear hb ho hcs hg
      go_wp2_with fail
      exact bodyPost_ret (v := .tuple #[.int .i64 0, .string ⟨#[]⟩, .int .u64 0, .int .u64 0, .bool false]) (by simp [results, Tryd.results9, go_sem]) rfl ⟨(by rw [HQ2.out]; rfl), HB.out⟩
    · have he := str_some t h0
      by_cases h1 : hn < 1
      · obtain rfl : hn = 0 := by omega
        have HQ2 := Lib.hid (show readEventS s = none from by rw [HQ.out, if_neg h0, if_neg (fun h => by omega)])
        clear h0 HQ h1
        go_enter Tryd.func9, Tryd.ntmps9
        go_wp2_with fail
        refine (HN.out _).mono ?_
        rintro e w1 ⟨⟨v, rfl, ho⟩, hb⟩
        have HB := Lib.hid hb
        obtain ⟨g, cap, rfl, _, hg, _, hcs, _⟩ := owns_shape ho (by simp)
        have c0 : w1.cell? ⟨g, 0, none⟩ = some (.int .u64 0) := by rw [hcs 0 (by simp)]; show some (Value.int .u64 (h.toNat : Int)) = _; rw [← HHN.out]; first | rfl | done
        have c1 : w1.cell? ⟨g, 1, none⟩ = some (.int .u64 (a.toNat : Int)) := by rw [hcs 1 (by simp)]; rfl
        have c2 : w1.cell? ⟨g, 2, none⟩ = some (.int .u64 (u.toNat : Int)) := by rw [hcs 2 (by simp)]; rfl
        rw [show ([h, a, u] : List UInt64).length = 3 from rfl]
        clear hb ho hcs hg
        go_wp2_with fail
        exact bodyPost_ret (v := .tuple #[.int .i64 0, .string ⟨#[]⟩, .int .u64 0, .int .u64 0, .bool false]) (by simp [results, Tryd.results9, go_sem]) rfl ⟨(by rw [HQ2.out]; rfl), HB.out⟩
      · have k1 : ¬ (hn : Int) < 1 := by omega
        have k2 : ¬ hn = 0 := by omega
        by_cases h4 : hn ≤ 4
        · have k3 : ¬ (4 : Int) < (hn : Int) := by omega
          have k4 : IntKind.i64.wrap (hn : Int) = (hn : Int) := by rw [IntKind.wrap_i64]; omega
          have k5 : decide (4 < hn) = false := decide_eq_false (by omega)
          have HQ2 := Lib.hid (show readEventS s = some (h, t, a, u) from by rw [HQ.out, if_neg h0, if_pos ⟨by omega, h4⟩])
          clear h0 HQ h1 h4
          go_enter Tryd.func9, Tryd.ntmps9
          go_wp2_with fail
          refine (HN.out _).mono ?_
          rintro e w1 ⟨⟨v, rfl, ho⟩, hb⟩
          have HB := Lib.hid hb
          obtain ⟨g, cap, rfl, _, hg, _, hcs, _⟩ := owns_shape ho (by simp)
          have c0 : w1.cell? ⟨g, 0, none⟩ = some (.int .u64 (hn : Int)) := by rw [hcs 0 (by simp)]; show some (Value.int .u64 (h.toNat : Int)) = _; rw [← HHN.out]; first | rfl | done
          have c1 : w1.cell? ⟨g, 1, none⟩ = some (.int .u64 (a.toNat : Int)) := by rw [hcs 1 (by simp)]; rfl
          have c2 : w1.cell? ⟨g, 2, none⟩ = some (.int .u64 (u.toNat : Int)) := by rw [hcs 2 (by simp)]; rfl
          rw [show ([h, a, u] : List UInt64).length = 3 from rfl]
          clear hb ho hcs hg
          go_wp2_with fail
          go_quiet (fail)
          go_wp2_with fail
          exact bodyPost_ret (v := .tuple #[.int .i64 (hn : Int), .string t, .int .u64 (a.toNat : Int), .int .u64 (u.toNat : Int), .bool true]) (by simp [results, Tryd.results9, go_sem]) rfl ⟨(by rw [HQ2.out, HHN.out]; rfl), by first | exact HB.out | exact HB.out.drew | exact below_step HB.out (bel_drewN2 _ _) HB.out.size⟩
        · have k3 : (4 : Int) < (hn : Int) := by omega
          have k5 : decide (4 < hn) = true := decide_eq_true (by omega)
          have HQ2 := Lib.hid (show readEventS s = none from by rw [HQ.out, if_neg h0, if_neg (fun h => by omega)])
          clear h0 HQ h1 h4
          go_enter Tryd.func9, Tryd.ntmps9
          go_wp2_with fail
          refine (HN.out _).mono ?_
          rintro e w1 ⟨⟨v, rfl, ho⟩, hb⟩
          have HB := Lib.hid hb
          obtain ⟨g, cap, rfl, _, hg, _, hcs, _⟩ := owns_shape ho (by simp)
          have c0 : w1.cell? ⟨g, 0, none⟩ = some (.int .u64 (hn : Int)) := by rw [hcs 0 (by simp)]; show some (Value.int .u64 (h.toNat : Int)) = _; rw [← HHN.out]; first | rfl | done
          have c1 : w1.cell? ⟨g, 1, none⟩ = some (.int .u64 (a.toNat : Int)) := by rw [hcs 1 (by simp)]; rfl
          have c2 : w1.cell? ⟨g, 2, none⟩ = some (.int .u64 (u.toNat : Int)) := by rw [hcs 2 (by simp)]; rfl
          rw [show ([h, a, u] : List UInt64).length = 3 from rfl]
          clear hb ho hcs hg
          go_wp2_with fail
          exact bodyPost_ret (v := .tuple #[.int .i64 0, .string ⟨#[]⟩, .int .u64 0, .int .u64 0, .bool false]) (by simp [results, Tryd.results9, go_sem]) rfl ⟨(by rw [HQ2.out]; rfl), HB.out⟩
set_option maxHeartbeats 1600000 in
theorem readClient (s : ByteArray) (w : World) (hs : s.size ≤ 1000000) : Calls Tryd.prog 11 #[.string s] w fun e w' => e = .returned (encKO (readClientS s)) ∧ Below w.heap.size w w' := by
  have HN := Lib.hid (fun (W : World) => show Calls Tryd.prog 38 #[.string s, .int .i64 1, .int .i64 480] W _ from numbers_any s 1 480 W hs (by decide) (by decide))
  cases hr : numsS 1 480 s with
  | none =>
    rw [hr] at HN
    have HQ := Lib.hid (show readClientS s = none from by unfold readClientS; rw [hr]; rfl)
    clear hr
    go_enter Tryd.func11, Tryd.ntmps11
    go_wp2_with fail
    refine (HN.out _).mono ?_
    rintro e w1 ⟨rfl, hb⟩
    have HB := Lib.hid hb
    clear hb
    go_wp2_with fail
    exact bodyPost_ret (v := .tuple #[.int .u64 0, .string ⟨#[]⟩, .bool false]) (by simp [results, Tryd.results11, go_sem]) rfl ⟨(by rw [HQ.out]; rfl), HB.out⟩
  | some x =>
    obtain ⟨l, t⟩ := x
    rw [hr] at HN
    obtain ⟨n, rfl⟩ := list1 (nums_len2 hr).1
    have HQ := Lib.hid (show readClientS s = some (n, t) from by unfold readClientS; rw [hr]; rfl)
    clear hr
    go_enter Tryd.func11, Tryd.ntmps11
    go_wp2_with fail
    refine (HN.out _).mono ?_
    rintro e w1 ⟨⟨v, rfl, ho⟩, hb⟩
    have HB := Lib.hid hb
    obtain ⟨g, cap, rfl, _, hg, _, hcs, _⟩ := owns_shape ho (by simp)
    have c0 : w1.cell? ⟨g, 0, none⟩ = some (.int .u64 (n.toNat : Int)) := by rw [hcs 0 (by simp)]; rfl
    rw [show ([n] : List UInt64).length = 1 from rfl]
    clear hb ho hcs hg
    go_wp2_with fail
    exact bodyPost_ret (v := .tuple #[.int .u64 (n.toNat : Int), .string t, .bool true]) (by simp [results, Tryd.results11, go_sem]) rfl ⟨(by rw [HQ.out]; rfl), HB.out⟩
end Go.Proofs.Tryd.Rows
