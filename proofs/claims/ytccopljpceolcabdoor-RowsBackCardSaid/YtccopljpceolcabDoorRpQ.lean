/- rows: what is written is read; what is read, written again, is the same. -/
import Derived.Test.YtccopljpceolcabDoorRoT
set_option linter.unusedVariables false
set_option linter.unusedSimpArgs false
set_option maxRecDepth 100000
namespace Go.Proofs.Tryd.Rows
open Go.RowKit Go.Cph Go.Cph.Ok Go.Proofs.Tryd.Nu Go.Proofs.Tryd.Ok
theorem rtext_of {s t : ByteArray} {x : Bs} {most : Nat} (h : s.data.toList = textB t ++ x) (ht : t.size ≤ most) (hm : most ≤ 1000000) : rtextS s most = some (t, (textB t).length) := by
  have hr : readRow s.data.toList = some (t.size, (row t.size).length) := by
    rw [h]; unfold textB; rw [List.append_assoc]
    exact read_row (by omega) _
  have hl : (textB t).length = (row t.size).length + t.size := by unfold textB; rw [List.length_append]; rfl
  have hs : s.size = (textB t).length + x.length := by rw [Go.Lib.size_eq, h, List.length_append]
  unfold rtextS
  rw [hr]
  show (if t.size ≤ most ∧ (row t.size).length + t.size ≤ s.size then some (s.extract (row t.size).length ((row t.size).length + t.size), (row t.size).length + t.size) else none) = _
  rw [if_pos ⟨ht, by omega⟩, hl]
  congr 2
  apply list_eq2
  rw [ext_list2, h]
  unfold textB
  rw [List.append_assoc, List.drop_left, show t.size = t.data.toList.length from rfl, List.take_left]
theorem num_of {s : ByteArray} {u : UInt64} (h : s.data.toList = row u.toNat) : readNumS s = some u := by
  have hr : readRow s.data.toList = some (u.toNat, (row u.toNat).length) := by
    have := read_row u.toNat_lt []
    rw [List.append_nil, ← h] at this
    rw [this, h]
  unfold readNumS
  rw [hr]
  show (if (row u.toNat).length = s.size then some (UInt64.ofNat u.toNat) else none) = _
  rw [if_pos (by rw [Go.Lib.size_eq, h]), UInt64.ofNat_toNat]
theorem vars_of : ∀ (l : List UInt64) (s r : ByteArray), s.data.toList = rows l ++ r.data.toList → readVarsS l.length s = some (l, r)
  | [], s, r, h => by
    have : s = r := list_eq2 h
    rw [this]; rfl
  | u :: l, s, r, h => by
    have h1 : s.data.toList = row u.toNat ++ (rows l ++ r.data.toList) := by rw [h]; show (row u.toNat ++ rows l) ++ _ = _; rw [List.append_assoc]
    have hr : readRow s.data.toList = some (u.toNat, (row u.toNat).length) := by rw [h1]; exact read_row u.toNat_lt _
    show readVarsS (l.length + 1) s = _
    unfold readVarsS
    rw [hr]
    show (readVarsS l.length (s.extract (row u.toNat).length s.size)).map (fun x => (UInt64.ofNat u.toNat :: x.1, x.2)) = _
    have h2 : (s.extract (row u.toNat).length s.size).data.toList = rows l ++ r.data.toList := by rw [ext_list, h1, List.drop_left]
    rw [vars_of l _ r h2, UInt64.ofNat_toNat]; rfl
theorem text_none (most : Nat) : rtextS ⟨#[]⟩ most = none := rfl
theorem vars_none (j : Nat) : readVarsS (j + 1) ⟨#[]⟩ = none := rfl
theorem lease_nil : readLeaseS ⟨#[]⟩ = none := by unfold readLeaseS; rw [text_none]; rfl
theorem event_nil : readEventS ⟨#[]⟩ = none := by unfold readEventS numsS; rw [vars_none]; rfl
theorem client_nil : readClientS ⟨#[]⟩ = none := by unfold readClientS numsS; rw [vars_none]; rfl
theorem lease_read {t : ByteArray} {u : UInt64} (h : ownerB t = true) : readLeaseS (leaseV t u) = some (t, u) := by
  unfold ownerB at h
  simp only [Bool.and_eq_true, decide_eq_true_eq] at h
  have hl : (leaseV t u).data.toList = textB t ++ row u.toNat := rfl
  unfold readLeaseS
  rw [rtext_of hl h.2 (by decide)]
  show (if t.size = 0 then none else (readNumS ((leaseV t u).extract (textB t).length (leaseV t u).size)).map fun u => (t, u)) = _
  rw [if_neg (by omega), num_of (u := u) (by rw [ext_list, hl, List.drop_left])]; rfl
theorem nums_of {l : List UInt64} {t : ByteArray} {s : ByteArray} {most : Nat} (h : s.data.toList = rows l ++ textB t) (ht : t.size ≤ most) (hm : most ≤ 1000000) : numsS l.length most s = some (l, t) := by
  unfold numsS
  rw [vars_of l s (ofBs (textB t)) (by rw [h, ofBs_list])]
  show ((rtextS (ofBs (textB t)) most).bind fun y => if y.2 = (ofBs (textB t)).size then some (l, y.1) else none) = _
  rw [rtext_of (x := []) (by rw [ofBs_list, List.append_nil]) ht hm]
  show (if (textB t).length = (ofBs (textB t)).size then some (l, t) else none) = _
  rw [if_pos (by rw [ofBs_size])]
theorem how_to {how : Int} (h1 : 1 ≤ how) (h2 : how ≤ 4) : ((howU how).toNat : Int) = how := by
  unfold howU; rw [UInt64.toNat_ofNat']; omega
theorem event_read {how : Int} {t : ByteArray} {a u : UInt64} (h : howOk how t = true) : readEventS (eventV how t a u) = some (howU how, t, a, u) := by
  unfold howOk ownerB at h
  simp only [Bool.and_eq_true, decide_eq_true_eq] at h
  obtain ⟨⟨h1, h2⟩, h3, h4⟩ := h
  have h5 := how_to h3 h4
  unfold readEventS
  rw [show numsS 3 32 (eventV how t a u) = some ([howU how, a, u], t) from nums_of (l := [howU how, a, u]) rfl h2 (by decide)]
  show (if t.size = 0 then none else if 1 ≤ (howU how).toNat ∧ (howU how).toNat ≤ 4 then some (howU how, t, a, u) else none) = _
  rw [if_neg (by omega), if_pos ⟨by omega, by omega⟩]
theorem client_read {n : UInt64} {t : ByteArray} (h : t.size ≤ 480) : readClientS (clientV n t) = some (n, t) := by
  unfold readClientS
  rw [show numsS 1 480 (clientV n t) = some ([n], t) from nums_of (l := [n]) (by rw [rows_one]; rfl) h (by decide)]
  rfl
theorem lease_back {s t : ByteArray} {u : UInt64} (h : readLeaseS s = some (t, u)) : leaseV t u = s ∧ ownerB t = true := by
  unfold readLeaseS at h
  cases ht : rtextS s 32 with
  | none => rw [ht] at h; cases h
  | some y =>
    obtain ⟨t', z⟩ := y
    rw [ht] at h
    replace h : (if t'.size = 0 then none else (readNumS (s.extract z s.size)).map fun u => (t', u)) = some (t, u) := h
    split at h
    · cases h
    · rename_i h0
      cases hn : readNumS (s.extract z s.size) with
      | none => rw [hn] at h; cases h
      | some v =>
        rw [hn] at h
        injection h with h
        injection h with h1 h2
        subst h1 h2
        refine ⟨lease_again ht hn, ?_⟩
        unfold ownerB
        rw [decide_eq_true (show 0 < t'.size by omega), decide_eq_true (rtext_row ht).2.2.1]; rfl
theorem nums_back {many most : Nat} {s t : ByteArray} {l : List UInt64} (h : numsS many most s = some (l, t)) : ofBs (rows l ++ textB t) = s ∧ t.size ≤ most := by
  refine ⟨?_, (nums_len2 h).2⟩
  unfold numsS at h
  cases hv : readVarsS many s with
  | none => rw [hv] at h; cases h
  | some x =>
    rw [hv] at h
    replace h : ((rtextS x.2 most).bind fun y => if y.2 = x.2.size then some (x.1, y.1) else none) = some (l, t) := h
    cases hr : rtextS x.2 most with
    | none => rw [hr] at h; cases h
    | some y =>
      obtain ⟨t', z⟩ := y
      rw [hr] at h
      replace h : (if z = x.2.size then some (x.1, t') else none) = some (l, t) := h
      split at h
      · rename_i hz
        injection h with h
        injection h with h1 h2
        subst h1 h2
        exact (again_iff hv hr).2 hz
      · cases h
theorem event_back {s t : ByteArray} {h a u : UInt64} (hr : readEventS s = some (h, t, a, u)) : eventV (h.toNat : Int) t a u = s ∧ howOk (h.toNat : Int) t = true := by
  unfold readEventS at hr
  cases hn : numsS 3 32 s with
  | none => rw [hn] at hr; cases hr
  | some x =>
    obtain ⟨l, t'⟩ := x
    rw [hn] at hr
    obtain ⟨h', a', u', rfl⟩ := list3 (nums_len2 hn).1
    replace hr : (if t'.size = 0 then none else if 1 ≤ h'.toNat ∧ h'.toNat ≤ 4 then some (h', t', a', u') else none) = some (h, t, a, u) := hr
    split at hr
    · cases hr
    · split at hr
      · rename_i h0 h1
        injection hr with hr
        injection hr with e1 hr
        injection hr with e2 hr
        injection hr with e3 e4
        subst e1 e2 e3 e4
        obtain ⟨b1, b2⟩ := nums_back hn
        refine ⟨?_, ?_⟩
        · unfold eventV howU
          rw [Int.toNat_natCast, UInt64.ofNat_toNat]; exact b1
        · unfold howOk ownerB
          rw [decide_eq_true (show 0 < t'.size by omega), decide_eq_true b2, decide_eq_true (show (1 : Int) ≤ (h'.toNat : Int) by omega), decide_eq_true (show (h'.toNat : Int) ≤ 4 by omega)]; rfl
      · cases hr
theorem client_back2 {s t : ByteArray} {n : UInt64} (hr : readClientS s = some (n, t)) : clientV n t = s ∧ t.size ≤ 480 := by
  unfold readClientS at hr
  cases hn : numsS 1 480 s with
  | none => rw [hn] at hr; cases hr
  | some x =>
    obtain ⟨l, t'⟩ := x
    rw [hn] at hr
    obtain ⟨n', rfl⟩ := list1 (nums_len2 hn).1
    replace hr : some (n', t') = some (n, t) := hr
    injection hr with hr
    injection hr with e1 e2
    subst e1 e2
    obtain ⟨b1, b2⟩ := nums_back hn
    rw [rows_one] at b1
    exact ⟨b1, b2⟩
set_option maxHeartbeats 800000 in
theorem number_any (n : UInt64) (w : World) : Calls Tryd.prog 13 #[.int .u64 (n.toNat : Int)] w fun e w' => e = .returned (.string (ofBs (row n.toNat))) ∧ Below w.heap.size w w' := by
  have HV := Lib.hid (show Calls Tryd.prog 36 #[.slice (some ⟨w.heap.size, 0, none⟩) 1 1] (w.alloc (.cells #[.int .u64 (n.toNat : Int)] 22)) _ from var_any _ [n] _ (nums_one w n) (by simp))
  rw [rows_one] at HV
  have HB := Lib.hid (show Below w.heap.size w (w.alloc (.cells #[.int .u64 (n.toNat : Int)] 22)) from (Below.refl _ _).alloc (Nat.le_refl _) _)
  obtain ⟨K, hK⟩ : ∃ K, K = ofBs (row n.toNat) := ⟨_, rfl⟩
  have HV2 := Lib.hid (show Calls Tryd.prog 36 #[.slice (some ⟨w.heap.size, 0, none⟩) 1 1] (w.alloc (.cells #[.int .u64 (n.toNat : Int)] 22)) (fun e w' => e = .returned (.string K) ∧ Below (w.alloc (.cells #[.int .u64 (n.toNat : Int)] 22)).heap.size (w.alloc (.cells #[.int .u64 (n.toNat : Int)] 22)) w') from by rw [hK]; exact HV.out)
  rw [← hK]
  clear HV hK
  go_enter Tryd.func13, Tryd.ntmps13
  go_wp2_with fail
  refine HV2.out.mono ?_
  rintro e w1 ⟨rfl, hb⟩
  have HB1 := Lib.hid (below_step HB.out hb HB.out.size)
  clear hb
  go_wp2_with fail
  go_ret
  exact ⟨rfl, HB1.out⟩
theorem row_size (n : UInt64) : (ofBs (row n.toNat)).size ≤ 9 := by rw [ofBs_size]; exact row_le n.toNat_lt
theorem leaseV_size {t : ByteArray} {u : UInt64} (h : t.size ≤ 2000) : (leaseV t u).size ≤ 1000000 := by
  unfold leaseV; rw [ofBs_size, List.length_append]
  have h1 := text_size t (by omega)
  rw [ofBs_size] at h1
  have := row_le u.toNat_lt
  omega
theorem clientV_size {t : ByteArray} {u : UInt64} (h : t.size ≤ 2000) : (clientV u t).size ≤ 1000000 := by
  unfold clientV; rw [ofBs_size, List.length_append]
  have h1 := text_size t (by omega)
  rw [ofBs_size] at h1
  have := row_le u.toNat_lt
  omega
theorem eventV_size {how : Int} {t : ByteArray} {a u : UInt64} (h : t.size ≤ 2000) : (eventV how t a u).size ≤ 1000000 := by
  unfold eventV; rw [ofBs_size, List.length_append]
  have h1 := text_size t (by omega)
  have h2 := rowsS_size [howU how, a, u]
  rw [ofBs_size] at h1
  have e : (rowsS [howU how, a, u]).size = (rows [howU how, a, u]).length := rfl
  simp only [List.length_cons, List.length_nil] at h2
  omega
theorem wr_lease (t : ByteArray) (u : UInt64) (h : t.size ≤ 2000) : ∃ (V : ByteArray) (E : Int) (T : ByteArray) (U : UInt64) (ok : Bool), (∀ W, Calls Tryd.prog 6 #[.string t, .int .u64 (u.toNat : Int)] W (fun e w' => e = .returned (.tuple #[.string V, .int .i64 E]) ∧ Below W.heap.size W w')) ∧ (∀ W, Calls Tryd.prog 7 #[.string V] W (fun e w' => e = .returned (.tuple #[.string T, .int .u64 (U.toNat : Int), .bool ok]) ∧ Below W.heap.size W w')) ∧ ((ok = true ∧ E = 0 ∧ T = t ∧ U = u) ∨ (ok = false ∧ E = 1)) := by
  have h1 := fun W => leaseValue t u W (by omega)
  cases ho : ownerB t with
  | true =>
    rw [ho] at h1
    refine ⟨_, _, t, u, true, h1, fun W => ?_, .inl ⟨rfl, rfl, rfl, rfl⟩⟩
    have h2 := readLease (leaseV t u) W (leaseV_size h)
    rw [lease_read ho] at h2
    exact h2
  | false =>
    rw [ho] at h1
    exact ⟨⟨#[]⟩, 1, ⟨#[]⟩, 0, false, h1, fun W => by have h2 := readLease ⟨#[]⟩ W (by decide); rw [lease_nil] at h2; exact h2, .inr ⟨rfl, rfl⟩⟩
theorem wr_event (how : Int) (t : ByteArray) (a u : UInt64) (h : t.size ≤ 2000) : ∃ (V : ByteArray) (E : Int) (I : Int) (T : ByteArray) (X U : UInt64) (ok : Bool), (∀ W, Calls Tryd.prog 8 #[.int .i64 how, .string t, .int .u64 (a.toNat : Int), .int .u64 (u.toNat : Int)] W (fun e w' => e = .returned (.tuple #[.string V, .int .i64 E]) ∧ Below W.heap.size W w')) ∧ (∀ W, Calls Tryd.prog 9 #[.string V] W (fun e w' => e = .returned (.tuple #[.int .i64 I, .string T, .int .u64 (X.toNat : Int), .int .u64 (U.toNat : Int), .bool ok]) ∧ Below W.heap.size W w')) ∧ ((ok = true ∧ E = 0 ∧ I = how ∧ T = t ∧ X = a ∧ U = u) ∨ (ok = false ∧ E = 1)) := by
  have h1 := fun W => eventValue how t a u W (by omega)
  by_cases ho : howOk how t = true
  · have hb : 1 ≤ how ∧ how ≤ 4 := by
      unfold howOk at ho
      simp only [Bool.and_eq_true, decide_eq_true_eq] at ho
      exact ho.2
    simp only [if_pos ho] at h1
    refine ⟨_, _, how, t, a, u, true, h1, fun W => ?_, .inl ⟨rfl, rfl, rfl, rfl, rfl, rfl⟩⟩
    have h2 := readEvent (eventV how t a u) W (eventV_size h)
    rw [event_read ho] at h2
    have h3 := how_to hb.1 hb.2
    replace h2 : Calls Tryd.prog 9 #[.string (eventV how t a u)] W (fun e w' => e = .returned (.tuple #[.int .i64 ((howU how).toNat : Int), .string t, .int .u64 (a.toNat : Int), .int .u64 (u.toNat : Int), .bool true]) ∧ Below W.heap.size W w') := h2
    rw [h3] at h2
    exact h2
  · simp only [if_neg ho] at h1
    exact ⟨⟨#[]⟩, 1, 0, ⟨#[]⟩, 0, 0, false, h1, fun W => by have h2 := readEvent ⟨#[]⟩ W (by decide); rw [event_nil] at h2; exact h2, .inr ⟨rfl, rfl⟩⟩
theorem wr_client (n : UInt64) (t : ByteArray) (h : t.size ≤ 2000) : ∃ (V : ByteArray) (E : Int) (U : UInt64) (T : ByteArray) (ok : Bool), (∀ W, Calls Tryd.prog 10 #[.int .u64 (n.toNat : Int), .string t] W (fun e w' => e = .returned (.tuple #[.string V, .int .i64 E]) ∧ Below W.heap.size W w')) ∧ (∀ W, Calls Tryd.prog 11 #[.string V] W (fun e w' => e = .returned (.tuple #[.int .u64 (U.toNat : Int), .string T, .bool ok]) ∧ Below W.heap.size W w')) ∧ ((ok = true ∧ E = 0 ∧ T = t ∧ U = n) ∨ (ok = false ∧ E = 3)) := by
  have h1 := fun W => clientValue n t W (by omega)
  by_cases ho : t.size ≤ 480
  · simp only [if_pos ho] at h1
    refine ⟨_, _, n, t, true, h1, fun W => ?_, .inl ⟨rfl, rfl, rfl, rfl⟩⟩
    have h2 := readClient (clientV n t) W (clientV_size h)
    rw [client_read ho] at h2
    exact h2
  · simp only [if_neg ho] at h1
    exact ⟨⟨#[]⟩, 3, 0, ⟨#[]⟩, false, h1, fun W => by have h2 := readClient ⟨#[]⟩ W (by decide); rw [client_nil] at h2; exact h2, .inr ⟨rfl, rfl⟩⟩
theorem rd_num (s : ByteArray) (h : s.size ≤ 2000) : ∃ (U : UInt64) (ok : Bool), (∀ W, Calls Tryd.prog 12 #[.string s] W (fun e w' => e = .returned (.tuple #[.int .u64 (U.toNat : Int), .bool ok]) ∧ Below W.heap.size W w')) ∧ (ok = true → ofBs (row U.toNat) = s) := by
  have h1 := fun W => readNumber s W (by omega)
  cases hn : readNumS s with
  | none => rw [hn] at h1; exact ⟨0, false, h1, fun e => by cases e⟩
  | some u => rw [hn] at h1; exact ⟨u, true, h1, fun _ => list_eq2 (by rw [ofBs_list, num_row hn])⟩
theorem rd_lease (s : ByteArray) (h : s.size ≤ 2000) : ∃ (T : ByteArray) (U : UInt64) (ok : Bool) (V : ByteArray) (E : Int), (∀ W, Calls Tryd.prog 7 #[.string s] W (fun e w' => e = .returned (.tuple #[.string T, .int .u64 (U.toNat : Int), .bool ok]) ∧ Below W.heap.size W w')) ∧ (∀ W, Calls Tryd.prog 6 #[.string T, .int .u64 (U.toNat : Int)] W (fun e w' => e = .returned (.tuple #[.string V, .int .i64 E]) ∧ Below W.heap.size W w')) ∧ (ok = true → V = s) := by
  have h1 := fun W => readLease s W (by omega)
  cases hn : readLeaseS s with
  | none => rw [hn] at h1; exact ⟨⟨#[]⟩, 0, false, ⟨#[]⟩, 1, h1, fun W => leaseValue ⟨#[]⟩ 0 W (by decide), fun e => by cases e⟩
  | some x =>
    obtain ⟨t, u⟩ := x
    rw [hn] at h1
    obtain ⟨b1, b2⟩ := lease_back hn
    have hb := b2
    unfold ownerB at hb
    simp only [Bool.and_eq_true, decide_eq_true_eq] at hb
    have h2 := fun W => leaseValue t u W (by omega)
    rw [b2] at h2
    exact ⟨t, u, true, _, _, h1, h2, fun _ => b1⟩
theorem rd_event (s : ByteArray) (h : s.size ≤ 2000) : ∃ (I : Int) (T : ByteArray) (X U : UInt64) (ok : Bool) (V : ByteArray) (E : Int), (∀ W, Calls Tryd.prog 9 #[.string s] W (fun e w' => e = .returned (.tuple #[.int .i64 I, .string T, .int .u64 (X.toNat : Int), .int .u64 (U.toNat : Int), .bool ok]) ∧ Below W.heap.size W w')) ∧ (∀ W, Calls Tryd.prog 8 #[.int .i64 I, .string T, .int .u64 (X.toNat : Int), .int .u64 (U.toNat : Int)] W (fun e w' => e = .returned (.tuple #[.string V, .int .i64 E]) ∧ Below W.heap.size W w')) ∧ (ok = true → V = s) := by
  have h1 := fun W => readEvent s W (by omega)
  cases hn : readEventS s with
  | none => rw [hn] at h1; exact ⟨0, ⟨#[]⟩, 0, 0, false, ⟨#[]⟩, 1, h1, fun W => eventValue 0 ⟨#[]⟩ 0 0 W (by decide), fun e => by cases e⟩
  | some x =>
    obtain ⟨h', t, a, u⟩ := x
    rw [hn] at h1
    obtain ⟨b1, b2⟩ := event_back hn
    have hb := b2
    unfold howOk ownerB at hb
    simp only [Bool.and_eq_true, decide_eq_true_eq] at hb
    have h2 := fun W => eventValue (h'.toNat : Int) t a u W (by omega)
    simp only [if_pos b2] at h2
    exact ⟨_, t, a, u, true, _, _, h1, h2, fun _ => b1⟩
theorem rd_client (s : ByteArray) (h : s.size ≤ 2000) : ∃ (U : UInt64) (T : ByteArray) (ok : Bool) (V : ByteArray) (E : Int), (∀ W, Calls Tryd.prog 11 #[.string s] W (fun e w' => e = .returned (.tuple #[.int .u64 (U.toNat : Int), .string T, .bool ok]) ∧ Below W.heap.size W w')) ∧ (∀ W, Calls Tryd.prog 10 #[.int .u64 (U.toNat : Int), .string T] W (fun e w' => e = .returned (.tuple #[.string V, .int .i64 E]) ∧ Below W.heap.size W w')) ∧ (ok = true → V = s) := by
  have h1 := fun W => readClient s W (by omega)
  cases hn : readClientS s with
  | none => rw [hn] at h1; exact ⟨0, ⟨#[]⟩, false, _, _, h1, fun W => clientValue 0 ⟨#[]⟩ W (by decide), fun e => by cases e⟩
  | some x =>
    obtain ⟨n, t⟩ := x
    rw [hn] at h1
    obtain ⟨b1, b2⟩ := client_back2 hn
    have h2 := fun W => clientValue n t W (by omega)
    simp only [if_pos b2] at h2
    exact ⟨n, t, true, _, _, h1, h2, fun _ => b1⟩
end Go.Proofs.Tryd.Rows
