/- The document's rows: the values. -/
import Derived.Test.YtccopljpceolcaaDoorMD
set_option linter.unusedVariables false
set_option linter.unusedSimpArgs false
set_option maxRecDepth 100000
namespace Go.Proofs.Tryd.Rows
open Go.RowKit Go.Cph Go.Cph.Ok Go.Proofs.Tryd.Nu Go.Proofs.Tryd.Ok
open Go.Cph.Px (Ad Pf rightA bytesA rightP)
open Go.Proofs.Tryd.Pfx (encA bcell)
theorem rowner_any (s : ByteArray) (w : World) : Calls Tryd.prog 70 #[.string s] w fun e w' => e = .returned (.bool (ownerB s)) ∧ w' = w := by
  by_cases h0 : s.size = 0
  · obtain rfl := size0 h0
    go_enter Tryd.func70, Tryd.ntmps70
    go_wp2_with fail
    go_ret
    exact ⟨rfl, rfl⟩
  · have he := Go.Cph.str_some s h0
    have HE := Lib.hid (show ownerB s = decide (s.size < 33) from by unfold ownerB; rw [decide_eq_true (show 0 < s.size by omega), Bool.true_and]; exact decide_eq_decide.2 (by omega))
    by_cases h1 : s.size < 33
    · have h3 : 0 < s.size := by omega
      have h2 : (s.size : Int) < 33 := by omega
      have HF := Lib.hid (show ownerB s = true from by rw [HE.out]; exact decide_eq_true h1)
      clear HE h0
      go_enter Tryd.func70, Tryd.ntmps70
      go_wp2_with fail
      go_ret
      exact ⟨ret_bool (by rw [HF.out]), rfl⟩
    · have h2 : ¬ (s.size : Int) < 33 := by omega
      have HF := Lib.hid (show ownerB s = false from by rw [HE.out]; exact decide_eq_false h1)
      clear HE h0
      go_enter Tryd.func70, Tryd.ntmps70
      go_wp2_with fail
      go_ret
      exact ⟨ret_bool (by rw [HF.out]), rfl⟩
theorem nil_cat (s : ByteArray) : (⟨#[]⟩ : ByteArray) ++ s = s := list_eq2 (by rw [cat_list]; rfl)
set_option maxHeartbeats 800000 in
theorem rtext1 (s : ByteArray) (b : Nat) (w : World) (h : w.cell? ⟨b, 0, none⟩ = some (.string s)) (hs : s.size ≤ 1000000) :
    Calls Tryd.prog 71 #[.slice (some ⟨b, 0, none⟩) 1 1] w fun e w' => e = .returned (.string (ofBs (textB s))) ∧ Below w.heap.size w w' := by
  have H := Lib.hid h
  obtain ⟨u, hu⟩ : ∃ u, u = UInt64.ofNat s.size := ⟨_, rfl⟩
  have hun : u.toNat = s.size := by rw [hu, UInt64.toNat_ofNat']; omega
  have k1 : IntKind.u64.wrap (s.size : Int) = (u.toNat : Int) := by rw [IntKind.wrap_u64, hun]; omega
  have HX := Lib.hid (show (ofBs (row u.toNat) ++ s) = ofBs (textB s) from list_eq2 (by rw [cat_list, ofBs_list, ofBs_list, hun]; rfl))
  have zx : (ofBs (row u.toNat)).size ≤ 9 := by rw [ofBs_size]; exact row_le u.toNat_lt
  have HV := Lib.hid (fun W => row_any u W)
  obtain ⟨X, hX⟩ : ∃ X, X = ofBs (row u.toNat) := ⟨_, rfl⟩
  have e0 := nil_cat X
  rw [← hX] at HX zx HV
  have zx2 : (X.size : Int) ≤ 9 := by omega
  have zs2 : (s.size : Int) ≤ 1000000 := by omega
  clear h hu hX hun
  go_enter Tryd.func71, Tryd.ntmps71
  go_wp2_with fail
  go_loopw [3, 4] (fun v3 v4 W => ((v3 = .string ⟨#[]⟩ ∧ v4 = .int .i64 0) ∨ (v3 = .string (ofBs (textB s)) ∧ v4 = .int .i64 1)) ∧ Below w.heap.size w W) (fun _ v4 _ => 1 - (intOf v4).toNat)
  case atStart => exact ⟨.inl ⟨rfl, rfl⟩, Below.refl _ _⟩
  case round =>
    obtain ⟨hst, hb⟩ := hrel
    rcases hst with ⟨rfl, rfl⟩ | ⟨rfl, rfl⟩
    · have HB := Lib.hid hb
      have hc := cell_kept hb H.out
      have q : ∀ zz : Later wr.heap.size wr, zz.val.cell? ⟨b, 0, none⟩ = some (.string s) := fun zz => Later.cell hc (World.block_lt_of_cell? wr ⟨b, 0, none⟩ hc) zz
      clear hb hc
      go_wp2_with fail
      refine wp_region_later wr.heap.size (by kernel_rfl) (by kernel_rfl) ?_
      repeat (go_big_quiet_step (first | (go_at_call 72; exact Later.calls (Nat.le_refl _) (HV.out _))))
      refine wpQuiet_nil ?_
      rintro wq ⟨zz, rfl⟩
      have HBQ := Lib.hid (below_step HB.out zz.prop HB.out.size)
      clear q
      go_wp2_with fail
      go_roundw
      case rel => exact ⟨.inr ⟨by rw [HX.out], rfl⟩, HBQ.out⟩
      case measure => simp [intOf]
    · have HB := Lib.hid hb
      clear hb
      go_wp2_with fail
      go_ret
      exact ⟨rfl, HB.out⟩
theorem rows_take {l : List UInt64} {i : Nat} (h : i < l.length) : rows (l.take (i + 1)) = rows (l.take i) ++ row (l[i]'h).toNat := by
  unfold rows
  rw [List.take_succ_eq_append_getElem h, List.flatMap_append]
  simp only [List.flatMap_cons, List.flatMap_nil, List.append_nil]
set_option maxHeartbeats 800000 in
theorem rvar_any (v : Value) (l : List UInt64) (w : World) (h : NumsAt w v l) (hl : l.length ≤ 1000) :
    Calls Tryd.prog 73 #[v] w fun e w' => e = .returned (.string (rowsS l)) ∧ Below w.heap.size w w' := by
  obtain ⟨ao, cap, rfl⟩ := elems_slice h
  have H := Lib.hid h
  have HL := Lib.hid hl
  clear h hl
  go_enter Tryd.func73, Tryd.ntmps73
  go_wp2_with fail
  go_loopw [3, 4] (fun v3 v4 W => ∃ i : Nat, i ≤ l.length ∧ v3 = .string (rowsS (l.take i)) ∧ v4 = .int .i64 i ∧ Below w.heap.size w W) (fun _ v4 _ => l.length - (intOf v4).toNat)
  case atStart => exact ⟨0, Nat.zero_le _, rfl, rfl, Below.refl _ _⟩
  case round =>
    obtain ⟨i, hi, rfl, rfl, hb⟩ := hrel
    have HB := Lib.hid hb
    by_cases hlt : i < l.length
    · have HLT := Lib.hid hlt
      obtain ⟨b, off, cap', hve, hcs⟩ := nums_cells H.out (by omega)
      injection hve with hx1 hx2 hx3
      subst hx1
      clear hx2 hx3
      have hc := cell_kept hb (hcs i hlt)
      obtain ⟨n, hn⟩ : ∃ n, n = l[i]'hlt := ⟨_, rfl⟩
      rw [← hn] at hc
      have HTK := Lib.hid (show rowsS (l.take i) ++ ofBs (row n.toNat) = rowsS (l.take (i + 1)) from list_eq2 (by rw [cat_list, rowsS_list, rowsS_list, ofBs_list, rows_take hlt, hn]))
      have HV := Lib.hid (fun W => row_any n W)
      have zx : (ofBs (row n.toNat)).size ≤ 9 := by rw [ofBs_size]; exact row_le n.toNat_lt
      have zy := rowsS_size (l.take i)
      rw [List.length_take] at zy
      obtain ⟨X, hX⟩ : ∃ X, X = ofBs (row n.toNat) := ⟨_, rfl⟩
      obtain ⟨Y, hY⟩ : ∃ Y, Y = rowsS (l.take i) := ⟨_, rfl⟩
      rw [← hX] at HTK zx HV
      rw [← hY] at HTK zy ⊢
      have zx2 : (X.size : Int) ≤ 9 := by omega
      have zy2 : Y.size ≤ 9000 := by have := HL.out; omega
      have zy3 : (Y.size : Int) ≤ 9000 := by omega
      have k1 : (0 : Int) ≤ (i : Int) := by omega
      have k2 : (i : Int) < (l.length : Int) := by omega
      have k4 : IntKind.i64.wrap ((i : Int) + 1) = (i : Int) + 1 := by rw [IntKind.wrap_i64]; have := HL.out; omega
      clear hb hcs hn hi hlt hX hY zy
      go_wp2_with fail
      refine (HV.out _).mono ?_
      rintro e w1 ⟨rfl, hb⟩
      have HB1 := Lib.hid (below_step HB.out hb HB.out.size)
      clear hb
      go_wp2_with fail
      go_roundw
      case rel => exact ⟨i + 1, HLT.out, by rw [HTK.out], by go_num, HB1.out⟩
      case measure => have := HLT.out; simp [intOf]; omega
    · have HE := Lib.hid (show l.take i = l from List.take_of_length_le (by omega))
      have q2 : ¬ (i : Int) < (l.length : Int) := by omega
      clear hb hlt hi
      go_wp2_with fail
      go_ret
      exact ⟨ret_s (by rw [HE.out]), HB.out⟩
set_option maxHeartbeats 500000 in
theorem rlease (who : ByteArray) (u : UInt64) (w : World) (hw : who.size ≤ 1000000) : Calls Tryd.prog 25 #[.string who, .int .u64 (u.toNat : Int)] w
    fun e w' => e = .returned (if ownerB who then .tuple #[.string (leaseV who u), .int .i64 0] else .tuple #[.string ⟨#[]⟩, .int .i64 1]) ∧ Below w.heap.size w w' := by
  have HO := Lib.hid (fun W => rowner_any who W)
  have HT := Lib.hid (fun W => rtext1 who W.heap.size _ (str_one W who) hw)
  have zx := text_size who hw
  have zy : (ofBs (row u.toNat)).size ≤ 9 := by rw [ofBs_size]; exact row_le u.toNat_lt
  have HX := Lib.hid (ofBs_app (textB who) (row u.toNat))
  have HL := Lib.hid (show leaseV who u = ofBs (textB who ++ row u.toNat) from rfl)
  obtain ⟨X, hX⟩ : ∃ X, X = ofBs (textB who) := ⟨_, rfl⟩
  obtain ⟨Y, hY⟩ : ∃ Y, Y = ofBs (row u.toNat) := ⟨_, rfl⟩
  have HV2 := Lib.hid (fun (W : World) => show Calls Tryd.prog 72 #[.int .u64 (u.toNat : Int)] W fun e w' => e = .returned (.string Y) ∧ Below W.heap.size W w' from by rw [hY]; exact row_any u W)
  rw [← hX] at HT zx HX
  rw [← hY] at zy HX
  rw [← HL.out] at HX
  clear hX hY HL
  have HB1 := Lib.hid (show Below w.heap.size w (w.alloc (.cells #[.string who] 9)) from (Below.refl _ _).alloc (Nat.le_refl _) _)
  cases ho : ownerB who with
  | false =>
    rw [ho] at HO
    clear ho
    go_enter Tryd.func25, Tryd.ntmps25
    go_wp2_with fail
    refine (HO.out _).mono ?_
    rintro e w1 ⟨rfl, rfl⟩
    go_wp2_with fail
    exact bodyPost_ret (v := .tuple #[.string ⟨#[]⟩, .int .i64 1]) (by simp [results, Tryd.results25, go_sem]) rfl ⟨rfl, Below.refl _ _⟩
  | true =>
    rw [ho] at HO
    clear ho
    go_enter Tryd.func25, Tryd.ntmps25
    go_wp2_with fail
    refine (HO.out _).mono ?_
    rintro e w1 ⟨rfl, rfl⟩
    go_wp2_with fail
    refine (HT.out _).mono ?_
    rintro e w2 ⟨rfl, hb⟩
    have HB2 := Lib.hid (below_step HB1.out hb HB1.out.size)
    clear hb
    go_wp2_with fail
    refine (HV2.out _).mono ?_
    rintro e w3 ⟨rfl, hb⟩
    have HB4 := Lib.hid (below_step HB2.out hb HB2.out.size)
    clear hb
    go_wp2_with fail
    exact bodyPost_ret (v := .tuple #[.string (X ++ Y), .int .i64 0]) (by simp [results, Tryd.results25, go_sem]) rfl ⟨by rw [HX.out], HB4.out⟩
set_option maxHeartbeats 500000 in
theorem rlast (n : UInt64) (an : ByteArray) (w : World) (hw : an.size ≤ 1000000) : Calls Tryd.prog 29 #[.int .u64 (n.toNat : Int), .string an] w
    fun e w' => e = .returned (if an.size ≤ 480 then .tuple #[.string (clientV n an), .int .i64 0] else .tuple #[.string ⟨#[]⟩, .int .i64 3]) ∧ Below w.heap.size w w' := by
  have HT := Lib.hid (fun (W : World) => rtext1 an W.heap.size _ (str_one W an) hw)
  have zx := text_size an hw
  have zy : (ofBs (row n.toNat)).size ≤ 9 := by rw [ofBs_size]; exact row_le n.toNat_lt
  have HX := Lib.hid (ofBs_app (row n.toNat) (textB an))
  have HL := Lib.hid (show clientV n an = ofBs (row n.toNat ++ textB an) from rfl)
  obtain ⟨X, hX⟩ : ∃ X, X = ofBs (textB an) := ⟨_, rfl⟩
  obtain ⟨Y, hY⟩ : ∃ Y, Y = ofBs (row n.toNat) := ⟨_, rfl⟩
  have HV2 := Lib.hid (fun (W : World) => show Calls Tryd.prog 72 #[.int .u64 (n.toNat : Int)] W fun e w' => e = .returned (.string Y) ∧ Below W.heap.size W w' from by rw [hY]; exact row_any n W)
  rw [← hX] at HT zx HX
  rw [← hY] at zy HX
  rw [← HL.out] at HX
  clear hX hY HL
  by_cases h : an.size ≤ 480
  · have k : ¬ (480 : Int) < (an.size : Int) := by omega
    rw [if_pos h]
    clear h
    go_enter Tryd.func29, Tryd.ntmps29
    go_wp2_with fail
    refine (HV2.out _).mono ?_
    rintro e w2 ⟨rfl, hb⟩
    have HB2 := Lib.hid hb
    have HB3 := Lib.hid (show Below w.heap.size w (w2.alloc (.cells #[.string an] 9)) from HB2.out.alloc HB2.out.size _)
    clear hb
    go_wp2_with fail
    refine (HT.out _).mono ?_
    rintro e w3 ⟨rfl, hb⟩
    have HB4 := Lib.hid (below_step HB3.out hb HB3.out.size)
    clear hb
    go_wp2_with fail
    exact bodyPost_ret (v := .tuple #[.string (Y ++ X), .int .i64 0]) (by simp [results, Tryd.results29, go_sem]) rfl ⟨by rw [HX.out], HB4.out⟩
  · have k : (480 : Int) < (an.size : Int) := by omega
    rw [if_neg h]
    clear h
    go_enter Tryd.func29, Tryd.ntmps29
    go_wp2_with fail
    exact bodyPost_ret (v := .tuple #[.string ⟨#[]⟩, .int .i64 3]) (by simp [results, Tryd.results29, go_sem]) rfl ⟨rfl, Below.refl _ _⟩
set_option maxHeartbeats 500000 in
theorem rhappened (how : Int) (who : ByteArray) (at_ u : UInt64) (w : World) (hw : who.size ≤ 1000000) : Calls Tryd.prog 27 #[.int .i64 how, .string who, .int .u64 (at_.toNat : Int), .int .u64 (u.toNat : Int)] w
    fun e w' => e = .returned (if howOk how who then .tuple #[.string (eventV how who at_ u), .int .i64 0] else .tuple #[.string ⟨#[]⟩, .int .i64 1]) ∧ Below w.heap.size w w' := by
  have HO := Lib.hid (fun (W : World) => rowner_any who W)
  have HK := Lib.hid (show howOk how who = (ownerB who && (decide (1 ≤ how) && decide (how ≤ 4))) from rfl)
  by_cases hok : howOk how who = true
  · have h3 := hok
    unfold howOk at h3
    simp only [Bool.and_eq_true, decide_eq_true_eq] at h3
    obtain ⟨ho, h1, h4⟩ := h3
    rw [if_pos hok]
    obtain ⟨c, hc⟩ : ∃ c, c = howU how := ⟨_, rfl⟩
    have kc : IntKind.u64.wrap how = (c.toNat : Int) := by rw [hc]; unfold howU; rw [IntKind.wrap_u64, UInt64.toNat_ofNat']; omega
    have k1 : ¬ how < 1 := by omega
    have k2 : ¬ 4 < how := by omega
    have HT := Lib.hid (fun (W : World) => rtext1 who W.heap.size _ (str_one W who) hw)
    have HX := Lib.hid (show rowsS [c, at_, u] ++ ofBs (textB who) = eventV how who at_ u from by rw [hc]; exact ofBs_app (rows [howU how, at_, u]) (textB who))
    have zx := text_size who hw
    have zy : (rowsS [c, at_, u]).size ≤ 27 := rowsS_size [c, at_, u]
    have HV := Lib.hid (fun (W : World) => show Calls Tryd.prog 73 #[.slice (some ⟨W.heap.size, 0, none⟩) 3 3] (W.alloc (.cells #[.int .u64 (c.toNat : Int), .int .u64 (at_.toNat : Int), .int .u64 (u.toNat : Int)] 22)) (fun e w' => e = .returned (.string (rowsS [c, at_, u])) ∧ _) from rvar_any _ [c, at_, u] _ (nums_three W c at_ u) (by simp))
    obtain ⟨X, hX⟩ : ∃ X, X = ofBs (textB who) := ⟨_, rfl⟩
    obtain ⟨Y, hY⟩ : ∃ Y, Y = rowsS [c, at_, u] := ⟨_, rfl⟩
    rw [← hX] at HT zx HX
    rw [← hY] at zy HX HV
    rw [ho] at HO
    clear hX hY HK hc ho hok h1 h4
    have HB1 := Lib.hid (show Below w.heap.size w (w.alloc (.cells #[.int .u64 (c.toNat : Int), .int .u64 (at_.toNat : Int), .int .u64 (u.toNat : Int)] 22)) from (Below.refl _ _).alloc (Nat.le_refl _) _)
    go_enter Tryd.func27, Tryd.ntmps27
    go_wp2_with fail
    refine (HO.out _).mono ?_
    rintro e w1 ⟨rfl, rfl⟩
    go_wp2_with fail
    refine (HV.out _).mono ?_
    rintro e w2 ⟨rfl, hb⟩
    have HB2 := Lib.hid (below_step HB1.out hb HB1.out.size)
    have HB3 := Lib.hid (show Below w1.heap.size w1 (w2.alloc (.cells #[.string who] 9)) from HB2.out.alloc HB2.out.size _)
    clear hb
    go_wp2_with fail
    refine (HT.out _).mono ?_
    rintro e w3 ⟨rfl, hb⟩
    have HB4 := Lib.hid (below_step HB3.out hb HB3.out.size)
    clear hb
    go_wp2_with fail
    exact bodyPost_ret (v := .tuple #[.string (Y ++ X), .int .i64 0]) (by simp [results, Tryd.results27, go_sem]) rfl ⟨by rw [HX.out], HB4.out⟩
  · rw [if_neg hok]
    cases ho : ownerB who with
    | false =>
      rw [ho] at HO
      clear ho hok HK
      go_enter Tryd.func27, Tryd.ntmps27
      go_wp2_with fail
      refine (HO.out _).mono ?_
      rintro e w1 ⟨rfl, rfl⟩
      go_wp2_with fail
      exact bodyPost_ret (v := .tuple #[.string ⟨#[]⟩, .int .i64 1]) (by simp [results, Tryd.results27, go_sem]) rfl ⟨rfl, Below.refl _ _⟩
    | true =>
      rw [ho] at HO HK
      have h5 : how < 1 ∨ (¬ how < 1 ∧ 4 < how) := by
        have := HK.out
        by_cases h1 : how < 1
        · exact .inl h1
        · refine .inr ⟨h1, ?_⟩
          refine Classical.byContradiction fun h4 => hok ?_
          rw [this, decide_eq_true (show 1 ≤ how by omega), decide_eq_true (show how ≤ 4 by omega)]; rfl
      clear ho hok HK
      rcases h5 with h1 | ⟨h1, h4⟩
      all_goals
        go_enter Tryd.func27, Tryd.ntmps27
        go_wp2_with fail
        refine (HO.out _).mono ?_
        rintro e w1 ⟨rfl, rfl⟩
        go_wp2_with fail
        exact bodyPost_ret (v := .tuple #[.string ⟨#[]⟩, .int .i64 1]) (by simp [results, Tryd.results27, go_sem]) rfl ⟨rfl, Below.refl _ _⟩
end Go.Proofs.Tryd.Rows
