/- okey's Parts: what is read of a key. -/
import Derived.Test.YtfijbfnhjnbjeaaDoorOk5
set_option linter.unusedVariables false
set_option linter.unusedSimpArgs false
set_option maxRecDepth 100000
namespace Go.Proofs.Tryd.Ok
open Go.RowKit Go.Cph Go.Cph.Ok Go.Proofs.Tryd.Nu
set_option maxHeartbeats 12800000 in
theorem parts_any (s : ByteArray) (w : World) (hs : s.size ≤ 1000000000) : Calls Tryd.prog 12 #[.string s] w (PartsPost (Cph.Ok.parts s.data.toList) w) := by
  have HS := Lib.hid hs
  obtain ⟨L, hL⟩ : ∃ L, L = Cph.Ok.parts s.data.toList := ⟨_, rfl⟩
  have HLL := Lib.hid hL
  rw [← hL]
  clear hs hL
  go_enter Tryd.func12, Tryd.ntmps12
  go_wp2_with fail
  go_loopw [0, 4] (fun vs vo W => ∃ (c : ByteArray) (out : List Pt), vs = .string c ∧ L = (Cph.Ok.parts c.data.toList).map (out ++ ·) ∧ W.ownsRow w.heap.size TP 3 vo out.length (out.flatMap encC) ∧ c.size + out.length ≤ s.size ∧ Below w.heap.size w W) (fun vs _ _ => lenS vs)
  case atStart => exact ⟨s, [], rfl, by rw [HLL.out]; cases Cph.Ok.parts s.data.toList <;> rfl, World.ownsRow_nil _ _ _ _, by simp, Below.refl _ _⟩
  case round =>
    obtain ⟨c, out, rfl, hl, ho, hlen, hb⟩ := hrel
    have HL := Lib.hid hl
    have HB := Lib.hid hb
    have HZ := Lib.hid hb.size
    have HLEN := Lib.hid hlen
    obtain ⟨n, hn⟩ : ∃ n, n = out.length := ⟨_, rfl⟩
    have HN := Lib.hid hn
    rw [← hn] at ho
    obtain ⟨oo, oc, hov⟩ := owns_slice1 ho
    subst hov
    have HO := Lib.hid ho
    have HNB := Lib.hid (show n ≤ 1000000000 from by have := HS.out; omega)
    clear hl ho hlen hb hn
    by_cases h0 : c.size = 0
    · have hse : c = ⟨#[]⟩ := by
        cases c with
        | mk d =>
          have : d = #[] := Array.eq_empty_of_size_eq_zero h0
          rw [this]
      subst hse
      have HQ := Lib.hid (show L = some out from by rw [HL.out]; show (Cph.Ok.parts []).map _ = _; rw [parts_nil]; simp)
      clear h0
      go_wp2_with fail
      exact bodyPost_ret (v := .tuple #[.slice oo n oc, .bool true]) (by simp [results, Tryd.results12, go_sem]) rfl (by rw [HQ.out]; exact ⟨⟨_, rfl, by rw [← HN.out]; exact HO.out⟩, HB.out⟩)
    · have hl := bytes_cons c (by omega)
      obtain ⟨d, hd⟩ : ∃ d, d = c[0]'(by omega) := ⟨_, rfl⟩
      rw [← hd] at hl
      obtain ⟨t, ht⟩ : ∃ t, t = ofBs (c.data.toList.drop 1) := ⟨_, rfl⟩
      have htl : t.data.toList = c.data.toList.drop 1 := by rw [ht]; rfl
      rw [← htl] at hl
      have HCL := Lib.hid hl
      have HTZ := Lib.hid (show t.size + 1 = c.size from by rw [Go.Lib.size_eq, Go.Lib.size_eq, hl]; rfl)
      have HTT := Lib.hid (show ofBs t.data.toList = t from ofBs_data t)
      have he : c.toList.isEmpty = false := by rw [ByteArray.toList_eq, hl]; rfl
      have HC1 := Lib.hid (fun W => cut_any c ⟨#[1]⟩ W)
      have HC2 := Lib.hid (fun W => cut_any c ⟨#[2]⟩ W)
      rw [HCL.out] at HC1 HC2
      have HP := Lib.hid (show Cph.Ok.parts c.data.toList = match readPart c.data.toList with
        | none => none
        | some (p, r) => (Cph.Ok.parts r).map (p :: ·) from by
          cases hr : readPart c.data.toList with
          | none => exact parts_none (by rw [hl]; simp) hr
          | some x => exact parts_some (by rw [hl]; simp) hr)
      have HRP := Lib.hid (show readPart c.data.toList = if d = 1 then (readRow t.data.toList).map fun x => (⟨false, ByteArray.empty, UInt64.ofNat x.1⟩, t.data.toList.drop x.2)
        else if d = 2 then (readText t.data.toList).map fun x => (⟨true, ofBs x.1, 0⟩, x.2) else none from by rw [hl, readPart_cons])
      clear hl htl ht hd h0
      by_cases h1 : d = 1
      · subst h1
        have hc1 := cut_hit (d := 1) (t := t.data.toList)
        have HC1 := Lib.hid (show ∀ W, Calls Tryd.prog 25 #[.string c, .string ⟨#[1]⟩] W fun e w' => e = .returned (.tuple #[.string t, .bool true]) ∧ w' = W from fun W => by
          have := HC1.out W
          rw [show (⟨#[1]⟩ : ByteArray).data.toList = [1] from rfl, hc1.1, hc1.2, HTT.out] at this
          exact this)
        have HRV := Lib.hid (fun W => readVar_any t W (by have := HTZ.out; have := HLEN.out; have := HS.out; omega))
        have HRP := Lib.hid (show readPart c.data.toList = (readRow t.data.toList).map fun x => (⟨false, ByteArray.empty, UInt64.ofNat x.1⟩, t.data.toList.drop x.2) from by rw [HRP.out, if_pos rfl])
        clear hc1 HC2
        cases hrr : readRow t.data.toList with
        | none =>
          rw [hrr] at HRV HRP
          have HQ := Lib.hid (show L = none from by rw [HL.out, HP.out, HRP.out]; rfl)
          clear hrr
          go_wp2_with fail
          refine (HC1.out _).mono ?_
          rintro e w3 ⟨rfl, rfl⟩
          go_wp2_with fail
          refine (HRV.out _).mono ?_
          rintro e w4 ⟨rfl, hb⟩
          have HB4 := Lib.hid (below_step HB.out hb HZ.out)
          clear hb
          unfold encRV
          go_wp2_with fail
          exact bodyPost_ret (v := .tuple #[.slice none 0 0, .bool false]) (by simp [results, Tryd.results12, go_sem]) rfl (by rw [HQ.out]; exact ⟨rfl, HB4.out⟩)
        | some x =>
          obtain ⟨num, k⟩ := x
          rw [hrr] at HRV HRP
          obtain ⟨hk1, hk2, hk3, hk4⟩ := row_read hrr
          rw [← Go.Lib.size_eq] at hk2
          obtain ⟨u, hu⟩ : ∃ u : UInt64, u.toNat = num := ⟨UInt64.ofNat num, by rw [UInt64.toNat_ofNat', Nat.mod_eq_of_lt hk4]⟩
          subst hu
          have HEX := Lib.hid (show (t.extract k t.size).data.toList = t.data.toList.drop k from by
            simp
            exact List.take_of_length_le (by rw [List.length_drop, ← Go.Lib.size_eq]; exact Nat.le_refl _))
          have HEZ := Lib.hid (show (t.extract k t.size).size + k = t.size from by rw [ByteArray.size_extract]; omega)
          have HQ := Lib.hid (show L = (Cph.Ok.parts (t.extract k t.size).data.toList).map ((out ++ [⟨false, ⟨#[]⟩, u⟩]) ++ ·) from by
            rw [HL.out, HP.out, HRP.out, HEX.out]
            show ((Cph.Ok.parts (t.data.toList.drop k)).map (_ :: ·)).map _ = _
            rw [Option.map_map, UInt64.ofNat_toNat]
            congr 1
            funext y
            simp; rfl)
          have HK1 := Lib.hid hk1
          have q1 : (0 : Int) ≤ (k : Int) := by omega
          have q2 : (k : Int) ≤ (t.size : Int) := by omega
          clear hrr hk1 hk2 hk3 hk4
          go_wp2_with fail
          refine (HC1.out _).mono ?_
          rintro e w3 ⟨rfl, rfl⟩
          go_wp2_with fail
          refine (HRV.out _).mono ?_
          rintro e w4 ⟨rfl, hb⟩
          have HB4 := Lib.hid (below_step HB.out hb HZ.out)
          have HO4 := Lib.hid (row_keptB HO.out hb)
          clear hb
          unfold encRV
          clear HRP HP HC1 HRV
          have HB4d := Lib.hid (show Below w.heap.size w w4.drew from HB4.out.drew)
          have HO4d := Lib.hid (show w4.drew.ownsRow w.heap.size TP 3 (.slice oo n oc) n (out.flatMap encC) from HO4.out.drew)
          go_upto_region 8 with (fail)
          go_region_held3 (fun W => True) (trivial)
            (first
              | (go_at_call 14; ((with_reducible refine (num_any u _).mono ?_); rintro e u1 ⟨rfl, hb⟩; have HB5 := Lib.hid (below_step HB4d.out hb HB4d.out.size); have HO5 := Lib.hid (row_keptB HO4d.out hb); clear hb))
              | ((refine step_push (p := ⟨false, ⟨#[]⟩, u⟩) (base := w.heap.size) (w0 := w) rfl (.tmp 29) (.tmp 32) rfl (by rfl) (by rfl) (heap_alloc_new u1 _) (HO5.out.alloc _) (HB5.out.alloc HB5.out.size _) (by rw [World.size_alloc]; exact Nat.le_succ_of_le HB5.out.size) (by have := HNB.out; omega) ?_); intro v6 w6 ho6 hb6 hz6; have HO6 := Lib.hid ho6; have HB6 := Lib.hid hb6; clear ho6 hb6 hz6))
          all_goals
            go_wp2_with fail
            go_roundw
            case rel => exact ⟨t.extract k t.size, out ++ [⟨false, ⟨#[]⟩, u⟩], rfl, HQ.out, by rw [List.length_append, List.flatMap_append, ← HN.out]; simpa using HO6.out, by have := HEZ.out; have := HTZ.out; have := HLEN.out; have := HK1.out; rw [List.length_append, List.length_singleton]; omega, HB6.out⟩
            case measure => have := HEZ.out; have := HTZ.out; simp only [lenS]; omega
      · have hc1 := cut_miss (c := 1) (t := t.data.toList) h1
        have HD1 := Lib.hid (show ∀ W, ∃ y, Calls Tryd.prog 25 #[.string c, .string ⟨#[1]⟩] W fun e w' => e = .returned (.tuple #[.string y, .bool false]) ∧ w' = W from fun W => ⟨_, by
          have := HC1.out W
          rw [show (⟨#[1]⟩ : ByteArray).data.toList = [1] from rfl, hc1] at this
          exact this⟩)
        by_cases h2 : d = 2
        · subst h2
          have hc2 := cut_hit (d := 2) (t := t.data.toList)
          have HD2 := Lib.hid (show ∀ W, Calls Tryd.prog 25 #[.string c, .string ⟨#[2]⟩] W fun e w' => e = .returned (.tuple #[.string t, .bool true]) ∧ w' = W from fun W => by
            have := HC2.out W
            rw [show (⟨#[2]⟩ : ByteArray).data.toList = [2] from rfl, hc2.1, hc2.2, HTT.out] at this
            exact this)
          have HRT := Lib.hid (fun W => readText_any t W (by have := HTZ.out; have := HLEN.out; have := HS.out; omega))
          have HRP := Lib.hid (show readPart c.data.toList = (readText t.data.toList).map fun x => (⟨true, ofBs x.1, 0⟩, x.2) from by rw [HRP.out, if_neg h1, if_pos rfl])
          clear hc1 hc2 h1
          cases hrr : readText t.data.toList with
          | none =>
            rw [hrr] at HRT HRP
            have HQ := Lib.hid (show L = none from by rw [HL.out, HP.out, HRP.out]; rfl)
            clear hrr
            go_wp2_with fail
            obtain ⟨y, hcy⟩ := HD1.out wr
            refine hcy.mono ?_
            clear hcy
            rintro e w3 ⟨rfl, rfl⟩
            go_wp2_with fail
            refine (HD2.out _).mono ?_
            rintro e w3 ⟨rfl, rfl⟩
            go_wp2_with fail
            refine (HRT.out _).mono ?_
            rintro e w4 ⟨rfl, hb⟩
            have HB4 := Lib.hid (below_step HB.out hb HZ.out)
            clear hb
            unfold encRT
            go_wp2_with fail
            exact bodyPost_ret (v := .tuple #[.slice none 0 0, .bool false]) (by simp [results, Tryd.results12, go_sem]) rfl (by rw [HQ.out]; exact ⟨rfl, HB4.out⟩)
          | some x =>
            obtain ⟨tx, r⟩ := x
            rw [hrr] at HRT HRP
            have hrd := text_read t.data.toList.length t.data.toList tx r (Nat.le_refl _) hrr
            have HRZ := Lib.hid (show (ofBs r).size + 2 ≤ t.size from by
              rw [ofBs_size, Go.Lib.size_eq, hrd, List.length_append, List.length_cons, List.length_cons]; omega)
            have HQ := Lib.hid (show L = (Cph.Ok.parts (ofBs r).data.toList).map ((out ++ [⟨true, ofBs tx, 0⟩]) ++ ·) from by
              rw [HL.out, HP.out, HRP.out]
              show ((Cph.Ok.parts r).map (_ :: ·)).map _ = _
              rw [Option.map_map]
              congr 1
              funext y
              simp)
            have HSA := Lib.hid (fun W => str_any (ofBs tx) W)
            clear hrr hrd
            go_wp2_with fail
            obtain ⟨y, hcy⟩ := HD1.out wr
            refine hcy.mono ?_
            clear hcy
            rintro e w3 ⟨rfl, rfl⟩
            go_wp2_with fail
            refine (HD2.out _).mono ?_
            rintro e w3 ⟨rfl, rfl⟩
            go_wp2_with fail
            refine (HRT.out _).mono ?_
            rintro e w4 ⟨rfl, hb⟩
            have HB4 := Lib.hid (below_step HB.out hb HZ.out)
            have HO4 := Lib.hid (row_keptB HO.out hb)
            clear hb
            unfold encRT
            go_wp2_with fail
            refine (HSA.out _).mono ?_
            rintro e w5 ⟨rfl, hb⟩
            have HB5 := Lib.hid (below_step HB4.out hb HB4.out.size)
            have HO5 := Lib.hid (row_keptB HO4.out hb)
            have HZ5 := Lib.hid HB5.out.size
            have HNB2 := Lib.hid (show n + 1 ≤ 1099511627776 from by have := HNB.out; omega)
            clear hb
            go_wp2_with (at_builtin; refine wpList_append1 rfl (.tmp 52) (.tmp 55) TPs rfl w.heap.size TP _ 3 32 Tryd.underlying26 infoP rfl (by decide) _ n (out.flatMap encC) (encC ⟨true, ofBs tx, 0⟩) rfl HO5.out _ 1 rfl rfl rfl (encC_one1 _) HNB2.out (by decide) HZ5.out w.heap.size w HB5.out (Nat.le_refl _) ?_; intro v6 w6 ho6 hg6 hb6 hs6; have HO6 := Lib.hid ho6; have HB6 := Lib.hid hb6; clear ho6 hg6 hb6 hs6)
            go_roundw
            case rel => exact ⟨ofBs r, out ++ [⟨true, ofBs tx, 0⟩], rfl, HQ.out, by rw [List.length_append, List.flatMap_append, ← HN.out]; simpa using HO6.out, by have := HRZ.out; have := HTZ.out; have := HLEN.out; rw [List.length_append, List.length_singleton]; omega, HB6.out⟩
            case measure => have := HRZ.out; have := HTZ.out; simp only [lenS]; omega
        · have hc2 := cut_miss (c := 2) (t := t.data.toList) h2
          have HD2 := Lib.hid (show ∀ W, ∃ y, Calls Tryd.prog 25 #[.string c, .string ⟨#[2]⟩] W fun e w' => e = .returned (.tuple #[.string y, .bool false]) ∧ w' = W from fun W => ⟨_, by
            have := HC2.out W
            rw [show (⟨#[2]⟩ : ByteArray).data.toList = [2] from rfl, hc2] at this
            exact this⟩)
          have HQ := Lib.hid (show L = none from by rw [HL.out, HP.out, HRP.out, if_neg h1, if_neg h2]; rfl)
          clear hc1 hc2 h1 h2
          go_wp2_with fail
          obtain ⟨y, hcy⟩ := HD1.out wr
          refine hcy.mono ?_
          clear hcy
          rintro e w3 ⟨rfl, rfl⟩
          go_wp2_with fail
          obtain ⟨y2, hcy⟩ := HD2.out _
          refine hcy.mono ?_
          clear hcy
          rintro e w3 ⟨rfl, rfl⟩
          go_wp2_with fail
          exact bodyPost_ret (v := .tuple #[.slice none 0 0, .bool false]) (by simp [results, Tryd.results12, go_sem]) rfl (by rw [HQ.out]; exact ⟨rfl, HB.out⟩)
end Go.Proofs.Tryd.Ok
