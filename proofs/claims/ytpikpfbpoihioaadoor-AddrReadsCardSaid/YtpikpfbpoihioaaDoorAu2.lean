/- ParseUint of base 16, of 16 bits; what the program's 'small' reads. -/
import Derived.Test.YtpikpfbpoihioaaDoorAu1
import Derived.Shelf.LaysM
import Derived.Lib.Strings
import Derived.Lib.Walk
import Derived.Lib.ConvBytes
import Derived.Lib.ParseIntBMem
import Derived.Laws.Strings3
import Derived.Laws.Closers25
import Derived.Laws.Closers25b
import Derived.BigCall
import Derived.BigGuard
set_option linter.unusedVariables false
set_option linter.unusedSimpArgs false
set_option maxRecDepth 100000
namespace Go.Proofs.Tryd.Tx
open Go.RowKit Go.Cph Go.Cph.Tx
open Go.Cph.Ok (ofBs)
theorem or32 (c : UInt8) : Go.bits .or .u8 (c.toNat : Int) 32 = (low c : Int) := by
  have h := c.toNat_lt
  suffices k : ∀ n : Nat, n < 256 → Go.bits .or .u8 (n : Int) 32 = ((UInt8.ofNat n ||| 32).toNat : Int) by
    have := k c.toNat h
    rwa [UInt8.ofNat_toNat] at this
  decide +kernel
theorem low_facts : ∀ c : UInt8, (97 ≤ low c → low c ≤ 102 → 65 ≤ c.toNat ∧ c.toNat ≠ 95) ∧ low c < 256 ∧ 32 ≤ low c := by
  intro c
  have h := c.toNat_lt
  suffices k : ∀ n : Nat, n < 256 → (97 ≤ low (UInt8.ofNat n) → low (UInt8.ofNat n) ≤ 102 → 65 ≤ n ∧ n ≠ 95) ∧ low (UInt8.ofNat n) < 256 ∧ 32 ≤ low (UInt8.ofNat n) by
    have := k c.toNat h
    rwa [UInt8.ofNat_toNat] at this
  decide +kernel
/-- What ParseUint hands back: the number, or an error that is not nil. -/
def encU : Lib.NumEnd Nat → Value
  | .ok n => .tuple #[.int .u64 (n : Int), .nilIface]
  | .«syntax» => .tuple #[.int .u64 0, .iface 123 (.int .i64 2)]
  | .range => .tuple #[.int .u64 65535, .iface 123 (.int .i64 1)]
set_option maxHeartbeats 32000000 in
theorem parse16 (t : ByteArray) (hne : t.size ≠ 0) (hmax : t.size ≤ 1000000000) (w : World) :
    Calls Tryd.prog 81 #[.string t, .int .i64 16, .int .i64 16] w fun e w' => e = .returned (encU (hexM 0 t.data.toList)) ∧ w' = Lib.bytesWorld w 5 t := by
  have hemp : t.toList.isEmpty = false := by
    rw [← decide_eq_emptyBytes]
    exact decide_eq_false (fun h => hne (by rw [h]; rfl))
  have hcv := Lib.run_convert_string_bytes (P := Tryd.prog) w 9 45 5 t (u := .string) Tryd.underlying9 Tryd.underlying45 Tryd.underlying5
  have hB : ∀ j, j < t.size → (Lib.bytesWorld w 5 t).cell? ⟨w.heap.size, j, none⟩ = some (.int .u8 (t.data.toList.getD j 0).toNat) := fun j hj => Lib.bytesWorld_cell w 5 t j hj
  obtain ⟨W1, hW1⟩ : ∃ W1, W1 = Lib.bytesWorld w 5 t := ⟨_, rfl⟩
  rw [← hW1] at hcv hB ⊢
  clear hW1
  obtain ⟨bs, hL⟩ : ∃ bs, bs = t.data.toList := ⟨_, rfl⟩
  have hLn : bs.length = t.size := by rw [hL, Lib.size_eq]
  rw [← hL] at hB ⊢
  clear hL
  have hmv : IntKind.u64.wrap (IntKind.u64.wrap 65536 - 1) = 65535 := by
    rw [IntKind.wrap_u64, IntKind.wrap_u64]
    decide
  go_enter Tryd.func81, Tryd.ntmps81
  go_wp2
  go_loop [12, 13, 101] (fun vu vn vi => ∃ (k acc : Nat) (a : Int), vu = .bool false ∧ vn = .int .u64 a ∧ vi = .int .i64 k ∧ k ≤ t.size ∧ Hid (a = (acc : Int) ∧ acc ≤ 65535 ∧ hexM 0 bs = hexM acc (bs.drop k)))
    (fun _ _ vi => t.size - (intOf vi).toNat)
  case atStart => exact ⟨0, 0, 0, rfl, rfl, rfl, by omega, rfl, by omega, rfl⟩
  case round =>
    obtain ⟨k, acc, a, rfl, rfl, rfl, hk, hh⟩ := hrel
    obtain ⟨ha, hacc, hdec⟩ := hh.out
    clear hh
    have a0 : 0 ≤ a := by omega
    have a1 : a ≤ 65535 := by omega
    by_cases hkn : k < t.size
    · have hc := hB k hkn
      have hdrop : bs.drop k = bs[k]'(by omega) :: bs.drop (k + 1) := List.drop_eq_getElem_cons (by omega)
      have hget : bs.getD k 0 = bs[k]'(by omega) := by simp [List.getD, List.getElem?_eq_getElem (show k < bs.length by omega)]
      rw [hdrop] at hdec
      rw [hget] at hc
      generalize bs[k]'(by omega) = c at hc hdec
      have hc256 : c.toNat < 256 := c.toNat_lt
      clear hB hdrop hget
      rw [hexM_cons] at hdec
      by_cases hdig : 48 ≤ c.toNat ∧ c.toNat ≤ 57
      · rw [if_pos hdig] at hdec
        obtain ⟨hd0, hd1⟩ := hdig
        by_cases hov : 65535 < acc * 16 + (c.toNat - 48)
        · rw [if_pos hov] at hdec
          have iov : 65535 < a * 16 + ((c.toNat : Int) - 48) := by omega
          have HD := Lib.hid hdec
          clear hacc hov ha hdec
          go_wp2
          go_ret2
          exact ⟨by rw [HD.out]; rfl, rfl⟩
        · rw [if_neg hov] at hdec
          have HN : Hid (a * 16 + ((c.toNat : Int) - 48) = ((acc * 16 + (c.toNat - 48) : Nat) : Int) ∧ acc * 16 + (c.toNat - 48) ≤ 65535 ∧ hexM 0 bs = hexM (acc * 16 + (c.toNat - 48)) (bs.drop (k + 1))) := Lib.hid ⟨by omega, by omega, hdec⟩
          have iov : a * 16 + ((c.toNat : Int) - 48) ≤ 65535 := by omega
          clear hacc hov hdec ha
          go_wp2
          refine ⟨⟨k + 1, acc * 16 + (c.toNat - 48), a * 16 + ((c.toNat : Int) - 48), rfl, (by first | rfl | (congr 1; omega)), (by first | rfl | (congr 1; omega)), by omega, HN⟩, by simp [intOf]; omega⟩
      · rw [if_neg hdig] at hdec
        have hlo := or32 c
        obtain ⟨hf1, hf2, hf3⟩ := low_facts c
        by_cases hlet : 97 ≤ low c ∧ low c ≤ 102
        · rw [if_pos hlet] at hdec
          obtain ⟨hd0, hd1⟩ := hlet
          obtain ⟨hc65, hc95⟩ := hf1 hd0 hd1
          generalize low c = lw at hlo hf1 hf2 hf3 hd0 hd1 hdec
          clear hf1
          have hnd : ¬ (c.toNat : Int) ≤ 57 := by omega
          have h95 : ¬ (c.toNat : Int) = 95 := by omega
          clear hc95
          by_cases hov : 65535 < acc * 16 + (lw - 87)
          · rw [if_pos hov] at hdec
            have iov : 65535 < a * 16 + ((lw : Int) - 87) := by omega
            have HD := Lib.hid hdec
            clear hacc hov ha hdec hdig
            go_wp2_with (go_at_call 92; refine (Tryd.internal_strconv_lower _ _).mono ?_; rintro e w' ⟨rfl, rfl⟩)
            all_goals first | omega | skip
            all_goals go_ret2
            all_goals exact ⟨by rw [HD.out]; rfl, rfl⟩
          · rw [if_neg hov] at hdec
            have HN : Hid (a * 16 + ((lw : Int) - 87) = ((acc * 16 + (lw - 87) : Nat) : Int) ∧ acc * 16 + (lw - 87) ≤ 65535 ∧ hexM 0 bs = hexM (acc * 16 + (lw - 87)) (bs.drop (k + 1))) := Lib.hid ⟨by omega, by omega, hdec⟩
            have iov : a * 16 + ((lw : Int) - 87) ≤ 65535 := by omega
            clear hacc hov hdec ha hdig
            go_wp2_with (go_at_call 92; refine (Tryd.internal_strconv_lower _ _).mono ?_; rintro e w' ⟨rfl, rfl⟩)
            all_goals first | omega | skip
            all_goals refine ⟨⟨k + 1, acc * 16 + (lw - 87), a * 16 + ((lw : Int) - 87), rfl, (by first | rfl | (congr 1; omega)), (by first | rfl | (congr 1; omega)), by omega, HN⟩, by simp [intOf]; omega⟩
        · rw [if_neg hlet] at hdec
          have HD := Lib.hid hdec
          generalize low c = lw at hlo hf2 hf3 hlet
          clear hf1 hacc ha hdec
          go_wp2_with (go_at_call 92; refine (Tryd.internal_strconv_lower _ _).mono ?_; rintro e w' ⟨rfl, rfl⟩)
          all_goals first | omega | skip
          all_goals go_ret2
          all_goals exact ⟨by rw [HD.out]; rfl, rfl⟩
    · have hkk : k = t.size := by omega
      subst hkk
      have hF : hexM acc (bs.drop t.size) = .ok acc := by rw [List.drop_eq_nil_of_le (by omega)]; rfl
      rw [hF] at hdec
      subst ha
      have HD := Lib.hid hdec
      clear hacc hF a0 a1 hdec
      go_wp2
      go_ret2
      exact ⟨by rw [HD.out]; rfl, rfl⟩
theorem parse16i (t : ByteArray) (hmax : t.size ≤ 1000000000) (w : World) :
    Calls Tryd.prog 81 #[.string t, .int .i64 16, .int .i64 16] w fun e w' => e = .returned (encU (hexU t.data.toList)) ∧ Below w.heap.size w w' := by
  by_cases h0 : t.size = 0
  · have ht : t.data.toList = [] := List.length_eq_zero_iff.1 (by simpa using h0)
    have htl := str_nil t h0
    have HV := Lib.hid (show encU (hexU t.data.toList) = .tuple #[.int .u64 0, .iface 123 (.int .i64 2)] from by rw [ht]; rfl)
    have htb : t = ByteArray.empty := ByteArray.ext (Array.ext' ht)
    subst htb
    clear ht htl h0
    go_enter Tryd.func81, Tryd.ntmps81
    go_wp2
    go_ret2
    exact ⟨by rw [HV.out]; rfl, Below.refl _ _⟩
  · refine (parse16 t h0 hmax w).mono ?_
    rintro e w' ⟨rfl, rfl⟩
    refine ⟨?_, Lib.bytesWorld_below ..⟩
    unfold hexU
    rw [if_neg (fun h => h0 (by have := congrArg List.length h; simpa using this))]
def PubPost (l : Bs) (sm : Bs → Option Nat) (w : World) (e : Ending) (w' : World) : Prop :=
  (∃ n v, e = .returned (.tuple #[.int .u64 n, v]) ∧ ((∃ u : Nat, sm l = some u ∧ n = (u : Int) ∧ v = .nilIface) ∨ (sm l = none ∧ ∃ q p, v = .iface q p))) ∧ Below w.heap.size w w'
set_option maxHeartbeats 400000 in
/-- strconv.ParseUint(s, 16, 16): is there an error? -/
theorem pub16 (t : ByteArray) (hmax : t.size ≤ 1000000000) (w : World) (henv : Env w) :
    Calls Tryd.prog 70 #[.string t, .int .i64 16, .int .i64 16] w (PubPost t.data.toList small16 w) := by
  have HI := Lib.hid (parse16i t hmax w)
  have HE := Lib.hid henv
  have HM := Lib.hid hmax
  cases hx : hexU t.data.toList with
  | ok n =>
    have HS := Lib.hid (show small16 t.data.toList = some n by unfold small16; rw [hx]; rfl)
    rw [hx] at HI
    have HI2 := Lib.hid (show Calls Tryd.prog 81 #[.string t, .int .i64 16, .int .i64 16] w fun e w' => e = .returned (.tuple #[.int .u64 (n : Int), .nilIface]) ∧ Below w.heap.size w w' from HI.out)
    clear HI hx henv hmax
    go_enter Tryd.func70, Tryd.ntmps70
    go_wp2_with (go_at_call 81; refine HI2.out.mono ?_; rintro e w1 ⟨rfl, hb⟩)
    go_ret2
    exact ⟨⟨_, _, rfl, .inl ⟨n, HS.out, rfl, rfl⟩⟩, hb⟩
  | «syntax» =>
    have HS := Lib.hid (show small16 t.data.toList = none by unfold small16; rw [hx]; rfl)
    rw [hx] at HI
    have HI2 := Lib.hid (show Calls Tryd.prog 81 #[.string t, .int .i64 16, .int .i64 16] w fun e w' => e = .returned (.tuple #[.int .u64 0, .iface 123 (.int .i64 2)]) ∧ Below w.heap.size w w' from HI.out)
    obtain ⟨q, p, hc⟩ := henv.syn
    have HC := Lib.hid hc
    clear HI hx henv hmax hc
    go_enter Tryd.func70, Tryd.ntmps70
    go_wp2_with (first
      | (go_at_call 81; refine HI2.out.mono ?_; rintro e w1 ⟨rfl, hb⟩; have HB := Lib.hid hb; clear hb)
      | (go_at_call 82; refine (Tryd.strconv_toError_syntax _ _ _ _ _ _ (by have := HM.out; omega) (cell_kept HB.out HC.out) (.inr ⟨q, p, rfl⟩)).mono ?_; rintro e w2 ⟨N, rfl, _, _, hb2⟩))
    go_ret2
    exact ⟨⟨_, _, rfl, .inr ⟨HS.out, _, _, rfl⟩⟩, below_step HB.out hb2 HB.out.size⟩
  | range =>
    have HS := Lib.hid (show small16 t.data.toList = none by unfold small16; rw [hx]; rfl)
    rw [hx] at HI
    have HI2 := Lib.hid (show Calls Tryd.prog 81 #[.string t, .int .i64 16, .int .i64 16] w fun e w' => e = .returned (.tuple #[.int .u64 65535, .iface 123 (.int .i64 1)]) ∧ Below w.heap.size w w' from HI.out)
    obtain ⟨q, p, hc⟩ := henv.rng
    have HC := Lib.hid hc
    clear HI hx henv hmax hc
    go_enter Tryd.func70, Tryd.ntmps70
    go_wp2_with (first
      | (go_at_call 81; refine HI2.out.mono ?_; rintro e w1 ⟨rfl, hb⟩; have HB := Lib.hid hb; clear hb)
      | (go_at_call 82; refine (Tryd.strconv_toError_range _ _ _ _ _ _ (by have := HM.out; omega) (cell_kept HB.out HC.out) (.inr ⟨q, p, rfl⟩)).mono ?_; rintro e w2 ⟨N, rfl, _, _, hb2⟩))
    go_ret2
    exact ⟨⟨_, _, rfl, .inr ⟨HS.out, _, _, rfl⟩⟩, below_step HB.out hb2 HB.out.size⟩
theorem pub10 (t : ByteArray) (hmax : t.size ≤ 1000000000) (w : World) (henv : Env w) :
    Calls Tryd.prog 70 #[.string t, .int .i64 10, .int .i64 8] w (PubPost t.data.toList small10 w) := by
  cases hx : Lib.parseUintB 8 t.data.toList with
  | ok n =>
    refine (Tryd.strconv_ParseUint_10_at8_ok t (by omega) n hx w).mono ?_
    rintro e w' ⟨rfl, hw⟩
    refine ⟨⟨_, _, rfl, .inl ⟨n, by unfold small10; rw [hx]; rfl, rfl, rfl⟩⟩, ?_⟩
    rcases hw with rfl | rfl
    · exact Below.refl _ _
    · exact Lib.bytesWorld_below ..
  | «syntax» =>
    obtain ⟨q, p, hc⟩ := henv.syn
    refine (Tryd.strconv_ParseUint_10_at8_syntax t (by omega) hx _ w hc (.inr ⟨q, p, rfl⟩)).mono ?_
    rintro e w' ⟨N, rfl, _, _, hb⟩
    exact ⟨⟨_, _, rfl, .inr ⟨by unfold small10; rw [hx]; rfl, _, _, rfl⟩⟩, hb⟩
  | range =>
    obtain ⟨q, p, hc⟩ := henv.rng
    refine (Tryd.strconv_ParseUint_10_at8_range t (by omega) hx _ w hc (.inr ⟨q, p, rfl⟩)).mono ?_
    rintro e w' ⟨N, rfl, _, _, hb⟩
    exact ⟨⟨_, _, rfl, .inr ⟨by unfold small10; rw [hx]; rfl, _, _, rfl⟩⟩, hb⟩
/-- What 'small' answers. -/
def SmallPost (r : Option Nat) (w : World) (e : Ending) (w' : World) : Prop :=
  (∃ n, e = .returned (.tuple #[.int .u64 n, .bool r.isSome]) ∧ ∀ u, r = some u → n = (u : Int)) ∧ Below w.heap.size w w'
set_option maxHeartbeats 400000 in
theorem small_of (t : ByteArray) (base size : Int) (sm : Bs → Option Nat) (w : World) (hpub : Calls Tryd.prog 70 #[.string t, .int .i64 base, .int .i64 size] w (PubPost t.data.toList sm w)) :
    Calls Tryd.prog 57 #[.string t, .int .i64 base, .int .i64 size] w (SmallPost (sm t.data.toList) w) := by
  have HP := Lib.hid hpub
  clear hpub
  go_enter Tryd.func57, Tryd.ntmps57
  go_wp2_with fail
  refine HP.out.mono ?_
  rintro e w1 ⟨⟨n, v, rfl, hv⟩, hb⟩
  have HB := Lib.hid hb
  rcases hv with ⟨u, hs, rfl, rfl⟩ | ⟨hs, q, p, rfl⟩
  · have HS := Lib.hid hs
    clear hs hb
    go_wp2_with fail
    go_region
    go_wp2_with fail
    go_ret2
    exact ⟨⟨_, by rw [HS.out]; rfl, fun u' h => by rw [HS.out] at h; rw [Option.some.inj h]⟩, HB.out.drew⟩
  · have HS := Lib.hid hs
    clear hs hb
    go_wp2_with fail
    go_region
    go_wp2_with fail
    go_ret2
    exact ⟨⟨_, by rw [HS.out]; rfl, fun u' h => by rw [HS.out] at h; cases h⟩, HB.out.drew⟩
theorem small_16 (t : ByteArray) (hmax : t.size ≤ 1000000000) (w : World) (henv : Env w) :
    Calls Tryd.prog 57 #[.string t, .int .i64 16, .int .i64 16] w (SmallPost (small16 t.data.toList) w) := small_of t 16 16 small16 w (pub16 t hmax w henv)
theorem small_10 (t : ByteArray) (hmax : t.size ≤ 1000000000) (w : World) (henv : Env w) :
    Calls Tryd.prog 57 #[.string t, .int .i64 10, .int .i64 8] w (SmallPost (small10 t.data.toList) w) := small_of t 10 8 small10 w (pub10 t hmax w henv)
end Go.Proofs.Tryd.Tx
