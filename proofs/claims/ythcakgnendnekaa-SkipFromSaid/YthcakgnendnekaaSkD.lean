/- A skip list: seek, has, Seek, After, Get, Len. -/
import Derived.Test.YthcakgnendnekaaSkC
open Go.RowKit Go.Cph Go.Cph.Skip
set_option linter.unusedVariables false
set_option linter.unusedSimpArgs false
namespace Go.Proofs.Try.SkS

theorem lastCells_eq (f : Nat → Nat) : lastCells f = #[.int .i64 (f 0), .int .i64 (f 1), .int .i64 (f 2), .int .i64 (f 3), .int .i64 (f 4), .int .i64 (f 5), .int .i64 (f 6), .int .i64 (f 7), .int .i64 (f 8), .int .i64 (f 9), .int .i64 (f 10), .int .i64 (f 11)] := by
  simp [lastCells, List.range_succ]

theorem idx0 (x0 x1 x2 x3 x4 x5 x6 x7 x8 x9 x10 x11 : Value) (w : World) : (Instr.index 60 (.agg #[x0, x1, x2, x3, x4, x5, x6, x7, x8, x9, x10, x11]) (.int .i64 0)).run Try.prog w = .ok x0 w := by kernel_rfl

theorem seekNil (key : ByteArray) (w : World) :
    Calls Try.prog 34 #[.pointer none, .string key] w fun e w' => e = .returned (.int .i64 0) ∧ w = w' := by
  go_enter Try.func34, Try.ntmps34
  go_wp2_with fail
  go_ret
  exact ⟨rfl, rfl⟩

theorem seek {p : Nat} {nx : Nat → Nat → Nat} {nodes : List (Nd V)} {v : Value} (key : ByteArray) (w : World) (h : IsAt w p nx nodes v) (hln : Linked nodes nx) :
    Calls Try.prog 34 #[ptr p, .string key] w fun e w' => (∃ n : Nat, e = .returned (.int .i64 n) ∧ Seek nodes key n) ∧ Below w.heap.size w w' := by
  have H := Lib.hid h
  have HL := Lib.hid hln
  clear h hln
  go_enter Try.func34, Try.ntmps34
  go_wp2_with fail
  refine (ahead key w H.out HL.out).mono ?_
  rintro e w1 ⟨⟨last, rfl, hp⟩, hb⟩
  rw [lastCells_eq]
  have hidx := idx0 (.int .i64 (last 0)) (.int .i64 (last 1)) (.int .i64 (last 2)) (.int .i64 (last 3)) (.int .i64 (last 4)) (.int .i64 (last 5)) (.int .i64 (last 6)) (.int .i64 (last 7)) (.int .i64 (last 8)) (.int .i64 (last 9)) (.int .i64 (last 10)) (.int .i64 (last 11)) w1
  have HP := Lib.hid hp
  have HB := Lib.hid hb
  clear hp hb
  go_wp2_with fail
  have hnx : Calls Try.prog 35 #[ptr p, .int .i64 (last 0), .int .i64 0] w1 _ := next (last 0) 0 w1 (H.out.kept HB.out) (HP.out 0 (by omega)).on (by omega)
  refine hnx.mono ?_
  rintro e w2 ⟨rfl, rfl⟩
  go_wp2_with fail
  go_ret
  exact ⟨⟨_, rfl, seek_of_prev HL.out (HP.out 0 (by omega)) (HL.out.links 0 _ (by omega) (HP.out 0 (by omega)).on)⟩, HB.out⟩

/-- n is the node of a key (0: none). -/
def Has (nodes : List (Nd V)) (key : ByteArray) (n : Nat) : Prop :=
  (n = 0 ∧ ∀ y ∈ nodes, y.key ≠ key) ∨ (∃ i, ∃ h : i < nodes.length, n = i + 1 ∧ nodes[i].key = key)

theorem hasNil (key : ByteArray) (w : World) :
    Calls Try.prog 36 #[.pointer none, .string key] w fun e w' => e = .returned (.int .i64 0) ∧ w = w' := by
  go_enter Try.func36, Try.ntmps36
  go_wp2_with (go_at_call 34; refine (seekNil key w).mono ?_; rintro e w1 ⟨rfl, rfl⟩)
  go_ret
  exact ⟨rfl, rfl⟩

theorem has {p : Nat} {nx : Nat → Nat → Nat} {nodes : List (Nd V)} {v : Value} (key : ByteArray) (w : World) (h : IsAt w p nx nodes v) (hln : Linked nodes nx) :
    Calls Try.prog 36 #[ptr p, .string key] w fun e w' => (∃ n : Nat, e = .returned (.int .i64 n) ∧ Has nodes key n) ∧ Below w.heap.size w w' := by
  have H := Lib.hid h
  have HL := Lib.hid hln
  have hm := h.len
  unfold maxLen at hm
  clear h hln
  go_enter Try.func36, Try.ntmps36
  go_wp2_with fail
  refine (seek key w H.out HL.out).mono ?_
  rintro e w1 ⟨⟨n, rfl, hs⟩, hb⟩
  have HW := Lib.hid (H.out.kept hb)
  have HB := Lib.hid hb
  clear hb
  rcases hs with ⟨rfl, hs⟩ | ⟨i, hi, rfl, hk, hs⟩
  · have HS := Lib.hid hs
    clear hs
    go_wp2_with fail
    go_ret
    exact ⟨⟨0, rfl, .inl ⟨rfl, fun y hy he => by have := HS.out y hy; rw [he, klt_irrefl] at this; exact absurd this (by simp)⟩⟩, HB.out⟩
  · have HS := Lib.hid hs
    have HK := Lib.hid hk
    have hcr := HW.out.rowCell
    obtain ⟨g, cap, hv, hcap⟩ := HW.out.shape (by omega)
    rw [hv] at hcr
    have hck : w1.cell? ⟨g, i * 3, none⟩ = some (.string nodes[i].key) := by have := HW.out; rw [hv] at this; exact (this.nodeCell i hi).1
    have e2 : wrap64 (i : Int) = i := by unfold wrap64; omega
    clear hs hk hv
    by_cases he : nodes[i].key = key
    · rw [he] at hck
      have HE := Lib.hid he
      clear he
      have hbe : (key.toList == key.toList) = true := by simp
      go_wp2_with fail
      go_ret
      exact ⟨⟨i + 1, rfl, .inr ⟨i, hi, rfl, HE.out⟩⟩, HB.out⟩
    · have hbe : (nodes[i].key.toList == key.toList) = false := by rw [beq_toList]; simp [he]
      have HE := Lib.hid he
      clear he
      obtain ⟨kk, hkn⟩ : ∃ kk, kk = nodes[i].key := ⟨_, rfl⟩
      rw [← hkn] at hck hbe
      clear hkn
      go_wp2_with fail
      go_ret
      refine ⟨⟨0, rfl, .inl ⟨rfl, fun y hy hy' => ?_⟩⟩, HB.out⟩
      have h1 := HS.out y hy (by rw [hy', klt_irrefl])
      rw [hy'] at h1
      exact HE.out (klt_total HK.out h1)

/-- What a node tells. -/
def Tells (nodes : List (Nd V)) (n : Nat) (k : ByteArray) (x : V) (ok : Bool) : Prop :=
  (n = 0 ∧ k = ByteArray.empty ∧ x = zeroV ∧ ok = false) ∨ (∃ i, ∃ h : i < nodes.length, n = i + 1 ∧ k = nodes[i].key ∧ x = nodes[i].val ∧ ok = true)
theorem told {p : Nat} {nx : Nat → Nat → Nat} {nodes : List (Nd V)} {v : Value} (n : Nat) (w : World) (h : IsAt w p nx nodes v) (hn : n = 0 ∨ ∃ i, ∃ h : i < nodes.length, n = i + 1) :
    Calls Try.prog 33 #[ptr p, .int .i64 n] w fun e w' => (∃ k x ok, e = .returned (.tuple #[.string k, encV x, .bool ok]) ∧ Tells nodes n k x ok) ∧ Below w.heap.size w w' := by
  rcases hn with rfl | ⟨i, hi, rfl⟩
  · exact (told0 w).mono fun e w' ⟨he, hw⟩ => ⟨⟨_, _, _, he, .inl ⟨rfl, rfl, rfl, rfl⟩⟩, hw ▸ Below.refl _ _⟩
  · exact (told1 i w h hi).mono fun e w' ⟨he, hw⟩ => ⟨⟨_, _, _, he, .inr ⟨i, hi, rfl, rfl, rfl, rfl⟩⟩, hw⟩
theorem seek_num {nodes : List (Nd V)} {key : ByteArray} {n : Nat} (h : Seek nodes key n) : n = 0 ∨ ∃ i, ∃ h : i < nodes.length, n = i + 1 := by
  rcases h with ⟨h, _⟩ | ⟨i, hi, h, _⟩
  · exact .inl h
  · exact .inr ⟨i, hi, h⟩
theorem has_num {nodes : List (Nd V)} {key : ByteArray} {n : Nat} (h : Has nodes key n) : n = 0 ∨ ∃ i, ∃ h : i < nodes.length, n = i + 1 := by
  rcases h with ⟨h, _⟩ | ⟨i, hi, h, _⟩
  · exact .inl h
  · exact .inr ⟨i, hi, h⟩

theorem cSeek {p : Nat} {nx : Nat → Nat → Nat} {nodes : List (Nd V)} {v : Value} (key : ByteArray) (w : World) (h : IsAt w p nx nodes v) (hln : Linked nodes nx) :
    Calls Try.prog 12 #[ptr p, .string key] w fun e w' => (∃ n k x ok, e = .returned (.tuple #[.string k, encV x, .bool ok]) ∧ Seek nodes key n ∧ Tells nodes n k x ok) ∧ Below w.heap.size w w' := by
  have H := Lib.hid h
  have HL := Lib.hid hln
  clear h hln
  go_enter Try.func12, Try.ntmps12
  go_wp2_with fail
  refine (seek key w H.out HL.out).mono ?_
  rintro e w1 ⟨⟨n, rfl, hs⟩, hb⟩
  have HS := Lib.hid hs
  have HB := Lib.hid hb
  clear hs hb
  go_wp2_with fail
  refine (told n w1 (H.out.kept HB.out) (seek_num HS.out)).mono ?_
  rintro e w2 ⟨⟨k, x, ok, rfl, ht⟩, hb⟩
  have HT := Lib.hid ht
  have HB2 := Lib.hid (below_step HB.out hb HB.out.size)
  clear ht hb
  go_wp2_with fail
  go_ret3
  exact ⟨⟨n, k, x, ok, rfl, HS.out, HT.out⟩, HB2.out⟩
theorem cSeekNil (key : ByteArray) (w : World) :
    Calls Try.prog 12 #[.pointer none, .string key] w fun e w' => e = .returned (.tuple #[.string ByteArray.empty, encV zeroV, .bool false]) ∧ w = w' := by
  go_enter Try.func12, Try.ntmps12
  go_wp2_with (first | (go_at_call 34; refine (seekNil key w).mono ?_; rintro e w1 ⟨rfl, rfl⟩) | (go_at_call 33; refine (toldNil w).mono ?_; rintro e w1 ⟨rfl, rfl⟩))
  go_ret3
  exact ⟨rfl, rfl⟩

theorem cGet {p : Nat} {nx : Nat → Nat → Nat} {nodes : List (Nd V)} {v : Value} (key : ByteArray) (w : World) (h : IsAt w p nx nodes v) (hln : Linked nodes nx) :
    Calls Try.prog 14 #[ptr p, .string key] w fun e w' => (∃ n k x ok, e = .returned (.tuple #[encV x, .bool ok]) ∧ Has nodes key n ∧ Tells nodes n k x ok) ∧ Below w.heap.size w w' := by
  have H := Lib.hid h
  have HL := Lib.hid hln
  clear h hln
  go_enter Try.func14, Try.ntmps14
  go_wp2_with fail
  refine (has key w H.out HL.out).mono ?_
  rintro e w1 ⟨⟨n, rfl, hs⟩, hb⟩
  have HS := Lib.hid hs
  have HB := Lib.hid hb
  clear hs hb
  go_wp2_with fail
  refine (told n w1 (H.out.kept HB.out) (has_num HS.out)).mono ?_
  rintro e w2 ⟨⟨k, x, ok, rfl, ht⟩, hb⟩
  have HT := Lib.hid ht
  have HB2 := Lib.hid (below_step HB.out hb HB.out.size)
  clear ht hb
  go_wp2_with fail
  go_ret2
  exact ⟨⟨n, k, x, ok, rfl, HS.out, HT.out⟩, HB2.out⟩
theorem cGetNil (key : ByteArray) (w : World) :
    Calls Try.prog 14 #[.pointer none, .string key] w fun e w' => e = .returned (.tuple #[encV zeroV, .bool false]) ∧ w = w' := by
  go_enter Try.func14, Try.ntmps14
  go_wp2_with (first | (go_at_call 36; refine (hasNil key w).mono ?_; rintro e w1 ⟨rfl, rfl⟩) | (go_at_call 33; refine (toldNil w).mono ?_; rintro e w1 ⟨rfl, rfl⟩))
  go_ret2
  exact ⟨rfl, rfl⟩

theorem cAfter {p : Nat} {nx : Nat → Nat → Nat} {nodes : List (Nd V)} {v : Value} (key : ByteArray) (w : World) (h : IsAt w p nx nodes v) (hln : Linked nodes nx) :
    Calls Try.prog 13 #[ptr p, .string key] w fun e w' => (∃ n k x ok, e = .returned (.tuple #[.string k, encV x, .bool ok]) ∧ Nxt nodes 0 (some key) n ∧ Tells nodes n k x ok) ∧ Below w.heap.size w w' := by
  have H := Lib.hid h
  have HL := Lib.hid hln
  have hm := h.len
  unfold maxLen at hm
  clear h hln
  go_enter Try.func13, Try.ntmps13
  go_wp2_with fail
  refine (seek key w H.out HL.out).mono ?_
  rintro e w1 ⟨⟨n, rfl, hs⟩, hb⟩
  have HW := Lib.hid (H.out.kept hb)
  have HB := Lib.hid hb
  clear hb
  rcases hs with ⟨rfl, hs⟩ | ⟨i, hi, rfl, hk, hs⟩
  · have HS := Lib.hid hs
    clear hs
    go_wp2_with fail
    refine (told 0 w1 HW.out (.inl rfl)).mono ?_
    rintro e w2 ⟨⟨k, x, ok, rfl, ht⟩, hb⟩
    have HT := Lib.hid ht
    have HB2 := Lib.hid (below_step HB.out hb HB.out.size)
    clear ht hb
    go_wp2_with fail
    go_ret3
    exact ⟨⟨0, k, x, ok, rfl, .inl ⟨rfl, fun y hy _ => klt_asymm (HS.out y hy)⟩, HT.out⟩, HB2.out⟩
  · have HS := Lib.hid hs
    have HK := Lib.hid hk
    have hcr := HW.out.rowCell
    obtain ⟨g, cap, hv, hcap⟩ := HW.out.shape (by omega)
    rw [hv] at hcr
    have hck : w1.cell? ⟨g, i * 3, none⟩ = some (.string nodes[i].key) := by have := HW.out; rw [hv] at this; exact (this.nodeCell i hi).1
    have e2 : wrap64 (i : Int) = i := by unfold wrap64; omega
    clear hs hk hv
    by_cases he : nodes[i].key = key
    · rw [he] at hck
      have HE := Lib.hid he
      clear he
      have hbe : (key.toList == key.toList) = true := by simp
      have hon : On nodes 0 (i + 1) := .inr ⟨i, hi, rfl, by have := (HL.out.hts _ (List.getElem_mem hi)).1; omega⟩
      have hlk := HL.out.links 0 (i + 1) (by omega) hon
      rw [keyNo_succ nodes i hi, HE.out] at hlk
      have hnx : Calls Try.prog 35 #[ptr p, .int .i64 (i + 1 : Nat), .int .i64 0] w1 _ := next (i + 1) 0 w1 HW.out hon (by omega)
      have HLK := Lib.hid hlk
      clear hlk hon
      go_wp2_with fail
      refine hnx.mono ?_
      rintro e w2 ⟨rfl, rfl⟩
      go_wp2_with fail
      have hnum : nx (i + 1) 0 = 0 ∨ ∃ j, ∃ h : j < nodes.length, nx (i + 1) 0 = j + 1 := by
        rcases HLK.out.on with h | ⟨j, hj, h, _⟩
        · exact .inl h
        · exact .inr ⟨j, hj, h⟩
      refine (told (nx (i + 1) 0) w1 HW.out hnum).mono ?_
      rintro e w2 ⟨⟨k, x, ok, rfl, ht⟩, hb⟩
      have HT := Lib.hid ht
      have HB2 := Lib.hid (below_step HB.out hb HB.out.size)
      clear ht hb
      go_wp2_with fail
      go_ret3
      exact ⟨⟨_, k, x, ok, rfl, HLK.out, HT.out⟩, HB2.out⟩
    · have hbe : (nodes[i].key.toList == key.toList) = false := by rw [beq_toList]; simp [he]
      have HE := Lib.hid he
      clear he
      obtain ⟨kk, hkn⟩ : ∃ kk, kk = nodes[i].key := ⟨_, rfl⟩
      rw [← hkn] at hck hbe
      clear hkn
      have htold := told (i + 1) w1 HW.out (.inr ⟨i, hi, rfl⟩)
      go_wp2_with fail
      refine htold.mono ?_
      rintro e w2 ⟨⟨k, x, ok, rfl, ht⟩, hb⟩
      have HT := Lib.hid ht
      have HB2 := Lib.hid (below_step HB.out hb HB.out.size)
      clear ht hb
      go_wp2_with fail
      go_ret3
      refine ⟨⟨i + 1, k, x, ok, rfl, .inr ⟨i, hi, rfl, by have := (HL.out.hts _ (List.getElem_mem hi)).1; omega, ?_, fun y hy _ ha => HS.out y hy (klt_asymm ha)⟩, HT.out⟩, HB2.out⟩
      show klt key nodes[i].key = true
      cases hkk : klt key nodes[i].key with
      | true => rfl
      | false => exact absurd (klt_total HK.out hkk) HE.out
theorem cAfterNil (key : ByteArray) (w : World) :
    Calls Try.prog 13 #[.pointer none, .string key] w fun e w' => e = .returned (.tuple #[.string ByteArray.empty, encV zeroV, .bool false]) ∧ w = w' := by
  go_enter Try.func13, Try.ntmps13
  go_wp2_with (first | (go_at_call 34; refine (seekNil key w).mono ?_; rintro e w1 ⟨rfl, rfl⟩) | (go_at_call 33; refine (toldNil w).mono ?_; rintro e w1 ⟨rfl, rfl⟩))
  go_ret3
  exact ⟨rfl, rfl⟩

theorem cLen {p : Nat} {nx : Nat → Nat → Nat} {nodes : List (Nd V)} {v : Value} (w : World) (h : IsAt w p nx nodes v) :
    Calls Try.prog 20 #[ptr p] w fun e w' => e = .returned (.int .i64 nodes.length) ∧ w = w' := by
  have hcr := h.rowCell
  obtain ⟨ao, cap, rfl⟩ := h.slice
  clear h
  go_enter Try.func20, Try.ntmps20
  go_wp2_with fail
  go_ret
  exact ⟨rfl, rfl⟩
theorem cLenNil (w : World) :
    Calls Try.prog 20 #[.pointer none] w fun e w' => e = .returned (.int .i64 0) ∧ w = w' := by
  go_enter Try.func20, Try.ntmps20
  go_wp2_with fail
  go_ret
  exact ⟨rfl, rfl⟩
end Go.Proofs.Try.SkS
