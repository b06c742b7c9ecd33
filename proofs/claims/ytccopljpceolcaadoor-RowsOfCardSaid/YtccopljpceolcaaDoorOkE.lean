/- The document's keys: One, Key. -/
import Derived.Test.YtccopljpceolcaaDoorMX
set_option linter.unusedVariables false
set_option linter.unusedSimpArgs false
set_option maxRecDepth 100000
namespace Go.Proofs.Tryd.Ok
open Go.RowKit Go.Cph Go.Cph.Ok Go.Proofs.Tryd.Nu
abbrev boxR (p : Pt) : Obj := .cells #[.bool p.text, .string p.s, .int .u64 (p.n.toNat : Int)] 88 (0, 0)
theorem esc_app (a b : Bs) : esc (a ++ b) = esc a ++ esc b := List.flatMap_append
theorem esc_long (a : Bs) : a.length ≤ (esc a).length := by
  induction a with
  | nil => exact Nat.zero_le _
  | cons x a ih =>
    rw [show x :: a = [x] ++ a from rfl, esc_app, List.length_append, List.length_append]
    have : 1 ≤ (esc [x]).length := by unfold esc; simp only [List.flatMap_cons, List.flatMap_nil, List.append_nil]; split <;> simp
    simp only [List.length_singleton]
    omega
theorem esc_take (a : Bs) (i : Nat) : (esc (a.take i)).length ≤ (esc a).length := by
  have h := congrArg esc (List.take_append_drop i a)
  rw [esc_app] at h
  rw [← h, List.length_append]; omega
theorem ba_size (s : ByteArray) : s.size = s.data.toList.length := rfl
set_option maxHeartbeats 3200000 in
theorem rone_any (p : Pt) (w : World) (hp : (Cph.Ok.bytes p).length ≤ 1000000000) :
    Calls Tryd.prog 64 #[encP p] w fun e w' => e = .returned (.string (ofBs (Cph.Ok.bytes p))) ∧ Below w.heap.size w w' := by
  obtain ⟨t, s, n⟩ := p
  have hbx : Below w.heap.size w (w.alloc (boxR ⟨t, s, n⟩)) := (Below.refl _ _).alloc (Nat.le_refl _) _
  have HB := Lib.hid hbx
  have ca := box_cells (heap_alloc_new w (boxR ⟨t, s, n⟩))
  have d0 := ca.c0
  have d1 := ca.c1
  have d2 := ca.c2
  clear ca hbx
  cases t
  · have HC := Lib.hid (fun W => row_any n W)
    have HQ := Lib.hid (show (⟨#[1]⟩ : ByteArray) ++ ofBs (row n.toNat) = ofBs (Cph.Ok.bytes ⟨false, s, n⟩) from cons_cat 1 _)
    have hz : (ofBs (row n.toNat)).size ≤ 1000000000 := by
      rw [ofBs_size]
      have h : (Cph.Ok.bytes ⟨false, s, n⟩).length = (row n.toNat).length + 1 := rfl
      omega
    obtain ⟨k, hk⟩ : ∃ k, k = ofBs (row n.toNat) := ⟨_, rfl⟩
    rw [← hk] at HC HQ hz
    have hz2 : (k.size : Int) ≤ 1000000000 := by omega
    clear hk hp
    go_enter Tryd.func64, Tryd.ntmps64
    go_wp2_with fail
    refine (HC.out _).mono ?_
    rintro e w1 ⟨rfl, hb⟩
    have HB1 := Lib.hid (below_step HB.out hb HB.out.size)
    clear hb
    go_wp2_with fail
    go_ret
    exact ⟨ret_s HQ.out, HB1.out⟩
  · have HES := Lib.hid (show (esc s.data.toList).length + 3 ≤ 1000000000 from by
      have h : (Cph.Ok.bytes ⟨true, s, n⟩).length = (esc s.data.toList ++ [0, 1]).length + 1 := rfl
      rw [List.length_append] at h
      have e : ([0, 1] : Bs).length = 2 := rfl
      omega)
    have HSZ := Lib.hid (show s.size + 3 ≤ 1000000000 from by
      have := esc_long s.data.toList
      have := HES.out
      rw [ba_size]; omega)
    obtain ⟨R, hR⟩ : ∃ R, R = ofBs (Cph.Ok.bytes ⟨true, s, n⟩) := ⟨_, rfl⟩
    have HR := Lib.hid (show R.data.toList = 2 :: (esc s.data.toList ++ [0, 1]) from by rw [hR]; rfl)
    rw [← hR]
    clear hp hR
    go_enter Tryd.func64, Tryd.ntmps64
    go_wp2_with fail
    go_loopw [3, 4] (fun vs vi W => ∃ (i : Nat) (y : ByteArray), i ≤ s.size ∧ vs = .string y ∧ vi = .int .i64 i ∧ y.data.toList = 2 :: esc (s.data.toList.take i) ∧ W = w.alloc (boxR ⟨true, s, n⟩)) (fun _ vi _ => s.size - (intOf vi).toNat)
    case atStart => exact ⟨0, _, Nat.zero_le _, rfl, rfl, rfl, rfl⟩
    case round =>
      obtain ⟨i, y, hi, rfl, rfl, hy, rfl⟩ := hrel
      have HY := Lib.hid hy
      have hys : y.size ≤ 1000000000 - 2 := by
        have h1 := esc_take s.data.toList i
        have h2 := HES.out
        rw [ba_size, hy, List.length_cons]; omega
      have hys2 : (y.size : Int) ≤ 1000000000 - 2 := by omega
      by_cases hlt : i < s.size
      · have HLT := Lib.hid hlt
        have hll : i < s.data.toList.length := hlt
        have hex : (s.extract i (i + 1)).data.toList = [s[i]'hlt] := by
          simp only [ByteArray.data_extract, Array.toList_extract]
          rw [List.extract_eq_take_drop]
          rw [List.drop_eq_getElem_cons hll, show i + 1 - i = 1 by omega]
          rfl
        have hz1 : (s.extract i (i + 1)).size = 1 := by rw [ba_size, hex]; rfl
        have hz2 : min (i + 1) s.size - i = 1 := by omega
        have HTK := Lib.hid (show esc (s.data.toList.take (i + 1)) = esc (s.data.toList.take i) ++ esc [s[i]'hlt] from by
          rw [List.take_succ_eq_append_getElem hll, esc_app]; rfl)
        have q1 : (0 : Int) ≤ (i : Int) := by omega
        have q2 : (i : Int) < (s.size : Int) := by omega
        have q3 : IntKind.i64.wrap ((i : Int) + 1) = ((i + 1 : Nat) : Int) := by rw [IntKind.wrap_i64]; have := HSZ.out; omega
        have q4 : ((i + 1 : Nat) : Int) ≤ (s.size : Int) := by omega
        have q5 : (i : Int) ≤ ((i + 1 : Nat) : Int) := by omega
        obtain ⟨c, hc⟩ : ∃ c, c = s[i]'hlt := ⟨_, rfl⟩
        have hcn : (s[i]'hlt).toNat = c.toNat := by rw [hc]
        rw [← hc] at hex HTK
        by_cases h0 : c = 0
        · subst h0
          have hcn : (s[i]'hlt).toNat = 0 := hcn
          have HN := Lib.hid (show (y ++ s.extract i (i + 1) ++ ⟨#[255]⟩).data.toList = 2 :: esc (s.data.toList.take (i + 1)) from by
            rw [cat_list, cat_list, hex, HY.out, HTK.out]; simp [esc])
          clear hc hex hy hi
          go_wp2_with fail
          go_roundw
          case rel => exact ⟨i + 1, _, HLT.out, rfl, by go_num, HN.out, by first | rfl | trivial⟩
          case measure => have := HLT.out; simp [intOf]; omega
        · have HN := Lib.hid (show (y ++ s.extract i (i + 1)).data.toList = 2 :: esc (s.data.toList.take (i + 1)) from by
            rw [cat_list, hex, HY.out, HTK.out]; simp [esc, h0])
          obtain ⟨d, hd⟩ : ∃ d, d = c.toNat := ⟨_, rfl⟩
          rw [← hd] at hcn
          have hd0 : ¬ (d : Int) = 0 := by
            intro e
            apply h0
            rw [← UInt8.toNat_inj, ← hd]
            simp; omega
          clear hc hex hy hi hd h0
          go_wp2_with fail
          go_roundw
          case rel => exact ⟨i + 1, _, HLT.out, rfl, by go_num, HN.out, by first | rfl | trivial⟩
          case measure => have := HLT.out; simp [intOf]; omega
      · have hie : i = s.size := by omega
        have HN := Lib.hid (show y ++ ⟨#[0, 1]⟩ = R from list_eq (by
          rw [cat_list, HR.out, hy, List.take_of_length_le (by rw [← ba_size]; omega)]; rfl))
        have q2 : ¬ (i : Int) < (s.size : Int) := by omega
        clear hy hi hlt hie
        go_wp2_with fail
        go_ret
        exact ⟨ret_s HN.out, HB.out⟩
set_option maxHeartbeats 3200000 in
theorem rkey_any (v : Value) (l : List Pt) (w : World) (h : PtsAt w v l) (hl : l.length ≤ 1000000) (hk : (key l).length ≤ 1000000000) :
    Calls Tryd.prog 58 #[v] w fun e w' => e = .returned (.string (ofBs (key l))) ∧ Below w.heap.size w w' := by
  obtain ⟨ao, cap, rfl⟩ := elems_slice h
  have H := Lib.hid h
  have HL := Lib.hid hl
  have HK := Lib.hid hk
  clear h hl hk
  go_enter Tryd.func58, Tryd.ntmps58
  go_wp2_with fail
  go_loopw [3, 4] (fun vs vi W => ∃ i : Nat, i ≤ l.length ∧ vs = .string (ofBs (key (l.take i))) ∧ vi = .int .i64 i ∧ Below w.heap.size w W) (fun _ vi _ => l.length - (intOf vi).toNat)
  case atStart => exact ⟨0, Nat.zero_le _, rfl, rfl, Below.refl _ _⟩
  case round =>
    obtain ⟨i, hi, rfl, rfl, hb⟩ := hrel
    have HB := Lib.hid hb
    by_cases hlt : i < l.length
    · have HLT := Lib.hid hlt
      obtain ⟨b, off, cap', hve, hcs⟩ := pts_cells (H.out.kept hb) (by omega)
      injection hve with hx1 hx2 hx3
      subst hx1
      clear hx2 hx3
      have hcx := hcs i hlt
      obtain ⟨p, hp⟩ : ∃ p, p = l[i]'hlt := ⟨_, rfl⟩
      rw [← hp] at hcx
      have d0 := hcx.c0
      have d1 := hcx.c1
      have d2 := hcx.c2
      have hkk : key l = key (l.take i) ++ (Cph.Ok.bytes p ++ key (l.drop (i + 1))) := by
        have h := congrArg key (List.take_append_drop i l)
        rw [key_append, List.drop_eq_getElem_cons hlt, key_cons, ← hp] at h
        exact h.symm
      have hkl := congrArg List.length hkk
      rw [List.length_append, List.length_append] at hkl
      have HK' := HK.out
      have HTK := Lib.hid (show key (l.take (i + 1)) = key (l.take i) ++ Cph.Ok.bytes p from by
        rw [List.take_succ_eq_append_getElem hlt, key_append, ← hp]; simp [key])
      have HN := Lib.hid (show ofBs (key (l.take i)) ++ ofBs (Cph.Ok.bytes p) = ofBs (key (l.take (i + 1))) from list_eq (by rw [cat_list, ofBs_list, ofBs_list, ofBs_list, HTK.out]))
      have HC := Lib.hid (fun W => rone_any p W (by omega))
      have hs1 : (ofBs (key (l.take i))).size + (ofBs (Cph.Ok.bytes p)).size ≤ 1000000000 := by rw [ofBs_size, ofBs_size]; omega
      obtain ⟨A, hA⟩ : ∃ A, A = ofBs (key (l.take i)) := ⟨_, rfl⟩
      obtain ⟨T, hT⟩ : ∃ T, T = ofBs (Cph.Ok.bytes p) := ⟨_, rfl⟩
      rw [← hA] at HN hs1 ⊢
      rw [← hT] at HN hs1 HC
      have z1 : A.size ≤ 1000000000 := by omega
      have z2 : T.size ≤ 1000000000 := by omega
      have z3 : (A.size : Int) ≤ 1000000000 := by omega
      have z4 : (T.size : Int) ≤ 1000000000 := by omega
      have q1 : (0 : Int) ≤ (i : Int) := by omega
      have q2 : (i : Int) < (l.length : Int) := by omega
      have q4 : IntKind.i64.wrap ((i : Int) + 1) = (i : Int) + 1 := by rw [IntKind.wrap_i64]; have := HL.out; omega
      clear hkk hkl HK' hA hT hs1 hcs hcx hp hb hlt hi
      go_wp2_with fail
      refine (HC.out _).mono ?_
      rintro e w1 ⟨rfl, hb⟩
      have HB1 := Lib.hid (below_step HB.out hb HB.out.size)
      clear hb d0 d1 d2
      go_wp2_with fail
      go_roundw
      case rel => exact ⟨i + 1, HLT.out, by rw [HN.out], by go_num, HB1.out⟩
      case measure => have := HLT.out; simp [intOf]; omega
    · have HE := Lib.hid (show l.take i = l from List.take_of_length_le (by omega))
      rw [HE.out]
      have q2 : ¬ (i : Int) < (l.length : Int) := by omega
      clear hb hlt hi
      go_wp2_with fail
      go_ret
      exact ⟨rfl, HB.out⟩
end Go.Proofs.Tryd.Ok
