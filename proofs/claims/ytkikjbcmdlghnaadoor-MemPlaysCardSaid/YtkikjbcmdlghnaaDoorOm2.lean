/- okey.Key: a list's key. -/
import Derived.Test.YtkikjbcmdlghnaaDoorOm1
import Derived.Deep.DeepCutAuto
set_option linter.unusedVariables false
set_option linter.unusedSimpArgs false
set_option maxRecDepth 100000
namespace Go.Proofs.Tryd.Ok
open Go.RowKit Go.Cph Go.Cph.Ok Go.Proofs.Tryd.Nu
theorem nums_one (w : World) (n : UInt64) : NumsAt (w.alloc (.cells #[.int .u64 (n.toNat : Int)] 22)) (.slice (some ⟨w.heap.size, 0, none⟩) 1 1) [n] :=
  ⟨⟨_, _, rfl, fun _ => ⟨w.heap.size, 0, rfl, fun j hj => by
    obtain rfl : j = 0 := by simp at hj; omega
    rw [Nat.zero_add, blk_cell (heap_alloc_new w _)]; rfl⟩⟩, rfl⟩
theorem key_take (l : List Pt) {i : Nat} (h : i < l.length) : key (l.take (i + 1)) = key (l.take i) ++ Cph.Ok.bytes l[i] := by
  unfold key
  rw [List.take_succ_eq_append_getElem h, List.flatMap_append]; simp
theorem key_take_le (l : List Pt) (i : Nat) : (key (l.take i)).length ≤ (key l).length := by
  have h : key l = key (l.take i) ++ key (l.drop i) := by rw [← key_append, List.take_append_drop]
  rw [h, List.length_append]; omega
theorem ofBs_size (l : Bs) : (ofBs l).size = l.length := by rw [Go.Lib.size_eq, ofBs_list]
set_option maxHeartbeats 6400000 in
theorem key_any (v : Value) (l : List Pt) (m : Int) (w : World) (h : PtsAt w v l) (hl : l.length ≤ 1000000) (hk : (key l).length ≤ 1000000000) (hm : w.cell? ⟨0, 0, none⟩ = some (.int .i64 m)) :
    Calls Tryd.prog 23 #[v] w fun e w' => e = .returned (.string (ofBs (key l))) ∧ Below w.heap.size w w' := by
  obtain ⟨ao, cap, rfl⟩ := elems_slice h
  have H := Lib.hid h
  have HL := Lib.hid hl
  have HK := Lib.hid hk
  have HM := Lib.hid hm
  have HF := Lib.hid (show Bld w.heap.size w.heap.size [] (w.alloc (.cells #[.pointer none, .slice none 0 0] 77)) from Lib.fresh_isBuilder TBd T8 w)
  have HB0 := Lib.hid (show Below w.heap.size w (w.alloc (.cells #[.pointer none, .slice none 0 0] 77)) from (Below.refl _ _).alloc (Nat.le_refl _) _)
  have H0 := Lib.hid (World.block_lt_of_cell? _ _ hm)
  clear h hl hk hm
  go_enter Tryd.func23, Tryd.ntmps23
  go_wp2_with fail
  go_loopw [8] (fun vi W => ∃ i : Nat, i ≤ l.length ∧ vi = .int .i64 i ∧ Bld w.heap.size w.heap.size (key (l.take i)) W ∧ Below w.heap.size w W) (fun vi _ => l.length - (intOf vi).toNat)
  case atStart => exact ⟨0, Nat.zero_le _, rfl, HF.out, HB0.out⟩
  case round =>
    obtain ⟨i, hi, rfl, hbl, hb⟩ := hrel
    have HB := Lib.hid hb
    have HBL := Lib.hid hbl
    by_cases hlt : i < l.length
    · have HLT := Lib.hid hlt
      obtain ⟨b, off, cap', hve, hcs⟩ := pts_cells H.out (by omega)
      injection hve with hx1 hx2 hx3
      subst hx1
      clear hx2 hx3
      have hcx := (hcs i hlt).kept hb
      obtain ⟨p, hp⟩ : ∃ p, p = l[i]'hlt := ⟨_, rfl⟩
      rw [← hp] at hcx
      have HTK := Lib.hid (show key (l.take (i + 1)) = key (l.take i) ++ Cph.Ok.bytes p from by rw [hp]; exact key_take l hlt)
      have HKL := Lib.hid (show (key (l.take i)).length + (Cph.Ok.bytes p).length ≤ 1000000000 from by
        have := key_take_le l (i + 1)
        rw [HTK.out, List.length_append] at this
        have := HK.out; omega)
      obtain ⟨X, hX⟩ : ∃ X, X = key (l.take i) := ⟨_, rfl⟩
      rw [← hX] at HBL HTK HKL
      have hbx : Below wr.heap.size wr (wr.alloc (boxP p)) := (Below.refl _ _).alloc (Nat.le_refl _) _
      have HBX := Lib.hid (below_step hb hbx hb.size)
      have HBLX := Lib.hid (bld_kept HBL.out hbx)
      have HGX := Lib.hid (heap_alloc_new wr (boxP p))
      have HMX := Lib.hid (show (wr.alloc (boxP p)).cell? ⟨0, 0, none⟩ = some (.int .i64 m) from (HBX.out.cell H0.out).trans HM.out)
      have d0 := hcx.c0
      have d1 := hcx.c1
      have d2 := hcx.c2
      have k1 : (0 : Int) ≤ (i : Int) := by omega
      have k2 : (i : Int) < (l.length : Int) := by omega
      have k4 : IntKind.i64.wrap ((i : Int) + 1) = (i : Int) + 1 := by rw [IntKind.wrap_i64]; have := HL.out; omega
      clear hcs hcx hp hX hbx hb hbl hlt hi
      go_upto_region 5 with (fail)
      obtain ⟨kb, hkb⟩ : ∃ k, k = wr.heap.size := ⟨_, rfl⟩
      rw [← hkb] at HGX ⊢
      clear hkb d0 d1 d2
      generalize wr.alloc (boxP p) = w1 at *
      obtain ⟨tx, s, n⟩ := p
      have hcb := box_cells HGX.out
      have d0 := hcb.c0
      have d1 := hcb.c1
      have d2 := hcb.c2
      clear hcb
      have HZ := Lib.hid HBX.out.size
      cases tx
      · have HV := Lib.hid (fun W v (h : NumsAt W v [n]) => var_any v [n] W h (by simp))
        have HRW := Lib.hid (show rows [n] = row n.toNat from by unfold rows; simp)
        have HR9 := Lib.hid (row_le n.toNat_lt)
        obtain ⟨A, hA⟩ : ∃ A, A = ofBs (rows [n]) := ⟨_, rfl⟩
        have HAL := Lib.hid (show A.data.toList = row n.toNat from by rw [hA, HRW.out]; rfl)
        have ha9 : A.size ≤ 9 := by rw [hA, ofBs_size, HRW.out]; exact HR9.out
        have ha9i : (A.size : Int) ≤ 9 := by omega
        have HV := Lib.hid (show ∀ W v (h : NumsAt W v [n]), Calls Tryd.prog 35 #[v] W fun e w' => e = .returned (.string A) ∧ Below W.heap.size W w' from by rw [hA]; exact HV.out)
        have HBY := Lib.hid (show Below w1.heap.size w1 (w1.alloc (.cells #[.int .u64 (n.toNat : Int)] 22)) from (Below.refl _ _).alloc (Nat.le_refl _) _)
        have HN1 := Lib.hid (nums_one w1 n)
        have HS := Lib.hid (show ((⟨#[1]⟩ : ByteArray) ++ A).data.toList = Cph.Ok.bytes ⟨false, s, n⟩ from by rw [cat_list, HAL.out]; rfl)
        have HSZ := Lib.hid (show ((⟨#[1]⟩ : ByteArray) ++ A).size ≤ 10 from by rw [ByteArray.size_append]; have e : (⟨#[1]⟩ : ByteArray).size = 1 := rfl; omega)
        clear hA ha9
        go_wp2_with fail
        clear d0 d1 d2
        refine (HV.out _ _ HN1.out).mono ?_
        rintro e w2 ⟨rfl, hb⟩
        have HB2 := Lib.hid (below_step (below_step HBX.out HBY.out HZ.out) hb (Nat.le_trans HZ.out HBY.out.size))
        have HBL2 := Lib.hid (bld_kept (bld_kept HBLX.out HBY.out) hb)
        clear hb
        go_wp2_with fail
        refine (write_any w.heap.size w.heap.size X _ w2 HBL2.out (by have := HKL.out; have := HSZ.out; omega) HB2.out.size).mono ?_
        rintro e w3 ⟨rfl, hbl, hb⟩
        have HBL3 := Lib.hid hbl
        have HB3 := Lib.hid (HB2.out.trans hb)
        clear hbl hb
        go_wp2_with fail
        go_roundw
        case rel => exact ⟨i + 1, HLT.out, by go_num, by rw [HTK.out, ← HS.out]; exact HBL3.out, HB3.out⟩
        case measure => have := HLT.out; simp [intOf]; omega
      · have hes := esc_len s.data.toList
        have hbs : (Cph.Ok.bytes ⟨true, s, n⟩).length = (esc s.data.toList).length + 3 := by
          show (2 :: (esc s.data.toList ++ [0, 1])).length = _
          simp
        have hss : s.size ≤ 1000000000 := by have := HKL.out; rw [hbs] at this; rw [Go.Lib.size_eq]; omega
        have HRP := Lib.hid (fun W hm => replace_any s m W (by omega) hm)
        obtain ⟨A, hA⟩ : ∃ A, A = ofBs (esc s.data.toList) := ⟨_, rfl⟩
        have HAL := Lib.hid (show A.data.toList = esc s.data.toList from by rw [hA]; rfl)
        have ha9 : A.size ≤ 1000000000 := by rw [hA, ofBs_size]; have := HKL.out; rw [hbs] at this; omega
        have ha9i : (A.size : Int) ≤ 1000000000 := by omega
        rw [← hA] at HRP
        have HS := Lib.hid (show ((⟨#[2]⟩ : ByteArray) ++ A ++ ⟨#[0, 1]⟩).data.toList = Cph.Ok.bytes ⟨true, s, n⟩ from by rw [cat_list, cat_list, HAL.out]; show 2 :: (esc s.data.toList) ++ [0, 1] = _; rfl)
        have HSZ := Lib.hid (show ((⟨#[2]⟩ : ByteArray) ++ A ++ ⟨#[0, 1]⟩).size = (Cph.Ok.bytes ⟨true, s, n⟩).length from by rw [Go.Lib.size_eq, HS.out])
        have hz2 : ((⟨#[2]⟩ : ByteArray) ++ A).size ≤ 1000000001 := by rw [ByteArray.size_append]; have e : (⟨#[2]⟩ : ByteArray).size = 1 := rfl; omega
        have hz2i : (((⟨#[2]⟩ : ByteArray) ++ A).size : Int) ≤ 1000000001 := by omega
        clear hA ha9 hes hbs hss
        go_wp2_with fail
        clear d0 d1 d2
        refine (HRP.out _ HMX.out).mono ?_
        rintro e w2 ⟨rfl, hb⟩
        have HB2 := Lib.hid (below_step HBX.out hb HZ.out)
        have HBL2 := Lib.hid (bld_kept HBLX.out hb)
        clear hb
        go_wp2_with fail
        refine (write_any w.heap.size w.heap.size X _ w2 HBL2.out (by have := HKL.out; rw [HSZ.out]; omega) HB2.out.size).mono ?_
        rintro e w3 ⟨rfl, hbl, hb⟩
        have HBL3 := Lib.hid hbl
        have HB3 := Lib.hid (HB2.out.trans hb)
        clear hbl hb
        go_wp2_with fail
        go_roundw
        case rel => exact ⟨i + 1, HLT.out, by go_num, by rw [HTK.out, ← HS.out]; exact HBL3.out, HB3.out⟩
        case measure => have := HLT.out; simp [intOf]; omega
    · have HE := Lib.hid (show l.take i = l from List.take_of_length_le (by omega))
      rw [HE.out] at HBL
      have hil : i = l.length := by omega
      have k2 : ¬ (i : Int) < (l.length : Int) := by omega
      have HZ := Lib.hid hb.size
      clear hbl hb hlt hi hil
      go_wp2_with fail
      refine (string_any w.heap.size w.heap.size (key l) wr HBL.out HZ.out).mono ?_
      rintro e w3 ⟨rfl, hb⟩
      have HB3 := Lib.hid (HB.out.trans hb)
      clear hb
      go_wp2_with fail
      go_ret
      exact ⟨rfl, HB3.out⟩
end Go.Proofs.Tryd.Ok
