/- rows: ranges of keys. -/
import Derived.Test.YtccopljpceolcabDoorMF
set_option linter.unusedVariables false
set_option linter.unusedSimpArgs false
set_option maxRecDepth 100000
namespace Go.Proofs.Tryd.Rows
open Go.RowKit Go.Cph Go.Cph.Ok Go.Proofs.Tryd.Nu Go.Proofs.Tryd.Ok
open Go.Cph.Px (Ad Pf rightA bytesA rightP fromB fromOk)
open Go.Proofs.Tryd.Pfx (encA bcell)
set_option maxHeartbeats 1600000 in
theorem range_any (v : Value) (l : List Pt) (m : Int) (w : World) (h : PtsAt w v l) (hl : l.length ≤ 1000000) (hk : (key l).length ≤ 1000000000) (hm : MaxAt m w) :
    Calls Tryd.prog 47 #[v] w fun e w' => e = .returned (.tuple #[.string (ofBs (key l)), .string (ofBs (key l ++ [3]))]) ∧ Below w.heap.size w w' := by
  have HK := Lib.hid (key_any v l m w h hl hk hm)
  obtain ⟨k, hkk⟩ : ∃ k, k = ofBs (key l) := ⟨_, rfl⟩
  have HQ := Lib.hid (show ofBs (key l ++ [3]) = k ++ ⟨#[3]⟩ from list_eq (by rw [cat_list, hkk]; rfl))
  have hs : k.size ≤ 1000000000 := by rw [hkk, ofBs_size]; exact hk
  have hsi : (k.size : Int) ≤ 1000000000 := by omega
  rw [← hkk] at HK ⊢
  rw [HQ.out]
  clear hkk h hl hk hm
  go_enter Tryd.func47, Tryd.ntmps47
  go_wp2_with fail
  refine HK.out.mono ?_
  rintro e w1 ⟨rfl, hb⟩
  have HB := Lib.hid hb
  clear hb
  go_wp2_with fail
  go_ret2
  exact ⟨rfl, HB.out⟩
def leasesR (a b : Ad) : ByteArray × ByteArray := if rightA a && rightA b then (keyA 4 a [], keyA 4 b [] ++ ⟨#[0]⟩) else (clockK, clockK)
def eventsR (a : Ad) (n : UInt64) : ByteArray × ByteArray := if rightA a then (keyA 6 a [n], ofBs (key (partsL 6 a []) ++ [3])) else (clockK, clockK)
theorem keyA_small (kind : UInt64) (a : Ad) (l : List UInt64) (hl : l.length ≤ 2) : (keyA kind a l).size ≤ 80 := by
  unfold keyA; split
  · rw [ofBs_size]; have := parts_len kind a l; omega
  · exact Nat.zero_le _
set_option maxHeartbeats 1600000 in
theorem leases_any (a b : Ad) (m : Int) (w : World) (hm : MaxAt m w) : Calls Tryd.prog 21 #[encA a, encA b] w fun e w' => e = .returned (.tuple #[.string (leasesR a b).1, .string (leasesR a b).2]) ∧ Below w.heap.size w w' := by
  have HM := Lib.hid hm
  have HB := Lib.hid (show Below w.heap.size w ((w.alloc (boxA a)).alloc (boxA b)) from below_alloc2 (Below.refl _ _) (Nat.le_refl _) _ _)
  have HX1 := Lib.hid (blk_alloc (heap_alloc_new w (boxA a)) (boxA b))
  have HX2 := Lib.hid (heap_alloc_new (w.alloc (boxA a)) (boxA b))
  rw [World.size_alloc] at HX2
  have HR1 := Lib.hid (fun W => Pfx.right a W)
  have HR2 := Lib.hid (fun W => Pfx.right b W)
  have HK1 := Lib.hid (fun (W : World) (h : MaxAt m W) => leaseKey a m W h)
  have HK2 := Lib.hid (fun (W : World) (h : MaxAt m W) => leaseKey b m W h)
  have HCK := Lib.hid (fun (W : World) (h : MaxAt m W) => clockKey m W h)
  have HV := Lib.hid (show leasesR a b = if rightA a && rightA b then (keyA 4 a [], keyA 4 b [] ++ ⟨#[0]⟩) else (clockK, clockK) from rfl)
  have z2 := keyA_small 4 b [] (by simp)
  obtain ⟨K1, hK1⟩ : ∃ K, K = keyA 4 a [] := ⟨_, rfl⟩
  obtain ⟨K2, hK2⟩ : ∃ K, K = keyA 4 b [] := ⟨_, rfl⟩
  obtain ⟨KC, hKC⟩ : ∃ K, K = clockK := ⟨_, rfl⟩
  rw [← hK1, ← hK2, ← hKC] at HV
  rw [← hK1] at HK1
  rw [← hK2] at HK2 z2
  rw [← hKC] at HCK
  have z3 : (K2.size : Int) ≤ 80 := by omega
  clear hm hK1 hK2 hKC
  have k0 : ((w.alloc (boxA a)).alloc (boxA b)).cell? ⟨w.heap.size, 0, none⟩ = some (.int .u8 (a.1.toNat : Int)) := by rw [blk_cell HX1.out]; rfl
  have k1 : ((w.alloc (boxA a)).alloc (boxA b)).cell? ⟨w.heap.size, 1, none⟩ = some (.int .u64 (a.2.1.toNat : Int)) := by rw [blk_cell HX1.out]; rfl
  have k2 : ((w.alloc (boxA a)).alloc (boxA b)).cell? ⟨w.heap.size, 2, none⟩ = some (.int .u64 (a.2.2.toNat : Int)) := by rw [blk_cell HX1.out]; rfl
  cases ha : rightA a with
  | false =>
    rw [ha] at HR1 HV
    have HV2 := Lib.hid (show leasesR a b = (KC, KC) from HV.out)
    clear ha HV
    obtain ⟨af, ah, al⟩ := a
    obtain ⟨bf, bh, bl⟩ := b
    go_enter Tryd.func21, Tryd.ntmps21
    go_wp2_with fail
    refine (HR1.out _).mono ?_
    rintro e w1 ⟨rfl, hb⟩
    replace HB := Lib.hid (below_step HB.out hb HB.out.size)
    clear hb k0 k1 k2
    go_wp2_with fail
    refine (HCK.out _ (max_kept HM.out HB.out)).mono ?_
    rintro e w2 ⟨rfl, hb⟩
    replace HB := Lib.hid (below_step HB.out hb HB.out.size)
    clear hb
    go_wp2_with fail
    refine (HCK.out _ (max_kept HM.out HB.out)).mono ?_
    rintro e w3 ⟨rfl, hb⟩
    replace HB := Lib.hid (below_step HB.out hb HB.out.size)
    clear hb
    go_wp2_with fail
    exact bodyPost_ret (v := .tuple #[.string KC, .string KC]) (by simp [results, Tryd.results21, go_sem]) rfl ⟨by rw [HV2.out], HB.out⟩
  | true =>
    rw [ha] at HR1
    have HX2' := HX2
    cases hbb : rightA b with
    | false =>
      rw [hbb] at HR2
      have HV2 := Lib.hid (show leasesR a b = (KC, KC) from by rw [HV.out, ha, hbb]; rfl)
      clear ha hbb HV
      obtain ⟨af, ah, al⟩ := a
      obtain ⟨bf, bh, bl⟩ := b
      go_enter Tryd.func21, Tryd.ntmps21
      go_wp2_with fail
      refine (HR1.out _).mono ?_
      rintro e w1 ⟨rfl, hb⟩
      replace HB := Lib.hid (below_step HB.out hb HB.out.size)
      replace HX2 := Lib.hid (blk_kept hb HX2.out)
      have j0 : w1.cell? ⟨w.heap.size + 1, 0, none⟩ = some (.int .u8 (bf.toNat : Int)) := by rw [blk_cell HX2.out]; rfl
      have j1 : w1.cell? ⟨w.heap.size + 1, 1, none⟩ = some (.int .u64 (bh.toNat : Int)) := by rw [blk_cell HX2.out]; rfl
      have j2 : w1.cell? ⟨w.heap.size + 1, 2, none⟩ = some (.int .u64 (bl.toNat : Int)) := by rw [blk_cell HX2.out]; rfl
      clear hb k0 k1 k2
      go_wp2_with fail
      refine (HR2.out _).mono ?_
      rintro e w4 ⟨rfl, hb⟩
      replace HB := Lib.hid (below_step HB.out hb HB.out.size)
      clear hb j0 j1 j2
      go_wp2_with fail
      refine (HCK.out _ (max_kept HM.out HB.out)).mono ?_
      rintro e w2 ⟨rfl, hb⟩
      replace HB := Lib.hid (below_step HB.out hb HB.out.size)
      clear hb
      go_wp2_with fail
      refine (HCK.out _ (max_kept HM.out HB.out)).mono ?_
      rintro e w3 ⟨rfl, hb⟩
      replace HB := Lib.hid (below_step HB.out hb HB.out.size)
      clear hb
      go_wp2_with fail
      exact bodyPost_ret (v := .tuple #[.string KC, .string KC]) (by simp [results, Tryd.results21, go_sem]) rfl ⟨by rw [HV2.out], HB.out⟩
    | true =>
      rw [hbb] at HR2
      have HV2 := Lib.hid (show leasesR a b = (K1, K2 ++ ⟨#[0]⟩) from by rw [HV.out, ha, hbb]; rfl)
      clear ha hbb HV
      obtain ⟨af, ah, al⟩ := a
      obtain ⟨bf, bh, bl⟩ := b
      go_enter Tryd.func21, Tryd.ntmps21
      go_wp2_with fail
      refine (HR1.out _).mono ?_
      rintro e w1 ⟨rfl, hb⟩
      replace HB := Lib.hid (below_step HB.out hb HB.out.size)
      replace HX1 := Lib.hid (blk_kept hb HX1.out)
      replace HX2 := Lib.hid (blk_kept hb HX2.out)
      have j0 : w1.cell? ⟨w.heap.size + 1, 0, none⟩ = some (.int .u8 (bf.toNat : Int)) := by rw [blk_cell HX2.out]; rfl
      have j1 : w1.cell? ⟨w.heap.size + 1, 1, none⟩ = some (.int .u64 (bh.toNat : Int)) := by rw [blk_cell HX2.out]; rfl
      have j2 : w1.cell? ⟨w.heap.size + 1, 2, none⟩ = some (.int .u64 (bl.toNat : Int)) := by rw [blk_cell HX2.out]; rfl
      clear hb k0 k1 k2
      go_wp2_with fail
      refine (HR2.out _).mono ?_
      rintro e w4 ⟨rfl, hb⟩
      replace HB := Lib.hid (below_step HB.out hb HB.out.size)
      have x1 := blk_kept hb HX1.out
      have x2 := blk_kept hb HX2.out
      clear hb j0 j1 j2
      have qx10 : ∀ zz : Later w4.heap.size w4, zz.val.cell? ⟨w.heap.size, 0, none⟩ = some (.int .u8 (af.toNat : Int)) := fun zz => Later.cell (by rw [blk_cell x1]; rfl) (blk_lt x1) zz
      have qx11 : ∀ zz : Later w4.heap.size w4, zz.val.cell? ⟨w.heap.size, 1, none⟩ = some (.int .u64 (ah.toNat : Int)) := fun zz => Later.cell (by rw [blk_cell x1]; rfl) (blk_lt x1) zz
      have qx12 : ∀ zz : Later w4.heap.size w4, zz.val.cell? ⟨w.heap.size, 2, none⟩ = some (.int .u64 (al.toNat : Int)) := fun zz => Later.cell (by rw [blk_cell x1]; rfl) (blk_lt x1) zz
      have qx20 : ∀ zz : Later w4.heap.size w4, zz.val.cell? ⟨w.heap.size + 1, 0, none⟩ = some (.int .u8 (bf.toNat : Int)) := fun zz => Later.cell (by rw [blk_cell x2]; rfl) (blk_lt x2) zz
      have qx21 : ∀ zz : Later w4.heap.size w4, zz.val.cell? ⟨w.heap.size + 1, 1, none⟩ = some (.int .u64 (bh.toNat : Int)) := fun zz => Later.cell (by rw [blk_cell x2]; rfl) (blk_lt x2) zz
      have qx22 : ∀ zz : Later w4.heap.size w4, zz.val.cell? ⟨w.heap.size + 1, 2, none⟩ = some (.int .u64 (bl.toNat : Int)) := fun zz => Later.cell (by rw [blk_cell x2]; rfl) (blk_lt x2) zz
      have qM := Lib.hid (fun (zz : Later w4.heap.size w4) => max_kept HM.out (below_step HB.out zz.prop HB.out.size))
      clear x1 x2
      go_wp2_with fail
      refine wp_region_later w4.heap.size (by kernel_rfl) (by kernel_rfl) ?_
      repeat (go_big_quiet_step (first
        | (go_at_call 22; (with_reducible exact Later.calls (Nat.le_refl _) (HK1.out _ (qM.out _))))
        | (go_at_call 22; (with_reducible exact Later.calls (Nat.le_refl _) (HK2.out _ (qM.out _))))))
      refine wpQuiet_nil ?_
      rintro wq ⟨zz, rfl⟩
      have HBQ := Lib.hid (below_step HB.out zz.prop HB.out.size)
      go_wp2_with fail
      exact bodyPost_ret (v := .tuple #[.string K1, .string (K2 ++ ⟨#[0]⟩)]) (by simp [results, Tryd.results21, go_sem]) rfl ⟨by rw [HV2.out], HBQ.out⟩
set_option maxHeartbeats 1600000 in
theorem events_any (a : Ad) (n : UInt64) (m : Int) (w : World) (hm : MaxAt m w) : Calls Tryd.prog 25 #[encA a, .int .u64 (n.toNat : Int)] w fun e w' => e = .returned (.tuple #[.string (eventsR a n).1, .string (eventsR a n).2]) ∧ Below w.heap.size w w' := by
  have HM := Lib.hid hm
  have HB := Lib.hid (show Below w.heap.size w (w.alloc (boxA a)) from (Below.refl _ _).alloc (Nat.le_refl _) _)
  have HX1 := Lib.hid (heap_alloc_new w (boxA a))
  have HR1 := Lib.hid (fun W => Pfx.right a W)
  have HK1 := Lib.hid (fun (W : World) (h : MaxAt m W) => eventKey a n m W h)
  have HCK := Lib.hid (fun (W : World) (h : MaxAt m W) => clockKey m W h)
  have HPT := Lib.hid (fun (W : World) => show Calls Tryd.prog 48 #[.int .u64 6, encA a, .slice none 0 0] W _ from parts_row 6 a (.slice none 0 0) [] W (Seg.nil W 1) (by simp))
  have HRG := Lib.hid (fun W v (h : PtsAt W v (partsL 6 a [])) (hm : MaxAt m W) => range_any v (partsL 6 a []) m W h (by unfold partsL headL; simp) (by have := parts_len 6 a []; simp at this; omega) hm)
  have HV := Lib.hid (show eventsR a n = if rightA a then (keyA 6 a [n], ofBs (key (partsL 6 a []) ++ [3])) else (clockK, clockK) from rfl)
  obtain ⟨K1, hK1⟩ : ∃ K, K = keyA 6 a [n] := ⟨_, rfl⟩
  obtain ⟨K2, hK2⟩ : ∃ K, K = ofBs (key (partsL 6 a []) ++ [3]) := ⟨_, rfl⟩
  obtain ⟨K3, hK3⟩ : ∃ K, K = ofBs (key (partsL 6 a [])) := ⟨_, rfl⟩
  obtain ⟨KC, hKC⟩ : ∃ K, K = clockK := ⟨_, rfl⟩
  rw [← hK1, ← hK2, ← hKC] at HV
  rw [← hK1] at HK1
  rw [← hK2, ← hK3] at HRG
  rw [← hKC] at HCK
  clear hm hK1 hK2 hK3 hKC
  cases ha : rightA a with
  | false =>
    rw [ha] at HR1 HV
    have HV2 := Lib.hid (show eventsR a n = (KC, KC) from HV.out)
    clear ha HV
    obtain ⟨af, ah, al⟩ := a
    go_enter Tryd.func25, Tryd.ntmps25
    go_wp2_with fail
    refine (HR1.out _).mono ?_
    rintro e w1 ⟨rfl, hb⟩
    replace HB := Lib.hid (below_step HB.out hb HB.out.size)
    clear hb
    go_wp2_with fail
    refine (HCK.out _ (max_kept HM.out HB.out)).mono ?_
    rintro e w2 ⟨rfl, hb⟩
    replace HB := Lib.hid (below_step HB.out hb HB.out.size)
    clear hb
    go_wp2_with fail
    refine (HCK.out _ (max_kept HM.out HB.out)).mono ?_
    rintro e w3 ⟨rfl, hb⟩
    replace HB := Lib.hid (below_step HB.out hb HB.out.size)
    clear hb
    go_wp2_with fail
    exact bodyPost_ret (v := .tuple #[.string KC, .string KC]) (by simp [results, Tryd.results25, go_sem]) rfl ⟨by rw [HV2.out], HB.out⟩
  | true =>
    rw [ha] at HR1
    have HV2 := Lib.hid (show eventsR a n = (K1, K2) from by rw [HV.out, ha]; rfl)
    clear ha HV
    obtain ⟨af, ah, al⟩ := a
    go_enter Tryd.func25, Tryd.ntmps25
    go_wp2_with fail
    refine (HR1.out _).mono ?_
    rintro e w1 ⟨rfl, hb⟩
    replace HB := Lib.hid (below_step HB.out hb HB.out.size)
    replace HX1 := Lib.hid (blk_kept hb HX1.out)
    have j0 : w1.cell? ⟨w.heap.size, 0, none⟩ = some (.int .u8 (af.toNat : Int)) := by rw [blk_cell HX1.out]; rfl
    have j1 : w1.cell? ⟨w.heap.size, 1, none⟩ = some (.int .u64 (ah.toNat : Int)) := by rw [blk_cell HX1.out]; rfl
    have j2 : w1.cell? ⟨w.heap.size, 2, none⟩ = some (.int .u64 (al.toNat : Int)) := by rw [blk_cell HX1.out]; rfl
    clear hb
    go_wp2_with fail
    refine (HPT.out _).mono ?_
    rintro e w2 ⟨v, rfl, ho, hb⟩
    replace HB := Lib.hid (below_step HB.out hb HB.out.size)
    replace HX1 := Lib.hid (blk_kept hb HX1.out)
    have HPA := Lib.hid (show PtsAt w2 v (partsL 6 (af, ah, al) []) from Seg.of_owns ho)
    clear hb ho j0 j1 j2
    go_wp2_with fail
    refine (HRG.out _ _ HPA.out (max_kept HM.out HB.out)).mono ?_
    rintro e w3 ⟨rfl, hb⟩
    replace HB := Lib.hid (below_step HB.out hb HB.out.size)
    replace HX1 := Lib.hid (blk_kept hb HX1.out)
    have j0 : w3.cell? ⟨w.heap.size, 0, none⟩ = some (.int .u8 (af.toNat : Int)) := by rw [blk_cell HX1.out]; rfl
    have j1 : w3.cell? ⟨w.heap.size, 1, none⟩ = some (.int .u64 (ah.toNat : Int)) := by rw [blk_cell HX1.out]; rfl
    have j2 : w3.cell? ⟨w.heap.size, 2, none⟩ = some (.int .u64 (al.toNat : Int)) := by rw [blk_cell HX1.out]; rfl
    clear hb
    go_wp2_with fail
    refine (HK1.out _ (max_kept HM.out HB.out)).mono ?_
    rintro e w4 ⟨rfl, hb⟩
    replace HB := Lib.hid (below_step HB.out hb HB.out.size)
    clear hb j0 j1 j2
    go_wp2_with fail
    exact bodyPost_ret (v := .tuple #[.string K1, .string K2]) (by simp [results, Tryd.results25, go_sem]) rfl ⟨by rw [HV2.out], HB.out⟩
end Go.Proofs.Tryd.Rows
