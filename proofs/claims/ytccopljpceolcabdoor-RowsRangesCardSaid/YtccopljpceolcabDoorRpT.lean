/- rows: the ranges of prefixes; the law's in. -/
import Derived.Test.YtccopljpceolcabDoorRpS
import Derived.Test.YtccopljpceolcabDoorMF
set_option linter.unusedVariables false
set_option linter.unusedSimpArgs false
set_option maxRecDepth 100000
namespace Go.Proofs.Tryd.Rows
open Go.RowKit Go.Cph Go.Cph.Ok Go.Proofs.Tryd.Nu Go.Proofs.Tryd.Ok
open Go.Cph.Px (Ad Pf rightA bytesA rightP fromB fromOk lessA before num)
open Go.Proofs.Tryd.Pfx (encA bcell)
theorem less_or (x y : Bs) : (Op.bytesLess x y || x == y) = !Op.bytesLess y x := by
  cases h : Op.bytesLess x y
  · cases h2 : Op.bytesLess y x
    · have he := Skip.bl_total x y h h2
      rw [he]; simp
    · have hne : (x == y) = false := beq_eq_false_iff_ne.2 (fun e => by rw [e, Skip.bl_irrefl] at h2; cases h2)
      rw [hne]; rfl
  · rw [bl_asymm h]; rfl
theorem in_any (k f e : ByteArray) (w : World) : Calls Tryd.prog 18 #[.string k, .string f, .string e] w fun r w' => r = .returned (.bool (inB k f e)) ∧ Below w.heap.size w w' := by
  have h1 := less_or f.toList k.toList
  have HV := Lib.hid (show inB k f e = (!(Op.bytesLess k.toList f.toList) && Op.bytesLess k.toList e.toList) from by unfold inB inL; rw [ByteArray.toList_eq, ByteArray.toList_eq, ByteArray.toList_eq])
  cases h : Op.bytesLess k.toList f.toList with
  | true =>
    rw [h] at h1 HV
    have HV2 := Lib.hid (show inB k f e = false from HV.out)
    have h2 : (Op.bytesLess f.toList k.toList || f.toList == k.toList) = false := h1
    clear h h1 HV
    go_enter Tryd.func18, Tryd.ntmps18
    go_wp2_with fail
    go_ret
    exact ⟨ret_bool (by rw [HV2.out]), Below.refl _ _⟩
  | false =>
    rw [h] at h1 HV
    have HV2 := Lib.hid (show inB k f e = Op.bytesLess k.toList e.toList from HV.out)
    have h2 : (Op.bytesLess f.toList k.toList || f.toList == k.toList) = true := h1
    obtain ⟨b, hb⟩ : ∃ b, b = Op.bytesLess k.toList e.toList := ⟨_, rfl⟩
    have hb2 := hb.symm
    rw [← hb] at HV2
    clear h h1 HV hb
    go_enter Tryd.func18, Tryd.ntmps18
    go_wp2_with fail
    go_ret
    exact ⟨ret_bool (by rw [HV2.out]), Below.refl _ _⟩
set_option maxHeartbeats 1600000 in
theorem prefixes_any (kind : UInt64) (p : Pf) (m : Int) (w : World) (hm : MaxAt m w) : Calls Tryd.prog 40 #[.int .u64 (kind.toNat : Int), Pfx.encP p] w fun e w' => e = .returned (.tuple #[.string (poolsR kind p).1, .string (poolsR kind p).2]) ∧ Below w.heap.size w w' := by
  have HM := Lib.hid hm
  have HB := Lib.hid (show Below w.heap.size w (w.alloc (boxF p)) from (Below.refl _ _).alloc (Nat.le_refl _) _)
  have HX := Lib.hid (heap_alloc_new w (boxF p))
  have HN := Lib.hid (fun (W : World) => show Calls Tryd.prog 50 #[.int .u64 (kind.toNat : Int)] W (fun e w' => e = .returned (.agg #[.bool false, .string ⟨#[]⟩, .int .u64 (kind.toNat : Int)]) ∧ Below W.heap.size W w') from num_any kind W)
  have HRT := Lib.hid (Pfx.rightP_any p)
  have HPX := Lib.hid (fun (W : World) (h : MaxAt m W) => prefix_any kind p m W h)
  have HV := Lib.hid (show poolsR kind p = (if rightP p then keyP kind p else ofBs (key [numP kind]), ofBs (key [numP kind] ++ [3])) from rfl)
  obtain ⟨K1, hK1⟩ : ∃ K, K = ofBs (key [numP kind]) := ⟨_, rfl⟩
  obtain ⟨K2, hK2⟩ : ∃ K, K = ofBs (key [numP kind] ++ [3]) := ⟨_, rfl⟩
  obtain ⟨K3, hK3⟩ : ∃ K, K = keyP kind p := ⟨_, rfl⟩
  have HRG := Lib.hid (fun (W : World) (hm : MaxAt m (W.alloc (.cells #[.bool false, .string ⟨#[]⟩, .int .u64 (kind.toNat : Int)] 86))) => show Calls Tryd.prog 47 #[.slice (some ⟨W.heap.size, 0, none⟩) 1 1] (W.alloc (.cells #[.bool false, .string ⟨#[]⟩, .int .u64 (kind.toNat : Int)] 86)) (fun e w' => e = .returned (.tuple #[.string K1, .string K2]) ∧ Below (W.alloc (.cells #[.bool false, .string ⟨#[]⟩, .int .u64 (kind.toNat : Int)] 86)).heap.size (W.alloc (.cells #[.bool false, .string ⟨#[]⟩, .int .u64 (kind.toNat : Int)] 86)) w') from by
    rw [hK1, hK2]; exact range_any _ [numP kind] m _ (pts_one W (numP kind)) (by simp) (by have := nums_len [kind]; simp at this; omega) hm)
  rw [← hK1, ← hK2, ← hK3] at HV
  rw [← hK3] at HPX
  clear hm hK1 hK2 hK3
  cases hr : rightP p with
  | false =>
    rw [hr] at HRT HV
    have HV2 := Lib.hid (show poolsR kind p = (K1, K2) from HV.out)
    clear hr HV
    obtain ⟨⟨f, hi, lo⟩, n⟩ := p
    go_enter Tryd.func40, Tryd.ntmps40
    go_wp2_with fail
    refine (HN.out _).mono ?_
    rintro e w1 ⟨rfl, hb⟩
    replace HB := Lib.hid (below_step HB.out hb HB.out.size)
    replace HX := Lib.hid (blk_kept hb HX.out)
    replace HX := Lib.hid (blk_alloc HX.out (.cells #[.bool false, .string ⟨#[]⟩, .int .u64 (kind.toNat : Int)] 86))
    replace HB := Lib.hid (below_alloc1 HB.out HB.out.size (.cells #[.bool false, .string ⟨#[]⟩, .int .u64 (kind.toNat : Int)] 86))
    clear hb
    go_wp2_with fail
    refine (HRG.out _ (max_kept HM.out HB.out)).mono ?_
    rintro e w2 ⟨rfl, hb⟩
    replace HB := Lib.hid (below_step HB.out hb HB.out.size)
    replace HX := Lib.hid (blk_kept hb HX.out)
    have y0 : w2.cell? ⟨w.heap.size, 0, none⟩ = some (.int .u8 (f.toNat : Int)) := by rw [blk_cell HX.out]; rfl
    have y1 : w2.cell? ⟨w.heap.size, 1, none⟩ = some (.int .u64 (hi.toNat : Int)) := by rw [blk_cell HX.out]; rfl
    have y2 : w2.cell? ⟨w.heap.size, 2, none⟩ = some (.int .u64 (lo.toNat : Int)) := by rw [blk_cell HX.out]; rfl
    have y3 : w2.cell? ⟨w.heap.size, 3, none⟩ = some (.int .i64 n) := by rw [blk_cell HX.out]; rfl
    clear hb
    go_wp2_with fail
    refine (HRT.out _).mono ?_
    rintro e w3 ⟨rfl, hb⟩
    replace HB := Lib.hid (below_step HB.out hb HB.out.size)
    clear hb y0 y1 y2 y3
    go_wp2_with fail
    exact bodyPost_ret (v := .tuple #[.string K1, .string K2]) (by simp [results, Tryd.results40, go_sem]) rfl ⟨by rw [HV2.out], HB.out⟩
  | true =>
    rw [hr] at HRT HV
    have HV2 := Lib.hid (show poolsR kind p = (K3, K2) from HV.out)
    clear hr HV
    obtain ⟨⟨f, hi, lo⟩, n⟩ := p
    go_enter Tryd.func40, Tryd.ntmps40
    go_wp2_with fail
    refine (HN.out _).mono ?_
    rintro e w1 ⟨rfl, hb⟩
    replace HB := Lib.hid (below_step HB.out hb HB.out.size)
    replace HX := Lib.hid (blk_kept hb HX.out)
    replace HX := Lib.hid (blk_alloc HX.out (.cells #[.bool false, .string ⟨#[]⟩, .int .u64 (kind.toNat : Int)] 86))
    replace HB := Lib.hid (below_alloc1 HB.out HB.out.size (.cells #[.bool false, .string ⟨#[]⟩, .int .u64 (kind.toNat : Int)] 86))
    clear hb
    go_wp2_with fail
    refine (HRG.out _ (max_kept HM.out HB.out)).mono ?_
    rintro e w2 ⟨rfl, hb⟩
    replace HB := Lib.hid (below_step HB.out hb HB.out.size)
    replace HX := Lib.hid (blk_kept hb HX.out)
    have y0 : w2.cell? ⟨w.heap.size, 0, none⟩ = some (.int .u8 (f.toNat : Int)) := by rw [blk_cell HX.out]; rfl
    have y1 : w2.cell? ⟨w.heap.size, 1, none⟩ = some (.int .u64 (hi.toNat : Int)) := by rw [blk_cell HX.out]; rfl
    have y2 : w2.cell? ⟨w.heap.size, 2, none⟩ = some (.int .u64 (lo.toNat : Int)) := by rw [blk_cell HX.out]; rfl
    have y3 : w2.cell? ⟨w.heap.size, 3, none⟩ = some (.int .i64 n) := by rw [blk_cell HX.out]; rfl
    clear hb
    go_wp2_with fail
    refine (HRT.out _).mono ?_
    rintro e w3 ⟨rfl, hb⟩
    replace HB := Lib.hid (below_step HB.out hb HB.out.size)
    replace HX := Lib.hid (blk_kept hb HX.out)
    clear hb y0 y1 y2 y3
    have y0 : w3.cell? ⟨w.heap.size, 0, none⟩ = some (.int .u8 (f.toNat : Int)) := by rw [blk_cell HX.out]; rfl
    have y1 : w3.cell? ⟨w.heap.size, 1, none⟩ = some (.int .u64 (hi.toNat : Int)) := by rw [blk_cell HX.out]; rfl
    have y2 : w3.cell? ⟨w.heap.size, 2, none⟩ = some (.int .u64 (lo.toNat : Int)) := by rw [blk_cell HX.out]; rfl
    have y3 : w3.cell? ⟨w.heap.size, 3, none⟩ = some (.int .i64 n) := by rw [blk_cell HX.out]; rfl
    go_wp2_with fail
    refine (HPX.out _ (max_kept HM.out HB.out)).mono ?_
    rintro e w4 ⟨rfl, hb⟩
    replace HB := Lib.hid (below_step HB.out hb HB.out.size)
    clear hb y0 y1 y2 y3
    go_wp2_with fail
    exact bodyPost_ret (v := .tuple #[.string K3, .string K2]) (by simp [results, Tryd.results40, go_sem]) rfl ⟨by rw [HV2.out], HB.out⟩
set_option maxHeartbeats 800000 in
theorem pools_any (p : Pf) (m : Int) (w : World) (hm : MaxAt m w) : Calls Tryd.prog 14 #[Pfx.encP p] w fun e w' => e = .returned (.tuple #[.string (poolsR 2 p).1, .string (poolsR 2 p).2]) ∧ Below w.heap.size w w' := by
  have HB := Lib.hid (show Below w.heap.size w (w.alloc (boxF p)) from (Below.refl _ _).alloc (Nat.le_refl _) _)
  have HP := Lib.hid (show Calls Tryd.prog 40 #[.int .u64 2, Pfx.encP p] (w.alloc (boxF p)) _ from prefixes_any 2 p m (w.alloc (boxF p)) (max_kept hm HB.out))
  obtain ⟨K1, hK1⟩ : ∃ K, K = (poolsR 2 p).1 := ⟨_, rfl⟩
  obtain ⟨K2, hK2⟩ : ∃ K, K = (poolsR 2 p).2 := ⟨_, rfl⟩
  rw [← hK1, ← hK2] at HP ⊢
  clear hm hK1 hK2
  obtain ⟨⟨f, hi, lo⟩, n⟩ := p
  go_enter Tryd.func14, Tryd.ntmps14
  go_wp2_with fail
  refine HP.out.mono ?_
  rintro e w1 ⟨rfl, hb⟩
  have HB1 := Lib.hid (below_step HB.out hb HB.out.size)
  clear hb
  go_wp2_with fail
  exact bodyPost_ret (v := .tuple #[.string K1, .string K2]) (by simp [results, Tryd.results14, go_sem]) rfl ⟨rfl, HB1.out⟩
set_option maxHeartbeats 800000 in
theorem holds_any (p : Pf) (m : Int) (w : World) (hm : MaxAt m w) : Calls Tryd.prog 15 #[Pfx.encP p] w fun e w' => e = .returned (.tuple #[.string (poolsR 3 p).1, .string (poolsR 3 p).2]) ∧ Below w.heap.size w w' := by
  have HB := Lib.hid (show Below w.heap.size w (w.alloc (boxF p)) from (Below.refl _ _).alloc (Nat.le_refl _) _)
  have HP := Lib.hid (show Calls Tryd.prog 40 #[.int .u64 3, Pfx.encP p] (w.alloc (boxF p)) _ from prefixes_any 3 p m (w.alloc (boxF p)) (max_kept hm HB.out))
  obtain ⟨K1, hK1⟩ : ∃ K, K = (poolsR 3 p).1 := ⟨_, rfl⟩
  obtain ⟨K2, hK2⟩ : ∃ K, K = (poolsR 3 p).2 := ⟨_, rfl⟩
  rw [← hK1, ← hK2] at HP ⊢
  clear hm hK1 hK2
  obtain ⟨⟨f, hi, lo⟩, n⟩ := p
  go_enter Tryd.func15, Tryd.ntmps15
  go_wp2_with fail
  refine HP.out.mono ?_
  rintro e w1 ⟨rfl, hb⟩
  have HB1 := Lib.hid (below_step HB.out hb HB.out.size)
  clear hb
  go_wp2_with fail
  exact bodyPost_ret (v := .tuple #[.string K1, .string K2]) (by simp [results, Tryd.results15, go_sem]) rfl ⟨rfl, HB1.out⟩
end Go.Proofs.Tryd.Rows
