/- The document's Halves. -/
import Derived.Test.YtmjjhnfdpiclfaaGreatDoorDq1
set_option linter.unusedVariables false
set_option linter.unusedSimpArgs false
set_option maxRecDepth 100000
namespace Go.Proofs.Tryz.Cd
open Go.RowKit Go.Cph Go.Cph.Tx Go.Cph.Px Go.Cph.Cv Go.Proofs.Tryz.Tx Go.Proofs.Tryz.Pfx
open Go.Cph.Ok (ofBs)
open Go.Proofs.Tryz.Rows (boxZ boxZR)
theorem halves_doc {p : Pf} (h : Rt p) (hb : p.2 ≠ width p.1.1) : ∃ Y : Ad, halvesP p = ((p.1, p.2 + 1), (Y, p.2 + 1), true) ∧ fromB p.1.1 (bytesR ((rowA p.1).set p.2.toNat 1)) = Y ∧ fromOk p.1.1 ((rowA p.1).length / 8) = true ∧ p.2.toNat < (rowA p.1).length := by
  obtain ⟨x, y, k, e, H⟩ := halves_some h hb
  obtain ⟨h1, h2, h3⟩ := half_row H
  refine ⟨y.1, ?_, h1, h2, h3⟩
  have hx : x = (p.1, p.2 + 1) := Prod.ext (by rw [H.x]; exact ofNum_self) H.bits.1
  have hy : y = (y.1, p.2 + 1) := Prod.ext rfl H.bits.2
  rw [e, hx, ← hy]
def HalfC (r q : Bool) (h : Pf × Pf × Bool) (P : Prop) : Prop := (r = false ∧ h = (zeroP, zeroP, false)) ∨ (r = true ∧ q = true ∧ h = (zeroP, zeroP, false)) ∨ (r = true ∧ q = false ∧ P)
theorem half_split (p : Pf) {n : Nat} (hn : n = (rowA p.1).length) : HalfC (rightP p) (p.2 == (n : Int)) (halvesP p) (∃ (k : Nat) (Y : Ad), p.2 = (k : Int) ∧ k < n ∧ n ≤ 128 ∧ halvesP p = ((p.1, p.2 + 1), (Y, p.2 + 1), true) ∧ fromB p.1.1 (bytesR ((rowA p.1).set k 1)) = Y ∧ fromOk p.1.1 (n / 8) = true) := by
  unfold HalfC
  cases hr : rightP p with
  | false => exact .inl ⟨rfl, halves_none (.inl hr)⟩
  | true =>
    have h := rightP_iff.1 hr
    have hw : n = wid p.1 := by rw [hn, row_length h.ad]
    have hw2 := width_wid p.1
    have hw3 : wid p.1 ≤ 128 := by unfold wid; split <;> omega
    right
    by_cases hb : p.2 = width p.1.1
    · exact .inl ⟨rfl, by simp; omega, halves_none (.inr hb)⟩
    · obtain ⟨Y, h1, h2, h3, h4⟩ := halves_doc h hb
      have := h.lo
      exact .inr ⟨rfl, by simp; omega, p.2.toNat, Y, by omega, by omega, by omega, h1, h2, by rw [hn]; exact h3⟩
theorem set1_far {W : World} {g c i : Nat} {o : Obj} (h : W.heap[c]? = some o) (hne : c ≠ g) (v : Value) : (W.setCell ⟨g, i, none⟩ v).heap[c]? = some o := by
  rw [blk_set_other hne]; exact h
set_option maxHeartbeats 8000000 in
theorem rhalves (p : Pf) (w : World) : Calls Tryz.prog 16 #[encP p] w (HalvesPost (halvesP p) w) := by
  have HR := Lib.hid (fun W => rrightP p W)
  have HRW := Lib.hid (fun W => rrow p.1 W)
  have HOF := Lib.hid (fun v row W h1 h2 h3 => rof p.1.1 v row W h1 h2 h3)
  obtain ⟨n, hn⟩ : ∃ n, n = (rowA p.1).length := ⟨_, rfl⟩
  have HN := Lib.hid hn
  have HF := Lib.hid (half_split p hn)
  unfold HalfC at HF
  obtain ⟨hv, hhv⟩ : ∃ h, h = halvesP p := ⟨_, rfl⟩
  rw [← hhv] at HF ⊢
  obtain ⟨R, hR⟩ : ∃ R, R = rowA p.1 := ⟨_, rfl⟩
  rw [← hR] at HN HRW HF
  obtain ⟨r, hr⟩ : ∃ r, r = rightP p := ⟨_, rfl⟩
  rw [← hr] at HR HF
  clear hn hhv hR hr
  obtain ⟨⟨f, x, y⟩, b⟩ := p
  have HXp1 := Lib.hid (heap_alloc_new w (boxRP ((f, x, y), b)))
  have HW1 := Lib.hid (show Below w.heap.size w (w.alloc (boxRP ((f, x, y), b))) from (Below.refl _ _).alloc (Nat.le_refl _) _)
  have HXp2 := Lib.hid (blk_alloc HXp1.out boxZRP)
  have hxu := heap_alloc_new (w.alloc (boxRP ((f, x, y), b))) boxZRP
  simp only [World.size_alloc] at hxu
  have HXu2 := Lib.hid hxu
  clear hxu
  have HW2 := Lib.hid (show Below w.heap.size w ((w.alloc (boxRP ((f, x, y), b))).alloc boxZRP) from HW1.out.alloc HW1.out.size _)
  have HXp3 := Lib.hid (blk_alloc HXp2.out boxZRP)
  have HXu3 := Lib.hid (blk_alloc HXu2.out boxZRP)
  have hxv := heap_alloc_new ((w.alloc (boxRP ((f, x, y), b))).alloc boxZRP) boxZRP
  simp only [World.size_alloc] at hxv
  have HXv3 := Lib.hid hxv
  clear hxv
  have HW3 := Lib.hid (show Below w.heap.size w (((w.alloc (boxRP ((f, x, y), b))).alloc boxZRP).alloc boxZRP) from HW2.out.alloc HW2.out.size _)
  go_enter Tryz.func16, Tryz.ntmps16
  obtain ⟨p0, p1, p2, p3⟩ := boxRP_at HXp3.out
  go_wp2_with fail
  obtain ⟨v4, hv4⟩ : ∃ v4, v4 = (((w.alloc (boxRP ((f, x, y), b))).alloc boxZRP).alloc boxZRP) := ⟨_, rfl⟩
  rw [← hv4] at HXp3 HXu3 HXv3 HW3 ⊢
  clear hv4
  refine (HRW.out _).mono ?_
  rintro e w1 ⟨rv, rfl, ho, hb⟩
  obtain ⟨ao, cap, rfl⟩ := owns_slice1 ho
  rw [← HN.out] at ho ⊢
  have HO1 := Lib.hid ho
  have HB1 := Lib.hid hb
  clear ho
  clear p0 p1 p2 p3
  have HXp5 := Lib.hid (blk_kept hb HXp3.out)
  have HXu5 := Lib.hid (blk_kept hb HXu3.out)
  have HXv5 := Lib.hid (blk_kept hb HXv3.out)
  have HW5 := Lib.hid (below_step HW3.out hb HW3.out.size)
  clear hb
  rcases HF.out with ⟨rfl, hz⟩ | ⟨rfl, hq, hz⟩ | ⟨rfl, hq, k, Y, rfl, h1, h2, hz, h3, h4⟩
  · have HV := Lib.hid hz
    clear hz
    obtain ⟨p0, p1, p2, p3⟩ := boxRP_at HXp5.out
    go_wp2_with fail
    refine (HR.out _).mono ?_
    rintro e v6 ⟨rfl, hb⟩
    clear p0 p1 p2 p3
    have HXp7 := Lib.hid (blk_kept hb HXp5.out)
    have HXu7 := Lib.hid (blk_kept hb HXu5.out)
    have HXv7 := Lib.hid (blk_kept hb HXv5.out)
    have HW7 := Lib.hid (below_step HW5.out hb HW5.out.size)
    clear hb
    obtain ⟨u0, u1, u2, u3⟩ := boxZRP_at HXu7.out
    obtain ⟨uf0, uf1, uf2, uf3⟩ := boxZRP_free HXu7.out
    obtain ⟨v0, v1, v2, v3⟩ := boxZRP_at HXv7.out
    obtain ⟨vf0, vf1, vf2, vf3⟩ := boxZRP_free HXv7.out
    go_wp2_with fail
    obtain ⟨X8, hX8⟩ : ∃ X8, X8 = ((((((((v6.setCell ⟨w.heap.size + 1, 0, none⟩ (.int .u8 0)).setCell ⟨w.heap.size + 1, 1, none⟩ (.int .u64 0)).setCell ⟨w.heap.size + 1, 2, none⟩ (.int .u64 0)).setCell ⟨w.heap.size + 1, 3, none⟩ (.int .i64 0)).setCell ⟨w.heap.size + 1 + 1, 0, none⟩ (.int .u8 0)).setCell ⟨w.heap.size + 1 + 1, 1, none⟩ (.int .u64 0)).setCell ⟨w.heap.size + 1 + 1, 2, none⟩ (.int .u64 0)).setCell ⟨w.heap.size + 1 + 1, 3, none⟩ (.int .i64 0)) := ⟨_, rfl⟩
    have hHQ9 : X8.heap[w.heap.size + 1]? = some boxZRP := by rw [hX8]; exact set4_far (set4_heap HXu7.out _ _ _ _) (Nat.ne_of_lt (Nat.lt_succ_self _)) _ _ _ _
    have hHS9 : X8.heap[w.heap.size + 1 + 1]? = some boxZRP := by rw [hX8]; exact set4_heap (set4_far HXv7.out (Nat.ne_of_gt (Nat.lt_succ_self _)) _ _ _ _) _ _ _ _
    have hB8 : Below w.heap.size w X8 := by rw [hX8]; exact set4 (set4 HW7.out (Nat.le_succ _) _ _ _ _) (Nat.le_trans (Nat.le_succ _) (Nat.le_succ _)) _ _ _ _
    rw [← hX8]
    clear hX8
    obtain ⟨X9, rfl⟩ : ∃ X9, X9 = X8 := ⟨_, rfl⟩
    have HQ9 := Lib.hid hHQ9
    have HS9 := Lib.hid hHS9
    have HB9 := Lib.hid hB8
    clear hB8 hHQ9 hHS9
    clear u0 u1 u2 u3 uf0 uf1 uf2 uf3 v0 v1 v2 v3 vf0 vf1 vf2 vf3
    obtain ⟨q0, q1, q2, q3⟩ := boxZRP_at HQ9.out
    obtain ⟨s0, s1, s2, s3⟩ := boxZRP_at HS9.out
    exact bodyPost_ret (v := .tuple #[.agg #[.int .u8 0, .int .u64 0, .int .u64 0, .int .i64 0], .agg #[.int .u8 0, .int .u64 0, .int .u64 0, .int .i64 0], .bool false]) (by simp [results, Tryz.results16, go_sem, q0, q1, q2, q3, s0, s1, s2, s3]) rfl ⟨by rw [HV.out]; rfl, HB9.out⟩
  · have HV := Lib.hid hz
    clear hz
    obtain ⟨p0, p1, p2, p3⟩ := boxRP_at HXp5.out
    go_wp2_with fail
    refine (HR.out _).mono ?_
    rintro e v8 ⟨rfl, hb⟩
    clear p0 p1 p2 p3
    have HXp9 := Lib.hid (blk_kept hb HXp5.out)
    have HXu9 := Lib.hid (blk_kept hb HXu5.out)
    have HXv9 := Lib.hid (blk_kept hb HXv5.out)
    have HW9 := Lib.hid (below_step HW5.out hb HW5.out.size)
    clear hb
    obtain ⟨p0, p1, p2, p3⟩ := boxRP_at HXp9.out
    obtain ⟨u0, u1, u2, u3⟩ := boxZRP_at HXu9.out
    obtain ⟨uf0, uf1, uf2, uf3⟩ := boxZRP_free HXu9.out
    obtain ⟨v0, v1, v2, v3⟩ := boxZRP_at HXv9.out
    obtain ⟨vf0, vf1, vf2, vf3⟩ := boxZRP_free HXv9.out
    go_wp2_with fail
    obtain ⟨X8, hX8⟩ : ∃ X8, X8 = ((((((((v8.setCell ⟨w.heap.size + 1, 0, none⟩ (.int .u8 0)).setCell ⟨w.heap.size + 1, 1, none⟩ (.int .u64 0)).setCell ⟨w.heap.size + 1, 2, none⟩ (.int .u64 0)).setCell ⟨w.heap.size + 1, 3, none⟩ (.int .i64 0)).setCell ⟨w.heap.size + 1 + 1, 0, none⟩ (.int .u8 0)).setCell ⟨w.heap.size + 1 + 1, 1, none⟩ (.int .u64 0)).setCell ⟨w.heap.size + 1 + 1, 2, none⟩ (.int .u64 0)).setCell ⟨w.heap.size + 1 + 1, 3, none⟩ (.int .i64 0)) := ⟨_, rfl⟩
    have hHQ9 : X8.heap[w.heap.size + 1]? = some boxZRP := by rw [hX8]; exact set4_far (set4_heap HXu9.out _ _ _ _) (Nat.ne_of_lt (Nat.lt_succ_self _)) _ _ _ _
    have hHS9 : X8.heap[w.heap.size + 1 + 1]? = some boxZRP := by rw [hX8]; exact set4_heap (set4_far HXv9.out (Nat.ne_of_gt (Nat.lt_succ_self _)) _ _ _ _) _ _ _ _
    have hB8 : Below w.heap.size w X8 := by rw [hX8]; exact set4 (set4 HW9.out (Nat.le_succ _) _ _ _ _) (Nat.le_trans (Nat.le_succ _) (Nat.le_succ _)) _ _ _ _
    rw [← hX8]
    clear hX8
    obtain ⟨X9, rfl⟩ : ∃ X9, X9 = X8 := ⟨_, rfl⟩
    have HQ9 := Lib.hid hHQ9
    have HS9 := Lib.hid hHS9
    have HB9 := Lib.hid hB8
    clear hB8 hHQ9 hHS9
    clear p0 p1 p2 p3 u0 u1 u2 u3 uf0 uf1 uf2 uf3 v0 v1 v2 v3 vf0 vf1 vf2 vf3
    obtain ⟨q0, q1, q2, q3⟩ := boxZRP_at HQ9.out
    obtain ⟨s0, s1, s2, s3⟩ := boxZRP_at HS9.out
    exact bodyPost_ret (v := .tuple #[.agg #[.int .u8 0, .int .u64 0, .int .u64 0, .int .i64 0], .agg #[.int .u8 0, .int .u64 0, .int .u64 0, .int .i64 0], .bool false]) (by simp [results, Tryz.results16, go_sem, q0, q1, q2, q3, s0, s1, s2, s3]) rfl ⟨by rw [HV.out]; rfl, HB9.out⟩
  · have HV := Lib.hid hz
    have HKN := Lib.hid h1
    have HNS := Lib.hid h2
    have HFB := Lib.hid h3
    have HOK := Lib.hid h4
    clear hz h2 h3 h4 h1
    obtain ⟨p0, p1, p2, p3⟩ := boxRP_at HXp5.out
    go_wp2_with fail
    refine (HR.out _).mono ?_
    rintro e w2 ⟨rfl, hb⟩
    have HO2 := Lib.hid (row_kept1 HO1.out fun q hq => hb.block q (HO1.out.lt q hq).2)
    clear p0 p1 p2 p3
    have HXp10 := Lib.hid (blk_kept hb HXp5.out)
    have HXu10 := Lib.hid (blk_kept hb HXu5.out)
    have HXv10 := Lib.hid (blk_kept hb HXv5.out)
    have HW10 := Lib.hid (below_step HW5.out hb HW5.out.size)
    clear hb
    obtain ⟨g, gc, hgv, hgb, hgl, hgc, hcell, hfz⟩ := owns_shape HO2.out (by have := HKN.out; omega)
    cases hgv
    have HG0 := Lib.hid (show w.heap.size + 1 + 1 < g from Nat.lt_of_lt_of_le (blk_lt HXv3.out) hgb)
    have hkn : (k : Int) < (n : Int) := by have := HKN.out; omega
    have hci : ∃ u, w2.cell? ⟨g, k, none⟩ = some u := by
      rw [hcell k (by have := HKN.out; omega)]
      exact ⟨_, List.getElem?_eq_getElem (by rw [flat_length encB_len, ← HN.out]; have := HKN.out; omega)⟩
    obtain ⟨u, hu⟩ := hci
    have f0 := hfz k
    have HGE := Lib.hid hgb
    have hwk : IntKind.i64.wrap ((k : Int) + 1) = (k : Int) + 1 := by have := HKN.out; have := HNS.out; rw [IntKind.wrap_i64]; omega
    clear hcell hfz hgb hgl hgc
    have HST := Lib.hid (HO2.out.stored k (.int .u8 1)).1
    have HN2 := Lib.hid (show (R.flatMap encB).set k (.int .u8 1) = (R.set k 1).flatMap encB from flat_setB R k (by rw [← HN.out]; exact HKN.out) 1)
    obtain ⟨p0, p1, p2, p3⟩ := boxRP_at HXp10.out
    go_upto_region 5 with (fail)
    clear hkn hu f0
    clear p0 p1 p2 p3
    obtain ⟨X8, hX8⟩ : ∃ X8, X8 = (w2.setCell ⟨g, k, none⟩ (.int .u8 1)) := ⟨_, rfl⟩
    have hHP9 : X8.heap[w.heap.size]? = some (boxRP ((f, x, y), (k : Int))) := by rw [hX8]; exact set1_far HXp10.out (by have := HG0.out; omega) _
    have hHU9 : X8.heap[w.heap.size + 1]? = some boxZRP := by rw [hX8]; exact set1_far HXu10.out (by have := HG0.out; omega) _
    have hHV9 : X8.heap[w.heap.size + 1 + 1]? = some boxZRP := by rw [hX8]; exact set1_far HXv10.out (by have := HG0.out; omega) _
    have hB8 : Below w.heap.size w X8 := by rw [hX8]; exact bl_set HW10.out (by show w.heap.size ≤ g; have := HG0.out; omega) _
    rw [← hX8] at HST
    rw [← hX8]
    clear hX8
    obtain ⟨X9, rfl⟩ : ∃ X9, X9 = X8 := ⟨_, rfl⟩
    have HP9 := Lib.hid hHP9
    have HU9 := Lib.hid hHU9
    have HV9 := Lib.hid hHV9
    have HB9 := Lib.hid hB8
    clear hB8 hHP9 hHU9 hHV9
    have HRO := Lib.hid (show ∀ W, W.heap[g]? = X9.heap[g]? → Calls Tryz.prog 49 #[.int .u8 (f.toNat : Int), .slice (some ⟨g, 0, none⟩) n cap] W fun e w' => e = .returned (encA Y) ∧ Below W.heap.size W w' from fun W h => by
      have h1 := row_kept1 HST.out (w' := W) (fun q hq => by cases hq; exact h)
      rw [HN2.out] at h1
      have h2 : BsAt W (.slice (some ⟨g, 0, none⟩) n cap) (R.set k 1) := by
        show Seg _ _ _ (R.set k 1).length _
        rw [List.length_set, ← HN.out]
        exact Seg.of_owns h1
      have h3 := HOF.out _ _ W h2 (by rw [List.length_set, ← HN.out]; have := HNS.out; omega) (by rw [List.length_set, ← HN.out]; exact HOK.out)
      rw [← HFB.out]
      exact h3)
    obtain ⟨fY, xY, yY⟩ := Y
    go_cut [4] (fun s4 W => s4 = .bool true ∧ W.heap[w.heap.size + 1]? = some (boxRP ((f, x, y), (k : Int) + 1)) ∧ W.heap[w.heap.size + 1 + 1]? = some (boxRP ((fY, xY, yY), (k : Int) + 1)) ∧ Below w.heap.size w W)
    case first =>
      have HLT := Lib.hid (show w.heap.size + 1 ≤ X9.heap.size from blk_lt HP9.out)
      have HKP := Lib.hid (show ∀ W, Below (w.heap.size + 1) X9 W → W.cell? ⟨w.heap.size, 0, none⟩ = some (.int .u8 (f.toNat : Int)) ∧ W.cell? ⟨w.heap.size, 1, none⟩ = some (.int .u64 (x.toNat : Int)) ∧ W.cell? ⟨w.heap.size, 2, none⟩ = some (.int .u64 (y.toNat : Int)) ∧ W.cell? ⟨w.heap.size, 3, none⟩ = some (.int .i64 (k : Int)) from fun W h => boxRP_at (blk_below h HP9.out (Nat.lt_succ_self _)))
      have HS0 := Lib.hid (show Below X9.heap.size X9 X9 from Below.refl _ _)
      have HRD := Lib.hid (HRO.out X9.drew rfl)
      clear HRO HOF
      go_region_held3 (fun W => W.cell? ⟨w.heap.size, 0, none⟩ = some (.int .u8 (f.toNat : Int)) ∧ W.cell? ⟨w.heap.size, 1, none⟩ = some (.int .u64 (x.toNat : Int)) ∧ W.cell? ⟨w.heap.size, 2, none⟩ = some (.int .u64 (y.toNat : Int)) ∧ W.cell? ⟨w.heap.size, 3, none⟩ = some (.int .i64 (k : Int))) ((refine HKP.out _ ?_; (repeat (first | (with_reducible refine bs ?_ (by first | exact Nat.le_refl _ | exact Nat.le_succ _) _) | (with_reducible refine bd ?_) | (with_reducible exact bm B1.out HLT.out) | (with_reducible exact bm HS0.out HLT.out))); done))
        ((go_at_call 49; (with_reducible refine HRD.out.mono ?_); rintro e u1 ⟨rfl, hb⟩; (have B1 := Lib.hid (show Below X9.heap.size X9 u1 from by first | exact below_step HS0.out hb HS0.out.size | exact below_step HS0.out.drew hb HS0.out.drew.size)); (have U1 := Lib.hid (blk_kept B1.out HU9.out)); (have V1 := Lib.hid (blk_kept B1.out HV9.out)); (obtain ⟨a0, a1, a2, a3⟩ := boxZRP_at U1.out); (obtain ⟨b0, b1, b2, b3⟩ := boxZRP_at V1.out); (obtain ⟨a4, a5, a6, a7⟩ := boxZRP_free U1.out); (obtain ⟨b4, b5, b6, b7⟩ := boxZRP_free V1.out); clear hb))
      all_goals go_wp2_with fail
      all_goals go_meet
      all_goals case rel =>
        refine ⟨rfl, ?_, ?_, ?_⟩
        · first
            | exact set4_far (set4_heap U1.out _ _ _ _) (Nat.ne_of_lt (Nat.lt_succ_self _)) _ _ _ _
            | exact set4_heap (set4_far U1.out (Nat.ne_of_lt (Nat.lt_succ_self _)) _ _ _ _) _ _ _ _
        · first
            | exact set4_heap (set4_far V1.out (Nat.ne_of_gt (Nat.lt_succ_self _)) _ _ _ _) _ _ _ _
            | exact set4_far (set4_heap V1.out _ _ _ _) (Nat.ne_of_gt (Nat.lt_succ_self _)) _ _ _ _
        · first
            | exact set4 (set4 (below_step HB9.out B1.out HB9.out.size) (Nat.le_succ _) _ _ _ _) (Nat.le_trans (Nat.le_succ _) (Nat.le_succ _)) _ _ _ _
            | exact set4 (set4 (below_step HB9.out B1.out HB9.out.size) (Nat.le_trans (Nat.le_succ _) (Nat.le_succ _)) _ _ _ _) (Nat.le_succ _) _ _ _ _
    case rest =>
      obtain ⟨w5, hw5⟩ : ∃ w5, w5 = wc := ⟨_, rfl⟩
      subst hw5
      obtain ⟨rfl, hx1, hy1, hb1⟩ := hcut
      have HXX := Lib.hid hx1
      have HYY := Lib.hid hy1
      have HBB := Lib.hid hb1
      clear hx1 hy1 hb1
      obtain ⟨q0, q1, q2, q3⟩ := boxRP_at HXX.out
      obtain ⟨s0, s1, s2, s3⟩ := boxRP_at HYY.out
      go_wp2_with fail
      exact bodyPost_ret (v := .tuple #[.agg #[.int .u8 (f.toNat : Int), .int .u64 (x.toNat : Int), .int .u64 (y.toNat : Int), .int .i64 ((k : Int) + 1)], .agg #[.int .u8 (fY.toNat : Int), .int .u64 (xY.toNat : Int), .int .u64 (yY.toNat : Int), .int .i64 ((k : Int) + 1)], .bool true]) (by simp [results, Tryz.results16, go_sem, q0, q1, q2, q3, s0, s1, s2, s3]) rfl ⟨by rw [HV.out], HBB.out⟩
end Go.Proofs.Tryz.Cd
