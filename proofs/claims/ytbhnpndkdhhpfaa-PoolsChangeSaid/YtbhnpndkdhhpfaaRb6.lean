/- The document's prefixes: an address of bits; filled. -/
import Derived.Test.YtbhnpndkdhhpfaaRb5
import Derived.Laws.OwnMore
set_option linter.unusedVariables false
set_option linter.unusedSimpArgs false
namespace Go.Proofs.Try.Pfx
open Go.RowKit Go.Cph Go.Cph.Px

theorem of_step (c b : UInt8) (n : Nat) (h : c = UInt8.ofNat n) : ∃ y : Nat, IntKind.u8.wrap (2 * (c.toNat : Int)) = (y : Int) ∧ IntKind.u8.wrap ((y : Int) + (b.toNat : Int)) = ((UInt8.ofNat (2 * n + b.toNat)).toNat : Int) := by
  refine ⟨2 * n % 256, ?_, ?_⟩
  · rw [h, UInt8.toNat_ofNat', IntKind.wrap_u8]; omega
  · rw [UInt8.toNat_ofNat', IntKind.wrap_u8]; omega
theorem valB_take {row : List UInt8} {i k : Nat} (h : i + k < row.length) : valB ((row.drop i).take (k + 1)) = 2 * valB ((row.drop i).take k) + (row[i + k]).toNat := by
  rw [List.take_succ_eq_append_getElem (by simp; omega), valB_snoc]
  simp
set_option maxRecDepth 100000 in
set_option maxHeartbeats 4000000 in
theorem rof (fam : UInt8) (v : Value) (row : List UInt8) (w : World) (h : BsAt w v row) (hn : row.length ≤ 1000) (hok : fromOk fam (row.length / 8) = true) :
    Calls Try.prog 73 #[.int .u8 (fam.toNat : Int), v] w fun e w' => e = .returned (encA (fromB fam (bytesR row))) ∧ Below w.heap.size w w' := by
  obtain ⟨ao, cap, hv⟩ := elems_slice h
  subst hv
  have hbl : (bytesR row).length = row.length / 8 := by simp [bytesR]
  have HFR := Lib.hid (fun w v (h : BsAt w v (bytesR row)) => from_ok fam v (bytesR row) w h (by rw [hbl]; exact hok))
  have HV := Lib.hid (h.kept (show Below w.heap.size w (w.alloc (.cells #[.int .u8 0, .int .u64 0, .int .u64 0] 34)) from (Below.refl _ _).alloc (Nat.le_refl _) _))
  have HB0 := Lib.hid (show Below w.heap.size w (w.alloc (.cells #[.int .u8 0, .int .u64 0, .int .u64 0] 34)) from (Below.refl _ _).alloc (Nat.le_refl _) _)
  have HG0 := Lib.hid (heap_alloc_new w (.cells #[.int .u8 0, .int .u64 0, .int .u64 0] 34))
  clear h hok hbl
  go_enter Try.func73, Try.ntmps73
  go_wp2_with fail
  generalize w.alloc (.cells #[.int .u8 0, .int .u64 0, .int .u64 0] 34) = w0 at *
  go_loopw [5, 6, 7] (fun v5 v6 v7 wr => ∃ m i : Nat, Hid (i = 8 * m) ∧ i ≤ row.length ∧ v6 = .int .i64 i ∧ wr.ownsRow w0.heap.size 5 1 v5 m (((List.range m).map (byteAt row)).flatMap encB) ∧ Below w0.heap.size w0 wr) (fun _ v6 _ _ => row.length - (intOf v6).toNat)
  case atStart => exact ⟨0, 0, Lib.hid rfl, Nat.zero_le _, rfl, World.ownsRow_nil _ _ _ _, Below.refl _ _⟩
  case round =>
    obtain ⟨m, i, HI, hi, rfl, ho, hbel⟩ := hrel
    have HO := Lib.hid ho
    have HBE := Lib.hid hbel
    obtain ⟨oo, oc, hov⟩ := owns_slice1 ho
    subst hov
    clear ho hbel
    by_cases hlt : i + 8 ≤ row.length
    · obtain ⟨b, off, cap', hve, hcs⟩ := bs_cells HV.out (by omega)
      cases hve
      have HCS := Lib.hid hcs
      clear hcs
      have m1 : (i : Int) + 8 ≤ (row.length : Int) := by omega
      go_wp2_with fail
      go_loop [7, 8] (fun v7 v8 => ∃ k : Nat, k ≤ 8 ∧ v8 = .int .i64 k ∧ v7 = .int .u8 ((UInt8.ofNat (valB ((row.drop i).take k))).toNat : Int)) (fun _ v8 => 8 - (intOf v8).toNat)
      case atStart => exact ⟨0, by omega, rfl, by simp [valB]⟩
      case round =>
        obtain ⟨k, hk, rfl, rfl⟩ := hrel
        by_cases hk8 : k < 8
        · have hc := cell_kept HBE.out (HCS.out (i + k) (by omega))
          obtain ⟨x, hx⟩ : ∃ x, x = row[i + k]'(by omega) := ⟨_, rfl⟩
          rw [← hx] at hc
          have hvt := valB_take (row := row) (i := i) (k := k) (by omega)
          rw [← hx] at hvt
          obtain ⟨c, hcc⟩ : ∃ c, c = UInt8.ofNat (valB ((row.drop i).take k)) := ⟨_, rfl⟩
          obtain ⟨y, e1, e2⟩ := of_step c x _ hcc
          rw [← hcc, ]
          rw [← hvt] at e2
          obtain ⟨d, hd⟩ : ∃ d, d = UInt8.ofNat (valB ((row.drop i).take (k + 1))) := ⟨_, rfl⟩
          rw [← hd] at e2
          have HD := Lib.hid hd
          clear hx hvt hcc hd
          have n1 : (i : Int) + (k : Int) < (row.length : Int) := by omega
          go_wp2_with fail
          go_round
          case rel => exact ⟨k + 1, by omega, by go_num, by rw [HD.out]⟩
          case measure => simp [intOf]; omega
        · obtain rfl : k = 8 := by omega
          obtain ⟨c, hcc⟩ : ∃ c, c = byteAt row m := ⟨_, rfl⟩
          have hcv : UInt8.ofNat (valB ((row.drop i).take 8)) = c := by rw [hcc, HI.out]; rfl
          rw [hcv]
          have HC := Lib.hid hcc
          have h63 : m + 1 ≤ 1099511627776 := by have := HI.out; omega
          have HLN := Lib.hid h63
          have HSR := Lib.hid HBE.out.size
          clear hcv hcc h63
          go_wp2_with (at_builtin; refine wpList_append1 rfl (.tmp 31) (.tmp 33) 74 rfl w0.heap.size 5 _ 1 1 Try.underlying74 infoB rfl (by decide) _ m (((List.range m).map (byteAt row)).flatMap encB) [.int .u8 (c.toNat : Int)] rfl HO.out _ 1 rfl rfl rfl (by simp [Value.oneCell']) HLN.out (by decide) HSR.out w0.heap.size w0 HBE.out (Nat.le_refl _) ?_; intro v' w' ho hgr hb' hsz'; have HO4 := Lib.hid ho; have HB4 := Lib.hid hb'; clear ho hgr hb' hsz')
          go_roundw
          case rel =>
            refine ⟨m + 1, i + 8, Lib.hid (by have := HI.out; omega), by omega, by go_num, ?_, HB4.out⟩
            have h1 := HO4.out
            rw [List.range_succ, List.map_append, List.flatMap_append]
            rw [HC.out] at h1
            exact h1
          case measure => simp [intOf]; omega
    · have hm8 : m = row.length / 8 := by have := HI.out; omega
      have HX := Lib.hid (show wr.ownsRow w0.heap.size 5 1 (.slice oo m oc) m ((bytesR row).flatMap encB) by have h1 := HO.out; unfold bytesR; rw [← hm8]; exact h1)
      have HL := Lib.hid (show (bytesR row).length = m by simp [bytesR, hm8])
      have HS := Lib.hid (show BsAt wr (.slice oo m oc) (bytesR row) by show Seg _ _ _ (bytesR row).length _; rw [HL.out]; exact Seg.of_owns HX.out)
      have m1 : ¬ (i : Int) + 8 ≤ (row.length : Int) := by omega
      clear hm8
      go_wp2_with fail
      refine (HFR.out _ _ HS.out).mono ?_
      rintro e w3 ⟨rfl, hb⟩
      have hz : w.heap.size < w0.heap.size := blk_lt HG0.out
      have HG3 := Lib.hid (blk_kept hb (blk_below HBE.out HG0.out hz))
      have hb3 := below_step HBE.out hb HBE.out.size
      have HB3 := Lib.hid (HB0.out.trans (hb3.mono (Nat.le_of_lt hz)))
      obtain ⟨⟨f2, hi2, lo2⟩, hA⟩ : ∃ A, A = fromB fam (bytesR row) := ⟨_, rfl⟩
      have HA := Lib.hid hA.symm
      rw [← hA]
      have hz3 : w.heap.size < w3.heap.size := blk_lt HG3.out
      have s0 : w3.cell? ⟨w.heap.size, 0, none⟩ = some (.int .u8 0) := by rw [blk_cell HG3.out]; rfl
      have s1 : w3.cell? ⟨w.heap.size, 1, none⟩ = some (.int .u64 0) := by rw [blk_cell HG3.out]; rfl
      have s2 : w3.cell? ⟨w.heap.size, 2, none⟩ = some (.int .u64 0) := by rw [blk_cell HG3.out]; rfl
      have f0 : w3.frozen? ⟨w.heap.size, 0, none⟩ = false := by rw [blk_frozen HG3.out]; rfl
      have f1 : w3.frozen? ⟨w.heap.size, 1, none⟩ = false := by rw [blk_frozen HG3.out]; rfl
      have f2' : w3.frozen? ⟨w.heap.size, 2, none⟩ = false := by rw [blk_frozen HG3.out]; rfl
      clear hb hb3 hA hz
      go_wp2_with fail
      refine bodyPost_ret (v := encA (f2, hi2, lo2)) (by simp [results, Try.results73, go_sem, s0, s1, s2, hz3]) rfl ⟨by rw [HA.out], ?_⟩
      have h3 := ((HB3.out.setCell (p := ⟨w.heap.size, 0, none⟩) (Nat.le_refl _) (.int .u8 (f2.toNat : Int))).setCell (p := ⟨w.heap.size, 1, none⟩) (Nat.le_refl _) (.int .u64 (hi2.toNat : Int))).setCell (p := ⟨w.heap.size, 2, none⟩) (Nat.le_refl _) (.int .u64 (lo2.toNat : Int))
      exact h3.alloc h3.size _

theorem fill_step {R : List UInt8} {k i : Nat} (b : UInt8) (h1 : k ≤ i) (h2 : i < R.length) :
    (R.take k ++ List.replicate (i - k) b ++ R.drop i).set i b = R.take k ++ List.replicate (i + 1 - k) b ++ R.drop (i + 1) := by
  have hl : (R.take k ++ List.replicate (i - k) b).length = i := by simp; omega
  rw [List.set_append_right _ _ (by omega), hl, Nat.sub_self, List.drop_eq_getElem_cons h2, List.set_cons_zero]
  have e : i + 1 - k = i - k + 1 := by omega
  rw [e, List.replicate_succ']
  simp
theorem flat_setB (l : List UInt8) (i : Nat) (hi : i < l.length) (b : UInt8) : (l.flatMap encB).set i (.int .u8 (b.toNat : Int)) = (l.set i b).flatMap encB := by
  have := flat_set encB_len l i hi 0 (by omega) b (.int .u8 (b.toNat : Int)) rfl
  simpa using this
set_option maxRecDepth 100000 in
set_option maxHeartbeats 4000000 in
theorem rfilled (a : Ad) (k : Nat) (c : UInt8) (w : World) (hr : rightA a = true) (hk : k ≤ wid a) :
    Calls Try.prog 66 #[encA a, .int .i64 (k : Int), .int .u8 (c.toNat : Int)] w fun e w' => e = .returned (encA (fillA a k c)) ∧ Below w.heap.size w w' := by
  have HRW := Lib.hid (fun w => rrow a w)
  have hlen := row_length hr
  obtain ⟨R, hR⟩ : ∃ R, R = rowA a := ⟨_, rfl⟩
  rw [← hR] at HRW hlen
  have hn : R.length ≤ 128 := by rw [hlen]; unfold wid; split <;> omega
  have hkR : k ≤ R.length := by rw [hlen]; exact hk
  have HF := Lib.hid (show fillA a k c = fromB a.1 (bytesR (R.take k ++ List.replicate (R.length - k) c)) by unfold fillA; rw [hR])
  have hok : fromOk a.1 (R.length / 8) = true := by
    rw [hlen]
    unfold fromOk wid
    rcases right_fam hr with h | h <;> rw [h] <;> rfl
  have HOF := Lib.hid (fun v w (h : BsAt w v (R.take k ++ List.replicate (R.length - k) c)) => rof a.1 v _ w h (by simp; omega) (by
    have e : (R.take k ++ List.replicate (R.length - k) c).length = R.length := by simp; omega
    rw [e]; exact hok))
  clear hR hlen hr hk hok
  obtain ⟨f, hi, lo⟩ := a
  have hb0 : Below w.heap.size w ((w.alloc (.cells #[.int .u8 (f.toNat : Int), .int .u64 (hi.toNat : Int), .int .u64 (lo.toNat : Int)] 34)).alloc (.cells #[.int .u8 0, .int .u64 0, .int .u64 0] 34)) := ((Below.refl _ _).alloc (Nat.le_refl _) _).alloc (by simp) _
  have h1 : ((w.alloc (.cells #[.int .u8 (f.toNat : Int), .int .u64 (hi.toNat : Int), .int .u64 (lo.toNat : Int)] 34)).alloc (.cells #[.int .u8 0, .int .u64 0, .int .u64 0] 34)).heap[w.heap.size]? = some (.cells #[.int .u8 (f.toNat : Int), .int .u64 (hi.toNat : Int), .int .u64 (lo.toNat : Int)] 34 (0, 0)) := blk_alloc (heap_alloc_new _ _) _
  have h2 := heap_alloc_new (w.alloc (.cells #[.int .u8 (f.toNat : Int), .int .u64 (hi.toNat : Int), .int .u64 (lo.toNat : Int)] 34)) (.cells #[.int .u8 0, .int .u64 0, .int .u64 0] 34)
  rw [World.size_alloc] at h2
  have H1 := Lib.hid h1
  have H2 := Lib.hid h2
  have HB0 := Lib.hid hb0
  clear h1 h2 hb0
  go_enter Try.func66, Try.ntmps66
  go_wp2_with fail
  generalize ((w.alloc (.cells #[.int .u8 (f.toNat : Int), .int .u64 (hi.toNat : Int), .int .u64 (lo.toNat : Int)] 34)).alloc (.cells #[.int .u8 0, .int .u64 0, .int .u64 0] 34)) = w0 at *
  refine (HRW.out _).mono ?_
  rintro e w1 ⟨rv, rfl, ho, hb⟩
  obtain ⟨ro, rc, hrv⟩ := owns_slice1 ho
  subst hrv
  have HO1 := Lib.hid ho
  have HB1 := Lib.hid hb
  clear ho hb
  go_wp2_with fail
  go_loopw [8] (fun v8 wr => ∃ i : Nat, k ≤ i ∧ i ≤ R.length ∧ v8 = .int .i64 i ∧ wr.ownsRow w0.heap.size 5 1 (.slice ro R.length rc) R.length ((R.take k ++ List.replicate (i - k) c ++ R.drop i).flatMap encB) ∧ Below w0.heap.size w0 wr) (fun v8 _ => R.length - (intOf v8).toNat)
  case atStart => exact ⟨k, Nat.le_refl _, hkR, rfl, by have := HO1.out; simpa using this, HB1.out⟩
  case round =>
    obtain ⟨i, hki, hi2, rfl, ho, hbel⟩ := hrel
    have HO := Lib.hid ho
    have HBE := Lib.hid hbel
    clear ho hbel
    by_cases hlt : i < R.length
    · obtain ⟨g, gc, hgv, hgb, hgl, hgc, hcell, hfz⟩ := owns_shape HO.out (by omega)
      cases hgv
      have HLT := Lib.hid hlt
      have m1 : (i : Int) < (R.length : Int) := by omega
      have hX : i < (R.take k ++ List.replicate (i - k) c ++ R.drop i).length := by simp; omega
      have hci : ∃ u, wr.cell? ⟨g, i, none⟩ = some u := by
        rw [hcell i (by omega)]
        exact ⟨_, List.getElem?_eq_getElem (by rw [flat_length encB_len]; omega)⟩
      obtain ⟨u, hu⟩ := hci
      have f0 := hfz i
      clear hcell hfz
      have HST := Lib.hid (HO.out.stored i (.int .u8 (c.toNat : Int))).1
      have HN := Lib.hid (show ((R.take k ++ List.replicate (i - k) c ++ R.drop i).flatMap encB).set i (.int .u8 (c.toNat : Int)) = (R.take k ++ List.replicate (i + 1 - k) c ++ R.drop (i + 1)).flatMap encB by rw [flat_setB _ i hX, fill_step c hki hlt])
      have HB2 := Lib.hid (HBE.out.setCell (p := ⟨g, i, none⟩) hgb (.int .u8 (c.toNat : Int)))
      go_wp2_with fail
      go_roundw
      case rel => exact ⟨i + 1, by omega, by omega, by go_num, by have := HST.out; rwa [HN.out] at this, HB2.out⟩
      case measure => simp [intOf]; omega
    · obtain rfl : i = R.length := by omega
      have HL := Lib.hid (show (R.take k ++ List.replicate (R.length - k) c).length = R.length by simp; omega)
      have HS := Lib.hid (show BsAt wr (.slice ro R.length rc) (R.take k ++ List.replicate (R.length - k) c) by
        show Seg _ _ _ (R.take k ++ List.replicate (R.length - k) c).length _
        rw [HL.out]
        have := Seg.of_owns HO.out
        simpa using this)
      have hz0 : w.heap.size + 1 < w0.heap.size := blk_lt H2.out
      have HG1 := Lib.hid (blk_below HBE.out H1.out (by omega))
      have HG2 := Lib.hid (blk_below HBE.out H2.out hz0)
      have r0 : wr.cell? ⟨w.heap.size, 0, none⟩ = some (.int .u8 (f.toNat : Int)) := by rw [blk_cell HG1.out]; rfl
      go_wp2_with fail
      refine (HOF.out _ _ HS.out).mono ?_
      rintro e w3 ⟨rfl, hb⟩
      have HG3 := Lib.hid (blk_kept hb HG2.out)
      have hb3 := below_step HBE.out hb HBE.out.size
      have HB3 := Lib.hid (HB0.out.trans (hb3.mono HB0.out.size))
      obtain ⟨⟨f2, hi2, lo2⟩, hA⟩ : ∃ A, A = fromB f (bytesR (R.take k ++ List.replicate (R.length - k) c)) := ⟨_, rfl⟩
      have HA := Lib.hid (HF.out.trans hA.symm)
      rw [← hA]
      have s0 : w3.cell? ⟨w.heap.size + 1, 0, none⟩ = some (.int .u8 0) := by rw [blk_cell HG3.out]; rfl
      have s1 : w3.cell? ⟨w.heap.size + 1, 1, none⟩ = some (.int .u64 0) := by rw [blk_cell HG3.out]; rfl
      have s2 : w3.cell? ⟨w.heap.size + 1, 2, none⟩ = some (.int .u64 0) := by rw [blk_cell HG3.out]; rfl
      have f0 : w3.frozen? ⟨w.heap.size + 1, 0, none⟩ = false := by rw [blk_frozen HG3.out]; rfl
      have f1 : w3.frozen? ⟨w.heap.size + 1, 1, none⟩ = false := by rw [blk_frozen HG3.out]; rfl
      have f2' : w3.frozen? ⟨w.heap.size + 1, 2, none⟩ = false := by rw [blk_frozen HG3.out]; rfl
      clear hb hb3 hA hz0 r0
      go_wp2_with fail
      refine bodyPost_ret (v := encA (f2, hi2, lo2)) (by simp [results, Try.results66, go_sem, s0, s1, s2]) rfl ⟨by rw [HA.out], ?_⟩
      exact ((HB3.out.setCell (p := ⟨w.heap.size + 1, 0, none⟩) (by simp) _).setCell (p := ⟨w.heap.size + 1, 1, none⟩) (by simp) _).setCell (p := ⟨w.heap.size + 1, 2, none⟩) (by simp) _
end Go.Proofs.Try.Pfx
