/- The document's prefixes: of bits, filled, has, last, within, ahead (turned from pools' Rb6, Rb7, Rb8). -/
import Derived.Test.YtmjjhnfdpiclfaaGreatDoorMC
import Derived.Test.YtmjjhnfdpiclfaaGreatDoorMW
import Derived.Laws.OwnMore
set_option linter.unusedVariables false
set_option linter.unusedSimpArgs false
namespace Go.Proofs.Tryz.Pfx
open Go.RowKit Go.Cph Go.Cph.Px

theorem of_step (c b : UInt8) (n : Nat) (h : c = UInt8.ofNat n) : ∃ y : Nat, IntKind.u8.wrap (2 * (c.toNat : Int)) = (y : Int) ∧ IntKind.u8.wrap ((y : Int) + (b.toNat : Int)) = ((UInt8.ofNat (2 * n + b.toNat)).toNat : Int) := by
  refine ⟨2 * n % 256, ?_, ?_⟩
  · rw [h, UInt8.toNat_ofNat', IntKind.wrap_u8]; omega
  · rw [UInt8.toNat_ofNat', IntKind.wrap_u8]; omega
theorem valB_take {row : List UInt8} {i k : Nat} (h : i + k < row.length) : valB ((row.drop i).take (k + 1)) = 2 * valB ((row.drop i).take k) + (row[i + k]).toNat := by
  rw [List.take_succ_eq_append_getElem (by simp; omega), valB_snoc]
  simp
set_option maxRecDepth 100000 in
set_option maxHeartbeats 4000000 in
theorem rof (fam : UInt8) (v : Value) (row : List UInt8) (w : World) (h : BsAt w v row) (hn : row.length ≤ 1000) (hok : fromOk fam (row.length / 8) = true) :
    Calls Tryz.prog 49 #[.int .u8 (fam.toNat : Int), v] w fun e w' => e = .returned (encA (fromB fam (bytesR row))) ∧ Below w.heap.size w w' := by
  obtain ⟨ao, cap, hv⟩ := elems_slice h
  subst hv
  have hbl : (bytesR row).length = row.length / 8 := by simp [bytesR]
  have HFR := Lib.hid (fun w v (h : BsAt w v (bytesR row)) => from_ok fam v (bytesR row) w h (by rw [hbl]; exact hok))
  have HV := Lib.hid (h.kept (show Below w.heap.size w (w.alloc (.cells #[.int .u8 0, .int .u64 0, .int .u64 0] 30)) from (Below.refl _ _).alloc (Nat.le_refl _) _))
  have HB0 := Lib.hid (show Below w.heap.size w (w.alloc (.cells #[.int .u8 0, .int .u64 0, .int .u64 0] 30)) from (Below.refl _ _).alloc (Nat.le_refl _) _)
  have HG0 := Lib.hid (heap_alloc_new w (.cells #[.int .u8 0, .int .u64 0, .int .u64 0] 30))
  clear h hok hbl
  go_enter Tryz.func49, Tryz.ntmps49
  go_wp2_with fail
  generalize w.alloc (.cells #[.int .u8 0, .int .u64 0, .int .u64 0] 30) = w0 at *
  go_loopw [5, 6, 7] (fun v5 v6 v7 wr => ∃ m i : Nat, Hid (i = 8 * m) ∧ i ≤ row.length ∧ v6 = .int .i64 i ∧ wr.ownsRow w0.heap.size 5 1 v5 m (((List.range m).map (byteAt row)).flatMap encB) ∧ Below w0.heap.size w0 wr) (fun _ v6 _ _ => row.length - (intOf v6).toNat)
  case atStart => exact ⟨0, 0, Lib.hid rfl, Nat.zero_le _, rfl, World.ownsRow_nil _ _ _ _, Below.refl _ _⟩
  case round =>
    obtain ⟨m, i, HI, hi, rfl, ho, hbel⟩ := hrel
    have HO := Lib.hid ho
    have HBE := Lib.hid hbel
    obtain ⟨oo, oc, hov⟩ := owns_slice1 ho
    subst hov
    clear ho hbel
    by_cases hlt : i + 8 ≤ row.length
    · obtain ⟨b, off, cap', hve, hcs⟩ := bs_cells HV.out (by omega)
      cases hve
      have HCS := Lib.hid hcs
      clear hcs
      have m1 : (i : Int) + 8 ≤ (row.length : Int) := by omega
      go_wp2_with fail
      go_loop [7, 8] (fun v7 v8 => ∃ k : Nat, k ≤ 8 ∧ v8 = .int .i64 k ∧ v7 = .int .u8 ((UInt8.ofNat (valB ((row.drop i).take k))).toNat : Int)) (fun _ v8 => 8 - (intOf v8).toNat)
      case atStart => exact ⟨0, by omega, rfl, by simp [valB]⟩
      case round =>
        obtain ⟨k, hk, rfl, rfl⟩ := hrel
        by_cases hk8 : k < 8
        · have hc := cell_kept HBE.out (HCS.out (i + k) (by omega))
          obtain ⟨x, hx⟩ : ∃ x, x = row[i + k]'(by omega) := ⟨_, rfl⟩
          rw [← hx] at hc
          have hvt := valB_take (row := row) (i := i) (k := k) (by omega)
          rw [← hx] at hvt
          obtain ⟨c, hcc⟩ : ∃ c, c = UInt8.ofNat (valB ((row.drop i).take k)) := ⟨_, rfl⟩
          obtain ⟨y, e1, e2⟩ := of_step c x _ hcc
          rw [← hcc, ]
          rw [← hvt] at e2
          obtain ⟨d, hd⟩ : ∃ d, d = UInt8.ofNat (valB ((row.drop i).take (k + 1))) := ⟨_, rfl⟩
          rw [← hd] at e2
          have HD := Lib.hid hd
          clear hx hvt hcc hd
          have n1 : (i : Int) + (k : Int) < (row.length : Int) := by omega
          go_wp2_with fail
          go_round
          case rel => exact ⟨k + 1, by omega, by go_num, by rw [HD.out]⟩
          case measure => simp [intOf]; omega
        · obtain rfl : k = 8 := by omega
          obtain ⟨c, hcc⟩ : ∃ c, c = byteAt row m := ⟨_, rfl⟩
          have hcv : UInt8.ofNat (valB ((row.drop i).take 8)) = c := by rw [hcc, HI.out]; rfl
          rw [hcv]
          have HC := Lib.hid hcc
          have h63 : m + 1 ≤ 1099511627776 := by have := HI.out; omega
          have HLN := Lib.hid h63
          have HSR := Lib.hid HBE.out.size
          clear hcv hcc h63
          go_wp2_with (at_builtin; refine wpList_append1 rfl (.tmp 31) (.tmp 33) 63 rfl w0.heap.size 5 _ 1 1 Tryz.underlying63 infoB rfl (by decide) _ m (((List.range m).map (byteAt row)).flatMap encB) [.int .u8 (c.toNat : Int)] rfl HO.out _ 1 rfl rfl rfl (by simp [Value.oneCell']) HLN.out (by decide) HSR.out w0.heap.size w0 HBE.out (Nat.le_refl _) ?_; intro v' w' ho hgr hb' hsz'; have HO4 := Lib.hid ho; have HB4 := Lib.hid hb'; clear ho hgr hb' hsz')
          go_roundw
          case rel =>
            refine ⟨m + 1, i + 8, Lib.hid (by have := HI.out; omega), by omega, by go_num, ?_, HB4.out⟩
            have h1 := HO4.out
            rw [List.range_succ, List.map_append, List.flatMap_append]
            rw [HC.out] at h1
            exact h1
          case measure => simp [intOf]; omega
    · have hm8 : m = row.length / 8 := by have := HI.out; omega
      have HX := Lib.hid (show wr.ownsRow w0.heap.size 5 1 (.slice oo m oc) m ((bytesR row).flatMap encB) by have h1 := HO.out; unfold bytesR; rw [← hm8]; exact h1)
      have HL := Lib.hid (show (bytesR row).length = m by simp [bytesR, hm8])
      have HS := Lib.hid (show BsAt wr (.slice oo m oc) (bytesR row) by show Seg _ _ _ (bytesR row).length _; rw [HL.out]; exact Seg.of_owns HX.out)
      have m1 : ¬ (i : Int) + 8 ≤ (row.length : Int) := by omega
      clear hm8
      go_wp2_with fail
      refine (HFR.out _ _ HS.out).mono ?_
      rintro e w3 ⟨rfl, hb⟩
      have hz : w.heap.size < w0.heap.size := blk_lt HG0.out
      have HG3 := Lib.hid (blk_kept hb (blk_below HBE.out HG0.out hz))
      have hb3 := below_step HBE.out hb HBE.out.size
      have HB3 := Lib.hid (HB0.out.trans (hb3.mono (Nat.le_of_lt hz)))
      obtain ⟨⟨f2, hi2, lo2⟩, hA⟩ : ∃ A, A = fromB fam (bytesR row) := ⟨_, rfl⟩
      have HA := Lib.hid hA.symm
      rw [← hA]
      have hz3 : w.heap.size < w3.heap.size := blk_lt HG3.out
      have s0 : w3.cell? ⟨w.heap.size, 0, none⟩ = some (.int .u8 0) := by rw [blk_cell HG3.out]; rfl
      have s1 : w3.cell? ⟨w.heap.size, 1, none⟩ = some (.int .u64 0) := by rw [blk_cell HG3.out]; rfl
      have s2 : w3.cell? ⟨w.heap.size, 2, none⟩ = some (.int .u64 0) := by rw [blk_cell HG3.out]; rfl
      have f0 : w3.frozen? ⟨w.heap.size, 0, none⟩ = false := by rw [blk_frozen HG3.out]; rfl
      have f1 : w3.frozen? ⟨w.heap.size, 1, none⟩ = false := by rw [blk_frozen HG3.out]; rfl
      have f2' : w3.frozen? ⟨w.heap.size, 2, none⟩ = false := by rw [blk_frozen HG3.out]; rfl
      clear hb hb3 hA hz
      go_wp2_with fail
      refine bodyPost_ret (v := encA (f2, hi2, lo2)) (by simp [results, Tryz.results49, go_sem, s0, s1, s2, hz3]) rfl ⟨by rw [HA.out], ?_⟩
      have h3 := ((HB3.out.setCell (p := ⟨w.heap.size, 0, none⟩) (Nat.le_refl _) (.int .u8 (f2.toNat : Int))).setCell (p := ⟨w.heap.size, 1, none⟩) (Nat.le_refl _) (.int .u64 (hi2.toNat : Int))).setCell (p := ⟨w.heap.size, 2, none⟩) (Nat.le_refl _) (.int .u64 (lo2.toNat : Int))
      exact h3.alloc h3.size _

theorem fill_step {R : List UInt8} {k i : Nat} (b : UInt8) (h1 : k ≤ i) (h2 : i < R.length) :
    (R.take k ++ List.replicate (i - k) b ++ R.drop i).set i b = R.take k ++ List.replicate (i + 1 - k) b ++ R.drop (i + 1) := by
  have hl : (R.take k ++ List.replicate (i - k) b).length = i := by simp; omega
  rw [List.set_append_right _ _ (by omega), hl, Nat.sub_self, List.drop_eq_getElem_cons h2, List.set_cons_zero]
  have e : i + 1 - k = i - k + 1 := by omega
  rw [e, List.replicate_succ']
  simp
theorem flat_setB (l : List UInt8) (i : Nat) (hi : i < l.length) (b : UInt8) : (l.flatMap encB).set i (.int .u8 (b.toNat : Int)) = (l.set i b).flatMap encB := by
  have := flat_set encB_len l i hi 0 (by omega) b (.int .u8 (b.toNat : Int)) rfl
  simpa using this
set_option maxRecDepth 100000 in
set_option maxHeartbeats 4000000 in
theorem rfilled (a : Ad) (k : Nat) (c : UInt8) (w : World) (hr : rightA a = true) (hk : k ≤ wid a) :
    Calls Tryz.prog 34 #[encA a, .int .i64 (k : Int), .int .u8 (c.toNat : Int)] w fun e w' => e = .returned (encA (fillA a k c)) ∧ Below w.heap.size w w' := by
  have HRW := Lib.hid (fun w => rrow a w)
  have hlen := row_length hr
  obtain ⟨R, hR⟩ : ∃ R, R = rowA a := ⟨_, rfl⟩
  rw [← hR] at HRW hlen
  have hn : R.length ≤ 128 := by rw [hlen]; unfold wid; split <;> omega
  have hkR : k ≤ R.length := by rw [hlen]; exact hk
  have HF := Lib.hid (show fillA a k c = fromB a.1 (bytesR (R.take k ++ List.replicate (R.length - k) c)) by unfold fillA; rw [hR])
  have hok : fromOk a.1 (R.length / 8) = true := by
    rw [hlen]
    unfold fromOk wid
    rcases right_fam hr with h | h <;> rw [h] <;> rfl
  have HOF := Lib.hid (fun v w (h : BsAt w v (R.take k ++ List.replicate (R.length - k) c)) => rof a.1 v _ w h (by simp; omega) (by
    have e : (R.take k ++ List.replicate (R.length - k) c).length = R.length := by simp; omega
    rw [e]; exact hok))
  clear hR hlen hr hk hok
  obtain ⟨f, hi, lo⟩ := a
  have hb0 : Below w.heap.size w ((w.alloc (.cells #[.int .u8 (f.toNat : Int), .int .u64 (hi.toNat : Int), .int .u64 (lo.toNat : Int)] 30)).alloc (.cells #[.int .u8 0, .int .u64 0, .int .u64 0] 30)) := ((Below.refl _ _).alloc (Nat.le_refl _) _).alloc (by simp) _
  have h1 : ((w.alloc (.cells #[.int .u8 (f.toNat : Int), .int .u64 (hi.toNat : Int), .int .u64 (lo.toNat : Int)] 30)).alloc (.cells #[.int .u8 0, .int .u64 0, .int .u64 0] 30)).heap[w.heap.size]? = some (.cells #[.int .u8 (f.toNat : Int), .int .u64 (hi.toNat : Int), .int .u64 (lo.toNat : Int)] 30 (0, 0)) := blk_alloc (heap_alloc_new _ _) _
  have h2 := heap_alloc_new (w.alloc (.cells #[.int .u8 (f.toNat : Int), .int .u64 (hi.toNat : Int), .int .u64 (lo.toNat : Int)] 30)) (.cells #[.int .u8 0, .int .u64 0, .int .u64 0] 30)
  rw [World.size_alloc] at h2
  have H1 := Lib.hid h1
  have H2 := Lib.hid h2
  have HB0 := Lib.hid hb0
  clear h1 h2 hb0
  go_enter Tryz.func34, Tryz.ntmps34
  go_wp2_with fail
  generalize ((w.alloc (.cells #[.int .u8 (f.toNat : Int), .int .u64 (hi.toNat : Int), .int .u64 (lo.toNat : Int)] 30)).alloc (.cells #[.int .u8 0, .int .u64 0, .int .u64 0] 30)) = w0 at *
  refine (HRW.out _).mono ?_
  rintro e w1 ⟨rv, rfl, ho, hb⟩
  obtain ⟨ro, rc, hrv⟩ := owns_slice1 ho
  subst hrv
  have HO1 := Lib.hid ho
  have HB1 := Lib.hid hb
  clear ho hb
  go_wp2_with fail
  go_loopw [8] (fun v8 wr => ∃ i : Nat, k ≤ i ∧ i ≤ R.length ∧ v8 = .int .i64 i ∧ wr.ownsRow w0.heap.size 5 1 (.slice ro R.length rc) R.length ((R.take k ++ List.replicate (i - k) c ++ R.drop i).flatMap encB) ∧ Below w0.heap.size w0 wr) (fun v8 _ => R.length - (intOf v8).toNat)
  case atStart => exact ⟨k, Nat.le_refl _, hkR, rfl, by have := HO1.out; simpa using this, HB1.out⟩
  case round =>
    obtain ⟨i, hki, hi2, rfl, ho, hbel⟩ := hrel
    have HO := Lib.hid ho
    have HBE := Lib.hid hbel
    clear ho hbel
    by_cases hlt : i < R.length
    · obtain ⟨g, gc, hgv, hgb, hgl, hgc, hcell, hfz⟩ := owns_shape HO.out (by omega)
      cases hgv
      have HLT := Lib.hid hlt
      have m1 : (i : Int) < (R.length : Int) := by omega
      have hX : i < (R.take k ++ List.replicate (i - k) c ++ R.drop i).length := by simp; omega
      have hci : ∃ u, wr.cell? ⟨g, i, none⟩ = some u := by
        rw [hcell i (by omega)]
        exact ⟨_, List.getElem?_eq_getElem (by rw [flat_length encB_len]; omega)⟩
      obtain ⟨u, hu⟩ := hci
      have f0 := hfz i
      clear hcell hfz
      have HST := Lib.hid (HO.out.stored i (.int .u8 (c.toNat : Int))).1
      have HN := Lib.hid (show ((R.take k ++ List.replicate (i - k) c ++ R.drop i).flatMap encB).set i (.int .u8 (c.toNat : Int)) = (R.take k ++ List.replicate (i + 1 - k) c ++ R.drop (i + 1)).flatMap encB by rw [flat_setB _ i hX, fill_step c hki hlt])
      have HB2 := Lib.hid (HBE.out.setCell (p := ⟨g, i, none⟩) hgb (.int .u8 (c.toNat : Int)))
      go_wp2_with fail
      go_roundw
      case rel => exact ⟨i + 1, by omega, by omega, by go_num, by have := HST.out; rwa [HN.out] at this, HB2.out⟩
      case measure => simp [intOf]; omega
    · obtain rfl : i = R.length := by omega
      have HL := Lib.hid (show (R.take k ++ List.replicate (R.length - k) c).length = R.length by simp; omega)
      have HS := Lib.hid (show BsAt wr (.slice ro R.length rc) (R.take k ++ List.replicate (R.length - k) c) by
        show Seg _ _ _ (R.take k ++ List.replicate (R.length - k) c).length _
        rw [HL.out]
        have := Seg.of_owns HO.out
        simpa using this)
      have hz0 : w.heap.size + 1 < w0.heap.size := blk_lt H2.out
      have HG1 := Lib.hid (blk_below HBE.out H1.out (by omega))
      have HG2 := Lib.hid (blk_below HBE.out H2.out hz0)
      have r0 : wr.cell? ⟨w.heap.size, 0, none⟩ = some (.int .u8 (f.toNat : Int)) := by rw [blk_cell HG1.out]; rfl
      go_wp2_with fail
      refine (HOF.out _ _ HS.out).mono ?_
      rintro e w3 ⟨rfl, hb⟩
      have HG3 := Lib.hid (blk_kept hb HG2.out)
      have hb3 := below_step HBE.out hb HBE.out.size
      have HB3 := Lib.hid (HB0.out.trans (hb3.mono HB0.out.size))
      obtain ⟨⟨f2, hi2, lo2⟩, hA⟩ : ∃ A, A = fromB f (bytesR (R.take k ++ List.replicate (R.length - k) c)) := ⟨_, rfl⟩
      have HA := Lib.hid (HF.out.trans hA.symm)
      rw [← hA]
      have s0 : w3.cell? ⟨w.heap.size + 1, 0, none⟩ = some (.int .u8 0) := by rw [blk_cell HG3.out]; rfl
      have s1 : w3.cell? ⟨w.heap.size + 1, 1, none⟩ = some (.int .u64 0) := by rw [blk_cell HG3.out]; rfl
      have s2 : w3.cell? ⟨w.heap.size + 1, 2, none⟩ = some (.int .u64 0) := by rw [blk_cell HG3.out]; rfl
      have f0 : w3.frozen? ⟨w.heap.size + 1, 0, none⟩ = false := by rw [blk_frozen HG3.out]; rfl
      have f1 : w3.frozen? ⟨w.heap.size + 1, 1, none⟩ = false := by rw [blk_frozen HG3.out]; rfl
      have f2' : w3.frozen? ⟨w.heap.size + 1, 2, none⟩ = false := by rw [blk_frozen HG3.out]; rfl
      clear hb hb3 hA hz0 r0
      go_wp2_with fail
      refine bodyPost_ret (v := encA (f2, hi2, lo2)) (by simp [results, Tryz.results34, go_sem, s0, s1, s2]) rfl ⟨by rw [HA.out], ?_⟩
      exact ((HB3.out.setCell (p := ⟨w.heap.size + 1, 0, none⟩) (by simp) _).setCell (p := ⟨w.heap.size + 1, 1, none⟩) (by simp) _).setCell (p := ⟨w.heap.size + 1, 2, none⟩) (by simp) _
end Go.Proofs.Tryz.Pfx
namespace Go.Proofs.Tryz.Pfx
open Go.RowKit Go.Cph Go.Cph.Px
set_option maxRecDepth 100000 in
set_option maxHeartbeats 4000000 in
theorem rhasP (p : Pf) (a : Ad) (w : World) : Calls Tryz.prog 24 #[encP p, encA a] w fun e w' => e = .returned (.bool (hasP p a)) ∧ Below w.heap.size w w' := by
  have HRW := Lib.hid (fun w => rrow p.1 w)
  have HRO := Lib.hid (fun w => rrow a w)
  have HRP := Lib.hid (fun w => rrightP p w)
  have hv := (hasR_eq p a).symm
  unfold hasR at hv
  have hbits : rightP p = true → 0 ≤ p.2 ∧ p.2 ≤ ((rowA p.1).length : Int) := fun h => by
    have h := rightP_iff.1 h
    have h1 := h.hi
    rw [width_wid] at h1
    rw [row_length h.ad]
    exact ⟨h.lo, h1⟩
  have hle : ∀ a : Ad, (rowA a).length ≤ 128 := fun a => by
    cases hr : rightA a with
    | true => rw [row_length hr]; unfold wid; split <;> omega
    | false => rw [row_none hr]; simp
  have hle1 := hle p.1
  have hle2 := hle a
  obtain ⟨R, hR⟩ : ∃ R, R = rowA p.1 := ⟨_, rfl⟩
  obtain ⟨O, hO⟩ : ∃ R, R = rowA a := ⟨_, rfl⟩
  obtain ⟨rp, hrp⟩ : ∃ r, r = rightP p := ⟨_, rfl⟩
  rw [← hR] at HRW hv hle1 hbits
  rw [← hO] at HRO hv hle2
  rw [← hrp] at HRP hv hbits
  have HV := Lib.hid hv
  have HBT := Lib.hid hbits
  clear hR hO hrp hv hle hbits
  have hb0 : Below w.heap.size w ((w.alloc (.cells #[.int .u8 (p.1.1.toNat : Int), .int .u64 (p.1.2.1.toNat : Int), .int .u64 (p.1.2.2.toNat : Int), .int .i64 p.2] 32)).alloc (.cells #[.int .u8 (a.1.toNat : Int), .int .u64 (a.2.1.toNat : Int), .int .u64 (a.2.2.toNat : Int)] 30)) := ((Below.refl _ _).alloc (Nat.le_refl _) _).alloc (by simp) _
  have h1 : ((w.alloc (.cells #[.int .u8 (p.1.1.toNat : Int), .int .u64 (p.1.2.1.toNat : Int), .int .u64 (p.1.2.2.toNat : Int), .int .i64 p.2] 32)).alloc (.cells #[.int .u8 (a.1.toNat : Int), .int .u64 (a.2.1.toNat : Int), .int .u64 (a.2.2.toNat : Int)] 30)).heap[w.heap.size]? = some (.cells #[.int .u8 (p.1.1.toNat : Int), .int .u64 (p.1.2.1.toNat : Int), .int .u64 (p.1.2.2.toNat : Int), .int .i64 p.2] 32 (0, 0)) := blk_alloc (heap_alloc_new _ _) _
  have h2 := heap_alloc_new (w.alloc (.cells #[.int .u8 (p.1.1.toNat : Int), .int .u64 (p.1.2.1.toNat : Int), .int .u64 (p.1.2.2.toNat : Int), .int .i64 p.2] 32)) (.cells #[.int .u8 (a.1.toNat : Int), .int .u64 (a.2.1.toNat : Int), .int .u64 (a.2.2.toNat : Int)] 30)
  rw [World.size_alloc] at h2
  have H1 := Lib.hid h1
  have H2 := Lib.hid h2
  have HB0 := Lib.hid hb0
  clear h1 h2 hb0
  go_enter Tryz.func24, Tryz.ntmps24
  go_wp2_with fail
  generalize (w.alloc (.cells #[.int .u8 (p.1.1.toNat : Int), .int .u64 (p.1.2.1.toNat : Int), .int .u64 (p.1.2.2.toNat : Int), .int .i64 p.2] 32)).alloc (.cells #[.int .u8 (a.1.toNat : Int), .int .u64 (a.2.1.toNat : Int), .int .u64 (a.2.2.toNat : Int)] 30) = w0 at *
  refine (HRW.out _).mono ?_
  rintro e w1 ⟨rv, rfl, ho, hb⟩
  obtain ⟨ro, rc, hrv⟩ := owns_slice1 ho
  subst hrv
  have HS1 := Lib.hid (Seg.of_owns ho)
  have HB1 := Lib.hid (below_step HB0.out hb HB0.out.size)
  have HG1 := Lib.hid (blk_kept hb H1.out)
  have HG2 := Lib.hid (blk_kept hb H2.out)
  clear ho hb
  have a0 : w1.cell? ⟨w.heap.size + 1, 0, none⟩ = some (.int .u8 (a.1.toNat : Int)) := by rw [blk_cell HG2.out]; rfl
  have a1 : w1.cell? ⟨w.heap.size + 1, 1, none⟩ = some (.int .u64 (a.2.1.toNat : Int)) := by rw [blk_cell HG2.out]; rfl
  have a2 : w1.cell? ⟨w.heap.size + 1, 2, none⟩ = some (.int .u64 (a.2.2.toNat : Int)) := by rw [blk_cell HG2.out]; rfl
  go_wp2_with fail
  refine (HRO.out _).mono ?_
  rintro e w2 ⟨ov, rfl, ho, hb⟩
  obtain ⟨oo, oc, hov⟩ := owns_slice1 ho
  subst hov
  have HO2 := Lib.hid (Seg.of_owns ho)
  have HS2 := Lib.hid (HS1.out.kept hb)
  have HB2 := Lib.hid (below_step HB1.out hb HB1.out.size)
  have HG3 := Lib.hid (blk_kept hb HG1.out)
  clear ho hb a0 a1 a2
  have p0 : w2.cell? ⟨w.heap.size, 0, none⟩ = some (.int .u8 (p.1.1.toNat : Int)) := by rw [blk_cell HG3.out]; rfl
  have p1 : w2.cell? ⟨w.heap.size, 1, none⟩ = some (.int .u64 (p.1.2.1.toNat : Int)) := by rw [blk_cell HG3.out]; rfl
  have p2 : w2.cell? ⟨w.heap.size, 2, none⟩ = some (.int .u64 (p.1.2.2.toNat : Int)) := by rw [blk_cell HG3.out]; rfl
  have p3 : w2.cell? ⟨w.heap.size, 3, none⟩ = some (.int .i64 p.2) := by rw [blk_cell HG3.out]; rfl
  go_wp2_with fail
  refine (HRP.out _).mono ?_
  rintro e w3 ⟨rfl, hb⟩
  have HO3 := Lib.hid (HO2.out.kept hb)
  have HS3 := Lib.hid (HS2.out.kept hb)
  have HB3 := Lib.hid (below_step HB2.out hb HB2.out.size)
  have HG4 := Lib.hid (blk_kept hb HG3.out)
  clear hb p0 p1 p2 p3
  cases rp
  · have HX := Lib.hid (show hasP p a = false by rw [HV.out]; rfl)
    go_wp2_with fail
    go_ret
    exact ⟨ret_bool HX.out.symm, HB3.out⟩
  · by_cases hlen : O.length = R.length
    · obtain ⟨hb0, hb1⟩ := HBT.out rfl
      obtain ⟨k, hk⟩ : ∃ k : Nat, p.2 = (k : Int) := ⟨p.2.toNat, by omega⟩
      have HX := Lib.hid (show hasP p a = decide (R.take k = O.take k) by
        have e2 : p.2.toNat = k := by omega
        rw [HV.out, e2]; simp [hlen])
      have hkl : k ≤ R.length := by omega
      have z1 : ((O.length : Int) != (R.length : Int)) = false := by simp [hlen]
      have HL := Lib.hid hlen
      have HK := Lib.hid hk
      have p3 : w3.cell? ⟨w.heap.size, 3, none⟩ = some (.int .i64 (k : Int)) := by rw [blk_cell HG4.out, ← hk]; rfl
      clear hlen hk hb0 hb1
      go_wp2_with fail
      clear p3
      go_loopw [7] (fun v7 wr => ∃ i : Nat, i ≤ k ∧ v7 = .int .i64 i ∧ Hid (R.take i = O.take i) ∧ Below w3.heap.size w3 wr) (fun v7 _ => k - (intOf v7).toNat)
      case atStart => exact ⟨0, Nat.zero_le _, rfl, Lib.hid (by simp), Below.refl _ _⟩
      case round =>
        obtain ⟨i, hi, rfl, HA, hbel⟩ := hrel
        have HBE := Lib.hid hbel
        clear hbel
        have p3 : wr.cell? ⟨w.heap.size, 3, none⟩ = some (.int .i64 (k : Int)) := by rw [blk_cell (blk_kept HBE.out HG4.out), ← HK.out]; rfl
        by_cases hlt : i < k
        · have hiR : i < R.length := by omega
          have hiO : i < O.length := by rw [HL.out]; exact hiR
          obtain ⟨b, off, cap', hve, hcs⟩ := bs_cells (HS3.out.kept HBE.out) (by omega)
          cases hve
          obtain ⟨b2, off2, cap2, hve2, hds⟩ := bs_cells (HO3.out.kept HBE.out) (by omega)
          cases hve2
          have hc := hcs i hiR
          have hd := hds i hiO
          have hstep : R.take (i + 1) = O.take (i + 1) ↔ R[i] = O[i] := by
            rw [List.take_succ_eq_append_getElem hiR, List.take_succ_eq_append_getElem hiO, HA.out]
            constructor
            · intro h; exact (List.cons.inj (List.append_cancel_left h)).1
            · intro h; rw [h]
          obtain ⟨x, hx⟩ : ∃ x, x = R[i] := ⟨_, rfl⟩
          obtain ⟨y, hy⟩ : ∃ x, x = O[i] := ⟨_, rfl⟩
          rw [← hx] at hc hstep
          rw [← hy] at hd hstep
          have HST := Lib.hid hstep
          have m0 : (0 : Int) ≤ (i : Int) := by omega
          have m1 : (i : Int) < (R.length : Int) := by omega
          have m2 : (i : Int) < (O.length : Int) := by omega
          have mk : (i : Int) < (k : Int) := by omega
          clear hcs hds hx hy hstep
          by_cases hxy : x = y
          · have z2 : ((x.toNat : Int) != (y.toNat : Int)) = false := by simp only [bne, u8_eq x y]; simp [hxy]
            have HA2 := Lib.hid (HST.out.2 hxy)
            clear hxy
            go_wp2_with fail
            go_quiet (fail)
            clear p3 hc hd z2
            go_wp2_with fail
            go_roundw
            case rel => exact ⟨i + 1, by omega, by go_num, HA2, HBE.out.trans ⟨rfl, rfl, rfl, Nat.le_refl _, fun _ _ => rfl⟩⟩
            case measure => simp [intOf]; omega
          · have z2 : ((x.toNat : Int) != (y.toNat : Int)) = true := by simp only [bne, u8_eq x y]; simp [hxy]
            have HF := Lib.hid (show hasP p a = false by
              rw [HX.out, decide_eq_false_iff_not]
              intro h
              have h2 := congrArg (List.take (i + 1)) h
              rw [List.take_take, List.take_take, Nat.min_eq_left (by omega)] at h2
              exact hxy (HST.out.1 h2))
            clear hxy
            go_wp2_with fail
            go_quiet (fail)
            clear p3 hc hd z2
            go_wp2_with fail
            go_ret
            exact ⟨ret_bool HF.out.symm, HB3.out.trans (HBE.out.mono HB3.out.size |>.trans ⟨rfl, rfl, rfl, Nat.le_refl _, fun _ _ => rfl⟩)⟩
        · obtain rfl : i = k := by omega
          have HF := Lib.hid (show hasP p a = true by rw [HX.out, decide_eq_true_eq]; exact HA.out)
          go_wp2_with fail
          go_ret
          exact ⟨ret_bool HF.out.symm, below_step HB3.out HBE.out HB3.out.size⟩
    · have z1 : ((O.length : Int) != (R.length : Int)) = true := by simpa using (show ¬ (O.length : Int) = (R.length : Int) by omega)
      have HX := Lib.hid (show hasP p a = false by rw [HV.out]; simp [hlen])
      clear hlen
      go_wp2_with fail
      go_ret
      exact ⟨ret_bool HX.out.symm, HB3.out⟩
end Go.Proofs.Tryz.Pfx
namespace Go.Proofs.Tryz.Pfx
open Go.RowKit Go.Cph Go.Cph.Px

set_option maxRecDepth 100000 in
set_option maxHeartbeats 2000000 in
theorem rlast (p : Pf) (w : World) : Calls Tryz.prog 18 #[encP p] w fun e w' => e = .returned (encA (lastR p)) ∧ Below w.heap.size w w' := by
  have HRP := Lib.hid (fun w => rrightP p w)
  have hf : rightP p = true → ∃ k : Nat, p.2 = (k : Int) ∧ ∀ w, Calls Tryz.prog 34 #[encA p.1, .int .i64 (k : Int), .int .u8 1] w fun e w' => e = .returned (encA (lastR p)) ∧ Below w.heap.size w w' := by
    intro h
    have hl : lastR p = fillA p.1 p.2.toNat 1 := by unfold lastR; rw [if_pos h]
    have h := rightP_iff.1 h
    have h1 := h.hi
    have h0 := h.lo
    rw [width_wid] at h1
    exact ⟨p.2.toNat, by omega, fun w => by rw [hl]; exact rfilled p.1 p.2.toNat 1 w h.ad (by omega)⟩
  have hz : rightP p = false → lastR p = zeroA := fun h => by unfold lastR; rw [h]; rfl
  obtain ⟨rp, hrp⟩ : ∃ r, r = rightP p := ⟨_, rfl⟩
  rw [← hrp] at HRP hf hz
  have HF := Lib.hid hf
  have HZ := Lib.hid hz
  clear hrp hf hz
  have hb0 : Below w.heap.size w ((w.alloc (.cells #[.int .u8 (p.1.1.toNat : Int), .int .u64 (p.1.2.1.toNat : Int), .int .u64 (p.1.2.2.toNat : Int), .int .i64 p.2] 32)).alloc (.cells #[.int .u8 0, .int .u64 0, .int .u64 0] 30)) := ((Below.refl _ _).alloc (Nat.le_refl _) _).alloc (by simp) _
  have h1 : ((w.alloc (.cells #[.int .u8 (p.1.1.toNat : Int), .int .u64 (p.1.2.1.toNat : Int), .int .u64 (p.1.2.2.toNat : Int), .int .i64 p.2] 32)).alloc (.cells #[.int .u8 0, .int .u64 0, .int .u64 0] 30)).heap[w.heap.size]? = some (.cells #[.int .u8 (p.1.1.toNat : Int), .int .u64 (p.1.2.1.toNat : Int), .int .u64 (p.1.2.2.toNat : Int), .int .i64 p.2] 32 (0, 0)) := blk_alloc (heap_alloc_new _ _) _
  have h2 := heap_alloc_new (w.alloc (.cells #[.int .u8 (p.1.1.toNat : Int), .int .u64 (p.1.2.1.toNat : Int), .int .u64 (p.1.2.2.toNat : Int), .int .i64 p.2] 32)) (.cells #[.int .u8 0, .int .u64 0, .int .u64 0] 30)
  rw [World.size_alloc] at h2
  have H1 := Lib.hid h1
  have H2 := Lib.hid h2
  have HB0 := Lib.hid hb0
  have p0 := (blk_cell h1 0)
  have p1 := (blk_cell h1 1)
  have p2 := (blk_cell h1 2)
  have p3 := (blk_cell h1 3)
  clear h1 h2 hb0
  go_enter Tryz.func18, Tryz.ntmps18
  go_wp2_with fail
  generalize (w.alloc (.cells #[.int .u8 (p.1.1.toNat : Int), .int .u64 (p.1.2.1.toNat : Int), .int .u64 (p.1.2.2.toNat : Int), .int .i64 p.2] 32)).alloc (.cells #[.int .u8 0, .int .u64 0, .int .u64 0] 30) = w0 at *
  refine (HRP.out _).mono ?_
  rintro e w1 ⟨rfl, hb⟩
  have HB1 := Lib.hid (below_step HB0.out hb HB0.out.size)
  have HG1 := Lib.hid (blk_kept hb H1.out)
  have HG2 := Lib.hid (blk_kept hb H2.out)
  clear hb p0 p1 p2 p3
  cases rp
  · have HX := Lib.hid (HZ.out rfl)
    have s0 : w1.cell? ⟨w.heap.size + 1, 0, none⟩ = some (.int .u8 0) := by rw [blk_cell HG2.out]; rfl
    have s1 : w1.cell? ⟨w.heap.size + 1, 1, none⟩ = some (.int .u64 0) := by rw [blk_cell HG2.out]; rfl
    have s2 : w1.cell? ⟨w.heap.size + 1, 2, none⟩ = some (.int .u64 0) := by rw [blk_cell HG2.out]; rfl
    have f0 : w1.frozen? ⟨w.heap.size + 1, 0, none⟩ = false := by rw [blk_frozen HG2.out]; rfl
    have f1 : w1.frozen? ⟨w.heap.size + 1, 1, none⟩ = false := by rw [blk_frozen HG2.out]; rfl
    have f2 : w1.frozen? ⟨w.heap.size + 1, 2, none⟩ = false := by rw [blk_frozen HG2.out]; rfl
    go_wp2_with fail
    refine bodyPost_ret (v := encA zeroA) (by simp [results, Tryz.results18, go_sem, s0, s1, s2, zeroA]) rfl ⟨by rw [HX.out], ?_⟩
    exact ((HB1.out.setCell (p := ⟨w.heap.size + 1, 0, none⟩) (by simp) _).setCell (p := ⟨w.heap.size + 1, 1, none⟩) (by simp) _).setCell (p := ⟨w.heap.size + 1, 2, none⟩) (by simp) _
  · obtain ⟨k, hk, hf⟩ := HF.out rfl
    have HK := Lib.hid hk
    have HFF := Lib.hid hf
    clear hk hf
    have p0 : w1.cell? ⟨w.heap.size, 0, none⟩ = some (.int .u8 (p.1.1.toNat : Int)) := by rw [blk_cell HG1.out]; rfl
    have p1 : w1.cell? ⟨w.heap.size, 1, none⟩ = some (.int .u64 (p.1.2.1.toNat : Int)) := by rw [blk_cell HG1.out]; rfl
    have p2 : w1.cell? ⟨w.heap.size, 2, none⟩ = some (.int .u64 (p.1.2.2.toNat : Int)) := by rw [blk_cell HG1.out]; rfl
    have p3 : w1.cell? ⟨w.heap.size, 3, none⟩ = some (.int .i64 p.2) := by rw [blk_cell HG1.out]; rfl
    rw [HK.out] at p3
    go_wp2_with fail
    refine (HFF.out _).mono ?_
    rintro e w2 ⟨rfl, hb⟩
    have HG3 := Lib.hid (blk_kept hb HG2.out)
    have HB2 := Lib.hid (below_step HB1.out hb HB1.out.size)
    obtain ⟨⟨fa, hi2, lo2⟩, hA⟩ : ∃ A, A = lastR p := ⟨_, rfl⟩
    have HA := Lib.hid hA.symm
    rw [← hA]
    clear hb hA p0 p1 p2 p3
    have s0 : w2.cell? ⟨w.heap.size + 1, 0, none⟩ = some (.int .u8 0) := by rw [blk_cell HG3.out]; rfl
    have s1 : w2.cell? ⟨w.heap.size + 1, 1, none⟩ = some (.int .u64 0) := by rw [blk_cell HG3.out]; rfl
    have s2 : w2.cell? ⟨w.heap.size + 1, 2, none⟩ = some (.int .u64 0) := by rw [blk_cell HG3.out]; rfl
    have f0 : w2.frozen? ⟨w.heap.size + 1, 0, none⟩ = false := by rw [blk_frozen HG3.out]; rfl
    have f1 : w2.frozen? ⟨w.heap.size + 1, 1, none⟩ = false := by rw [blk_frozen HG3.out]; rfl
    have f2 : w2.frozen? ⟨w.heap.size + 1, 2, none⟩ = false := by rw [blk_frozen HG3.out]; rfl
    go_wp2_with fail
    refine bodyPost_ret (v := encA (fa, hi2, lo2)) (by simp [results, Tryz.results18, go_sem, s0, s1, s2]) rfl ⟨by rw [HA.out], ?_⟩
    exact ((HB2.out.setCell (p := ⟨w.heap.size + 1, 0, none⟩) (by simp) _).setCell (p := ⟨w.heap.size + 1, 1, none⟩) (by simp) _).setCell (p := ⟨w.heap.size + 1, 2, none⟩) (by simp) _

set_option maxRecDepth 100000 in
set_option maxHeartbeats 4000000 in
theorem rwithin (p q : Pf) (w : World) : Calls Tryz.prog 28 #[encP p, encP q] w fun e w' => e = .returned (.bool (within p q)) ∧ Below w.heap.size w w' := by
  have hv := (withinR_eq p q).symm
  unfold withinR at hv
  obtain ⟨rp, hrp⟩ : ∃ r, r = rightP p := ⟨_, rfl⟩
  obtain ⟨h1, hh1⟩ : ∃ r, r = hasP q p.1 := ⟨_, rfl⟩
  obtain ⟨h2, hh2⟩ : ∃ r, r = hasP q (lastR p) := ⟨_, rfl⟩
  have HRP := Lib.hid (fun w => rrightP p w)
  have HH1 := Lib.hid (fun w => rhasP q p.1 w)
  have HH2 := Lib.hid (fun w => rhasP q (lastR p) w)
  have HLA := Lib.hid (fun w => rlast p w)
  rw [← hrp] at HRP hv
  rw [← hh1] at HH1 hv
  rw [← hh2] at HH2 hv
  have HV := Lib.hid hv
  clear hrp hh1 hh2 hv
  generalize lastR p = lp at *
  have hb0 : Below w.heap.size w ((w.alloc (.cells #[.int .u8 (p.1.1.toNat : Int), .int .u64 (p.1.2.1.toNat : Int), .int .u64 (p.1.2.2.toNat : Int), .int .i64 p.2] 32)).alloc (.cells #[.int .u8 (q.1.1.toNat : Int), .int .u64 (q.1.2.1.toNat : Int), .int .u64 (q.1.2.2.toNat : Int), .int .i64 q.2] 32)) := ((Below.refl _ _).alloc (Nat.le_refl _) _).alloc (by simp) _
  have h1' : ((w.alloc (.cells #[.int .u8 (p.1.1.toNat : Int), .int .u64 (p.1.2.1.toNat : Int), .int .u64 (p.1.2.2.toNat : Int), .int .i64 p.2] 32)).alloc (.cells #[.int .u8 (q.1.1.toNat : Int), .int .u64 (q.1.2.1.toNat : Int), .int .u64 (q.1.2.2.toNat : Int), .int .i64 q.2] 32)).heap[w.heap.size]? = some (.cells #[.int .u8 (p.1.1.toNat : Int), .int .u64 (p.1.2.1.toNat : Int), .int .u64 (p.1.2.2.toNat : Int), .int .i64 p.2] 32 (0, 0)) := blk_alloc (heap_alloc_new _ _) _
  have h2' := heap_alloc_new (w.alloc (.cells #[.int .u8 (p.1.1.toNat : Int), .int .u64 (p.1.2.1.toNat : Int), .int .u64 (p.1.2.2.toNat : Int), .int .i64 p.2] 32)) (.cells #[.int .u8 (q.1.1.toNat : Int), .int .u64 (q.1.2.1.toNat : Int), .int .u64 (q.1.2.2.toNat : Int), .int .i64 q.2] 32)
  rw [World.size_alloc] at h2'
  have H1 := Lib.hid h1'
  have H2 := Lib.hid h2'
  have HB0 := Lib.hid hb0
  clear h1' h2' hb0
  cases rp <;> cases h1 <;> cases h2
  all_goals
    have HX := Lib.hid (show within p q = _ from HV.out)
    go_enter Tryz.func28, Tryz.ntmps28
    go_wp2_with fail
    generalize (w.alloc (.cells #[.int .u8 (p.1.1.toNat : Int), .int .u64 (p.1.2.1.toNat : Int), .int .u64 (p.1.2.2.toNat : Int), .int .i64 p.2] 32)).alloc (.cells #[.int .u8 (q.1.1.toNat : Int), .int .u64 (q.1.2.1.toNat : Int), .int .u64 (q.1.2.2.toNat : Int), .int .i64 q.2] 32) = w0 at *
    have a0 : ∀ zz : Later w0.heap.size w0, zz.val.cell? ⟨w.heap.size, 0, none⟩ = some (.int .u8 (p.1.1.toNat : Int)) := fun zz => Later.cell (by rw [blk_cell H1.out]; rfl) (blk_lt H1.out) zz
    have a1 : ∀ zz : Later w0.heap.size w0, zz.val.cell? ⟨w.heap.size, 1, none⟩ = some (.int .u64 (p.1.2.1.toNat : Int)) := fun zz => Later.cell (by rw [blk_cell H1.out]; rfl) (blk_lt H1.out) zz
    have a2 : ∀ zz : Later w0.heap.size w0, zz.val.cell? ⟨w.heap.size, 2, none⟩ = some (.int .u64 (p.1.2.2.toNat : Int)) := fun zz => Later.cell (by rw [blk_cell H1.out]; rfl) (blk_lt H1.out) zz
    have a3 : ∀ zz : Later w0.heap.size w0, zz.val.cell? ⟨w.heap.size, 3, none⟩ = some (.int .i64 p.2) := fun zz => Later.cell (by rw [blk_cell H1.out]; rfl) (blk_lt H1.out) zz
    have b0 : ∀ zz : Later w0.heap.size w0, zz.val.cell? ⟨w.heap.size + 1, 0, none⟩ = some (.int .u8 (q.1.1.toNat : Int)) := fun zz => Later.cell (by rw [blk_cell H2.out]; rfl) (blk_lt H2.out) zz
    have b1 : ∀ zz : Later w0.heap.size w0, zz.val.cell? ⟨w.heap.size + 1, 1, none⟩ = some (.int .u64 (q.1.2.1.toNat : Int)) := fun zz => Later.cell (by rw [blk_cell H2.out]; rfl) (blk_lt H2.out) zz
    have b2 : ∀ zz : Later w0.heap.size w0, zz.val.cell? ⟨w.heap.size + 1, 2, none⟩ = some (.int .u64 (q.1.2.2.toNat : Int)) := fun zz => Later.cell (by rw [blk_cell H2.out]; rfl) (blk_lt H2.out) zz
    have b3 : ∀ zz : Later w0.heap.size w0, zz.val.cell? ⟨w.heap.size + 1, 3, none⟩ = some (.int .i64 q.2) := fun zz => Later.cell (by rw [blk_cell H2.out]; rfl) (blk_lt H2.out) zz
    refine wp_region_later w0.heap.size (by kernel_rfl) (by kernel_rfl) ?_
    repeat (go_big_quiet_step (first | (go_at_call 22; exact Later.calls (Nat.le_refl _) (HRP.out _)) | (go_at_call 24; with_reducible exact Later.calls (Nat.le_refl _) (HH1.out _)) | (go_at_call 24; with_reducible exact Later.calls (Nat.le_refl _) (HH2.out _)) | (go_at_call 18; exact Later.calls (Nat.le_refl _) (HLA.out _))))
    refine wpQuiet_nil ?_
    rintro w9 ⟨yy, rfl⟩
    have HB9 := Lib.hid (below_step HB0.out yy.prop HB0.out.size)
    clear a0 a1 a2 a3 b0 b1 b2 b3
    go_wp2_with fail
    go_ret
    exact ⟨ret_bool HX.out.symm, HB9.out⟩

theorem run_eqlA19 (a b : Ad) (w : World) : (binOp .eql 30 (encA a) (encA b)).run Tryz.prog w = .ok (.bool (a == b)) w := by
  have hb : (a == b) = ((a.1.toNat : Int) == b.1.toNat && ((a.2.1.toNat : Int) == b.2.1.toNat && ((a.2.2.toNat : Int) == b.2.2.toNat))) := by
    rw [Bool.eq_iff_iff, beq_iff_eq]
    simp only [Bool.and_eq_true, u8_eq, u64_eq, beq_iff_eq]
    constructor
    · rintro rfl; exact ⟨rfl, rfl, rfl⟩
    · rintro ⟨h1, h2, h3⟩; exact Prod.ext h1 (Prod.ext h2 h3)
  rw [hb]
  cases b0 : ((a.1.toNat : Int) == b.1.toNat) <;> cases b1 : ((a.2.1.toNat : Int) == b.2.1.toNat) <;> cases b2 : ((a.2.2.toNat : Int) == b.2.2.toNat) <;> go_simp
set_option maxRecDepth 100000 in
set_option maxHeartbeats 4000000 in
theorem rbefore (p q : Pf) (w : World) : Calls Tryz.prog 26 #[encP p, encP q] w fun e w' => e = .returned (.bool (before p q)) ∧ Below w.heap.size w w' := by
  have HLS := Lib.hid (fun w => Tx.rless p.1 q.1 w)
  have he := fun w => run_eqlA19 p.1 q.1 w
  have hv1 : (p.1 == q.1) = true → before p q = decide (p.2 < q.2) := fun h => by
    have e : p.1 = q.1 := by simpa using h
    have hl : lessA p.1 q.1 = false := by
      rw [Bool.eq_false_iff]; intro hc
      have := less_rank.1 hc
      rw [e] at this; omega
    unfold before
    rw [hl, h]; rfl
  have hv2 : (p.1 == q.1) = false → before p q = lessA p.1 q.1 := fun h => by unfold before; rw [h]; simp
  obtain ⟨eq, heq⟩ : ∃ r, r = (p.1 == q.1) := ⟨_, rfl⟩
  rw [← heq] at he hv1 hv2
  have HV1 := Lib.hid hv1
  have HV2 := Lib.hid hv2
  clear heq hv1 hv2
  have hb0 : Below w.heap.size w ((w.alloc (.cells #[.int .u8 (p.1.1.toNat : Int), .int .u64 (p.1.2.1.toNat : Int), .int .u64 (p.1.2.2.toNat : Int), .int .i64 p.2] 32)).alloc (.cells #[.int .u8 (q.1.1.toNat : Int), .int .u64 (q.1.2.1.toNat : Int), .int .u64 (q.1.2.2.toNat : Int), .int .i64 q.2] 32)) := ((Below.refl _ _).alloc (Nat.le_refl _) _).alloc (by simp) _
  have HB0 := Lib.hid hb0
  clear hb0
  cases eq
  · have HX := Lib.hid (HV2.out rfl)
    go_enter Tryz.func26, Tryz.ntmps26
    go_wp2_with fail
    refine (HLS.out _).mono ?_
    rintro e w1 ⟨rfl, hb⟩
    have HB1 := Lib.hid (below_step HB0.out hb HB0.out.size)
    clear hb he
    go_wp2_with fail
    go_ret
    exact ⟨ret_bool HX.out.symm, HB1.out⟩
  · have HX := Lib.hid (HV1.out rfl)
    go_enter Tryz.func26, Tryz.ntmps26
    go_wp2_with fail
    go_ret
    exact ⟨ret_bool HX.out.symm, HB0.out⟩
end Go.Proofs.Tryz.Pfx
