/- The document's neighbours: their walks. -/
import Derived.Test.YtpikpfbpoihioaaDoorBt7
import Derived.Test.YtpikpfbpoihioaaDoorBt4
set_option linter.unusedVariables false
set_option linter.unusedSimpArgs false
set_option maxRecDepth 100000
namespace Go.Proofs.Tryd.Tx
open Go.RowKit Go.Cph Go.Cph.Tx
open Go.Cph.Ok (ofBs)
open Go.Cph.Px (Ad rightA bytesA zeroA lessA fromB fromOk)
open Go.Proofs.Tryd.Pfx (encA bcell ad_eq BsAt bs_cells encB rbytes BytesPost)
open Go.Proofs.Tryd.Rows (boxZR below_set3)
open Go.Proofs.Tryd.Gp (nextA backA nearA NearPost)
theorem u8_up (c : UInt8) : IntKind.u8.wrap ((c.toNat : Int) + 1) = ((c + 1).toNat : Int) := by
  rw [IntKind.wrap_u8, UInt8.toNat_add]
  have : (1 : UInt8).toNat = 1 := rfl
  have := c.toNat_lt
  omega
theorem u8_down (c : UInt8) : IntKind.u8.wrap ((c.toNat : Int) - 1) = ((c - 1).toNat : Int) := by
  rw [IntKind.wrap_u8, UInt8.toNat_sub]
  have : (1 : UInt8).toNat = 1 := rfl
  have := c.toNat_lt
  omega
theorem u8_upm (c : UInt8) : ((c.toNat : Int) + 1) % 256 = ((c + 1).toNat : Int) := by
  rw [UInt8.toNat_add]
  have : (1 : UInt8).toNat = 1 := rfl
  have := c.toNat_lt
  omega
theorem below_set3n {B : Nat} {W0 W : World} {g : Nat} (h : Below B W0 W) (hg : B ≤ g) (a b c : Value) : Below B W0 (((W.setCell ⟨g, 0, none⟩ a).setCell ⟨g, 1, none⟩ b).setCell ⟨g, 2, none⟩ c) :=
  ((h.setCell (p := ⟨g, 0, none⟩) hg a).setCell (p := ⟨g, 1, none⟩) hg b).setCell (p := ⟨g, 2, none⟩) hg c
theorem set_mid (y : Bs) (c d : UInt8) (t : Bs) : (y ++ c :: t).set y.length d = y ++ d :: t := by simp
theorem rep_mid (y : Bs) (b : UInt8) (n : Nat) : y ++ b :: List.replicate n b = y ++ List.replicate (n + 1) b := by rw [List.replicate_succ]
theorem getD_mid (y : Bs) (c : UInt8) (t : Bs) : (y ++ c :: t).getD y.length 0 = c := by simp
set_option maxHeartbeats 8000000 in
theorem rnext_any (a : Ad) (w : World) : Calls Tryd.prog 19 #[encA a] w (NearPost (nextA a) w) := by
  obtain ⟨l, hl⟩ : ∃ l, l = bytesA a := ⟨_, rfl⟩
  have HBY := Lib.hid (fun W => rbytes a W)
  rw [← hl] at HBY
  have HSTEP := Lib.hid (show rightA a = true → ∀ x c n, l = x ++ c :: List.replicate n 255 → c ≠ 255 → nextA a = (fromB a.1 (x ++ (c + 1) :: List.replicate n 0), true) ∧ fromOk a.1 (x ++ (c + 1) :: List.replicate n 0).length = true from fun hr x c n h => next_step hr (hl ▸ h))
  have HNONE := Lib.hid (show ∀ n, l = List.replicate n 255 → nextA a = (zeroA, false) from fun n h => next_none (hl ▸ h))
  have HRT := Lib.hid (show 0 < l.length → rightA a = true from fun h => by
    cases hr : rightA a with
    | true => rfl
    | false => rw [hl] at h; unfold bytesA at h; rw [hr] at h; exact absurd h (by simp))
  have HLL := Lib.hid (show l.length ≤ 16 from by rw [hl]; exact Pfx.bytesA_le _)
  obtain ⟨R, hR⟩ : ∃ R, R = nextA a := ⟨_, rfl⟩
  rw [← hR] at HSTEP HNONE ⊢
  clear hl hR
  obtain ⟨f, x, y⟩ := a
  have HBX := Lib.hid (show Below w.heap.size w ((w.alloc (boxR (f, x, y))).alloc boxZR) from ((Below.refl _ _).alloc (Nat.le_refl _) _).alloc (by simp) _)
  have HX := Lib.hid (show ((w.alloc (boxR (f, x, y))).alloc boxZR).heap[w.heap.size]? = some (boxR (f, x, y)) from blk_alloc (heap_alloc_new _ _) _)
  have hz := heap_alloc_new (w.alloc (boxR (f, x, y))) boxZR
  rw [World.size_alloc] at hz
  have HZ := Lib.hid hz
  have HSZ := Lib.hid (show ((w.alloc (boxR (f, x, y))).alloc boxZR).heap.size = w.heap.size + 2 from by rw [World.size_alloc, World.size_alloc])
  clear hz
  have c0 : ((w.alloc (boxR (f, x, y))).alloc boxZR).cell? ⟨w.heap.size, 0, none⟩ = some (.int .u8 (f.toNat : Int)) := by rw [blk_cell HX.out]; rfl
  have c1 : ((w.alloc (boxR (f, x, y))).alloc boxZR).cell? ⟨w.heap.size, 1, none⟩ = some (.int .u64 (x.toNat : Int)) := by rw [blk_cell HX.out]; rfl
  have c2 : ((w.alloc (boxR (f, x, y))).alloc boxZR).cell? ⟨w.heap.size, 2, none⟩ = some (.int .u64 (y.toNat : Int)) := by rw [blk_cell HX.out]; rfl
  go_enter Tryd.func19, Tryd.ntmps19
  go_wp2_with fail
  refine (HBY.out _).mono ?_
  rintro e w1 ⟨v', rfl, ho, hb⟩
  have HB1 := Lib.hid (below_step HBX.out hb HBX.out.size)
  have HX1 := Lib.hid (blk_kept hb HX.out)
  have HZ1 := Lib.hid (blk_kept hb HZ.out)
  have HO := Lib.hid ho
  clear hb ho c0 c1 c2 HX HZ HBX
  by_cases h0 : l.length = 0
  · obtain ⟨ao, cap, rfl⟩ := owns_slice1 HO.out
    have HV := Lib.hid (HNONE.out 0 (List.length_eq_zero_iff.1 h0))
    rw [h0]
    clear h0 HO
    have z0 : w1.frozen? ⟨w.heap.size + 1, 0, none⟩ = false := by rw [blk_frozen HZ1.out]; rfl
    have z1 : w1.frozen? ⟨w.heap.size + 1, 1, none⟩ = false := by rw [blk_frozen HZ1.out]; rfl
    have z2 : w1.frozen? ⟨w.heap.size + 1, 2, none⟩ = false := by rw [blk_frozen HZ1.out]; rfl
    have y0 : w1.cell? ⟨w.heap.size + 1, 0, none⟩ = some (.int .u8 0) := by rw [blk_cell HZ1.out]; rfl
    have y1 : w1.cell? ⟨w.heap.size + 1, 1, none⟩ = some (.int .u64 0) := by rw [blk_cell HZ1.out]; rfl
    have y2 : w1.cell? ⟨w.heap.size + 1, 2, none⟩ = some (.int .u64 0) := by rw [blk_cell HZ1.out]; rfl
    go_wp2_with fail
    go_loopw [5] (fun v5 W => W = w1 ∧ v5 = .int .i64 (-1)) (fun _ _ => 0)
    case atStart => exact ⟨rfl, rfl⟩
    case round =>
      obtain ⟨rfl, rfl⟩ := hrel
      go_wp2_with fail
      exact bodyPost_ret (v := .tuple #[.agg #[.int .u8 0, .int .u64 0, .int .u64 0], .bool false]) (by simp [results, Tryd.results19, go_sem, y0, y1, y2]) rfl ⟨by rw [HV.out]; rfl, by first | exact HB1.out | exact below_set3n HB1.out (Nat.le_succ _) _ _ _⟩
  · have h1 : 0 < l.length := by omega
    obtain ⟨g, cap, rfl, hg, hrow⟩ := RowIs.of_owns HO.out h1
    have HROW := Lib.hid hrow
    rw [HSZ.out] at hg
    have HR := Lib.hid (HRT.out h1)
    have HL0 := Lib.hid h1
    have HFB := Lib.hid (fun v row W h => rfrom_any f v row W h)
    clear h0 h1 hrow HO HBY HRT
    have hl16 := HLL.out
    have k0 : IntKind.i64.wrap ((l.length : Int) - 1) = (l.length : Int) - 1 := by rw [IntKind.wrap_i64]; omega
    go_wp2_with fail
    go_loopw [5] (fun v5 W => ∃ (z : Int) (x' : Bs) (n : Nat), v5 = .int .i64 z ∧ Hid (z = (x'.length : Int) - 1) ∧ Hid (l = x' ++ List.replicate n 255) ∧ RowIs W g (x' ++ List.replicate n 0) ∧ W.heap[w.heap.size]? = some (boxR (f, x, y)) ∧ W.heap[w.heap.size + 1]? = some boxZR ∧ Below w.heap.size w W) (fun v5 _ => (intOf v5 + 1).toNat)
    case atStart => exact ⟨_, l, 0, rfl, Lib.hid rfl, Lib.hid (by simp), by simpa using HROW.out, HX1.out, HZ1.out, HB1.out⟩
    case round =>
      obtain ⟨z, x', n, rfl, HZE, HLE, hrow, hx, hzb, hb⟩ := hrel
      have HROW2 := Lib.hid hrow
      have HX2 := Lib.hid hx
      have HZ2 := Lib.hid hzb
      have HB2 := Lib.hid hb
      clear hrow hx hzb hb
      by_cases hx0 : x' = []
      · have HV := Lib.hid (HNONE.out n (by rw [HLE.out, hx0]; rfl))
        have hz1 : z = -1 := by rw [HZE.out, hx0]; rfl
        subst hz1
        have z0 : wr.frozen? ⟨w.heap.size + 1, 0, none⟩ = false := by rw [blk_frozen HZ2.out]; rfl
        have z1 : wr.frozen? ⟨w.heap.size + 1, 1, none⟩ = false := by rw [blk_frozen HZ2.out]; rfl
        have z2 : wr.frozen? ⟨w.heap.size + 1, 2, none⟩ = false := by rw [blk_frozen HZ2.out]; rfl
        have y0 : wr.cell? ⟨w.heap.size + 1, 0, none⟩ = some (.int .u8 0) := by rw [blk_cell HZ2.out]; rfl
        have y1 : wr.cell? ⟨w.heap.size + 1, 1, none⟩ = some (.int .u64 0) := by rw [blk_cell HZ2.out]; rfl
        have y2 : wr.cell? ⟨w.heap.size + 1, 2, none⟩ = some (.int .u64 0) := by rw [blk_cell HZ2.out]; rfl
        go_wp2_with fail
        exact bodyPost_ret (v := .tuple #[.agg #[.int .u8 0, .int .u64 0, .int .u64 0], .bool false]) (by simp [results, Tryd.results19, go_sem, y0, y1, y2]) rfl ⟨by rw [HV.out]; rfl, by first | exact HB2.out | exact below_set3n HB2.out (Nat.le_succ _) _ _ _⟩
      · obtain ⟨q', c, rfl⟩ : ∃ q' c, x' = q' ++ [c] := ⟨x'.dropLast, x'.getLast hx0, (List.dropLast_concat_getLast hx0).symm⟩
        obtain ⟨q, hq⟩ : ∃ q, q = q'.length := ⟨_, rfl⟩
        obtain ⟨d, hd⟩ : ∃ d, d = c + 1 := ⟨_, rfl⟩
        have HRE := Lib.hid (show RowIs wr g (q' ++ c :: List.replicate n 0) from by have := HROW2.out; simpa using this)
        have HLE2 := Lib.hid (show l = q' ++ c :: List.replicate n 255 from by rw [HLE.out]; simp)
        have hz1 : z = (q : Int) := by rw [HZE.out, List.length_append, hq]; simp
        subst hz1
        have HQL := Lib.hid (show q < (q' ++ c :: List.replicate n 0).length ∧ q < l.length from by rw [HLE2.out]; simp [hq])
        have HLEN := Lib.hid (show (q' ++ d :: List.replicate n 0).length = l.length from by rw [HLE2.out]; simp)
        have hql : (q : Int) < (l.length : Int) := by have := HQL.out.2; omega
        have hq0 : (q : Int) ≥ 0 := by omega
        have r0 : wr.cell? ⟨g, q, none⟩ = some (.int .u8 (c.toNat : Int)) := by
          rw [HRE.out.cell q HQL.out.1, hq, getD_mid]
        have r1 := HRE.out.free q
        have HR2 := Lib.hid (show RowIs (wr.setCell ⟨g, q, none⟩ (.int .u8 (d.toNat : Int))) g (q' ++ d :: List.replicate n 0) from by
          have := HRE.out.set q d HQL.out.1
          rw [hq, set_mid] at this
          rw [hq]; exact this)
        have r2 : (wr.setCell ⟨g, q, none⟩ (.int .u8 (d.toNat : Int))).cell? ⟨g, q, none⟩ = some (.int .u8 (d.toNat : Int)) := by
          rw [HR2.out.cell q (by rw [HLEN.out]; exact HQL.out.2), hq, getD_mid]
        have k1 := u8_upm c
        rw [← hd] at k1
        have k2 : IntKind.i64.wrap ((q : Int) - 1) = (q : Int) - 1 := by rw [IntKind.wrap_i64]; omega
        have HX3 := Lib.hid (show (wr.setCell ⟨g, q, none⟩ (.int .u8 (d.toNat : Int))).heap[w.heap.size]? = some (boxR (f, x, y)) from (blk_set_other (by show w.heap.size ≠ g; omega)).trans HX2.out)
        have HZ3 := Lib.hid (show (wr.setCell ⟨g, q, none⟩ (.int .u8 (d.toNat : Int))).heap[w.heap.size + 1]? = some boxZR from (blk_set_other (by show w.heap.size + 1 ≠ g; omega)).trans HZ2.out)
        have HB3 := Lib.hid (HB2.out.setCell (p := ⟨g, q, none⟩) (by show w.heap.size ≤ g; omega) (.int .u8 (d.toNat : Int)))
        by_cases hc : c = 255
        · have hcz : ((d.toNat : Int) != 0) = false := by rw [hd, hc]; decide
          have HL3 := Lib.hid (show l = q' ++ List.replicate (n + 1) 255 from by rw [HLE2.out, hc, rep_mid])
          have HR3 := Lib.hid (show RowIs (wr.setCell ⟨g, q, none⟩ (.int .u8 (d.toNat : Int))) g (q' ++ List.replicate (n + 1) 0) from by
            have h := HR2.out
            rw [show q' ++ d :: List.replicate n 0 = q' ++ List.replicate (n + 1) 0 from by rw [← rep_mid, hd, hc]; rfl] at h
            exact h)
          have HQ2 := Lib.hid hq
          clear hc hx0 hq hd
          go_wp2_with fail
          go_roundw
          case rel => exact ⟨_, q', n + 1, rfl, Lib.hid (by rw [HQ2.out]), HL3, HR3.out, HX3.out, HZ3.out, HB3.out⟩
          case measure => simp [intOf]
        · have hcz : ((d.toNat : Int) != 0) = true := by
            have h1 := up_one hc
            rw [← hd] at h1
            rw [bne_iff_ne]; omega
          obtain ⟨s1, s2⟩ := HSTEP.out HR.out q' c n HLE2.out hc
          rw [← hd] at s1 s2
          have HS := Lib.hid s1
          have HCALL := Lib.hid (HFB.out _ _ _ (HR2.out.bs cap))
          rw [HLEN.out] at HCALL s2
          rw [show fromOk f l.length = true from s2] at HCALL
          obtain ⟨⟨fb, xb, yb⟩, hb2⟩ : ∃ b, b = fromB f (q' ++ d :: List.replicate n 0) := ⟨_, rfl⟩
          have HV := Lib.hid (show R = ((fb, xb, yb), true) from by rw [HS.out, hb2])
          rw [← hb2] at HCALL
          have c0 : (wr.setCell ⟨g, q, none⟩ (.int .u8 (d.toNat : Int))).cell? ⟨w.heap.size, 0, none⟩ = some (.int .u8 (f.toNat : Int)) := by rw [blk_cell HX3.out]; rfl
          clear s1 s2 hb2 HS hc hx0 hq hd
          go_wp2_with fail
          refine HCALL.out.mono ?_
          rintro e w2 ⟨rfl, hb⟩
          have HB4 := Lib.hid (below_step HB3.out hb HB3.out.size)
          have HZ4 := Lib.hid (blk_kept hb HZ3.out)
          clear hb r0 r1 r2 c0
          have z0 : w2.frozen? ⟨w.heap.size + 1, 0, none⟩ = false := by rw [blk_frozen HZ4.out]; rfl
          have z1 : w2.frozen? ⟨w.heap.size + 1, 1, none⟩ = false := by rw [blk_frozen HZ4.out]; rfl
          have z2 : w2.frozen? ⟨w.heap.size + 1, 2, none⟩ = false := by rw [blk_frozen HZ4.out]; rfl
          have y0 : w2.cell? ⟨w.heap.size + 1, 0, none⟩ = some (.int .u8 0) := by rw [blk_cell HZ4.out]; rfl
          have y1 : w2.cell? ⟨w.heap.size + 1, 1, none⟩ = some (.int .u64 0) := by rw [blk_cell HZ4.out]; rfl
          have y2 : w2.cell? ⟨w.heap.size + 1, 2, none⟩ = some (.int .u64 0) := by rw [blk_cell HZ4.out]; rfl
          go_wp2_with fail
          exact bodyPost_ret (v := .tuple #[encA (fb, xb, yb), .bool true]) (by simp [results, Tryd.results19, go_sem, y0, y1, y2]) rfl ⟨by rw [HV.out], by first | exact HB4.out | exact below_set3n HB4.out (Nat.le_succ _) _ _ _⟩
set_option maxHeartbeats 8000000 in
theorem rback_any (a : Ad) (w : World) : Calls Tryd.prog 21 #[encA a] w (NearPost (backA a) w) := by
  obtain ⟨l, hl⟩ : ∃ l, l = bytesA a := ⟨_, rfl⟩
  have HBY := Lib.hid (fun W => rbytes a W)
  rw [← hl] at HBY
  have HSTEP := Lib.hid (show rightA a = true → ∀ x c n, l = x ++ c :: List.replicate n 0 → c ≠ 0 → backA a = (fromB a.1 (x ++ (c - 1) :: List.replicate n 255), true) ∧ fromOk a.1 (x ++ (c - 1) :: List.replicate n 255).length = true from fun hr x c n h => back_step hr (hl ▸ h))
  have HNONE := Lib.hid (show ∀ n, l = List.replicate n 0 → backA a = (zeroA, false) from fun n h => back_none (hl ▸ h))
  have HRT := Lib.hid (show 0 < l.length → rightA a = true from fun h => by
    cases hr : rightA a with
    | true => rfl
    | false => rw [hl] at h; unfold bytesA at h; rw [hr] at h; exact absurd h (by simp))
  have HLL := Lib.hid (show l.length ≤ 16 from by rw [hl]; exact Pfx.bytesA_le _)
  obtain ⟨R, hR⟩ : ∃ R, R = backA a := ⟨_, rfl⟩
  rw [← hR] at HSTEP HNONE ⊢
  clear hl hR
  obtain ⟨f, x, y⟩ := a
  have HBX := Lib.hid (show Below w.heap.size w ((w.alloc (boxR (f, x, y))).alloc boxZR) from ((Below.refl _ _).alloc (Nat.le_refl _) _).alloc (by simp) _)
  have HX := Lib.hid (show ((w.alloc (boxR (f, x, y))).alloc boxZR).heap[w.heap.size]? = some (boxR (f, x, y)) from blk_alloc (heap_alloc_new _ _) _)
  have hz := heap_alloc_new (w.alloc (boxR (f, x, y))) boxZR
  rw [World.size_alloc] at hz
  have HZ := Lib.hid hz
  have HSZ := Lib.hid (show ((w.alloc (boxR (f, x, y))).alloc boxZR).heap.size = w.heap.size + 2 from by rw [World.size_alloc, World.size_alloc])
  clear hz
  have c0 : ((w.alloc (boxR (f, x, y))).alloc boxZR).cell? ⟨w.heap.size, 0, none⟩ = some (.int .u8 (f.toNat : Int)) := by rw [blk_cell HX.out]; rfl
  have c1 : ((w.alloc (boxR (f, x, y))).alloc boxZR).cell? ⟨w.heap.size, 1, none⟩ = some (.int .u64 (x.toNat : Int)) := by rw [blk_cell HX.out]; rfl
  have c2 : ((w.alloc (boxR (f, x, y))).alloc boxZR).cell? ⟨w.heap.size, 2, none⟩ = some (.int .u64 (y.toNat : Int)) := by rw [blk_cell HX.out]; rfl
  go_enter Tryd.func21, Tryd.ntmps21
  go_wp2_with fail
  refine (HBY.out _).mono ?_
  rintro e w1 ⟨v', rfl, ho, hb⟩
  have HB1 := Lib.hid (below_step HBX.out hb HBX.out.size)
  have HX1 := Lib.hid (blk_kept hb HX.out)
  have HZ1 := Lib.hid (blk_kept hb HZ.out)
  have HO := Lib.hid ho
  clear hb ho c0 c1 c2 HX HZ HBX
  by_cases h0 : l.length = 0
  · obtain ⟨ao, cap, rfl⟩ := owns_slice1 HO.out
    have HV := Lib.hid (HNONE.out 0 (List.length_eq_zero_iff.1 h0))
    rw [h0]
    clear h0 HO
    have z0 : w1.frozen? ⟨w.heap.size + 1, 0, none⟩ = false := by rw [blk_frozen HZ1.out]; rfl
    have z1 : w1.frozen? ⟨w.heap.size + 1, 1, none⟩ = false := by rw [blk_frozen HZ1.out]; rfl
    have z2 : w1.frozen? ⟨w.heap.size + 1, 2, none⟩ = false := by rw [blk_frozen HZ1.out]; rfl
    have y0 : w1.cell? ⟨w.heap.size + 1, 0, none⟩ = some (.int .u8 0) := by rw [blk_cell HZ1.out]; rfl
    have y1 : w1.cell? ⟨w.heap.size + 1, 1, none⟩ = some (.int .u64 0) := by rw [blk_cell HZ1.out]; rfl
    have y2 : w1.cell? ⟨w.heap.size + 1, 2, none⟩ = some (.int .u64 0) := by rw [blk_cell HZ1.out]; rfl
    go_wp2_with fail
    go_loopw [5] (fun v5 W => W = w1 ∧ v5 = .int .i64 (-1)) (fun _ _ => 0)
    case atStart => exact ⟨rfl, rfl⟩
    case round =>
      obtain ⟨rfl, rfl⟩ := hrel
      go_wp2_with fail
      exact bodyPost_ret (v := .tuple #[.agg #[.int .u8 0, .int .u64 0, .int .u64 0], .bool false]) (by simp [results, Tryd.results21, go_sem, y0, y1, y2]) rfl ⟨by rw [HV.out]; rfl, by first | exact HB1.out | exact below_set3n HB1.out (Nat.le_succ _) _ _ _⟩
  · have h1 : 0 < l.length := by omega
    obtain ⟨g, cap, rfl, hg, hrow⟩ := RowIs.of_owns HO.out h1
    have HROW := Lib.hid hrow
    rw [HSZ.out] at hg
    have HR := Lib.hid (HRT.out h1)
    have HL0 := Lib.hid h1
    have HFB := Lib.hid (fun v row W h => rfrom_any f v row W h)
    clear h0 h1 hrow HO HBY HRT
    have hl16 := HLL.out
    have k0 : IntKind.i64.wrap ((l.length : Int) - 1) = (l.length : Int) - 1 := by rw [IntKind.wrap_i64]; omega
    go_wp2_with fail
    go_loopw [5] (fun v5 W => ∃ (z : Int) (x' : Bs) (n : Nat), v5 = .int .i64 z ∧ Hid (z = (x'.length : Int) - 1) ∧ Hid (l = x' ++ List.replicate n 0) ∧ RowIs W g (x' ++ List.replicate n 255) ∧ W.heap[w.heap.size]? = some (boxR (f, x, y)) ∧ W.heap[w.heap.size + 1]? = some boxZR ∧ Below w.heap.size w W) (fun v5 _ => (intOf v5 + 1).toNat)
    case atStart => exact ⟨_, l, 0, rfl, Lib.hid rfl, Lib.hid (by simp), by simpa using HROW.out, HX1.out, HZ1.out, HB1.out⟩
    case round =>
      obtain ⟨z, x', n, rfl, HZE, HLE, hrow, hx, hzb, hb⟩ := hrel
      have HROW2 := Lib.hid hrow
      have HX2 := Lib.hid hx
      have HZ2 := Lib.hid hzb
      have HB2 := Lib.hid hb
      clear hrow hx hzb hb
      by_cases hx0 : x' = []
      · have HV := Lib.hid (HNONE.out n (by rw [HLE.out, hx0]; rfl))
        have hz1 : z = -1 := by rw [HZE.out, hx0]; rfl
        subst hz1
        have z0 : wr.frozen? ⟨w.heap.size + 1, 0, none⟩ = false := by rw [blk_frozen HZ2.out]; rfl
        have z1 : wr.frozen? ⟨w.heap.size + 1, 1, none⟩ = false := by rw [blk_frozen HZ2.out]; rfl
        have z2 : wr.frozen? ⟨w.heap.size + 1, 2, none⟩ = false := by rw [blk_frozen HZ2.out]; rfl
        have y0 : wr.cell? ⟨w.heap.size + 1, 0, none⟩ = some (.int .u8 0) := by rw [blk_cell HZ2.out]; rfl
        have y1 : wr.cell? ⟨w.heap.size + 1, 1, none⟩ = some (.int .u64 0) := by rw [blk_cell HZ2.out]; rfl
        have y2 : wr.cell? ⟨w.heap.size + 1, 2, none⟩ = some (.int .u64 0) := by rw [blk_cell HZ2.out]; rfl
        go_wp2_with fail
        exact bodyPost_ret (v := .tuple #[.agg #[.int .u8 0, .int .u64 0, .int .u64 0], .bool false]) (by simp [results, Tryd.results21, go_sem, y0, y1, y2]) rfl ⟨by rw [HV.out]; rfl, by first | exact HB2.out | exact below_set3n HB2.out (Nat.le_succ _) _ _ _⟩
      · obtain ⟨q', c, rfl⟩ : ∃ q' c, x' = q' ++ [c] := ⟨x'.dropLast, x'.getLast hx0, (List.dropLast_concat_getLast hx0).symm⟩
        obtain ⟨q, hq⟩ : ∃ q, q = q'.length := ⟨_, rfl⟩
        obtain ⟨d, hd⟩ : ∃ d, d = c - 1 := ⟨_, rfl⟩
        have HRE := Lib.hid (show RowIs wr g (q' ++ c :: List.replicate n 255) from by have := HROW2.out; simpa using this)
        have HLE2 := Lib.hid (show l = q' ++ c :: List.replicate n 0 from by rw [HLE.out]; simp)
        have hz1 : z = (q : Int) := by rw [HZE.out, List.length_append, hq]; simp
        subst hz1
        have HQL := Lib.hid (show q < (q' ++ c :: List.replicate n 255).length ∧ q < l.length from by rw [HLE2.out]; simp [hq])
        have HLEN := Lib.hid (show (q' ++ d :: List.replicate n 255).length = l.length from by rw [HLE2.out]; simp)
        have hql : (q : Int) < (l.length : Int) := by have := HQL.out.2; omega
        have hq0 : (q : Int) ≥ 0 := by omega
        have r0 : wr.cell? ⟨g, q, none⟩ = some (.int .u8 (c.toNat : Int)) := by
          rw [HRE.out.cell q HQL.out.1, hq, getD_mid]
        have r1 := HRE.out.free q
        have HR2 := Lib.hid (show RowIs (wr.setCell ⟨g, q, none⟩ (.int .u8 (d.toNat : Int))) g (q' ++ d :: List.replicate n 255) from by
          have := HRE.out.set q d HQL.out.1
          rw [hq, set_mid] at this
          rw [hq]; exact this)
        have r2 : (wr.setCell ⟨g, q, none⟩ (.int .u8 (d.toNat : Int))).cell? ⟨g, q, none⟩ = some (.int .u8 (d.toNat : Int)) := by
          rw [HR2.out.cell q (by rw [HLEN.out]; exact HQL.out.2), hq, getD_mid]
        have k1 := u8_down c
        rw [← hd] at k1
        have k2 : IntKind.i64.wrap ((q : Int) - 1) = (q : Int) - 1 := by rw [IntKind.wrap_i64]; omega
        have HX3 := Lib.hid (show (wr.setCell ⟨g, q, none⟩ (.int .u8 (d.toNat : Int))).heap[w.heap.size]? = some (boxR (f, x, y)) from (blk_set_other (by show w.heap.size ≠ g; omega)).trans HX2.out)
        have HZ3 := Lib.hid (show (wr.setCell ⟨g, q, none⟩ (.int .u8 (d.toNat : Int))).heap[w.heap.size + 1]? = some boxZR from (blk_set_other (by show w.heap.size + 1 ≠ g; omega)).trans HZ2.out)
        have HB3 := Lib.hid (HB2.out.setCell (p := ⟨g, q, none⟩) (by show w.heap.size ≤ g; omega) (.int .u8 (d.toNat : Int)))
        by_cases hc : c = 0
        · have hcz : ((d.toNat : Int) != 255) = false := by rw [hd, hc]; decide
          have HL3 := Lib.hid (show l = q' ++ List.replicate (n + 1) 0 from by rw [HLE2.out, hc, rep_mid])
          have HR3 := Lib.hid (show RowIs (wr.setCell ⟨g, q, none⟩ (.int .u8 (d.toNat : Int))) g (q' ++ List.replicate (n + 1) 255) from by
            have h := HR2.out
            rw [show q' ++ d :: List.replicate n 255 = q' ++ List.replicate (n + 1) 255 from by rw [← rep_mid, hd, hc]; rfl] at h
            exact h)
          have HQ2 := Lib.hid hq
          clear hc hx0 hq hd
          go_wp2_with fail
          go_roundw
          case rel => exact ⟨_, q', n + 1, rfl, Lib.hid (by rw [HQ2.out]), HL3, HR3.out, HX3.out, HZ3.out, HB3.out⟩
          case measure => simp [intOf]
        · have hcz : ((d.toNat : Int) != 255) = true := by
            have h1 := down_one hc
            rw [← hd] at h1
            have h2 := c.toNat_lt
            rw [bne_iff_ne]; omega
          obtain ⟨s1, s2⟩ := HSTEP.out HR.out q' c n HLE2.out hc
          rw [← hd] at s1 s2
          have HS := Lib.hid s1
          have HCALL := Lib.hid (HFB.out _ _ _ (HR2.out.bs cap))
          rw [HLEN.out] at HCALL s2
          rw [show fromOk f l.length = true from s2] at HCALL
          obtain ⟨⟨fb, xb, yb⟩, hb2⟩ : ∃ b, b = fromB f (q' ++ d :: List.replicate n 255) := ⟨_, rfl⟩
          have HV := Lib.hid (show R = ((fb, xb, yb), true) from by rw [HS.out, hb2])
          rw [← hb2] at HCALL
          have c0 : (wr.setCell ⟨g, q, none⟩ (.int .u8 (d.toNat : Int))).cell? ⟨w.heap.size, 0, none⟩ = some (.int .u8 (f.toNat : Int)) := by rw [blk_cell HX3.out]; rfl
          clear s1 s2 hb2 HS hc hx0 hq hd
          go_wp2_with fail
          refine HCALL.out.mono ?_
          rintro e w2 ⟨rfl, hb⟩
          have HB4 := Lib.hid (below_step HB3.out hb HB3.out.size)
          have HZ4 := Lib.hid (blk_kept hb HZ3.out)
          clear hb r0 r1 r2 c0
          have z0 : w2.frozen? ⟨w.heap.size + 1, 0, none⟩ = false := by rw [blk_frozen HZ4.out]; rfl
          have z1 : w2.frozen? ⟨w.heap.size + 1, 1, none⟩ = false := by rw [blk_frozen HZ4.out]; rfl
          have z2 : w2.frozen? ⟨w.heap.size + 1, 2, none⟩ = false := by rw [blk_frozen HZ4.out]; rfl
          have y0 : w2.cell? ⟨w.heap.size + 1, 0, none⟩ = some (.int .u8 0) := by rw [blk_cell HZ4.out]; rfl
          have y1 : w2.cell? ⟨w.heap.size + 1, 1, none⟩ = some (.int .u64 0) := by rw [blk_cell HZ4.out]; rfl
          have y2 : w2.cell? ⟨w.heap.size + 1, 2, none⟩ = some (.int .u64 0) := by rw [blk_cell HZ4.out]; rfl
          go_wp2_with fail
          exact bodyPost_ret (v := .tuple #[encA (fb, xb, yb), .bool true]) (by simp [results, Tryd.results21, go_sem, y0, y1, y2]) rfl ⟨by rw [HV.out], by first | exact HB4.out | exact below_set3n HB4.out (Nat.le_succ _) _ _ _⟩
end Go.Proofs.Tryd.Tx
