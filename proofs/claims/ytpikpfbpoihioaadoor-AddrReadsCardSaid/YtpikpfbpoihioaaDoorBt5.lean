/- The document's text of an address of V6. -/
import Derived.Test.YtpikpfbpoihioaaDoorBt4
set_option linter.unusedVariables false
set_option linter.unusedSimpArgs false
set_option maxRecDepth 100000
namespace Go.Proofs.Tryd.Tx
open Go.RowKit Go.Cph Go.Cph.Tx
open Go.Cph.Ok (ofBs)
open Go.Cph.Px (Ad rightA bytesA zeroA lessA fromB fromOk)
open Go.Proofs.Tryd.Pfx (encA bcell ad_eq BsAt bs_cells encB rbytes BytesPost)
set_option maxHeartbeats 16000000 in
theorem rtext_6 (f : UInt8) (x y : UInt64) (w : World) (h6 : f = 6) : Calls Tryd.prog 25 #[encA (f, x, y)] w (TextPost (text6 (f, x, y)) w) := by
  obtain ⟨l, hl⟩ : ∃ l, l = bytesA (f, x, y) := ⟨_, rfl⟩
  have HLL := Lib.hid (show l.length = 16 from by rw [hl, h6]; exact bytesA6_len x y)
  have HBY := Lib.hid (fun W => rbytes (f, x, y) W)
  rw [← hl] at HBY
  obtain ⟨G, hG⟩ : ∃ G, G = grp (f, x, y) := ⟨_, rfl⟩
  have HG := Lib.hid (show ∀ i, i < 8 → 256 * (l.getD (2 * i) 0).toNat + (l.getD (2 * i + 1) 0).toNat = G i from fun i hi => by rw [hl, hG, h6]; exact grp_bytes x y i hi)
  obtain ⟨p, hp⟩ : ∃ p, p = (zeroS (zb l) 8).1 := ⟨_, rfl⟩
  obtain ⟨m, hm⟩ : ∃ m, m = (zeroS (zb l) 8).2 := ⟨_, rfl⟩
  have HPM := Lib.hid (show p + m ≤ 8 from by rw [hp, hm]; exact zeroS_le _ 8 (Nat.le_refl _))
  have HT := Lib.hid (show text6 (f, x, y) = flat (fun i => digs 16 (G i)) (dtoks p m 8) from by
    rw [text6_doc, hp, hm, hl, h6, hG, h6, zb_zeroS]; rfl)
  have HZS := Lib.hid (show ∀ v W, BsAt W v l → Calls Tryd.prog 43 #[v] W fun e w' => e = .returned (.tuple #[.int .i64 (p : Int), .int .i64 (m : Int)]) ∧ Below W.heap.size W w' from fun v W h => by rw [hp, hm]; exact zeros_any l v W HLL.out h)
  obtain ⟨T, hT⟩ : ∃ T, T = text6 (f, x, y) := ⟨_, rfl⟩
  rw [← hT] at HT ⊢
  obtain ⟨wd', hwd⟩ : ∃ u, u = fun i => digs 16 (G i) := ⟨_, rfl⟩
  have HWD := Lib.hid (show ∀ i, wd' i = digs 16 (G i) from fun i => by rw [hwd])
  rw [← hwd] at HT
  clear hl hG hp hm hT hwd
  have z4 : ((f.toNat : Int) == 4) = false := by rw [show ((f.toNat : Int) == 4) = (f == 4) from Pfx.u8_eq f 4, h6]; rfl
  have z6 : ((f.toNat : Int) != 6) = false := by rw [bne, show ((f.toNat : Int) == 6) = (f == 6) from Pfx.u8_eq f 6, h6]; rfl
  clear h6
  have HBX := Lib.hid (show Below w.heap.size w (w.alloc (boxR (f, x, y))) from (Below.refl _ _).alloc (Nat.le_refl _) _)
  have HX := Lib.hid (heap_alloc_new w (boxR (f, x, y)))
  have c0 : (w.alloc (boxR (f, x, y))).cell? ⟨w.heap.size, 0, none⟩ = some (.int .u8 (f.toNat : Int)) := by rw [blk_cell HX.out]; rfl
  have c1 : (w.alloc (boxR (f, x, y))).cell? ⟨w.heap.size, 1, none⟩ = some (.int .u64 (x.toNat : Int)) := by rw [blk_cell HX.out]; rfl
  have c2 : (w.alloc (boxR (f, x, y))).cell? ⟨w.heap.size, 2, none⟩ = some (.int .u64 (y.toNat : Int)) := by rw [blk_cell HX.out]; rfl
  go_enter Tryd.func25, Tryd.ntmps25
  go_wp2_with fail
  refine (HBY.out _).mono ?_
  rintro e w1 ⟨v', rfl, ho, hb⟩
  have HB1 := Lib.hid (below_step HBX.out hb HBX.out.size)
  have HX1 := Lib.hid (blk_kept hb HX.out)
  have HO := Lib.hid (show BsAt w1 v' l from Seg.of_owns ho)
  clear hb ho c0 c1 c2 HX HBX
  have c0 : w1.cell? ⟨w.heap.size, 0, none⟩ = some (.int .u8 (f.toNat : Int)) := by rw [blk_cell HX1.out]; rfl
  have HZ1 := Lib.hid (HZS.out _ _ HO.out)
  go_wp2_with fail
  refine HZ1.out.mono ?_
  rintro e w2 ⟨rfl, hb⟩
  have HB2 := Lib.hid (below_step HB1.out hb HB1.out.size)
  obtain ⟨b, off, cap, rfl, hcs⟩ := bs_cells HO.out (by have := HLL.out; omega)
  rw [HLL.out]
  have HC := Lib.hid (show ∀ W, Below w2.heap.size w2 W → ∀ j, j < 16 → W.cell? ⟨b, off + j, none⟩ = some (.int .u8 ((l.getD j 0).toNat : Int)) from fun W hW j hj => by
    have h1 : j < l.length := by have := HLL.out; omega
    rw [cell_kept hW (cell_kept hb (hcs j h1))]; simp [h1])
  have HLT := Lib.hid (show b < w2.heap.size from by
    have h1 : 0 < l.length := by have := HLL.out; omega
    exact World.block_lt_of_cell? _ _ (cell_kept hb (hcs 0 h1)))
  clear hb hcs HZ1 HZS HO HBY c0
  have hpm := HPM.out
  have k0 : IntKind.i64.wrap ((p : Int) + (m : Int)) = ((p + m : Nat) : Int) := by rw [IntKind.wrap_i64]; omega
  go_wp2_with fail
  go_loopw [4, 8] (fun v4 v8 W => ∃ (i : Nat) (s : Bs), i ≤ 8 ∧ v8 = .int .i64 (i : Int) ∧ v4 = .string (ofBs s) ∧ Hid (s = flat wd' (dtoks p m i)) ∧ Below w2.heap.size w2 W) (fun _ v8 _ => 8 - (intOf v8).toNat)
  case atStart => exact ⟨0, [], by omega, rfl, rfl, Lib.hid rfl, Below.refl _ _⟩
  case round =>
    obtain ⟨i, s, hi, rfl, rfl, HS, hb⟩ := hrel
    have HB3 := Lib.hid hb
    clear hb
    by_cases hi8 : i < 8
    · have hii : (i : Int) < 8 := by omega
      have hs : s.length ≤ 96 := by
        rw [HS.out]
        have h1 := flat_len wd' (fun i => by rw [HWD.out]; exact digs_len _ _) (dtoks p m i)
        have h2 := dtoks_len p m i
        omega
      have HN0 := Lib.hid (show flat wd' (dtoks p m (i + 1)) = s ++ flat wd' (dtok p m i) from by rw [flat_step, ← HS.out])
      have HFA := Lib.hid (flat_at wd' p m i hi8)
      have k1 : IntKind.i64.wrap ((i : Int) + 1) = ((i + 1 : Nat) : Int) := by rw [IntKind.wrap_i64]; omega
      have k2 : IntKind.i64.wrap (2 * (i : Int)) = ((2 * i : Nat) : Int) := by rw [IntKind.wrap_i64]; omega
      have k3 : IntKind.i64.wrap (((2 * i : Nat) : Int) + 1) = ((2 * i + 1 : Nat) : Int) := by rw [IntKind.wrap_i64]; omega
      have b1 : ((2 * i : Nat) : Int) < 16 := by omega
      have b2 : ((2 * i + 1 : Nat) : Int) < 16 := by omega
      have hq0 := HC.out wr HB3.out (2 * i) (by omega)
      have hq1 := HC.out wr HB3.out (2 * i + 1) (by omega)
      have hg := HG.out i hi8
      have hwi := HWD.out i
      obtain ⟨c0, hc0⟩ : ∃ c, c = l.getD (2 * i) 0 := ⟨_, rfl⟩
      obtain ⟨c1, hc1⟩ : ∃ c, c = l.getD (2 * i + 1) 0 := ⟨_, rfl⟩
      rw [← hc0] at hq0 hg
      rw [← hc1] at hq1 hg
      clear hc0 hc1
      obtain ⟨g, hgg⟩ : ∃ g, g = G i := ⟨_, rfl⟩
      rw [← hgg] at hg hwi
      clear hgg
      have hl0 := c0.toNat_lt
      have hl1 := c1.toNat_lt
      have k4 : IntKind.i64.wrap (256 * (c0.toNat : Int)) = ((256 * c0.toNat : Nat) : Int) := by rw [IntKind.wrap_i64]; omega
      have k5 : IntKind.i64.wrap (256 * (c0.toNat : Int) + (c1.toNat : Int)) = (g : Int) := by rw [IntKind.wrap_i64]; omega
      have HIN := Lib.hid (fun W => in16 g (by omega) W)
      have hdl := digs_len 16 g
      obtain ⟨d, hd⟩ : ∃ d, d = digs 16 g := ⟨_, rfl⟩
      rw [← hd] at HIN hdl hwi
      rw [hwi] at HFA
      clear hd hwi hg hl0 hl1
      rcases (show (1 < m ∧ i = p) ∨ (1 < m ∧ p < i ∧ i < p + m) ∨ (1 < m ∧ i < p ∧ i = 0) ∨ (1 < m ∧ i < p ∧ 0 < i) ∨ (1 < m ∧ i = p + m) ∨ (1 < m ∧ p + m < i) ∨ (m < 2 ∧ i = 0) ∨ (m < 2 ∧ 0 < i) by omega) with hcase | hcase | hcase | hcase | hcase | hcase | hcase | hcase
      · skip
        have f0 : (m : Int) > 1 := by omega
        have f1 : (i : Int) ≥ (p : Int) := by omega
        have f2 : (i : Int) < ((p + m : Nat) : Int) := by omega
        have f3 : ((i : Int) == (p : Int)) = true := by rw [beq_iff_eq]; omega
        have hk1 : ∀ W, (Op.stringOp .add (ofBs s) ⟨#[58, 58]⟩).run Tryd.prog W = .ok (.string (ofBs (s ++ [58, 58]))) W := cat_run s [58, 58] (by simp; omega)
        have HN := Lib.hid (show s ++ [58, 58] = flat wd' (dtoks p m (i + 1)) from by rw [HN0.out, HFA.out, if_pos (by omega), if_pos (by omega)])
        have HIP := Lib.hid hcase.2
        clear hcase
        go_wp2_with fail
        go_roundw
        case rel => exact ⟨i + 1, s ++ [58, 58], by omega, (by have := HIP.out; first | (congr 1; done) | (congr 1; omega)), rfl, Lib.hid (HN.out), HB3.out⟩
        case measure => simp [intOf]; omega
      · skip
        have f0 : (m : Int) > 1 := by omega
        have f1 : (i : Int) ≥ (p : Int) := by omega
        have f2 : (i : Int) < ((p + m : Nat) : Int) := by omega
        have f3 : ((i : Int) == (p : Int)) = false := by rw [beq_eq_false_iff_ne]; omega
        have HN := Lib.hid (show s = flat wd' (dtoks p m (i + 1)) from by rw [HN0.out, HFA.out, if_pos (by omega), if_neg (by omega), List.append_nil])
        clear hcase
        go_wp2_with fail
        go_roundw
        case rel => exact ⟨i + 1, s, by omega, rfl, rfl, Lib.hid (HN.out), HB3.out⟩
        case measure => simp [intOf]; omega
      · skip
        have f0 : (m : Int) > 1 := by omega
        have f1 : ¬ (i : Int) ≥ (p : Int) := by omega
        have f2 : ¬ (i : Int) > 0 := by omega
        have hk2 := cat_run s d (by omega)
        have HN := Lib.hid (show s ++ d = flat wd' (dtoks p m (i + 1)) from by rw [HN0.out, HFA.out, if_neg (by omega), if_neg (by omega), List.nil_append])
        clear hcase
        have q0 : ∀ zz : Later wr.heap.size wr, zz.val.cell? ⟨b, off + 2 * i, none⟩ = some (.int .u8 (c0.toNat : Int)) := fun zz => (zz.prop.cell (Nat.lt_of_lt_of_le HLT.out HB3.out.size)).trans hq0
        have q1 : ∀ zz : Later wr.heap.size wr, zz.val.cell? ⟨b, off + (2 * i + 1), none⟩ = some (.int .u8 (c1.toNat : Int)) := fun zz => (zz.prop.cell (Nat.lt_of_lt_of_le HLT.out HB3.out.size)).trans hq1
        go_wp2_with fail
        refine wp_region_later wr.heap.size (by kernel_rfl) (by kernel_rfl) ?_
        repeat (go_big_quiet_step ((go_at_call 42; with_reducible exact Later.calls (Nat.le_refl _) (HIN.out _))))
        refine wpQuiet_nil ?_
        rintro w3 ⟨zz, rfl⟩
        have HB4 := Lib.hid (below_step HB3.out zz.prop HB3.out.size)
        clear q0 q1
        go_wp2_with fail
        go_roundw
        case rel => exact ⟨i + 1, s ++ d, by omega, rfl, rfl, Lib.hid (HN.out), HB4.out⟩
        case measure => simp [intOf]; omega
      · skip
        have f0 : (m : Int) > 1 := by omega
        have f1 : ¬ (i : Int) ≥ (p : Int) := by omega
        have f2 : (i : Int) > 0 := by omega
        have f3 : ¬ (m : Int) < 2 := by omega
        have f4 : ((i : Int) != ((p + m : Nat) : Int)) = true := by rw [bne_iff_ne]; omega
        have hk1 : ∀ W, (Op.stringOp .add (ofBs s) ⟨#[58]⟩).run Tryd.prog W = .ok (.string (ofBs (s ++ [58]))) W := cat_run s [58] (by simp; omega)
        have hk2 := cat_run (s ++ [58]) d (by simp; omega)
        have HN := Lib.hid (show s ++ [58] ++ d = flat wd' (dtoks p m (i + 1)) from by rw [HN0.out, HFA.out, if_neg (by omega), if_pos (by omega), List.append_assoc])
        clear hcase
        have q0 : ∀ zz : Later wr.heap.size wr, zz.val.cell? ⟨b, off + 2 * i, none⟩ = some (.int .u8 (c0.toNat : Int)) := fun zz => (zz.prop.cell (Nat.lt_of_lt_of_le HLT.out HB3.out.size)).trans hq0
        have q1 : ∀ zz : Later wr.heap.size wr, zz.val.cell? ⟨b, off + (2 * i + 1), none⟩ = some (.int .u8 (c1.toNat : Int)) := fun zz => (zz.prop.cell (Nat.lt_of_lt_of_le HLT.out HB3.out.size)).trans hq1
        go_wp2_with fail
        refine wp_region_later wr.heap.size (by kernel_rfl) (by kernel_rfl) ?_
        repeat (go_big_quiet_step ((go_at_call 42; with_reducible exact Later.calls (Nat.le_refl _) (HIN.out _))))
        refine wpQuiet_nil ?_
        rintro w3 ⟨zz, rfl⟩
        have HB4 := Lib.hid (below_step HB3.out zz.prop HB3.out.size)
        clear q0 q1
        go_wp2_with fail
        go_roundw
        case rel => exact ⟨i + 1, s ++ [58] ++ d, by omega, rfl, by simp, Lib.hid (HN.out), HB4.out⟩
        case measure => simp [intOf]; omega
      · skip
        have f0 : (m : Int) > 1 := by omega
        have f1 : (i : Int) ≥ (p : Int) := by omega
        have f2 : ¬ (i : Int) < ((p + m : Nat) : Int) := by omega
        have f3 : (i : Int) > 0 := by omega
        have f4 : ¬ (m : Int) < 2 := by omega
        have f5 : ((i : Int) != ((p + m : Nat) : Int)) = false := by rw [bne_eq_false_iff_eq]; omega
        have hk2 := cat_run s d (by omega)
        have HN := Lib.hid (show s ++ d = flat wd' (dtoks p m (i + 1)) from by rw [HN0.out, HFA.out, if_neg (by omega), if_neg (by omega), List.nil_append])
        clear hcase
        have q0 : ∀ zz : Later wr.heap.size wr, zz.val.cell? ⟨b, off + 2 * i, none⟩ = some (.int .u8 (c0.toNat : Int)) := fun zz => (zz.prop.cell (Nat.lt_of_lt_of_le HLT.out HB3.out.size)).trans hq0
        have q1 : ∀ zz : Later wr.heap.size wr, zz.val.cell? ⟨b, off + (2 * i + 1), none⟩ = some (.int .u8 (c1.toNat : Int)) := fun zz => (zz.prop.cell (Nat.lt_of_lt_of_le HLT.out HB3.out.size)).trans hq1
        go_wp2_with fail
        refine wp_region_later wr.heap.size (by kernel_rfl) (by kernel_rfl) ?_
        repeat (go_big_quiet_step ((go_at_call 42; with_reducible exact Later.calls (Nat.le_refl _) (HIN.out _))))
        refine wpQuiet_nil ?_
        rintro w3 ⟨zz, rfl⟩
        have HB4 := Lib.hid (below_step HB3.out zz.prop HB3.out.size)
        clear q0 q1
        go_wp2_with fail
        go_roundw
        case rel => exact ⟨i + 1, s ++ d, by omega, rfl, rfl, Lib.hid (HN.out), HB4.out⟩
        case measure => simp [intOf]; omega
      · skip
        have f0 : (m : Int) > 1 := by omega
        have f1 : (i : Int) ≥ (p : Int) := by omega
        have f2 : ¬ (i : Int) < ((p + m : Nat) : Int) := by omega
        have f3 : (i : Int) > 0 := by omega
        have f4 : ¬ (m : Int) < 2 := by omega
        have f5 : ((i : Int) != ((p + m : Nat) : Int)) = true := by rw [bne_iff_ne]; omega
        have hk1 : ∀ W, (Op.stringOp .add (ofBs s) ⟨#[58]⟩).run Tryd.prog W = .ok (.string (ofBs (s ++ [58]))) W := cat_run s [58] (by simp; omega)
        have hk2 := cat_run (s ++ [58]) d (by simp; omega)
        have HN := Lib.hid (show s ++ [58] ++ d = flat wd' (dtoks p m (i + 1)) from by rw [HN0.out, HFA.out, if_neg (by omega), if_pos (by omega), List.append_assoc])
        clear hcase
        have q0 : ∀ zz : Later wr.heap.size wr, zz.val.cell? ⟨b, off + 2 * i, none⟩ = some (.int .u8 (c0.toNat : Int)) := fun zz => (zz.prop.cell (Nat.lt_of_lt_of_le HLT.out HB3.out.size)).trans hq0
        have q1 : ∀ zz : Later wr.heap.size wr, zz.val.cell? ⟨b, off + (2 * i + 1), none⟩ = some (.int .u8 (c1.toNat : Int)) := fun zz => (zz.prop.cell (Nat.lt_of_lt_of_le HLT.out HB3.out.size)).trans hq1
        go_wp2_with fail
        refine wp_region_later wr.heap.size (by kernel_rfl) (by kernel_rfl) ?_
        repeat (go_big_quiet_step ((go_at_call 42; with_reducible exact Later.calls (Nat.le_refl _) (HIN.out _))))
        refine wpQuiet_nil ?_
        rintro w3 ⟨zz, rfl⟩
        have HB4 := Lib.hid (below_step HB3.out zz.prop HB3.out.size)
        clear q0 q1
        go_wp2_with fail
        go_roundw
        case rel => exact ⟨i + 1, s ++ [58] ++ d, by omega, rfl, by simp, Lib.hid (HN.out), HB4.out⟩
        case measure => simp [intOf]; omega
      · skip
        have f0 : ¬ (m : Int) > 1 := by omega
        have f1 : ¬ (i : Int) > 0 := by omega
        have hk2 := cat_run s d (by omega)
        have HN := Lib.hid (show s ++ d = flat wd' (dtoks p m (i + 1)) from by rw [HN0.out, HFA.out, if_neg (by omega), if_neg (by omega), List.nil_append])
        clear hcase
        have q0 : ∀ zz : Later wr.heap.size wr, zz.val.cell? ⟨b, off + 2 * i, none⟩ = some (.int .u8 (c0.toNat : Int)) := fun zz => (zz.prop.cell (Nat.lt_of_lt_of_le HLT.out HB3.out.size)).trans hq0
        have q1 : ∀ zz : Later wr.heap.size wr, zz.val.cell? ⟨b, off + (2 * i + 1), none⟩ = some (.int .u8 (c1.toNat : Int)) := fun zz => (zz.prop.cell (Nat.lt_of_lt_of_le HLT.out HB3.out.size)).trans hq1
        go_wp2_with fail
        refine wp_region_later wr.heap.size (by kernel_rfl) (by kernel_rfl) ?_
        repeat (go_big_quiet_step ((go_at_call 42; with_reducible exact Later.calls (Nat.le_refl _) (HIN.out _))))
        refine wpQuiet_nil ?_
        rintro w3 ⟨zz, rfl⟩
        have HB4 := Lib.hid (below_step HB3.out zz.prop HB3.out.size)
        clear q0 q1
        go_wp2_with fail
        go_roundw
        case rel => exact ⟨i + 1, s ++ d, by omega, rfl, rfl, Lib.hid (HN.out), HB4.out⟩
        case measure => simp [intOf]; omega
      · skip
        have f0 : ¬ (m : Int) > 1 := by omega
        have f1 : (i : Int) > 0 := by omega
        have f2 : (m : Int) < 2 := by omega
        have hk1 : ∀ W, (Op.stringOp .add (ofBs s) ⟨#[58]⟩).run Tryd.prog W = .ok (.string (ofBs (s ++ [58]))) W := cat_run s [58] (by simp; omega)
        have hk2 := cat_run (s ++ [58]) d (by simp; omega)
        have HN := Lib.hid (show s ++ [58] ++ d = flat wd' (dtoks p m (i + 1)) from by rw [HN0.out, HFA.out, if_neg (by omega), if_pos (by omega), List.append_assoc])
        clear hcase
        have q0 : ∀ zz : Later wr.heap.size wr, zz.val.cell? ⟨b, off + 2 * i, none⟩ = some (.int .u8 (c0.toNat : Int)) := fun zz => (zz.prop.cell (Nat.lt_of_lt_of_le HLT.out HB3.out.size)).trans hq0
        have q1 : ∀ zz : Later wr.heap.size wr, zz.val.cell? ⟨b, off + (2 * i + 1), none⟩ = some (.int .u8 (c1.toNat : Int)) := fun zz => (zz.prop.cell (Nat.lt_of_lt_of_le HLT.out HB3.out.size)).trans hq1
        go_wp2_with fail
        refine wp_region_later wr.heap.size (by kernel_rfl) (by kernel_rfl) ?_
        repeat (go_big_quiet_step ((go_at_call 42; with_reducible exact Later.calls (Nat.le_refl _) (HIN.out _))))
        refine wpQuiet_nil ?_
        rintro w3 ⟨zz, rfl⟩
        have HB4 := Lib.hid (below_step HB3.out zz.prop HB3.out.size)
        clear q0 q1
        go_wp2_with fail
        go_roundw
        case rel => exact ⟨i + 1, s ++ [58] ++ d, by omega, rfl, by simp, Lib.hid (HN.out), HB4.out⟩
        case measure => simp [intOf]; omega
    · obtain rfl : i = 8 := by omega
      have HN := Lib.hid (show s = T from by rw [HS.out, HT.out])
      go_wp2_with fail
      go_ret
      exact ⟨ret_str (by rw [HN.out]), HB2.out.trans (HB3.out.mono HB2.out.size)⟩
theorem rtext_any (a : Ad) (w : World) : Calls Tryd.prog 25 #[encA a] w (TextPost (textA a) w) := by
  obtain ⟨f, x, y⟩ := a
  by_cases h6 : f = 6
  · have : textA (f, x, y) = text6 (f, x, y) := by
      unfold textA
      rw [if_pos (Px.rightA_iff.2 (.inl h6)), if_pos h6]
    rw [this]; exact rtext_6 f x y w h6
  · by_cases h4 : f = 4
    · have : textA (f, x, y) = joinC 46 ((bytesA (f, x, y)).map fun c => digs 10 c.toNat) := by
        unfold textA
        cases hr : rightA (f, x, y) with
        | true => rw [if_pos rfl, if_neg h6]; rfl
        | false => rw [if_neg (by simp)]; unfold bytesA; rw [hr]; rfl
      rw [this]; exact rtext_4 f x y w h4
    · have : textA (f, x, y) = [] := by
        unfold textA
        cases hr : rightA (f, x, y) with
        | true => rcases Px.rightA_iff.1 hr with h | h
                  · exact absurd h h6
                  · exact absurd h.1 h4
        | false => rfl
      rw [this]; exact rtext_other f x y w h4 h6
end Go.Proofs.Tryd.Tx
