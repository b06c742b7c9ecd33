/- The document's text of an address. -/
import Derived.Test.YtpikpfbpoihioaaDoorBt3
import Derived.Test.YtpikpfbpoihioaaDoorAz2
set_option linter.unusedVariables false
set_option linter.unusedSimpArgs false
set_option maxRecDepth 100000
namespace Go.Proofs.Tryd.Tx
open Go.RowKit Go.Cph Go.Cph.Tx
open Go.Cph.Ok (ofBs)
open Go.Cph.Px (Ad rightA bytesA zeroA lessA fromB fromOk)
open Go.Proofs.Tryd.Pfx (encA bcell ad_eq BsAt bs_cells encB rbytes BytesPost)
abbrev boxR (a : Ad) : Obj := .cells #[.int .u8 (a.1.toNat : Int), .int .u64 (a.2.1.toNat : Int), .int .u64 (a.2.2.toNat : Int)] 39 (0, 0)
abbrev TextPost (t : Bs) (w : World) (e : Ending) (w' : World) : Prop := e = .returned (.string (ofBs t)) ∧ Below w.heap.size w w'
set_option maxHeartbeats 1600000 in
theorem rtext_other (f : UInt8) (x y : UInt64) (w : World) (h4 : f ≠ 4) (h6 : f ≠ 6) : Calls Tryd.prog 25 #[encA (f, x, y)] w (TextPost [] w) := by
  obtain ⟨l, hl⟩ : ∃ l, l = bytesA (f, x, y) := ⟨_, rfl⟩
  have HBY := Lib.hid (fun W => rbytes (f, x, y) W)
  rw [← hl] at HBY
  clear hl
  have z4 : ((f.toNat : Int) == 4) = false := by rw [show ((f.toNat : Int) == 4) = (f == 4) from Pfx.u8_eq f 4]; simpa using h4
  have z6 : ((f.toNat : Int) != 6) = true := by rw [bne, show ((f.toNat : Int) == 6) = (f == 6) from Pfx.u8_eq f 6]; simpa using h6
  clear h4 h6
  have HBX := Lib.hid (show Below w.heap.size w (w.alloc (boxR (f, x, y))) from (Below.refl _ _).alloc (Nat.le_refl _) _)
  have HX := Lib.hid (heap_alloc_new w (boxR (f, x, y)))
  have c0 : (w.alloc (boxR (f, x, y))).cell? ⟨w.heap.size, 0, none⟩ = some (.int .u8 (f.toNat : Int)) := by rw [blk_cell HX.out]; rfl
  have c1 : (w.alloc (boxR (f, x, y))).cell? ⟨w.heap.size, 1, none⟩ = some (.int .u64 (x.toNat : Int)) := by rw [blk_cell HX.out]; rfl
  have c2 : (w.alloc (boxR (f, x, y))).cell? ⟨w.heap.size, 2, none⟩ = some (.int .u64 (y.toNat : Int)) := by rw [blk_cell HX.out]; rfl
  go_enter Tryd.func25, Tryd.ntmps25
  go_wp2_with fail
  refine (HBY.out _).mono ?_
  rintro e w1 ⟨v', rfl, ho, hb⟩
  have HB1 := Lib.hid (below_step HBX.out hb HBX.out.size)
  have HX1 := Lib.hid (blk_kept hb HX.out)
  have HO := Lib.hid (show BsAt w1 v' l from Seg.of_owns ho)
  clear hb ho c0 c1 c2 HX HBX
  have c0 : w1.cell? ⟨w.heap.size, 0, none⟩ = some (.int .u8 (f.toNat : Int)) := by rw [blk_cell HX1.out]; rfl
  go_wp2_with fail
  go_ret
  exact ⟨rfl, HB1.out⟩
set_option maxHeartbeats 3200000 in
theorem rtext_4 (f : UInt8) (x y : UInt64) (w : World) (h4 : f = 4) : Calls Tryd.prog 25 #[encA (f, x, y)] w (TextPost (joinC 46 ((bytesA (f, x, y)).map fun c => digs 10 c.toNat)) w) := by
  obtain ⟨l, hl⟩ : ∃ l, l = bytesA (f, x, y) := ⟨_, rfl⟩
  have HLL := Lib.hid (show l.length ≤ 16 from by rw [hl]; exact Pfx.bytesA_le _)
  have HBY := Lib.hid (fun W => rbytes (f, x, y) W)
  rw [← hl] at HBY ⊢
  clear hl
  have z4 : ((f.toNat : Int) == 4) = true := by rw [show ((f.toNat : Int) == 4) = (f == 4) from Pfx.u8_eq f 4]; simpa using h4
  clear h4
  have HBX := Lib.hid (show Below w.heap.size w (w.alloc (boxR (f, x, y))) from (Below.refl _ _).alloc (Nat.le_refl _) _)
  have HX := Lib.hid (heap_alloc_new w (boxR (f, x, y)))
  have c0 : (w.alloc (boxR (f, x, y))).cell? ⟨w.heap.size, 0, none⟩ = some (.int .u8 (f.toNat : Int)) := by rw [blk_cell HX.out]; rfl
  have c1 : (w.alloc (boxR (f, x, y))).cell? ⟨w.heap.size, 1, none⟩ = some (.int .u64 (x.toNat : Int)) := by rw [blk_cell HX.out]; rfl
  have c2 : (w.alloc (boxR (f, x, y))).cell? ⟨w.heap.size, 2, none⟩ = some (.int .u64 (y.toNat : Int)) := by rw [blk_cell HX.out]; rfl
  go_enter Tryd.func25, Tryd.ntmps25
  go_wp2_with fail
  refine (HBY.out _).mono ?_
  rintro e w1 ⟨v', rfl, ho, hb⟩
  have HB1 := Lib.hid (below_step HBX.out hb HBX.out.size)
  have HX1 := Lib.hid (blk_kept hb HX.out)
  have HO := Lib.hid (show BsAt w1 v' l from Seg.of_owns ho)
  clear hb ho c0 c1 c2 HX HBX
  have c0 : w1.cell? ⟨w.heap.size, 0, none⟩ = some (.int .u8 (f.toNat : Int)) := by rw [blk_cell HX1.out]; rfl
  obtain ⟨ao, cap, rfl⟩ := elems_slice HO.out
  go_wp2_with fail
  go_loopw [4, 5] (fun v4 v5 W => ∃ (i : Nat) (s : Bs), i ≤ l.length ∧ v5 = .int .i64 (i : Int) ∧ v4 = .string (ofBs s) ∧ Hid (s = joinC 46 ((l.take i).map fun c => digs 10 c.toNat)) ∧ Below w1.heap.size w1 W) (fun _ v5 _ => l.length - (intOf v5).toNat)
  case atStart => exact ⟨0, [], by omega, rfl, rfl, Lib.hid rfl, Below.refl _ _⟩
  case round =>
    obtain ⟨i, s, hi, rfl, rfl, HS, hb⟩ := hrel
    have HB2 := Lib.hid hb
    clear hb
    have hli := HLL.out
    by_cases hil : i < l.length
    · have hii : (i : Int) < (l.length : Int) := by omega
      obtain ⟨b, off, cap', hve, hcs⟩ := bs_cells HO.out (by omega)
      cases hve
      have q0 := cell_kept HB2.out (hcs i hil)
      obtain ⟨c, hc⟩ : ∃ c, c = l[i] := ⟨_, rfl⟩
      have HT := Lib.hid (show l.take (i + 1) = l.take i ++ [c] from by rw [hc]; simp)
      rw [← hc] at q0
      clear hc hcs
      have k1 : IntKind.i64.wrap ((i : Int) + 1) = ((i + 1 : Nat) : Int) := by rw [IntKind.wrap_i64]; omega
      have hs : s.length ≤ 200 := by
        rw [HS.out]
        have := joinC_len 46 ((l.take i).map fun c => digs 10 c.toNat) (fun x hx => by obtain ⟨c, -, rfl⟩ := List.mem_map.1 hx; exact digs_len _ _)
        rw [List.length_map, List.length_take] at this; omega
      have hcl := digs_len 10 c.toNat
      have HIN := Lib.hid (fun W => in10 c.toNat (by have := c.toNat_lt; omega) W)
      obtain ⟨d, hd⟩ : ∃ d, d = digs 10 c.toNat := ⟨_, rfl⟩
      rw [← hd] at HIN hcl
      by_cases h0 : i = 0
      · have hi0 : ¬ (i : Int) > 0 := by omega
        have HN := Lib.hid (show s ++ d = joinC 46 ((l.take (i + 1)).map fun c => digs 10 c.toNat) from by rw [HS.out, HT.out, hd, h0]; rfl)
        clear h0
        have hk := cat_run s d (by omega)
        have HK := Lib.hid hk
        clear hd hk
        go_wp2_with fail
        refine (HIN.out _).mono ?_
        rintro e w2 ⟨rfl, hb⟩
        have HB3 := Lib.hid (below_step HB2.out hb HB2.out.size)
        clear hb q0
        have hk := HK.out
        go_wp2_with fail
        go_roundw
        case rel => exact ⟨i + 1, s ++ d, by omega, rfl, rfl, Lib.hid HN.out, HB3.out⟩
        case measure => simp [intOf]; omega
      · have hi0 : (i : Int) > 0 := by omega
        have HN := Lib.hid (show s ++ [46] ++ d = joinC 46 ((l.take (i + 1)).map fun c => digs 10 c.toNat) from by
          rw [HT.out, List.map_append, List.map_singleton, joinC_snoc 46 _ _ (by intro e; have h1 := congrArg List.length e; rw [List.length_map, List.length_take] at h1; simp only [List.length_nil] at h1; omega), ← HS.out, hd])
        have hk1 : ∀ W, (Op.stringOp .add (ofBs s) ⟨#[46]⟩).run Tryd.prog W = .ok (.string (ofBs (s ++ [46]))) W := cat_run s [46] (by simp; omega)
        have HK := Lib.hid (cat_run (s ++ [46]) d (by simp; omega))
        clear hd
        go_wp2_with fail
        refine (HIN.out _).mono ?_
        rintro e w2 ⟨rfl, hb⟩
        have HB3 := Lib.hid (below_step HB2.out hb HB2.out.size)
        clear hb q0 hk1
        have hk := HK.out
        go_wp2_with fail
        go_roundw
        case rel => exact ⟨i + 1, s ++ [46] ++ d, by omega, rfl, by simp, Lib.hid HN.out, HB3.out⟩
        case measure => simp [intOf]; omega
    · obtain rfl : i = l.length := by omega
      have HN := Lib.hid (show s = joinC 46 (l.map fun c => digs 10 c.toNat) from by rw [HS.out, List.take_length])
      go_wp2_with fail
      go_ret
      exact ⟨ret_str (by rw [HN.out]), HB1.out.trans (HB2.out.mono HB1.out.size)⟩
end Go.Proofs.Tryd.Tx
