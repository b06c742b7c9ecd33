/- The document's stays on a list that rises. -/
import Derived.Test.YtggcdeabnibibaaMp5
import Derived.Deep.RegionHeld3
set_option linter.unusedVariables false
set_option linter.unusedSimpArgs false
namespace Go.Proofs.Try.Mg
open Go.RowKit Go.Cph Go.Cph.Skip Go.Cph.So

theorem stayB_head {s : List Ent} {i : Nat} {snaps : List UInt64} (h : headB s i = true) : stayB s i snaps = true := by unfold stayB; rw [h]; rfl
theorem stayB_tail {s : List Ent} {i : Nat} {snaps : List UInt64} (h : headB s i = false) : stayB s i snaps = snaps.any (stayAt s i) := by unfold stayB; rw [h]; rfl

set_option maxRecDepth 100000 in
set_option maxHeartbeats 8000000 in
theorem stays16 (v vn : Value) (s : List Ent) (i : Nat) (snaps : List UInt64) (w : World) (h : EntsAt w v s) (hnum : NumsAt w vn snaps) (hs : Strict ltE s) (hi : i < s.length) (hl : s.length ≤ 1000000) (hl2 : snaps.length ≤ 1000000) :
    Calls Try.prog 34 #[v, .int .i64 i, vn] w fun e w' => e = .returned (.bool (stayB s i snaps)) ∧ Below w.heap.size w w' := by
  obtain ⟨b, off, cap, hve, hcs⟩ := ents_cells h (by omega)
  subst hve
  obtain ⟨no, ncap, hnv⟩ := elems_slice hnum
  subst hnv
  have HV := Lib.hid h
  have HN := Lib.hid hnum
  have HSS := Lib.hid hs
  have hcx := hcs i hi
  obtain ⟨x, hx⟩ : ∃ x, x = s[i] := ⟨_, rfl⟩
  rw [← hx] at hcx
  have HX := Lib.hid hx
  have HCX := Lib.hid hcx
  have d0 := hcx.c0
  have HD := Lib.hid (show ∀ nq, Below w.heap.size w (w.drewN nq) from fun nq => ⟨rfl, rfl, rfl, Nat.le_refl _, fun _ _ => rfl⟩)
  by_cases hi0 : i = 0
  · subst hi0
    have HB := Lib.hid (stayB_head (snaps := snaps) (show headB s 0 = true from rfl))
    clear h hnum hs hcs hcx hx
    go_enter Try.func34, Try.ntmps34
    go_wp2_with fail
    go_quiet (fail)
    go_wp2_with fail
    go_ret
    exact ⟨ret_bool HB.out.symm, HD.out _⟩
  · obtain ⟨m, hm⟩ : ∃ m, i = m + 1 := ⟨i - 1, by omega⟩
    have hcy := hcs m (by omega)
    obtain ⟨y, hy⟩ : ∃ y, y = s[m]'(by omega) := ⟨_, rfl⟩
    rw [← hy] at hcy
    have e0 := hcy.c0
    have hh : headB s i = decide (y.1 ≠ x.1) := by
      have h1 : s[m]? = some y := by rw [hy]; exact List.getElem?_eq_getElem _
      have h2 : s[m + 1]? = some x := by rw [hx]; simp only [hm]; exact List.getElem?_eq_getElem (by omega)
      rw [hm]
      unfold headB
      simp only
      rw [h1, h2]
      simp
    have k0 : ((i : Int) == 0) = false := by simp; omega
    have k1 : (0 : Int) ≤ (i : Int) := by omega
    have k2 : (i : Int) < (s.length : Int) := by omega
    have k3 : IntKind.i64.wrap ((i : Int) - 1) = (i : Int) - 1 := by rw [IntKind.wrap_i64]; omega
    have k4 : (0 : Int) ≤ (i : Int) - 1 := by omega
    have k5 : (i : Int) - 1 < (s.length : Int) := by omega
    have k6 : ((i : Int) - 1).toNat = m := by omega
    by_cases hky : y.1 = x.1
    · have j1 : (y.1.toList == x.1.toList) = true := by rw [beq_toList]; simpa using hky
      have HB := Lib.hid (stayB_tail (snaps := snaps) (show headB s i = false by rw [hh]; simp [hky]))
      clear h hnum hs hcs hcx hx hi0 hm hcy hy hh hky
      go_enter Try.func34, Try.ntmps34
      go_wp2_with fail
      go_quiet (fail)
      clear d0 e0
      have HDD := Lib.hid (HD.out nq)
      generalize w.drewN nq = w1 at *
      go_wp2_with fail
      go_loopw [7] (fun vk W => ∃ k : Nat, k ≤ snaps.length ∧ vk = .int .i64 k ∧ (∀ a ∈ snaps.take k, stayAt s i a = false) ∧ Below w.heap.size w W) (fun vk _ => snaps.length - (intOf vk).toNat)
      case atStart => exact ⟨0, Nat.zero_le _, rfl, fun a ha => by simp at ha, HDD.out⟩
      case round =>
        obtain ⟨k, hk, rfl, hf, hbel⟩ := hrel
        have HF := Lib.hid hf
        have HBE := Lib.hid hbel
        by_cases hlt : k < snaps.length
        · obtain ⟨nb, noff, ncap', hve, hns⟩ := nums_cells (HN.out.kept hbel) (by omega)
          injection hve with hx1 hx2 hx3
          subst hx1
          clear hx2 hx3
          have hna := hns k hlt
          obtain ⟨a, ha⟩ : ∃ a, a = snaps[k] := ⟨_, rfl⟩
          rw [← ha] at hna
          have HNA := Lib.hid ha
          have hcx := HCX.out.kept hbel
          have d0 := hcx.c0
          have HAT := Lib.hid (show ∀ W, Below wr.heap.size wr W → Calls Try.prog 33 #[.slice (some ⟨b, off, none⟩) s.length cap, .string x.1, .int .u64 (a.toNat : Int)] W (AtPost s x.1 a W) from fun W hb => at09 _ s x.1 a W (HV.out.kept (below_step HBE.out hb HBE.out.size)) HSS.out hl)
          have HST := Lib.hid (show stayAt s i a = match s.find? (atP x.1 a) with | some e => decide (e.2.2.1 = x.2.2.1) | none => false by
            unfold stayAt; rw [List.getElem?_eq_getElem hi, ← HX.out]; rfl)
          have j2 : (0 : Int) ≤ (k : Int) := by omega
          have j3 : (k : Int) < (snaps.length : Int) := by omega
          have j4 : IntKind.i64.wrap ((k : Int) + 1) = (k : Int) + 1 := by rw [IntKind.wrap_i64]; omega
          clear hf hbel hns ha
          go_wp2_with fail
          cases hfd : s.find? (atP x.1 a) with
          | none =>
            have HC := Lib.hid (show ∀ W, Below wr.heap.size wr W → Calls Try.prog 33 #[.slice (some ⟨b, off, none⟩) s.length cap, .string x.1, .int .u64 (a.toNat : Int)] W (fun e w' => e = .returned (.tuple #[ZEROP, .bool false]) ∧ Below W.heap.size W w') from fun W hb => (HAT.out W hb).mono fun e w' he => by
              rcases he with ⟨⟨z, hz, _⟩ | ⟨_, he⟩, hb⟩
              · rw [hfd] at hz; cases hz
              · exact ⟨he, hb⟩)
            have HS0 := Lib.hid (show stayAt s i a = false by rw [HST.out, hfd])
            clear HAT HST hfd
            have q1 : b < wr.heap.size := World.block_lt_of_cell? _ _ d0
            have q2 : nb < wr.heap.size := World.block_lt_of_cell? _ _ hna
            have n1 : wr.heap.size ≠ b := by omega
            have n2 : wr.heap.size ≠ nb := by omega
            have n3 : b ≠ wr.heap.size := by omega
            have n4 : nb ≠ wr.heap.size := by omega
            have HDR := Lib.hid (show Below wr.heap.size wr wr.drew from ⟨rfl, rfl, rfl, Nat.le_refl _, fun _ _ => rfl⟩)
            have HCL := Lib.hid (show ∀ W, Below wr.heap.size wr W → W.cell? ⟨b, off + i * 4, none⟩ = some (.string x.1) ∧ W.cell? ⟨nb, noff + k, none⟩ = some (.int .u64 (a.toNat : Int)) ∧ W.cell? ⟨b, off + i * 4 + 2, none⟩ = some (.int .u64 (x.2.2.1.toNat : Int)) from fun W hb => ⟨(hcx.kept hb).c0, cell_kept hb hna, (hcx.kept hb).c2⟩)
            go_region_held3 (fun W => W.cell? ⟨b, off + i * 4, none⟩ = some (.string x.1) ∧ W.cell? ⟨nb, noff + k, none⟩ = some (.int .u64 (a.toNat : Int)))
              (go_keep)
              ((go_at_call 33; refine (HC.out _ (by first | exact HDR.out | exact HDR.out.alloc HDR.out.size _)).mono ?_; rintro e w3 ⟨rfl, hb⟩; (have HW := Lib.hid (show Below wr.heap.size wr w3 from by first | exact below_step HDR.out hb HDR.out.size | exact below_step (HDR.out.alloc HDR.out.size _) hb (HDR.out.alloc HDR.out.size _).size)); (have c0 := (HCL.out _ HW.out).1); (have c1 := (HCL.out _ HW.out).2.1); (have c2 := (HCL.out _ HW.out).2.2); try (have hbx : w3.heap[wr.heap.size]? = some (.cells ZBOX TE) := blk_kept hb (heap_alloc_new wr.drew _); have b0 : w3.cell? ⟨wr.heap.size, 0, none⟩ = some (.string ByteArray.empty) := (by rw [blk_cell hbx]; rfl); have b1 : w3.cell? ⟨wr.heap.size, 1, none⟩ = some (.string ByteArray.empty) := (by rw [blk_cell hbx]; rfl); have b2 : w3.cell? ⟨wr.heap.size, 2, none⟩ = some (.int .u64 0) := (by rw [blk_cell hbx]; rfl); have b3 : w3.cell? ⟨wr.heap.size, 3, none⟩ = some (.bool false) := (by rw [blk_cell hbx]; rfl); have bf : ∀ j, w3.frozen? ⟨wr.heap.size, j, none⟩ = false := (fun j => by rw [blk_frozen hbx]; simp))))
            · have HWX := Lib.hid (show Below w.heap.size w (w3.alloc (.cells #[.string ByteArray.empty, .string ByteArray.empty, .int .u64 0, .bool false] TE)) from below_step HBE.out (HW.out.alloc HW.out.size _) HBE.out.size)
              obtain ⟨wx, hwx⟩ : ∃ W : World, W = (w3.alloc (.cells #[.string ByteArray.empty, .string ByteArray.empty, .int .u64 0, .bool false] TE)) := ⟨_, rfl⟩
              rw [← hwx] at HWX ⊢
              clear hwx
              go_wp2_with fail
              go_quiet (fail)
              have HBF := Lib.hid (below_step HWX.out (show Below wx.heap.size wx (wx.drewN nq) from ⟨rfl, rfl, rfl, Nat.le_refl _, fun _ _ => rfl⟩) HWX.out.size)
              generalize wx.drewN nq = wy at *
              go_wp2_with fail
              go_roundw
              case rel =>
                refine ⟨k + 1, hlt, by go_num, fun a' ha' => ?_, HBF.out⟩
                rw [List.take_succ_eq_append_getElem hlt, List.mem_append] at ha'
                rcases ha' with ha' | ha'
                · exact HF.out a' ha'
                · simp at ha'; rw [ha', ← HNA.out]; exact HS0.out
              case measure => simp [intOf]; omega
            · have HWX := Lib.hid (show Below w.heap.size w ((((w3.setCell ⟨wr.heap.size, 0, none⟩ (.string ByteArray.empty)).setCell ⟨wr.heap.size, 1, none⟩ (.string ByteArray.empty)).setCell ⟨wr.heap.size, 2, none⟩ (.int .u64 0)).setCell ⟨wr.heap.size, 3, none⟩ (.bool false)) from below_step HBE.out ((((HW.out.setCell (p := ⟨wr.heap.size, 0, none⟩) (Nat.le_refl _) (.string ByteArray.empty)).setCell (p := ⟨wr.heap.size, 1, none⟩) (Nat.le_refl _) (.string ByteArray.empty)).setCell (p := ⟨wr.heap.size, 2, none⟩) (Nat.le_refl _) (.int .u64 0)).setCell (p := ⟨wr.heap.size, 3, none⟩) (Nat.le_refl _) (.bool false)) HBE.out.size)
              obtain ⟨wx, hwx⟩ : ∃ W : World, W = ((((w3.setCell ⟨wr.heap.size, 0, none⟩ (.string ByteArray.empty)).setCell ⟨wr.heap.size, 1, none⟩ (.string ByteArray.empty)).setCell ⟨wr.heap.size, 2, none⟩ (.int .u64 0)).setCell ⟨wr.heap.size, 3, none⟩ (.bool false)) := ⟨_, rfl⟩
              rw [← hwx] at HWX ⊢
              clear hwx
              go_wp2_with fail
              go_quiet (fail)
              have HBF := Lib.hid (below_step HWX.out (show Below wx.heap.size wx (wx.drewN nq) from ⟨rfl, rfl, rfl, Nat.le_refl _, fun _ _ => rfl⟩) HWX.out.size)
              generalize wx.drewN nq = wy at *
              go_wp2_with fail
              go_roundw
              case rel =>
                refine ⟨k + 1, hlt, by go_num, fun a' ha' => ?_, HBF.out⟩
                rw [List.take_succ_eq_append_getElem hlt, List.mem_append] at ha'
                rcases ha' with ha' | ha'
                · exact HF.out a' ha'
                · simp at ha'; rw [ha', ← HNA.out]; exact HS0.out
              case measure => simp [intOf]; omega
          | some z =>
            have HC := Lib.hid (show ∀ W, Below wr.heap.size wr W → Calls Try.prog 33 #[.slice (some ⟨b, off, none⟩) s.length cap, .string x.1, .int .u64 (a.toNat : Int)] W (fun e w' => e = .returned (.tuple #[encP z, .bool true]) ∧ Below W.heap.size W w') from fun W hb => (HAT.out W hb).mono fun e w' he => by
              rcases he with ⟨⟨z', hz, he⟩ | ⟨hz, _⟩, hb⟩
              · rw [hfd] at hz; cases hz; exact ⟨he, hb⟩
              · rw [hfd] at hz; cases hz)
            have HS1 := Lib.hid (show stayAt s i a = decide (z.2.2.1 = x.2.2.1) by rw [HST.out, hfd])
            clear HAT HST hfd
            have q1 : b < wr.heap.size := World.block_lt_of_cell? _ _ d0
            have q2 : nb < wr.heap.size := World.block_lt_of_cell? _ _ hna
            have n1 : wr.heap.size ≠ b := by omega
            have n2 : wr.heap.size ≠ nb := by omega
            have n3 : b ≠ wr.heap.size := by omega
            have n4 : nb ≠ wr.heap.size := by omega
            have HDR := Lib.hid (show Below wr.heap.size wr wr.drew from ⟨rfl, rfl, rfl, Nat.le_refl _, fun _ _ => rfl⟩)
            have HCL := Lib.hid (show ∀ W, Below wr.heap.size wr W → W.cell? ⟨b, off + i * 4, none⟩ = some (.string x.1) ∧ W.cell? ⟨nb, noff + k, none⟩ = some (.int .u64 (a.toNat : Int)) ∧ W.cell? ⟨b, off + i * 4 + 2, none⟩ = some (.int .u64 (x.2.2.1.toNat : Int)) from fun W hb => ⟨(hcx.kept hb).c0, cell_kept hb hna, (hcx.kept hb).c2⟩)
            go_region_held3 (fun W => W.cell? ⟨b, off + i * 4, none⟩ = some (.string x.1) ∧ W.cell? ⟨nb, noff + k, none⟩ = some (.int .u64 (a.toNat : Int)))
              (go_keep)
              ((go_at_call 33; refine (HC.out _ (by first | exact HDR.out | exact HDR.out.alloc HDR.out.size _)).mono ?_; rintro e w3 ⟨rfl, hb⟩; (have HW := Lib.hid (show Below wr.heap.size wr w3 from by first | exact below_step HDR.out hb HDR.out.size | exact below_step (HDR.out.alloc HDR.out.size _) hb (HDR.out.alloc HDR.out.size _).size)); (have c0 := (HCL.out _ HW.out).1); (have c1 := (HCL.out _ HW.out).2.1); (have c2 := (HCL.out _ HW.out).2.2); try (have hbx : w3.heap[wr.heap.size]? = some (.cells ZBOX TE) := blk_kept hb (heap_alloc_new wr.drew _); have b0 : w3.cell? ⟨wr.heap.size, 0, none⟩ = some (.string ByteArray.empty) := (by rw [blk_cell hbx]; rfl); have b1 : w3.cell? ⟨wr.heap.size, 1, none⟩ = some (.string ByteArray.empty) := (by rw [blk_cell hbx]; rfl); have b2 : w3.cell? ⟨wr.heap.size, 2, none⟩ = some (.int .u64 0) := (by rw [blk_cell hbx]; rfl); have b3 : w3.cell? ⟨wr.heap.size, 3, none⟩ = some (.bool false) := (by rw [blk_cell hbx]; rfl); have bf : ∀ j, w3.frozen? ⟨wr.heap.size, j, none⟩ = false := (fun j => by rw [blk_frozen hbx]; simp))))
            · have HWX := Lib.hid (show Below w.heap.size w (w3.alloc (.cells #[.string z.1, .string z.2.1, .int .u64 (z.2.2.1.toNat : Int), .bool z.2.2.2] TE)) from below_step HBE.out (HW.out.alloc HW.out.size _) HBE.out.size)
              have hbz := heap_alloc_new w3 (.cells #[.string z.1, .string z.2.1, .int .u64 (z.2.2.1.toNat : Int), .bool z.2.2.2] TE)
              have v2 : (w3.alloc (.cells #[.string z.1, .string z.2.1, .int .u64 (z.2.2.1.toNat : Int), .bool z.2.2.2] TE)).cell? ⟨w3.heap.size, 2, none⟩ = some (.int .u64 (z.2.2.1.toNat : Int)) := by rw [blk_cell hbz]; rfl
              have x2 : (w3.alloc (.cells #[.string z.1, .string z.2.1, .int .u64 (z.2.2.1.toNat : Int), .bool z.2.2.2] TE)).cell? ⟨b, off + i * 4 + 2, none⟩ = some (.int .u64 (x.2.2.1.toNat : Int)) := cell_kept ((Below.refl _ _).alloc (Nat.le_refl _) _) c2
              clear hbz
              obtain ⟨wx, hwx⟩ : ∃ W : World, W = (w3.alloc (.cells #[.string z.1, .string z.2.1, .int .u64 (z.2.2.1.toNat : Int), .bool z.2.2.2] TE)) := ⟨_, rfl⟩
              rw [← hwx] at HWX v2 x2 ⊢
              obtain ⟨bn, hbn⟩ : ∃ n : Nat, n = w3.heap.size := ⟨_, rfl⟩
              rw [← hbn] at v2 ⊢
              clear hwx hbn
              have HBG := Lib.hid (show ∀ nq, Below w.heap.size w (wx.drewN nq) from fun nq => below_step HWX.out (show Below wx.heap.size wx (wx.drewN nq) from ⟨rfl, rfl, rfl, Nat.le_refl _, fun _ _ => rfl⟩) HWX.out.size)
              clear n1 n2 n3 n4 q1 q2
              by_cases hzx : z.2.2.1 = x.2.2.1
              · have j7 : ((z.2.2.1.toNat : Int) == (x.2.2.1.toNat : Int)) = true := by rw [hzx]; simp
                have j8 : (z.2.2.1.toNat == x.2.2.1.toNat) = true := by rw [hzx]; simp
                have HT := Lib.hid (show snaps.any (stayAt s i) = true by
                  rw [List.any_eq_true]
                  exact ⟨a, by rw [HNA.out]; exact List.getElem_mem _, by rw [HS1.out]; simpa using hzx⟩)
                clear hzx
                go_wp2_with fail
                go_quiet (fail)
                go_wp2_with fail
                go_ret
                exact ⟨ret_bool (by rw [HB.out, HT.out]), HBG.out _⟩
              · have hzn : z.2.2.1.toNat ≠ x.2.2.1.toNat := fun e => hzx (UInt64.toNat_inj.1 e)
                have j7 : ((z.2.2.1.toNat : Int) == (x.2.2.1.toNat : Int)) = false := by simp; omega
                have j8 : (z.2.2.1.toNat == x.2.2.1.toNat) = false := by simpa using hzn
                have HS0 := Lib.hid (show stayAt s i a = false by rw [HS1.out]; simpa using hzx)
                clear hzx hzn
                go_wp2_with fail
                go_quiet (fail)
                clear v2 x2
                have HBF := Lib.hid (HBG.out nq)
                generalize wx.drewN nq = wy at *
                go_wp2_with fail
                go_roundw
                case rel =>
                  refine ⟨k + 1, hlt, by go_num, fun a' ha' => ?_, HBF.out⟩
                  rw [List.take_succ_eq_append_getElem hlt, List.mem_append] at ha'
                  rcases ha' with ha' | ha'
                  · exact HF.out a' ha'
                  · simp at ha'; rw [ha', ← HNA.out]; exact HS0.out
                case measure => simp [intOf]; omega
            · have HWX := Lib.hid (show Below w.heap.size w ((((w3.setCell ⟨wr.heap.size, 0, none⟩ (.string z.1)).setCell ⟨wr.heap.size, 1, none⟩ (.string z.2.1)).setCell ⟨wr.heap.size, 2, none⟩ (.int .u64 (z.2.2.1.toNat : Int))).setCell ⟨wr.heap.size, 3, none⟩ (.bool z.2.2.2)) from below_step HBE.out ((((HW.out.setCell (p := ⟨wr.heap.size, 0, none⟩) (Nat.le_refl _) (.string z.1)).setCell (p := ⟨wr.heap.size, 1, none⟩) (Nat.le_refl _) (.string z.2.1)).setCell (p := ⟨wr.heap.size, 2, none⟩) (Nat.le_refl _) (.int .u64 (z.2.2.1.toNat : Int))).setCell (p := ⟨wr.heap.size, 3, none⟩) (Nat.le_refl _) (.bool z.2.2.2)) HBE.out.size)
              have v2 : ((((w3.setCell ⟨wr.heap.size, 0, none⟩ (.string z.1)).setCell ⟨wr.heap.size, 1, none⟩ (.string z.2.1)).setCell ⟨wr.heap.size, 2, none⟩ (.int .u64 (z.2.2.1.toNat : Int))).setCell ⟨wr.heap.size, 3, none⟩ (.bool z.2.2.2)).cell? ⟨wr.heap.size, 2, none⟩ = some (.int .u64 (z.2.2.1.toNat : Int)) := by rw [blk_cell (blk_set (blk_set (blk_set (blk_set hbx 0 _) 1 _) 2 _) 3 _)]; rfl
              have x2 : ((((w3.setCell ⟨wr.heap.size, 0, none⟩ (.string z.1)).setCell ⟨wr.heap.size, 1, none⟩ (.string z.2.1)).setCell ⟨wr.heap.size, 2, none⟩ (.int .u64 (z.2.2.1.toNat : Int))).setCell ⟨wr.heap.size, 3, none⟩ (.bool z.2.2.2)).cell? ⟨b, off + i * 4 + 2, none⟩ = some (.int .u64 (x.2.2.1.toNat : Int)) := by simp [World.cell?_setCell_far, n1, c2]
              clear b0 b1 b2 b3 bf hbx
              obtain ⟨wx, hwx⟩ : ∃ W : World, W = ((((w3.setCell ⟨wr.heap.size, 0, none⟩ (.string z.1)).setCell ⟨wr.heap.size, 1, none⟩ (.string z.2.1)).setCell ⟨wr.heap.size, 2, none⟩ (.int .u64 (z.2.2.1.toNat : Int))).setCell ⟨wr.heap.size, 3, none⟩ (.bool z.2.2.2)) := ⟨_, rfl⟩
              rw [← hwx] at HWX v2 x2 ⊢
              obtain ⟨bn, hbn⟩ : ∃ n : Nat, n = wr.heap.size := ⟨_, rfl⟩
              rw [← hbn] at v2 ⊢
              clear hwx hbn
              have HBG := Lib.hid (show ∀ nq, Below w.heap.size w (wx.drewN nq) from fun nq => below_step HWX.out (show Below wx.heap.size wx (wx.drewN nq) from ⟨rfl, rfl, rfl, Nat.le_refl _, fun _ _ => rfl⟩) HWX.out.size)
              clear n1 n2 n3 n4 q1 q2
              by_cases hzx : z.2.2.1 = x.2.2.1
              · have j7 : ((z.2.2.1.toNat : Int) == (x.2.2.1.toNat : Int)) = true := by rw [hzx]; simp
                have j8 : (z.2.2.1.toNat == x.2.2.1.toNat) = true := by rw [hzx]; simp
                have HT := Lib.hid (show snaps.any (stayAt s i) = true by
                  rw [List.any_eq_true]
                  exact ⟨a, by rw [HNA.out]; exact List.getElem_mem _, by rw [HS1.out]; simpa using hzx⟩)
                clear hzx
                go_wp2_with fail
                go_quiet (fail)
                go_wp2_with fail
                go_ret
                exact ⟨ret_bool (by rw [HB.out, HT.out]), HBG.out _⟩
              · have hzn : z.2.2.1.toNat ≠ x.2.2.1.toNat := fun e => hzx (UInt64.toNat_inj.1 e)
                have j7 : ((z.2.2.1.toNat : Int) == (x.2.2.1.toNat : Int)) = false := by simp; omega
                have j8 : (z.2.2.1.toNat == x.2.2.1.toNat) = false := by simpa using hzn
                have HS0 := Lib.hid (show stayAt s i a = false by rw [HS1.out]; simpa using hzx)
                clear hzx hzn
                go_wp2_with fail
                go_quiet (fail)
                clear v2 x2
                have HBF := Lib.hid (HBG.out nq)
                generalize wx.drewN nq = wy at *
                go_wp2_with fail
                go_roundw
                case rel =>
                  refine ⟨k + 1, hlt, by go_num, fun a' ha' => ?_, HBF.out⟩
                  rw [List.take_succ_eq_append_getElem hlt, List.mem_append] at ha'
                  rcases ha' with ha' | ha'
                  · exact HF.out a' ha'
                  · simp at ha'; rw [ha', ← HNA.out]; exact HS0.out
                case measure => simp [intOf]; omega
        · have HT := Lib.hid (show snaps.any (stayAt s i) = false by
            rw [List.any_eq_false]; intro a ha
            have := HF.out a (by rw [List.take_of_length_le (by omega)]; exact ha)
            simp [this])
          clear hf hbel
          go_wp2_with fail
          go_ret
          exact ⟨ret_bool (by rw [HB.out, HT.out]), HBE.out⟩
    · have j1 : (y.1.toList == x.1.toList) = false := by rw [beq_toList]; simpa using hky
      have HB := Lib.hid (stayB_head (snaps := snaps) (show headB s i = true by rw [hh]; simp [hky]))
      clear h hnum hs hcs hcx hx hi0 hm hcy hy hh hky
      go_enter Try.func34, Try.ntmps34
      go_wp2_with fail
      go_quiet (fail)
      go_wp2_with fail
      go_ret
      exact ⟨ret_bool HB.out.symm, HD.out _⟩
end Go.Proofs.Try.Mg
