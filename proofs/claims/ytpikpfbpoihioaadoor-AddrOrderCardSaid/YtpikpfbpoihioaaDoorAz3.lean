/- AddrOrder's walk. -/
import Derived.Test.YtpikpfbpoihioaaDoorAz2
set_option linter.unusedVariables false
set_option linter.unusedSimpArgs false
set_option maxRecDepth 100000
namespace Go.Proofs.Tryd.Tx
open Go.RowKit Go.Cph Go.Cph.Tx
open Go.Cph.Ok (ofBs)
open Go.Cph.Px (Ad rightA bytesA zeroA lessA rank num rank_inj less_rank)
open Go.Proofs.Tryd.Pfx (encA bcell ad_eq)
theorem right_neg {b : Bool} : (!(!b)) = b := by cases b <;> rfl
set_option maxHeartbeats 6400000 in
theorem order_law (a b c : Ad) (w : World) (henv : Env w) : Calls Tryd.prog 3 #[encA a, encA b, encA c] w fun e w' => e = .returned (.bool true) ∧ Below w.heap.size w w' := by
  obtain ⟨w1, hw1⟩ : ∃ w1, w1 = ((w.alloc (boxA a)).alloc (boxA b)).alloc (boxA c) := ⟨_, rfl⟩
  have HB := Lib.hid (show Below w.heap.size w w1 from by
    rw [hw1]
    exact ((((Below.refl _ _).alloc (Nat.le_refl _) _).alloc (by rw [World.size_alloc]; omega) _).alloc (by rw [World.size_alloc, World.size_alloc]; omega) _))
  have HA := Lib.hid (show w1.heap[w.heap.size]? = some (boxA a) from by rw [hw1]; exact blk_alloc (blk_alloc (heap_alloc_new w _) _) _)
  have HBb := Lib.hid (show w1.heap[w.heap.size + 1]? = some (boxA b) from by rw [hw1]; exact blk_alloc (by have := heap_alloc_new (w.alloc (boxA a)) (boxA b); rw [World.size_alloc] at this; exact this) _)
  have HCc := Lib.hid (show w1.heap[w.heap.size + 1 + 1]? = some (boxA c) from by
    rw [hw1]
    have := heap_alloc_new ((w.alloc (boxA a)).alloc (boxA b)) (boxA c)
    rw [World.size_alloc, World.size_alloc] at this; exact this)
  have HE := Lib.hid (henv.kept HB.out)
  have HLab := Lib.hid (fun W => Pfx.less a b W)
  have HLba := Lib.hid (fun W => Pfx.less b a W)
  have HLbc := Lib.hid (fun W => Pfx.less b c W)
  have HLac := Lib.hid (fun W => Pfx.less a c W)
  have HRa := Lib.hid (fun W => Pfx.right a W)
  have HRb := Lib.hid (fun W => Pfx.right b W)
  have HYa := Lib.hid (fun W => Rows.abytes a W)
  have HYb := Lib.hid (fun W => Rows.abytes b W)
  have HQ := Lib.hid (fun W => run_eqlA a b W)
  have HAW := Lib.hid (fun W he => awake_any W he)
  have HORD := Lib.hid (order3 a b c)
  have HBO := Lib.hid (fun ha hb hf => @bytes_order a b ha hb hf)
  have HFL := Lib.hid (fun ha hb hf => @fam_less a b ha hb hf)
  have HLNa := Lib.hid (@bytes_len a)
  have HLNb := Lib.hid (@bytes_len b)
  obtain ⟨pab, hpab⟩ : ∃ p, p = lessA a b := ⟨_, rfl⟩
  obtain ⟨pba, hpba⟩ : ∃ p, p = lessA b a := ⟨_, rfl⟩
  obtain ⟨pbc, hpbc⟩ : ∃ p, p = lessA b c := ⟨_, rfl⟩
  obtain ⟨pac, hpac⟩ : ∃ p, p = lessA a c := ⟨_, rfl⟩
  obtain ⟨q, hq⟩ : ∃ q, q = (a == b) := ⟨_, rfl⟩
  obtain ⟨ra, hra⟩ : ∃ p, p = rightA a := ⟨_, rfl⟩
  obtain ⟨rb, hrb⟩ : ∃ p, p = rightA b := ⟨_, rfl⟩
  obtain ⟨sa, hsa⟩ : ∃ s, s = bytesA a := ⟨_, rfl⟩
  obtain ⟨sb, hsb⟩ : ∃ s, s = bytesA b := ⟨_, rfl⟩
  rw [← hpab] at HLab HORD HBO HFL
  rw [← hpba] at HLba HORD
  rw [← hpbc] at HLbc HORD
  rw [← hpac] at HLac HORD
  rw [← hq] at HQ HORD
  rw [← hra] at HRa HBO HFL HLNa
  rw [← hrb] at HRb HBO HFL HLNb
  rw [← hsa] at HYa HBO HLNa
  rw [← hsb] at HYb HBO HLNb
  clear hpab hpba hpbc hpac hq hra hrb hsa hsb henv
  obtain ⟨fa, xa, ya⟩ := a
  obtain ⟨fb, xb, yb⟩ := b
  obtain ⟨fc, xc, yc⟩ := c
  have HXA := Lib.hid (show ∀ W, Below w1.heap.size w1 W → W.heap[w.heap.size]? = some (boxA (fa, xa, ya)) from fun W h => blk_kept h HA.out)
  have HXB := Lib.hid (show ∀ W, Below w1.heap.size w1 W → W.heap[w.heap.size + 1]? = some (boxA (fb, xb, yb)) from fun W h => blk_kept h HBb.out)
  have HXC := Lib.hid (show ∀ W, Below w1.heap.size w1 W → W.heap[w.heap.size + 1 + 1]? = some (boxA (fc, xc, yc)) from fun W h => blk_kept h HCc.out)
  have HS := Lib.hid (show Below w1.heap.size w1 w1 from Below.refl _ _)
  have HEk := Lib.hid (show ∀ W, Below w1.heap.size w1 W → Env W from fun W h => HE.out.kept h)
  go_enter Tryd.func3, Tryd.ntmps3
  go_upto_region 1 with (fail)
  rw [← hw1]
  clear hw1
  go_cut [46] (fun s wx => s = .bool false ∧ Below w1.heap.size w1 wx)
  case first =>
    obtain ⟨x0, x1, x2⟩ := later_box (HXA.out w1 HS.out)
    obtain ⟨y0, y1, y2⟩ := later_box (HXB.out w1 HS.out)
    obtain ⟨z0, z1, z2⟩ := later_box (HXC.out w1 HS.out)
    have hqq := HQ.out
    rcases HORD.out with ⟨rfl, rfl, rfl, rfl, rfl⟩ | ⟨rfl, rfl, rfl, rfl⟩ | ⟨rfl, rfl, rfl⟩ | ⟨rfl, rfl, rfl⟩
    all_goals
      refine wp_region_later w1.heap.size (by kernel_rfl) (by kernel_rfl) ?_
      repeat (go_big_quiet_step (first | (go_at_call 9; first | with_reducible exact Later.calls (Nat.le_refl _) (HLab.out _) | with_reducible exact Later.calls (Nat.le_refl _) (HLba.out _) | with_reducible exact Later.calls (Nat.le_refl _) (HLbc.out _) | with_reducible exact Later.calls (Nat.le_refl _) (HLac.out _))))
      refine wpQuiet_nil ?_
      rintro va1 ⟨zz, rfl⟩
      have HZ := Lib.hid zz.prop
      clear x0 x1 x2 y0 y1 y2 z0 z1 z2
      generalize zz.val = va1 at *
      have HVa1 := Lib.hid (below_step HS.out HZ.out HS.out.size)
      clear HZ
      go_wp2_with fail
      go_meet
      case rel => exact ⟨rfl, HVa1.out⟩
  case rest =>
    obtain ⟨rfl, hcb⟩ := hcut
    have HC0 := Lib.hid hcb
    clear hcb
    obtain ⟨x0, x1, x2⟩ := box_at (HXA.out wc HC0.out)
    obtain ⟨y0, y1, y2⟩ := box_at (HXB.out wc HC0.out)
    obtain ⟨z0, z1, z2⟩ := box_at (HXC.out wc HC0.out)
    cases ra
    · go_wp2_with fail
      refine (HRa.out _).mono ?_
      rintro e vbc1 ⟨rfl, hb⟩
      have HVbc1 := Lib.hid (below_step HC0.out hb HC0.out.size)
      clear hb
      clear x0 x1 x2 y0 y1 y2 z0 z1 z2
      obtain ⟨x0, x1, x2⟩ := box_at (HXA.out vbc1 HVbc1.out)
      obtain ⟨y0, y1, y2⟩ := box_at (HXB.out vbc1 HVbc1.out)
      obtain ⟨z0, z1, z2⟩ := box_at (HXC.out vbc1 HVbc1.out)
      go_wp2_with fail
      refine (HAW.out _ (HEk.out vbc1 HVbc1.out)).mono ?_
      rintro e vbc2 ⟨rfl, hb⟩
      have HVbc2 := Lib.hid (below_step HVbc1.out hb HVbc1.out.size)
      clear hb
      clear x0 x1 x2 y0 y1 y2 z0 z1 z2
      go_wp2_with fail
      go_ret
      exact ⟨rfl, below_step HB.out HVbc2.out HB.out.size⟩
    · go_wp2_with fail
      refine (HRa.out _).mono ?_
      rintro e vbd1 ⟨rfl, hb⟩
      have HVbd1 := Lib.hid (below_step HC0.out hb HC0.out.size)
      clear hb
      clear x0 x1 x2 y0 y1 y2 z0 z1 z2
      obtain ⟨x0, x1, x2⟩ := box_at (HXA.out vbd1 HVbd1.out)
      obtain ⟨y0, y1, y2⟩ := box_at (HXB.out vbd1 HVbd1.out)
      obtain ⟨z0, z1, z2⟩ := box_at (HXC.out vbd1 HVbd1.out)
      cases rb
      · go_wp2_with fail
        refine (HRb.out _).mono ?_
        rintro e vbde2 ⟨rfl, hb⟩
        have HVbde2 := Lib.hid (below_step HVbd1.out hb HVbd1.out.size)
        clear hb
        clear x0 x1 x2 y0 y1 y2 z0 z1 z2
        obtain ⟨x0, x1, x2⟩ := box_at (HXA.out vbde2 HVbde2.out)
        obtain ⟨y0, y1, y2⟩ := box_at (HXB.out vbde2 HVbde2.out)
        obtain ⟨z0, z1, z2⟩ := box_at (HXC.out vbde2 HVbde2.out)
        go_wp2_with fail
        refine (HAW.out _ (HEk.out vbde2 HVbde2.out)).mono ?_
        rintro e vbde3 ⟨rfl, hb⟩
        have HVbde3 := Lib.hid (below_step HVbde2.out hb HVbde2.out.size)
        clear hb
        clear x0 x1 x2 y0 y1 y2 z0 z1 z2
        go_wp2_with fail
        go_ret
        exact ⟨rfl, below_step HB.out HVbde3.out HB.out.size⟩
      · go_wp2_with fail
        refine (HRb.out _).mono ?_
        rintro e vbdf2 ⟨rfl, hb⟩
        have HVbdf2 := Lib.hid (below_step HVbd1.out hb HVbd1.out.size)
        clear hb
        clear x0 x1 x2 y0 y1 y2 z0 z1 z2
        obtain ⟨x0, x1, x2⟩ := box_at (HXA.out vbdf2 HVbdf2.out)
        obtain ⟨y0, y1, y2⟩ := box_at (HXB.out vbdf2 HVbdf2.out)
        obtain ⟨z0, z1, z2⟩ := box_at (HXC.out vbdf2 HVbdf2.out)
        by_cases hf : fa = fb
        · have hfi : ((fa.toNat : Int) != (fb.toNat : Int)) = false := by rw [hf]; simp
          have hbl := HBO.out (by simp) (by simp) hf
          have hbe : Op.bytesLess (ofBs sa).toList (ofBs sb).toList = pab := by rw [ByteArray.toList_eq, ByteArray.toList_eq]; exact hbl
          clear hbl hf
          go_wp2_with fail
          clear x0 x1 x2 y0 y1 y2 z0 z1 z2
          obtain ⟨x0, x1, x2⟩ := later_box (HXA.out vbdf2 HVbdf2.out)
          obtain ⟨y0, y1, y2⟩ := later_box (HXB.out vbdf2 HVbdf2.out)
          obtain ⟨z0, z1, z2⟩ := later_box (HXC.out vbdf2 HVbdf2.out)
          cases pab
          all_goals
            refine wp_region_later vbdf2.heap.size (by kernel_rfl) (by kernel_rfl) ?_
            repeat (go_big_quiet_step (first | (go_at_call 9; exact Later.calls (Nat.le_refl _) (HLab.out _)) | (go_at_call 12; first | with_reducible exact Later.calls (Nat.le_refl _) (HYa.out _) | with_reducible exact Later.calls (Nat.le_refl _) (HYb.out _)) | (go_at_call 11; exact Later.calls (Nat.le_refl _) (HAW.out _ (HEk.out _ (below_step HVbdf2.out (Later.prop _) HVbdf2.out.size))))))
            refine wpQuiet_nil ?_
            rintro vbdfgh3 ⟨zz, rfl⟩
            have HZ := Lib.hid zz.prop
            clear x0 x1 x2 y0 y1 y2 z0 z1 z2
            generalize zz.val = vbdfgh3 at *
            have HVbdfgh3 := Lib.hid (below_step HVbdf2.out HZ.out HVbdf2.out.size)
            clear HZ
            go_wp2_with fail
            go_ret
            exact ⟨rfl, below_step HB.out HVbdfgh3.out HB.out.size⟩
        · have hfi : ((fa.toNat : Int) != (fb.toNat : Int)) = true := by simp; intro e; exact hf (UInt8.toNat_inj.1 (by omega))
          rcases HFL.out (by simp) (by simp) hf with ⟨h4, h6, rfl⟩ | ⟨h6, h4, rfl⟩
          · have hl1 : (ofBs sa).size = 4 := by rw [ofBs_size, HLNa.out (by simp)]; show (if fa = 4 then 4 else 16) = _; rw [show fa = 4 from h4]; rfl
            have hl2 : (ofBs sb).size = 16 := by rw [ofBs_size, HLNb.out (by simp)]; show (if fb = 4 then 4 else 16) = _; rw [show fb = 6 from h6]; rfl
            have h4i : ((fa.toNat : Int) == 4) = true := by rw [show fa = 4 from h4]; rfl
            clear h4 h6 hf
            go_wp2_with fail
            clear x0 x1 x2 y0 y1 y2 z0 z1 z2
            obtain ⟨x0, x1, x2⟩ := later_box (HXA.out vbdf2 HVbdf2.out)
            obtain ⟨y0, y1, y2⟩ := later_box (HXB.out vbdf2 HVbdf2.out)
            obtain ⟨z0, z1, z2⟩ := later_box (HXC.out vbdf2 HVbdf2.out)
            refine wp_region_later vbdf2.heap.size (by kernel_rfl) (by kernel_rfl) ?_
            repeat (go_big_quiet_step (first | (go_at_call 9; exact Later.calls (Nat.le_refl _) (HLab.out _)) | (go_at_call 12; first | with_reducible exact Later.calls (Nat.le_refl _) (HYa.out _) | with_reducible exact Later.calls (Nat.le_refl _) (HYb.out _)) | (go_at_call 11; exact Later.calls (Nat.le_refl _) (HAW.out _ (HEk.out _ (below_step HVbdf2.out (Later.prop _) HVbdf2.out.size))))))
            refine wpQuiet_nil ?_
            rintro vbdfij43 ⟨zz, rfl⟩
            have HZ := Lib.hid zz.prop
            clear x0 x1 x2 y0 y1 y2 z0 z1 z2
            generalize zz.val = vbdfij43 at *
            have HVbdfij43 := Lib.hid (below_step HVbdf2.out HZ.out HVbdf2.out.size)
            clear HZ
            go_wp2_with fail
            go_ret
            exact ⟨rfl, below_step HB.out HVbdfij43.out HB.out.size⟩
          · have hl1 : (ofBs sa).size = 16 := by rw [ofBs_size, HLNa.out (by simp)]; show (if fa = 4 then 4 else 16) = _; rw [show fa = 6 from h6]; rfl
            have hl2 : (ofBs sb).size = 4 := by rw [ofBs_size, HLNb.out (by simp)]; show (if fb = 4 then 4 else 16) = _; rw [show fb = 4 from h4]; rfl
            have h4i : ((fa.toNat : Int) == 4) = false := by rw [show fa = 6 from h6]; rfl
            clear h4 h6 hf
            go_wp2_with fail
            clear x0 x1 x2 y0 y1 y2 z0 z1 z2
            obtain ⟨x0, x1, x2⟩ := later_box (HXA.out vbdf2 HVbdf2.out)
            obtain ⟨y0, y1, y2⟩ := later_box (HXB.out vbdf2 HVbdf2.out)
            obtain ⟨z0, z1, z2⟩ := later_box (HXC.out vbdf2 HVbdf2.out)
            refine wp_region_later vbdf2.heap.size (by kernel_rfl) (by kernel_rfl) ?_
            repeat (go_big_quiet_step (first | (go_at_call 9; exact Later.calls (Nat.le_refl _) (HLab.out _)) | (go_at_call 12; first | with_reducible exact Later.calls (Nat.le_refl _) (HYa.out _) | with_reducible exact Later.calls (Nat.le_refl _) (HYb.out _)) | (go_at_call 11; exact Later.calls (Nat.le_refl _) (HAW.out _ (HEk.out _ (below_step HVbdf2.out (Later.prop _) HVbdf2.out.size))))))
            refine wpQuiet_nil ?_
            rintro vbdfij63 ⟨zz, rfl⟩
            have HZ := Lib.hid zz.prop
            clear x0 x1 x2 y0 y1 y2 z0 z1 z2
            generalize zz.val = vbdfij63 at *
            have HVbdfij63 := Lib.hid (below_step HVbdf2.out HZ.out HVbdf2.out.size)
            clear HZ
            go_wp2_with fail
            go_ret
            exact ⟨rfl, below_step HB.out HVbdfij63.out HB.out.size⟩
end Go.Proofs.Tryd.Tx
