/- AddrNear's walk. -/
import Derived.Test.YtpikpfbpoihioaaDoorAz4
set_option linter.unusedVariables false
set_option linter.unusedSimpArgs false
set_option maxRecDepth 100000
namespace Go.Proofs.Tryd.Tx
open Go.RowKit Go.Cph Go.Cph.Tx
open Go.Cph.Ok (ofBs)
open Go.Cph.Px (Ad rightA bytesA zeroA lessA rank num rank_inj less_rank)
open Go.Proofs.Tryd.Pfx (encA bcell ad_eq)
open Go.Proofs.Tryd.Gp (nextA backA nearA NearPost)
theorem next_pair (a : Ad) (r : Ad × Bool) (h : nextA a = r) (W : World) : Calls Tryd.prog 17 #[encA a] W fun e w' => e = .returned (.tuple #[encA r.1, .bool r.2]) ∧ Below W.heap.size W w' := by
  have := Gp.next_any a W
  unfold NearPost at this
  rw [h] at this
  exact this
theorem back_pair (a : Ad) (r : Ad × Bool) (h : backA a = r) (W : World) : Calls Tryd.prog 18 #[encA a] W fun e w' => e = .returned (.tuple #[encA r.1, .bool r.2]) ∧ Below W.heap.size W w' := by
  have := Gp.back_any a W
  unfold NearPost at this
  rw [h] at this
  exact this
theorem u64_ne (x c : UInt64) : ((x.toNat : Int) != (c.toNat : Int)) = (x != c) := by rw [bne, bne, Pfx.u64_eq]
set_option maxHeartbeats 16000000 in
theorem near_law (a x : Ad) (w : World) (henv : Env w) : Calls Tryd.prog 6 #[encA a, encA x] w fun e w' => e = .returned (.bool true) ∧ Below w.heap.size w w' := by
  have HE := Lib.hid henv
  have HAW := Lib.hid (fun W he => awake_any W he)
  have HRa := Lib.hid (fun W => Pfx.right a W)
  have HNW := Lib.hid (@near_wrong a)
  have HNT := Lib.hid (@next_top a)
  have HBF := Lib.hid (@back_first a)
  have HNO := Lib.hid (@next_ok a)
  have HBO := Lib.hid (@back_ok a)
  have HQ := Lib.hid (fun W => run_neqA a a W)
  obtain ⟨rn, hrn⟩ : ∃ r, nextA a = r := ⟨_, rfl⟩
  obtain ⟨rp, hrp⟩ : ∃ r, backA a = r := ⟨_, rfl⟩
  have HN := Lib.hid (fun W => next_pair a rn hrn W)
  have HP := Lib.hid (fun W => back_pair a rp hrp W)
  rw [hrn] at HNW HNT HNO
  rw [hrp] at HNW HBF HBO
  clear hrn hrp henv
  obtain ⟨⟨fn, xn, yn⟩, ok⟩ := rn
  obtain ⟨⟨fp, xp, yp⟩, is⟩ := rp
  obtain ⟨ra, hra⟩ : ∃ r, r = rightA a := ⟨_, rfl⟩
  rw [← hra] at HRa HNW HNT HBF
  clear hra
  obtain ⟨tp, htp⟩ : ∃ r, r = topB a := ⟨_, rfl⟩
  have HTP := Lib.hid htp
  rw [← htp] at HNT
  clear htp
  obtain ⟨fa, xa, ya⟩ := a
  obtain ⟨fx, xx, yx⟩ := x
  have HN2 := Lib.hid (fun W => show Calls Tryd.prog 17 #[encA (fa, xa, ya)] W fun e w' => e = .returned (.tuple #[encA (fn, xn, yn), .bool ok]) ∧ Below W.heap.size W w' from HN.out W)
  have HP2 := Lib.hid (fun W => show Calls Tryd.prog 18 #[encA (fa, xa, ya)] W fun e w' => e = .returned (.tuple #[encA (fp, xp, yp), .bool is]) ∧ Below W.heap.size W w' from HP.out W)
  clear HN HP
  have HXa1 := Lib.hid (heap_alloc_new w (boxA (fa, xa, ya)))
  have HW1 := Lib.hid (show Below w.heap.size w (w.alloc (boxA (fa, xa, ya))) from (Below.refl _ _).alloc (Nat.le_refl _) _)
  have HXa2 := Lib.hid (blk_alloc HXa1.out (boxA (fx, xx, yx)))
  have hxx := heap_alloc_new (w.alloc (boxA (fa, xa, ya))) (boxA (fx, xx, yx))
  simp only [World.size_alloc] at hxx
  have HXx2 := Lib.hid hxx
  clear hxx
  have HW2 := Lib.hid (show Below w.heap.size w ((w.alloc (boxA (fa, xa, ya))).alloc (boxA (fx, xx, yx))) from HW1.out.alloc HW1.out.size _)
  obtain ⟨a0, a1, a2⟩ := box_at HXa2.out
  obtain ⟨x0, x1, x2⟩ := box_at HXx2.out
  go_enter Tryd.func6, Tryd.ntmps6
  go_wp2_with fail
  refine (HN2.out _).mono ?_
  rintro e v3 ⟨rfl, hb⟩
  clear a0 a1 a2 x0 x1 x2
  have HXa4 := Lib.hid (blk_kept hb HXa2.out)
  have HXx4 := Lib.hid (blk_kept hb HXx2.out)
  have HW4 := Lib.hid (below_step HW2.out hb HW2.out.size)
  clear hb
  have HXa5 := Lib.hid (blk_alloc HXa4.out (boxA (fn, xn, yn)))
  have HXx5 := Lib.hid (blk_alloc HXx4.out (boxA (fn, xn, yn)))
  have HXn5 := Lib.hid (heap_alloc_new v3 (boxA (fn, xn, yn)))
  have HW5 := Lib.hid (show Below w.heap.size w (v3.alloc (boxA (fn, xn, yn))) from HW4.out.alloc HW4.out.size _)
  obtain ⟨a0, a1, a2⟩ := box_at HXa5.out
  obtain ⟨x0, x1, x2⟩ := box_at HXx5.out
  obtain ⟨n0, n1, n2⟩ := box_at HXn5.out
  go_wp2_with fail
  refine (HP2.out _).mono ?_
  rintro e v6 ⟨rfl, hb⟩
  clear a0 a1 a2 x0 x1 x2 n0 n1 n2
  have HXa7 := Lib.hid (blk_kept hb HXa5.out)
  have HXx7 := Lib.hid (blk_kept hb HXx5.out)
  have HXn7 := Lib.hid (blk_kept hb HXn5.out)
  have HW7 := Lib.hid (below_step HW5.out hb HW5.out.size)
  clear hb
  have HXa8 := Lib.hid (blk_alloc HXa7.out (boxA (fp, xp, yp)))
  have HXx8 := Lib.hid (blk_alloc HXx7.out (boxA (fp, xp, yp)))
  have HXn8 := Lib.hid (blk_alloc HXn7.out (boxA (fp, xp, yp)))
  have HXp8 := Lib.hid (heap_alloc_new v6 (boxA (fp, xp, yp)))
  have HW8 := Lib.hid (show Below w.heap.size w (v6.alloc (boxA (fp, xp, yp))) from HW7.out.alloc HW7.out.size _)
  obtain ⟨a0, a1, a2⟩ := box_at HXa8.out
  obtain ⟨x0, x1, x2⟩ := box_at HXx8.out
  obtain ⟨n0, n1, n2⟩ := box_at HXn8.out
  obtain ⟨p0, p1, p2⟩ := box_at HXp8.out
  go_wp2_with fail
  refine (HRa.out _).mono ?_
  rintro e v9 ⟨rfl, hb⟩
  clear a0 a1 a2 x0 x1 x2 n0 n1 n2 p0 p1 p2
  have HXa10 := Lib.hid (blk_kept hb HXa8.out)
  have HXx10 := Lib.hid (blk_kept hb HXx8.out)
  have HXn10 := Lib.hid (blk_kept hb HXn8.out)
  have HXp10 := Lib.hid (blk_kept hb HXp8.out)
  have HW10 := Lib.hid (below_step HW8.out hb HW8.out.size)
  clear hb
  obtain ⟨a0, a1, a2⟩ := box_at HXa10.out
  obtain ⟨x0, x1, x2⟩ := box_at HXx10.out
  obtain ⟨n0, n1, n2⟩ := box_at HXn10.out
  obtain ⟨p0, p1, p2⟩ := box_at HXp10.out
  cases ra
  · obtain ⟨h1, h2⟩ := HNW.out rfl
    injection h1 with h1 h3
    injection h2 with h2 h4
    subst h3
    subst h4
    injection h1 with h1 h3
    injection h3 with h3 h4
    subst h1
    subst h3
    subst h4
    injection h2 with h1 h3
    injection h3 with h3 h4
    subst h1
    subst h3
    subst h4
    clear a0 a1 a2 x0 x1 x2 n0 n1 n2 p0 p1 p2
    obtain ⟨a0, a1, a2⟩ := box_at HXa10.out
    obtain ⟨x0, x1, x2⟩ := box_at HXx10.out
    obtain ⟨n0, n1, n2⟩ := box_at HXn10.out
    obtain ⟨p0, p1, p2⟩ := box_at HXp10.out
    go_wp2_with fail
    refine (HAW.out _ (HE.out.kept HW10.out)).mono ?_
    rintro e v11 ⟨rfl, hb⟩
    clear a0 a1 a2 x0 x1 x2 n0 n1 n2 p0 p1 p2
    have HXa12 := Lib.hid (blk_kept hb HXa10.out)
    have HXx12 := Lib.hid (blk_kept hb HXx10.out)
    have HXn12 := Lib.hid (blk_kept hb HXn10.out)
    have HXp12 := Lib.hid (blk_kept hb HXp10.out)
    have HW12 := Lib.hid (below_step HW10.out hb HW10.out.size)
    clear hb
    go_wp2_with fail
    go_ret
    exact ⟨rfl, HW12.out⟩
  · have HNT2 := Lib.hid (HNT.out rfl)
    have HBF2 := Lib.hid (HBF.out rfl)
    clear HNT HBF HNW
    have HRn := Lib.hid (fun W => Pfx.right (fn, xn, yn) W)
    have HRp := Lib.hid (fun W => Pfx.right (fp, xp, yp) W)
    have hqq : ∀ W, (binOp .neq 24 (encA (fa, xa, ya)) (encA (fa, xa, ya))).run Tryd.prog W = .ok (.bool false) W := fun W => by rw [HQ.out W]; simp
    have HQQ := Lib.hid hqq
    clear hqq HQ
    have HL1 := Lib.hid (fun W => Pfx.less (fa, xa, ya) (fx, xx, yx) W)
    have HL2 := Lib.hid (fun W => Pfx.less (fx, xx, yx) (fn, xn, yn) W)
    have HL3 := Lib.hid (fun W => Pfx.less (fp, xp, yp) (fx, xx, yx) W)
    have HL4 := Lib.hid (fun W => Pfx.less (fx, xx, yx) (fa, xa, ya) W)
    have HL5 := Lib.hid (fun W => Pfx.less (fa, xa, ya) (fn, xn, yn) W)
    have HL6 := Lib.hid (fun W => Pfx.less (fp, xp, yp) (fa, xa, ya) W)
    go_upto_region 5 with (fail)
    go_cut [9] (fun s wx => s = .bool tp ∧ wx = v9)
    case first =>
      by_cases f4 : fa = 4
      · have e1 : ((fa.toNat : Int) == 4) = true := by rw [f4]; rfl
        have e2 : ((fa.toNat : Int) == 6) = false := by rw [f4]; rfl
        by_cases y4 : ya = 4294967295
        · have e3 : ((ya.toNat : Int) == 4294967295) = true := by rw [y4]; rfl
          have HT2 := Lib.hid (show tp = true from by rw [HTP.out]; unfold topB; simp [f4, y4])
          clear f4 y4
          go_wp2_with fail
          go_meet
          case rel => exact ⟨by rw [HT2.out], rfl⟩
        · have e3 : ((ya.toNat : Int) == 4294967295) = false := by rw [show ((ya.toNat : Int) == 4294967295) = (ya == 4294967295) from Pfx.u64_eq ya 4294967295]; simpa using y4
          have HT2 := Lib.hid (show tp = false from by rw [HTP.out]; unfold topB; simp [f4, y4])
          clear f4 y4
          go_wp2_with fail
          go_meet
          case rel => exact ⟨by rw [HT2.out], rfl⟩
      · have e1 : ((fa.toNat : Int) == 4) = false := by rw [show ((fa.toNat : Int) == 4) = (fa == 4) from Pfx.u8_eq fa 4]; simpa using f4
        by_cases f6 : fa = 6
        · have e2 : ((fa.toNat : Int) == 6) = true := by rw [f6]; rfl
          by_cases x6 : xa = 18446744073709551615
          · have e3 : ((xa.toNat : Int) == 18446744073709551615) = true := by rw [x6]; rfl
            by_cases y6 : ya = 18446744073709551615
            · have e4 : ((ya.toNat : Int) == 18446744073709551615) = true := by rw [y6]; rfl
              have HT2 := Lib.hid (show tp = true from by rw [HTP.out]; unfold topB; simp [f4, f6, x6, y6])
              clear f4 f6 x6 y6
              go_wp2_with fail
              go_meet
              case rel => exact ⟨by rw [HT2.out], rfl⟩
            · have e4 : ((ya.toNat : Int) == 18446744073709551615) = false := by rw [show ((ya.toNat : Int) == 18446744073709551615) = (ya == 18446744073709551615) from Pfx.u64_eq ya 18446744073709551615]; simpa using y6
              have HT2 := Lib.hid (show tp = false from by rw [HTP.out]; unfold topB; simp [f4, f6, x6, y6])
              clear f4 f6 x6 y6
              go_wp2_with fail
              go_meet
              case rel => exact ⟨by rw [HT2.out], rfl⟩
          · have e3 : ((xa.toNat : Int) == 18446744073709551615) = false := by rw [show ((xa.toNat : Int) == 18446744073709551615) = (xa == 18446744073709551615) from Pfx.u64_eq xa 18446744073709551615]; simpa using x6
            have HT2 := Lib.hid (show tp = false from by rw [HTP.out]; unfold topB; simp [f4, f6, x6])
            clear f4 f6 x6
            go_wp2_with fail
            go_meet
            case rel => exact ⟨by rw [HT2.out], rfl⟩
        · have e2 : ((fa.toNat : Int) == 6) = false := by rw [show ((fa.toNat : Int) == 6) = (fa == 6) from Pfx.u8_eq fa 6]; simpa using f6
          have HT2 := Lib.hid (show tp = false from by rw [HTP.out]; unfold topB; simp [f4, f6])
          clear f4 f6
          go_wp2_with fail
          go_meet
          case rel => exact ⟨by rw [HT2.out], rfl⟩
    case rest =>
      obtain ⟨rfl, hwx⟩ := hcut
      subst hwx
      have HTP2 := Lib.hid (show tp = !ok from by rw [HNT2.out]; simp)
      obtain ⟨q1, hq1⟩ : ∃ q, q = lessA (fa, xa, ya) (fx, xx, yx) := ⟨_, rfl⟩
      obtain ⟨q2, hq2⟩ : ∃ q, q = lessA (fx, xx, yx) (fn, xn, yn) := ⟨_, rfl⟩
      obtain ⟨q3, hq3⟩ : ∃ q, q = lessA (fp, xp, yp) (fx, xx, yx) := ⟨_, rfl⟩
      obtain ⟨q4, hq4⟩ : ∃ q, q = lessA (fx, xx, yx) (fa, xa, ya) := ⟨_, rfl⟩
      have HN1 := Lib.hid (show ok = true → q1 = true → q2 = false from fun h h1 => by rw [hq2]; exact (HNO.out h).none _ (by rw [← hq1]; exact h1))
      have HN2 := Lib.hid (show is = true → q3 = true → q4 = false from fun h h1 => by rw [hq4]; exact (HBO.out h).none _ (by rw [← hq3]; exact h1))
      rw [← hq1] at HL1
      rw [← hq2] at HL2
      rw [← hq3] at HL3
      rw [← hq4] at HL4
      clear hq1 hq2 hq3 hq4
      have HAF := Lib.hid (show (ok = true → ((fn.toNat : Int) != (fa.toNat : Int)) = false) ∧ (is = true → ((fp.toNat : Int) != (fa.toNat : Int)) = false) from ⟨fun h => by have := (HNO.out h).fam; simp only at this; rw [this]; simp, fun h => by have := (HBO.out h).fam; simp only at this; rw [this]; simp⟩)
      have HAR := Lib.hid (show (ok = true → rightA (fn, xn, yn) = true ∧ lessA (fa, xa, ya) (fn, xn, yn) = true) ∧ (is = true → rightA (fp, xp, yp) = true ∧ lessA (fp, xp, yp) (fa, xa, ya) = true) from ⟨fun h => ⟨(HNO.out h).right, (HNO.out h).less⟩, fun h => ⟨(HBO.out h).right, (HBO.out h).less⟩⟩)
      have HAB := Lib.hid (show ok = true → ∀ W, Calls Tryd.prog 18 #[encA (fn, xn, yn)] W fun e w' => e = .returned (.tuple #[encA (fa, xa, ya), .bool true]) ∧ Below W.heap.size W w' from fun h W => back_pair _ _ (HNO.out h).back W)
      have HAN := Lib.hid (show is = true → ∀ W, Calls Tryd.prog 17 #[encA (fp, xp, yp)] W fun e w' => e = .returned (.tuple #[encA (fa, xa, ya), .bool true]) ∧ Below W.heap.size W w' from fun h W => next_pair _ _ (HBO.out h).next W)
      clear HNO HBO HP2 HRa HTP HNT2
      have HIS := Lib.hid (show is = (((xa.toNat : Int) != 0) || ((ya.toNat : Int) != 0)) from by rw [HBF2.out, show ((xa.toNat : Int) != 0) = (xa != 0) from u64_ne xa 0, show ((ya.toNat : Int) != 0) = (ya != 0) from u64_ne ya 0])
      clear HBF2
      cases ok
      · obtain rfl : tp = true := HTP2.out
        cases is
        · go_upto_region 6 with (fail)
          go_cut [113] (fun s wx => s = .bool false ∧ Below wc.heap.size wc wx)
          case first =>
            clear a0 a1 a2 x0 x1 x2 n0 n1 n2 p0 p1 p2
            obtain ⟨a0, a1, a2⟩ := box_at HXa10.out
            obtain ⟨x0, x1, x2⟩ := box_at HXx10.out
            obtain ⟨n0, n1, n2⟩ := box_at HXn10.out
            obtain ⟨p0, p1, p2⟩ := box_at HXp10.out
            obtain ⟨hx, hhx⟩ : ∃ hx, hx = ((xa.toNat : Int) != 0) := ⟨_, rfl⟩
            obtain ⟨hy, hhy⟩ : ∃ hy, hy = ((ya.toNat : Int) != 0) := ⟨_, rfl⟩
            rw [← hhx, ← hhy] at HIS
            cases hx
            · have hx0 : (xa.toNat : Int) = 0 := by simpa using hhx
              rw [hx0] at a1
              clear hhx hx0
              cases hy
              · have hy0 : (ya.toNat : Int) = 0 := by simpa using hhy
                rw [hy0] at a2
                clear hhy hy0
                go_wp2_with fail
                go_meet
                case rel => exact ⟨rfl, Below.refl _ _⟩
              · have hy := hhy.symm
                clear hhy
                cases HIS.out
            · have hx := hhx.symm
              clear hhx hhy
              cases HIS.out
          case rest =>
            obtain ⟨rfl, hb⟩ := hcut
            obtain ⟨vq, hvq⟩ : ∃ vq, vq = wc := ⟨_, rfl⟩
            rw [← hvq] at hb ⊢
            clear hvq
            clear a0 a1 a2 x0 x1 x2 n0 n1 n2 p0 p1 p2
            have HXa13 := Lib.hid (blk_kept hb HXa10.out)
            have HXx13 := Lib.hid (blk_kept hb HXx10.out)
            have HXn13 := Lib.hid (blk_kept hb HXn10.out)
            have HXp13 := Lib.hid (blk_kept hb HXp10.out)
            have HW13 := Lib.hid (below_step HW10.out hb HW10.out.size)
            clear hb
            obtain ⟨a0, a1, a2⟩ := box_at HXa13.out
            obtain ⟨x0, x1, x2⟩ := box_at HXx13.out
            obtain ⟨n0, n1, n2⟩ := box_at HXn13.out
            obtain ⟨p0, p1, p2⟩ := box_at HXp13.out
            go_wp2_with fail
            refine (HAW.out _ (HE.out.kept HW13.out)).mono ?_
            rintro e v14 ⟨rfl, hb⟩
            clear a0 a1 a2 x0 x1 x2 n0 n1 n2 p0 p1 p2
            have HXa15 := Lib.hid (blk_kept hb HXa13.out)
            have HXx15 := Lib.hid (blk_kept hb HXx13.out)
            have HXn15 := Lib.hid (blk_kept hb HXn13.out)
            have HXp15 := Lib.hid (blk_kept hb HXp13.out)
            have HW15 := Lib.hid (below_step HW13.out hb HW13.out.size)
            clear hb
            go_wp2_with fail
            go_ret
            exact ⟨rfl, HW15.out⟩
        · have hfp := HAF.out.2 (by simp)
          obtain ⟨hrp, hlp⟩ := HAR.out.2 (by simp)
          rw [hrp] at HRp
          rw [hlp] at HL6
          clear hrp hlp
          go_upto_region 6 with (fail)
          go_cut [113] (fun s wx => s = .bool false ∧ Below wc.heap.size wc wx)
          case first =>
            clear a0 a1 a2 x0 x1 x2 n0 n1 n2 p0 p1 p2
            obtain ⟨a0, a1, a2⟩ := box_at HXa10.out
            obtain ⟨x0, x1, x2⟩ := box_at HXx10.out
            obtain ⟨n0, n1, n2⟩ := box_at HXn10.out
            obtain ⟨p0, p1, p2⟩ := box_at HXp10.out
            obtain ⟨hx, hhx⟩ : ∃ hx, hx = ((xa.toNat : Int) != 0) := ⟨_, rfl⟩
            obtain ⟨hy, hhy⟩ : ∃ hy, hy = ((ya.toNat : Int) != 0) := ⟨_, rfl⟩
            rw [← hhx, ← hhy] at HIS
            cases hx
            · have hx0 : (xa.toNat : Int) = 0 := by simpa using hhx
              rw [hx0] at a1
              clear hhx hx0
              cases hy
              · have hy0 : (ya.toNat : Int) = 0 := by simpa using hhy
                rw [hy0] at a2
                clear hhy hy0
                cases HIS.out
              · have hy := hhy.symm
                clear hhy
                go_wp2_with fail
                refine (HRp.out _).mono ?_
                rintro e v16 ⟨rfl, hb⟩
                have HCv16 := Lib.hid hb
                clear a0 a1 a2 x0 x1 x2 n0 n1 n2 p0 p1 p2
                have HXa17 := Lib.hid (blk_kept hb HXa10.out)
                have HXx17 := Lib.hid (blk_kept hb HXx10.out)
                have HXn17 := Lib.hid (blk_kept hb HXn10.out)
                have HXp17 := Lib.hid (blk_kept hb HXp10.out)
                have HW17 := Lib.hid (below_step HW10.out hb HW10.out.size)
                clear hb
                obtain ⟨a0, a1, a2⟩ := box_at HXa17.out
                obtain ⟨x0, x1, x2⟩ := box_at HXx17.out
                obtain ⟨n0, n1, n2⟩ := box_at HXn17.out
                obtain ⟨p0, p1, p2⟩ := box_at HXp17.out
                go_wp2_with fail
                go_meet
                case rel => exact ⟨rfl, HCv16.out⟩
            · have hx := hhx.symm
              clear hhx hhy
              go_wp2_with fail
              refine (HRp.out _).mono ?_
              rintro e v18 ⟨rfl, hb⟩
              have HCv18 := Lib.hid hb
              clear a0 a1 a2 x0 x1 x2 n0 n1 n2 p0 p1 p2
              have HXa19 := Lib.hid (blk_kept hb HXa10.out)
              have HXx19 := Lib.hid (blk_kept hb HXx10.out)
              have HXn19 := Lib.hid (blk_kept hb HXn10.out)
              have HXp19 := Lib.hid (blk_kept hb HXp10.out)
              have HW19 := Lib.hid (below_step HW10.out hb HW10.out.size)
              clear hb
              obtain ⟨a0, a1, a2⟩ := box_at HXa19.out
              obtain ⟨x0, x1, x2⟩ := box_at HXx19.out
              obtain ⟨n0, n1, n2⟩ := box_at HXn19.out
              obtain ⟨p0, p1, p2⟩ := box_at HXp19.out
              go_wp2_with fail
              go_meet
              case rel => exact ⟨rfl, HCv18.out⟩
          case rest =>
            obtain ⟨rfl, hb⟩ := hcut
            obtain ⟨vq, hvq⟩ : ∃ vq, vq = wc := ⟨_, rfl⟩
            rw [← hvq] at hb ⊢
            clear hvq
            clear a0 a1 a2 x0 x1 x2 n0 n1 n2 p0 p1 p2
            have HXa20 := Lib.hid (blk_kept hb HXa10.out)
            have HXx20 := Lib.hid (blk_kept hb HXx10.out)
            have HXn20 := Lib.hid (blk_kept hb HXn10.out)
            have HXp20 := Lib.hid (blk_kept hb HXp10.out)
            have HW20 := Lib.hid (below_step HW10.out hb HW10.out.size)
            clear hb
            obtain ⟨a0, a1, a2⟩ := box_at HXa20.out
            obtain ⟨x0, x1, x2⟩ := box_at HXx20.out
            obtain ⟨n0, n1, n2⟩ := box_at HXn20.out
            obtain ⟨p0, p1, p2⟩ := box_at HXp20.out
            try clear hqq
            go_wp2_with fail
            refine (HAN.out (by simp) _).mono ?_
            rintro e v21 ⟨rfl, hb⟩
            clear a0 a1 a2 x0 x1 x2 n0 n1 n2 p0 p1 p2
            have HXa22 := Lib.hid (blk_kept hb HXa20.out)
            have HXx22 := Lib.hid (blk_kept hb HXx20.out)
            have HXn22 := Lib.hid (blk_kept hb HXn20.out)
            have HXp22 := Lib.hid (blk_kept hb HXp20.out)
            have HW22 := Lib.hid (below_step HW20.out hb HW20.out.size)
            clear hb
            have HXa23 := Lib.hid (blk_alloc HXa22.out (boxA (fa, xa, ya)))
            have HXx23 := Lib.hid (blk_alloc HXx22.out (boxA (fa, xa, ya)))
            have HXn23 := Lib.hid (blk_alloc HXn22.out (boxA (fa, xa, ya)))
            have HXp23 := Lib.hid (blk_alloc HXp22.out (boxA (fa, xa, ya)))
            have HXs23 := Lib.hid (heap_alloc_new v21 (boxA (fa, xa, ya)))
            have HW23 := Lib.hid (show Below w.heap.size w (v21.alloc (boxA (fa, xa, ya))) from HW22.out.alloc HW22.out.size _)
            obtain ⟨a0, a1, a2⟩ := box_at HXa23.out
            obtain ⟨x0, x1, x2⟩ := box_at HXx23.out
            obtain ⟨n0, n1, n2⟩ := box_at HXn23.out
            obtain ⟨p0, p1, p2⟩ := box_at HXp23.out
            obtain ⟨s0, s1, s2⟩ := box_at HXs23.out
            have hqq := HQQ.out
            go_wp2_with fail
            refine (HL6.out _).mono ?_
            rintro e v24 ⟨rfl, hb⟩
            clear a0 a1 a2 x0 x1 x2 n0 n1 n2 p0 p1 p2 s0 s1 s2
            have HXa25 := Lib.hid (blk_kept hb HXa23.out)
            have HXx25 := Lib.hid (blk_kept hb HXx23.out)
            have HXn25 := Lib.hid (blk_kept hb HXn23.out)
            have HXp25 := Lib.hid (blk_kept hb HXp23.out)
            have HXs25 := Lib.hid (blk_kept hb HXs23.out)
            have HW25 := Lib.hid (below_step HW23.out hb HW23.out.size)
            clear hb
            obtain ⟨a0, a1, a2⟩ := box_at HXa25.out
            obtain ⟨x0, x1, x2⟩ := box_at HXx25.out
            obtain ⟨n0, n1, n2⟩ := box_at HXn25.out
            obtain ⟨p0, p1, p2⟩ := box_at HXp25.out
            obtain ⟨s0, s1, s2⟩ := box_at HXs25.out
            go_wp2_with fail
            refine (HL3.out _).mono ?_
            rintro e v26 ⟨rfl, hb⟩
            clear a0 a1 a2 x0 x1 x2 n0 n1 n2 p0 p1 p2 s0 s1 s2
            have HXa27 := Lib.hid (blk_kept hb HXa25.out)
            have HXx27 := Lib.hid (blk_kept hb HXx25.out)
            have HXn27 := Lib.hid (blk_kept hb HXn25.out)
            have HXp27 := Lib.hid (blk_kept hb HXp25.out)
            have HXs27 := Lib.hid (blk_kept hb HXs25.out)
            have HW27 := Lib.hid (below_step HW25.out hb HW25.out.size)
            clear hb
            obtain ⟨a0, a1, a2⟩ := box_at HXa27.out
            obtain ⟨x0, x1, x2⟩ := box_at HXx27.out
            obtain ⟨n0, n1, n2⟩ := box_at HXn27.out
            obtain ⟨p0, p1, p2⟩ := box_at HXp27.out
            obtain ⟨s0, s1, s2⟩ := box_at HXs27.out
            cases q3
            · go_wp2_with fail
              refine (HAW.out _ (HE.out.kept HW27.out)).mono ?_
              rintro e v28 ⟨rfl, hb⟩
              clear a0 a1 a2 x0 x1 x2 n0 n1 n2 p0 p1 p2 s0 s1 s2
              have HXa29 := Lib.hid (blk_kept hb HXa27.out)
              have HXx29 := Lib.hid (blk_kept hb HXx27.out)
              have HXn29 := Lib.hid (blk_kept hb HXn27.out)
              have HXp29 := Lib.hid (blk_kept hb HXp27.out)
              have HXs29 := Lib.hid (blk_kept hb HXs27.out)
              have HW29 := Lib.hid (below_step HW27.out hb HW27.out.size)
              clear hb
              go_wp2_with fail
              go_ret
              exact ⟨rfl, HW29.out⟩
            · have hq4 := HN2.out (by simp) (by simp)
              subst hq4
              go_wp2_with fail
              refine (HL4.out _).mono ?_
              rintro e v30 ⟨rfl, hb⟩
              clear a0 a1 a2 x0 x1 x2 n0 n1 n2 p0 p1 p2 s0 s1 s2
              have HXa31 := Lib.hid (blk_kept hb HXa27.out)
              have HXx31 := Lib.hid (blk_kept hb HXx27.out)
              have HXn31 := Lib.hid (blk_kept hb HXn27.out)
              have HXp31 := Lib.hid (blk_kept hb HXp27.out)
              have HXs31 := Lib.hid (blk_kept hb HXs27.out)
              have HW31 := Lib.hid (below_step HW27.out hb HW27.out.size)
              clear hb
              obtain ⟨a0, a1, a2⟩ := box_at HXa31.out
              obtain ⟨x0, x1, x2⟩ := box_at HXx31.out
              obtain ⟨n0, n1, n2⟩ := box_at HXn31.out
              obtain ⟨p0, p1, p2⟩ := box_at HXp31.out
              obtain ⟨s0, s1, s2⟩ := box_at HXs31.out
              go_wp2_with fail
              refine (HAW.out _ (HE.out.kept HW31.out)).mono ?_
              rintro e v32 ⟨rfl, hb⟩
              clear a0 a1 a2 x0 x1 x2 n0 n1 n2 p0 p1 p2 s0 s1 s2
              have HXa33 := Lib.hid (blk_kept hb HXa31.out)
              have HXx33 := Lib.hid (blk_kept hb HXx31.out)
              have HXn33 := Lib.hid (blk_kept hb HXn31.out)
              have HXp33 := Lib.hid (blk_kept hb HXp31.out)
              have HXs33 := Lib.hid (blk_kept hb HXs31.out)
              have HW33 := Lib.hid (below_step HW31.out hb HW31.out.size)
              clear hb
              go_wp2_with fail
              go_ret
              exact ⟨rfl, HW33.out⟩
      · obtain rfl : tp = false := HTP2.out
        cases is
        · have hfn := HAF.out.1 (by simp)
          obtain ⟨hrn, hln⟩ := HAR.out.1 (by simp)
          rw [hrn] at HRn
          rw [hln] at HL5
          clear hrn hln
          go_upto_region 6 with (fail)
          go_cut [113] (fun s wx => s = .bool false ∧ Below wc.heap.size wc wx)
          case first =>
            clear a0 a1 a2 x0 x1 x2 n0 n1 n2 p0 p1 p2
            obtain ⟨a0, a1, a2⟩ := box_at HXa10.out
            obtain ⟨x0, x1, x2⟩ := box_at HXx10.out
            obtain ⟨n0, n1, n2⟩ := box_at HXn10.out
            obtain ⟨p0, p1, p2⟩ := box_at HXp10.out
            obtain ⟨hx, hhx⟩ : ∃ hx, hx = ((xa.toNat : Int) != 0) := ⟨_, rfl⟩
            obtain ⟨hy, hhy⟩ : ∃ hy, hy = ((ya.toNat : Int) != 0) := ⟨_, rfl⟩
            rw [← hhx, ← hhy] at HIS
            cases hx
            · have hx0 : (xa.toNat : Int) = 0 := by simpa using hhx
              rw [hx0] at a1
              clear hhx hx0
              cases hy
              · have hy0 : (ya.toNat : Int) = 0 := by simpa using hhy
                rw [hy0] at a2
                clear hhy hy0
                go_wp2_with fail
                refine (HRn.out _).mono ?_
                rintro e v34 ⟨rfl, hb⟩
                have HCv34 := Lib.hid hb
                clear a0 a1 a2 x0 x1 x2 n0 n1 n2 p0 p1 p2
                have HXa35 := Lib.hid (blk_kept hb HXa10.out)
                have HXx35 := Lib.hid (blk_kept hb HXx10.out)
                have HXn35 := Lib.hid (blk_kept hb HXn10.out)
                have HXp35 := Lib.hid (blk_kept hb HXp10.out)
                have HW35 := Lib.hid (below_step HW10.out hb HW10.out.size)
                clear hb
                obtain ⟨a0, a1, a2⟩ := box_at HXa35.out
                obtain ⟨x0, x1, x2⟩ := box_at HXx35.out
                obtain ⟨n0, n1, n2⟩ := box_at HXn35.out
                obtain ⟨p0, p1, p2⟩ := box_at HXp35.out
                go_wp2_with fail
                go_meet
                case rel => exact ⟨rfl, HCv34.out⟩
              · have hy := hhy.symm
                clear hhy
                cases HIS.out
            · have hx := hhx.symm
              clear hhx hhy
              cases HIS.out
          case rest =>
            obtain ⟨rfl, hb⟩ := hcut
            obtain ⟨vq, hvq⟩ : ∃ vq, vq = wc := ⟨_, rfl⟩
            rw [← hvq] at hb ⊢
            clear hvq
            clear a0 a1 a2 x0 x1 x2 n0 n1 n2 p0 p1 p2
            have HXa36 := Lib.hid (blk_kept hb HXa10.out)
            have HXx36 := Lib.hid (blk_kept hb HXx10.out)
            have HXn36 := Lib.hid (blk_kept hb HXn10.out)
            have HXp36 := Lib.hid (blk_kept hb HXp10.out)
            have HW36 := Lib.hid (below_step HW10.out hb HW10.out.size)
            clear hb
            obtain ⟨a0, a1, a2⟩ := box_at HXa36.out
            obtain ⟨x0, x1, x2⟩ := box_at HXx36.out
            obtain ⟨n0, n1, n2⟩ := box_at HXn36.out
            obtain ⟨p0, p1, p2⟩ := box_at HXp36.out
            go_wp2_with fail
            refine (HAB.out (by simp) _).mono ?_
            rintro e v37 ⟨rfl, hb⟩
            clear a0 a1 a2 x0 x1 x2 n0 n1 n2 p0 p1 p2
            have HXa38 := Lib.hid (blk_kept hb HXa36.out)
            have HXx38 := Lib.hid (blk_kept hb HXx36.out)
            have HXn38 := Lib.hid (blk_kept hb HXn36.out)
            have HXp38 := Lib.hid (blk_kept hb HXp36.out)
            have HW38 := Lib.hid (below_step HW36.out hb HW36.out.size)
            clear hb
            have HXa39 := Lib.hid (blk_alloc HXa38.out (boxA (fa, xa, ya)))
            have HXx39 := Lib.hid (blk_alloc HXx38.out (boxA (fa, xa, ya)))
            have HXn39 := Lib.hid (blk_alloc HXn38.out (boxA (fa, xa, ya)))
            have HXp39 := Lib.hid (blk_alloc HXp38.out (boxA (fa, xa, ya)))
            have HXu39 := Lib.hid (heap_alloc_new v37 (boxA (fa, xa, ya)))
            have HW39 := Lib.hid (show Below w.heap.size w (v37.alloc (boxA (fa, xa, ya))) from HW38.out.alloc HW38.out.size _)
            obtain ⟨a0, a1, a2⟩ := box_at HXa39.out
            obtain ⟨x0, x1, x2⟩ := box_at HXx39.out
            obtain ⟨n0, n1, n2⟩ := box_at HXn39.out
            obtain ⟨p0, p1, p2⟩ := box_at HXp39.out
            obtain ⟨u0, u1, u2⟩ := box_at HXu39.out
            have hqq := HQQ.out
            go_wp2_with fail
            refine (HL5.out _).mono ?_
            rintro e v40 ⟨rfl, hb⟩
            clear a0 a1 a2 x0 x1 x2 n0 n1 n2 p0 p1 p2 u0 u1 u2
            have HXa41 := Lib.hid (blk_kept hb HXa39.out)
            have HXx41 := Lib.hid (blk_kept hb HXx39.out)
            have HXn41 := Lib.hid (blk_kept hb HXn39.out)
            have HXp41 := Lib.hid (blk_kept hb HXp39.out)
            have HXu41 := Lib.hid (blk_kept hb HXu39.out)
            have HW41 := Lib.hid (below_step HW39.out hb HW39.out.size)
            clear hb
            obtain ⟨a0, a1, a2⟩ := box_at HXa41.out
            obtain ⟨x0, x1, x2⟩ := box_at HXx41.out
            obtain ⟨n0, n1, n2⟩ := box_at HXn41.out
            obtain ⟨p0, p1, p2⟩ := box_at HXp41.out
            obtain ⟨u0, u1, u2⟩ := box_at HXu41.out
            go_wp2_with fail
            refine (HL1.out _).mono ?_
            rintro e v42 ⟨rfl, hb⟩
            clear a0 a1 a2 x0 x1 x2 n0 n1 n2 p0 p1 p2 u0 u1 u2
            have HXa43 := Lib.hid (blk_kept hb HXa41.out)
            have HXx43 := Lib.hid (blk_kept hb HXx41.out)
            have HXn43 := Lib.hid (blk_kept hb HXn41.out)
            have HXp43 := Lib.hid (blk_kept hb HXp41.out)
            have HXu43 := Lib.hid (blk_kept hb HXu41.out)
            have HW43 := Lib.hid (below_step HW41.out hb HW41.out.size)
            clear hb
            obtain ⟨a0, a1, a2⟩ := box_at HXa43.out
            obtain ⟨x0, x1, x2⟩ := box_at HXx43.out
            obtain ⟨n0, n1, n2⟩ := box_at HXn43.out
            obtain ⟨p0, p1, p2⟩ := box_at HXp43.out
            obtain ⟨u0, u1, u2⟩ := box_at HXu43.out
            cases q1
            · go_wp2_with fail
              refine (HAW.out _ (HE.out.kept HW43.out)).mono ?_
              rintro e v44 ⟨rfl, hb⟩
              clear a0 a1 a2 x0 x1 x2 n0 n1 n2 p0 p1 p2 u0 u1 u2
              have HXa45 := Lib.hid (blk_kept hb HXa43.out)
              have HXx45 := Lib.hid (blk_kept hb HXx43.out)
              have HXn45 := Lib.hid (blk_kept hb HXn43.out)
              have HXp45 := Lib.hid (blk_kept hb HXp43.out)
              have HXu45 := Lib.hid (blk_kept hb HXu43.out)
              have HW45 := Lib.hid (below_step HW43.out hb HW43.out.size)
              clear hb
              go_wp2_with fail
              go_ret
              exact ⟨rfl, HW45.out⟩
            · have hq2 := HN1.out (by simp) (by simp)
              subst hq2
              go_wp2_with fail
              refine (HL2.out _).mono ?_
              rintro e v46 ⟨rfl, hb⟩
              clear a0 a1 a2 x0 x1 x2 n0 n1 n2 p0 p1 p2 u0 u1 u2
              have HXa47 := Lib.hid (blk_kept hb HXa43.out)
              have HXx47 := Lib.hid (blk_kept hb HXx43.out)
              have HXn47 := Lib.hid (blk_kept hb HXn43.out)
              have HXp47 := Lib.hid (blk_kept hb HXp43.out)
              have HXu47 := Lib.hid (blk_kept hb HXu43.out)
              have HW47 := Lib.hid (below_step HW43.out hb HW43.out.size)
              clear hb
              obtain ⟨a0, a1, a2⟩ := box_at HXa47.out
              obtain ⟨x0, x1, x2⟩ := box_at HXx47.out
              obtain ⟨n0, n1, n2⟩ := box_at HXn47.out
              obtain ⟨p0, p1, p2⟩ := box_at HXp47.out
              obtain ⟨u0, u1, u2⟩ := box_at HXu47.out
              go_wp2_with fail
              refine (HAW.out _ (HE.out.kept HW47.out)).mono ?_
              rintro e v48 ⟨rfl, hb⟩
              clear a0 a1 a2 x0 x1 x2 n0 n1 n2 p0 p1 p2 u0 u1 u2
              have HXa49 := Lib.hid (blk_kept hb HXa47.out)
              have HXx49 := Lib.hid (blk_kept hb HXx47.out)
              have HXn49 := Lib.hid (blk_kept hb HXn47.out)
              have HXp49 := Lib.hid (blk_kept hb HXp47.out)
              have HXu49 := Lib.hid (blk_kept hb HXu47.out)
              have HW49 := Lib.hid (below_step HW47.out hb HW47.out.size)
              clear hb
              go_wp2_with fail
              go_ret
              exact ⟨rfl, HW49.out⟩
        · have hfn := HAF.out.1 (by simp)
          obtain ⟨hrn, hln⟩ := HAR.out.1 (by simp)
          rw [hrn] at HRn
          rw [hln] at HL5
          clear hrn hln
          have hfp := HAF.out.2 (by simp)
          obtain ⟨hrp, hlp⟩ := HAR.out.2 (by simp)
          rw [hrp] at HRp
          rw [hlp] at HL6
          clear hrp hlp
          go_upto_region 6 with (fail)
          go_cut [113] (fun s wx => s = .bool false ∧ Below wc.heap.size wc wx)
          case first =>
            clear a0 a1 a2 x0 x1 x2 n0 n1 n2 p0 p1 p2
            obtain ⟨a0, a1, a2⟩ := box_at HXa10.out
            obtain ⟨x0, x1, x2⟩ := box_at HXx10.out
            obtain ⟨n0, n1, n2⟩ := box_at HXn10.out
            obtain ⟨p0, p1, p2⟩ := box_at HXp10.out
            obtain ⟨hx, hhx⟩ : ∃ hx, hx = ((xa.toNat : Int) != 0) := ⟨_, rfl⟩
            obtain ⟨hy, hhy⟩ : ∃ hy, hy = ((ya.toNat : Int) != 0) := ⟨_, rfl⟩
            rw [← hhx, ← hhy] at HIS
            cases hx
            · have hx0 : (xa.toNat : Int) = 0 := by simpa using hhx
              rw [hx0] at a1
              clear hhx hx0
              cases hy
              · have hy0 : (ya.toNat : Int) = 0 := by simpa using hhy
                rw [hy0] at a2
                clear hhy hy0
                cases HIS.out
              · have hy := hhy.symm
                clear hhy
                go_wp2_with fail
                refine (HRn.out _).mono ?_
                rintro e v50 ⟨rfl, hb⟩
                have HCv50 := Lib.hid hb
                clear a0 a1 a2 x0 x1 x2 n0 n1 n2 p0 p1 p2
                have HXa51 := Lib.hid (blk_kept hb HXa10.out)
                have HXx51 := Lib.hid (blk_kept hb HXx10.out)
                have HXn51 := Lib.hid (blk_kept hb HXn10.out)
                have HXp51 := Lib.hid (blk_kept hb HXp10.out)
                have HW51 := Lib.hid (below_step HW10.out hb HW10.out.size)
                clear hb
                obtain ⟨a0, a1, a2⟩ := box_at HXa51.out
                obtain ⟨x0, x1, x2⟩ := box_at HXx51.out
                obtain ⟨n0, n1, n2⟩ := box_at HXn51.out
                obtain ⟨p0, p1, p2⟩ := box_at HXp51.out
                go_wp2_with fail
                refine (HRp.out _).mono ?_
                rintro e v52 ⟨rfl, hb⟩
                have HCv52 := Lib.hid (below_step HCv50.out hb HCv50.out.size)
                clear a0 a1 a2 x0 x1 x2 n0 n1 n2 p0 p1 p2
                have HXa53 := Lib.hid (blk_kept hb HXa51.out)
                have HXx53 := Lib.hid (blk_kept hb HXx51.out)
                have HXn53 := Lib.hid (blk_kept hb HXn51.out)
                have HXp53 := Lib.hid (blk_kept hb HXp51.out)
                have HW53 := Lib.hid (below_step HW51.out hb HW51.out.size)
                clear hb
                obtain ⟨a0, a1, a2⟩ := box_at HXa53.out
                obtain ⟨x0, x1, x2⟩ := box_at HXx53.out
                obtain ⟨n0, n1, n2⟩ := box_at HXn53.out
                obtain ⟨p0, p1, p2⟩ := box_at HXp53.out
                go_wp2_with fail
                go_meet
                case rel => exact ⟨rfl, HCv52.out⟩
            · have hx := hhx.symm
              clear hhx hhy
              go_wp2_with fail
              refine (HRn.out _).mono ?_
              rintro e v54 ⟨rfl, hb⟩
              have HCv54 := Lib.hid hb
              clear a0 a1 a2 x0 x1 x2 n0 n1 n2 p0 p1 p2
              have HXa55 := Lib.hid (blk_kept hb HXa10.out)
              have HXx55 := Lib.hid (blk_kept hb HXx10.out)
              have HXn55 := Lib.hid (blk_kept hb HXn10.out)
              have HXp55 := Lib.hid (blk_kept hb HXp10.out)
              have HW55 := Lib.hid (below_step HW10.out hb HW10.out.size)
              clear hb
              obtain ⟨a0, a1, a2⟩ := box_at HXa55.out
              obtain ⟨x0, x1, x2⟩ := box_at HXx55.out
              obtain ⟨n0, n1, n2⟩ := box_at HXn55.out
              obtain ⟨p0, p1, p2⟩ := box_at HXp55.out
              go_wp2_with fail
              refine (HRp.out _).mono ?_
              rintro e v56 ⟨rfl, hb⟩
              have HCv56 := Lib.hid (below_step HCv54.out hb HCv54.out.size)
              clear a0 a1 a2 x0 x1 x2 n0 n1 n2 p0 p1 p2
              have HXa57 := Lib.hid (blk_kept hb HXa55.out)
              have HXx57 := Lib.hid (blk_kept hb HXx55.out)
              have HXn57 := Lib.hid (blk_kept hb HXn55.out)
              have HXp57 := Lib.hid (blk_kept hb HXp55.out)
              have HW57 := Lib.hid (below_step HW55.out hb HW55.out.size)
              clear hb
              obtain ⟨a0, a1, a2⟩ := box_at HXa57.out
              obtain ⟨x0, x1, x2⟩ := box_at HXx57.out
              obtain ⟨n0, n1, n2⟩ := box_at HXn57.out
              obtain ⟨p0, p1, p2⟩ := box_at HXp57.out
              go_wp2_with fail
              go_meet
              case rel => exact ⟨rfl, HCv56.out⟩
          case rest =>
            obtain ⟨rfl, hb⟩ := hcut
            obtain ⟨vq, hvq⟩ : ∃ vq, vq = wc := ⟨_, rfl⟩
            rw [← hvq] at hb ⊢
            clear hvq
            clear a0 a1 a2 x0 x1 x2 n0 n1 n2 p0 p1 p2
            have HXa58 := Lib.hid (blk_kept hb HXa10.out)
            have HXx58 := Lib.hid (blk_kept hb HXx10.out)
            have HXn58 := Lib.hid (blk_kept hb HXn10.out)
            have HXp58 := Lib.hid (blk_kept hb HXp10.out)
            have HW58 := Lib.hid (below_step HW10.out hb HW10.out.size)
            clear hb
            obtain ⟨a0, a1, a2⟩ := box_at HXa58.out
            obtain ⟨x0, x1, x2⟩ := box_at HXx58.out
            obtain ⟨n0, n1, n2⟩ := box_at HXn58.out
            obtain ⟨p0, p1, p2⟩ := box_at HXp58.out
            go_wp2_with fail
            refine (HAB.out (by simp) _).mono ?_
            rintro e v59 ⟨rfl, hb⟩
            clear a0 a1 a2 x0 x1 x2 n0 n1 n2 p0 p1 p2
            have HXa60 := Lib.hid (blk_kept hb HXa58.out)
            have HXx60 := Lib.hid (blk_kept hb HXx58.out)
            have HXn60 := Lib.hid (blk_kept hb HXn58.out)
            have HXp60 := Lib.hid (blk_kept hb HXp58.out)
            have HW60 := Lib.hid (below_step HW58.out hb HW58.out.size)
            clear hb
            have HXa61 := Lib.hid (blk_alloc HXa60.out (boxA (fa, xa, ya)))
            have HXx61 := Lib.hid (blk_alloc HXx60.out (boxA (fa, xa, ya)))
            have HXn61 := Lib.hid (blk_alloc HXn60.out (boxA (fa, xa, ya)))
            have HXp61 := Lib.hid (blk_alloc HXp60.out (boxA (fa, xa, ya)))
            have HXu61 := Lib.hid (heap_alloc_new v59 (boxA (fa, xa, ya)))
            have HW61 := Lib.hid (show Below w.heap.size w (v59.alloc (boxA (fa, xa, ya))) from HW60.out.alloc HW60.out.size _)
            obtain ⟨a0, a1, a2⟩ := box_at HXa61.out
            obtain ⟨x0, x1, x2⟩ := box_at HXx61.out
            obtain ⟨n0, n1, n2⟩ := box_at HXn61.out
            obtain ⟨p0, p1, p2⟩ := box_at HXp61.out
            obtain ⟨u0, u1, u2⟩ := box_at HXu61.out
            have hqq := HQQ.out
            go_wp2_with fail
            refine (HL5.out _).mono ?_
            rintro e v62 ⟨rfl, hb⟩
            clear a0 a1 a2 x0 x1 x2 n0 n1 n2 p0 p1 p2 u0 u1 u2
            have HXa63 := Lib.hid (blk_kept hb HXa61.out)
            have HXx63 := Lib.hid (blk_kept hb HXx61.out)
            have HXn63 := Lib.hid (blk_kept hb HXn61.out)
            have HXp63 := Lib.hid (blk_kept hb HXp61.out)
            have HXu63 := Lib.hid (blk_kept hb HXu61.out)
            have HW63 := Lib.hid (below_step HW61.out hb HW61.out.size)
            clear hb
            obtain ⟨a0, a1, a2⟩ := box_at HXa63.out
            obtain ⟨x0, x1, x2⟩ := box_at HXx63.out
            obtain ⟨n0, n1, n2⟩ := box_at HXn63.out
            obtain ⟨p0, p1, p2⟩ := box_at HXp63.out
            obtain ⟨u0, u1, u2⟩ := box_at HXu63.out
            go_wp2_with fail
            refine (HL1.out _).mono ?_
            rintro e v64 ⟨rfl, hb⟩
            clear a0 a1 a2 x0 x1 x2 n0 n1 n2 p0 p1 p2 u0 u1 u2
            have HXa65 := Lib.hid (blk_kept hb HXa63.out)
            have HXx65 := Lib.hid (blk_kept hb HXx63.out)
            have HXn65 := Lib.hid (blk_kept hb HXn63.out)
            have HXp65 := Lib.hid (blk_kept hb HXp63.out)
            have HXu65 := Lib.hid (blk_kept hb HXu63.out)
            have HW65 := Lib.hid (below_step HW63.out hb HW63.out.size)
            clear hb
            obtain ⟨a0, a1, a2⟩ := box_at HXa65.out
            obtain ⟨x0, x1, x2⟩ := box_at HXx65.out
            obtain ⟨n0, n1, n2⟩ := box_at HXn65.out
            obtain ⟨p0, p1, p2⟩ := box_at HXp65.out
            obtain ⟨u0, u1, u2⟩ := box_at HXu65.out
            cases q1
            · try clear hqq
              go_wp2_with fail
              refine (HAN.out (by simp) _).mono ?_
              rintro e v66 ⟨rfl, hb⟩
              clear a0 a1 a2 x0 x1 x2 n0 n1 n2 p0 p1 p2 u0 u1 u2
              have HXa67 := Lib.hid (blk_kept hb HXa65.out)
              have HXx67 := Lib.hid (blk_kept hb HXx65.out)
              have HXn67 := Lib.hid (blk_kept hb HXn65.out)
              have HXp67 := Lib.hid (blk_kept hb HXp65.out)
              have HXu67 := Lib.hid (blk_kept hb HXu65.out)
              have HW67 := Lib.hid (below_step HW65.out hb HW65.out.size)
              clear hb
              have HXa68 := Lib.hid (blk_alloc HXa67.out (boxA (fa, xa, ya)))
              have HXx68 := Lib.hid (blk_alloc HXx67.out (boxA (fa, xa, ya)))
              have HXn68 := Lib.hid (blk_alloc HXn67.out (boxA (fa, xa, ya)))
              have HXp68 := Lib.hid (blk_alloc HXp67.out (boxA (fa, xa, ya)))
              have HXu68 := Lib.hid (blk_alloc HXu67.out (boxA (fa, xa, ya)))
              have HXs68 := Lib.hid (heap_alloc_new v66 (boxA (fa, xa, ya)))
              have HW68 := Lib.hid (show Below w.heap.size w (v66.alloc (boxA (fa, xa, ya))) from HW67.out.alloc HW67.out.size _)
              obtain ⟨a0, a1, a2⟩ := box_at HXa68.out
              obtain ⟨x0, x1, x2⟩ := box_at HXx68.out
              obtain ⟨n0, n1, n2⟩ := box_at HXn68.out
              obtain ⟨p0, p1, p2⟩ := box_at HXp68.out
              obtain ⟨u0, u1, u2⟩ := box_at HXu68.out
              obtain ⟨s0, s1, s2⟩ := box_at HXs68.out
              have hqq := HQQ.out
              go_wp2_with fail
              refine (HL6.out _).mono ?_
              rintro e v69 ⟨rfl, hb⟩
              clear a0 a1 a2 x0 x1 x2 n0 n1 n2 p0 p1 p2 u0 u1 u2 s0 s1 s2
              have HXa70 := Lib.hid (blk_kept hb HXa68.out)
              have HXx70 := Lib.hid (blk_kept hb HXx68.out)
              have HXn70 := Lib.hid (blk_kept hb HXn68.out)
              have HXp70 := Lib.hid (blk_kept hb HXp68.out)
              have HXu70 := Lib.hid (blk_kept hb HXu68.out)
              have HXs70 := Lib.hid (blk_kept hb HXs68.out)
              have HW70 := Lib.hid (below_step HW68.out hb HW68.out.size)
              clear hb
              obtain ⟨a0, a1, a2⟩ := box_at HXa70.out
              obtain ⟨x0, x1, x2⟩ := box_at HXx70.out
              obtain ⟨n0, n1, n2⟩ := box_at HXn70.out
              obtain ⟨p0, p1, p2⟩ := box_at HXp70.out
              obtain ⟨u0, u1, u2⟩ := box_at HXu70.out
              obtain ⟨s0, s1, s2⟩ := box_at HXs70.out
              go_wp2_with fail
              refine (HL3.out _).mono ?_
              rintro e v71 ⟨rfl, hb⟩
              clear a0 a1 a2 x0 x1 x2 n0 n1 n2 p0 p1 p2 u0 u1 u2 s0 s1 s2
              have HXa72 := Lib.hid (blk_kept hb HXa70.out)
              have HXx72 := Lib.hid (blk_kept hb HXx70.out)
              have HXn72 := Lib.hid (blk_kept hb HXn70.out)
              have HXp72 := Lib.hid (blk_kept hb HXp70.out)
              have HXu72 := Lib.hid (blk_kept hb HXu70.out)
              have HXs72 := Lib.hid (blk_kept hb HXs70.out)
              have HW72 := Lib.hid (below_step HW70.out hb HW70.out.size)
              clear hb
              obtain ⟨a0, a1, a2⟩ := box_at HXa72.out
              obtain ⟨x0, x1, x2⟩ := box_at HXx72.out
              obtain ⟨n0, n1, n2⟩ := box_at HXn72.out
              obtain ⟨p0, p1, p2⟩ := box_at HXp72.out
              obtain ⟨u0, u1, u2⟩ := box_at HXu72.out
              obtain ⟨s0, s1, s2⟩ := box_at HXs72.out
              cases q3
              · go_wp2_with fail
                refine (HAW.out _ (HE.out.kept HW72.out)).mono ?_
                rintro e v73 ⟨rfl, hb⟩
                clear a0 a1 a2 x0 x1 x2 n0 n1 n2 p0 p1 p2 u0 u1 u2 s0 s1 s2
                have HXa74 := Lib.hid (blk_kept hb HXa72.out)
                have HXx74 := Lib.hid (blk_kept hb HXx72.out)
                have HXn74 := Lib.hid (blk_kept hb HXn72.out)
                have HXp74 := Lib.hid (blk_kept hb HXp72.out)
                have HXu74 := Lib.hid (blk_kept hb HXu72.out)
                have HXs74 := Lib.hid (blk_kept hb HXs72.out)
                have HW74 := Lib.hid (below_step HW72.out hb HW72.out.size)
                clear hb
                go_wp2_with fail
                go_ret
                exact ⟨rfl, HW74.out⟩
              · have hq4 := HN2.out (by simp) (by simp)
                subst hq4
                go_wp2_with fail
                refine (HL4.out _).mono ?_
                rintro e v75 ⟨rfl, hb⟩
                clear a0 a1 a2 x0 x1 x2 n0 n1 n2 p0 p1 p2 u0 u1 u2 s0 s1 s2
                have HXa76 := Lib.hid (blk_kept hb HXa72.out)
                have HXx76 := Lib.hid (blk_kept hb HXx72.out)
                have HXn76 := Lib.hid (blk_kept hb HXn72.out)
                have HXp76 := Lib.hid (blk_kept hb HXp72.out)
                have HXu76 := Lib.hid (blk_kept hb HXu72.out)
                have HXs76 := Lib.hid (blk_kept hb HXs72.out)
                have HW76 := Lib.hid (below_step HW72.out hb HW72.out.size)
                clear hb
                obtain ⟨a0, a1, a2⟩ := box_at HXa76.out
                obtain ⟨x0, x1, x2⟩ := box_at HXx76.out
                obtain ⟨n0, n1, n2⟩ := box_at HXn76.out
                obtain ⟨p0, p1, p2⟩ := box_at HXp76.out
                obtain ⟨u0, u1, u2⟩ := box_at HXu76.out
                obtain ⟨s0, s1, s2⟩ := box_at HXs76.out
                go_wp2_with fail
                refine (HAW.out _ (HE.out.kept HW76.out)).mono ?_
                rintro e v77 ⟨rfl, hb⟩
                clear a0 a1 a2 x0 x1 x2 n0 n1 n2 p0 p1 p2 u0 u1 u2 s0 s1 s2
                have HXa78 := Lib.hid (blk_kept hb HXa76.out)
                have HXx78 := Lib.hid (blk_kept hb HXx76.out)
                have HXn78 := Lib.hid (blk_kept hb HXn76.out)
                have HXp78 := Lib.hid (blk_kept hb HXp76.out)
                have HXu78 := Lib.hid (blk_kept hb HXu76.out)
                have HXs78 := Lib.hid (blk_kept hb HXs76.out)
                have HW78 := Lib.hid (below_step HW76.out hb HW76.out.size)
                clear hb
                go_wp2_with fail
                go_ret
                exact ⟨rfl, HW78.out⟩
            · have hq2 := HN1.out (by simp) (by simp)
              subst hq2
              go_wp2_with fail
              refine (HL2.out _).mono ?_
              rintro e v79 ⟨rfl, hb⟩
              clear a0 a1 a2 x0 x1 x2 n0 n1 n2 p0 p1 p2 u0 u1 u2
              have HXa80 := Lib.hid (blk_kept hb HXa65.out)
              have HXx80 := Lib.hid (blk_kept hb HXx65.out)
              have HXn80 := Lib.hid (blk_kept hb HXn65.out)
              have HXp80 := Lib.hid (blk_kept hb HXp65.out)
              have HXu80 := Lib.hid (blk_kept hb HXu65.out)
              have HW80 := Lib.hid (below_step HW65.out hb HW65.out.size)
              clear hb
              obtain ⟨a0, a1, a2⟩ := box_at HXa80.out
              obtain ⟨x0, x1, x2⟩ := box_at HXx80.out
              obtain ⟨n0, n1, n2⟩ := box_at HXn80.out
              obtain ⟨p0, p1, p2⟩ := box_at HXp80.out
              obtain ⟨u0, u1, u2⟩ := box_at HXu80.out
              try clear hqq
              go_wp2_with fail
              refine (HAN.out (by simp) _).mono ?_
              rintro e v81 ⟨rfl, hb⟩
              clear a0 a1 a2 x0 x1 x2 n0 n1 n2 p0 p1 p2 u0 u1 u2
              have HXa82 := Lib.hid (blk_kept hb HXa80.out)
              have HXx82 := Lib.hid (blk_kept hb HXx80.out)
              have HXn82 := Lib.hid (blk_kept hb HXn80.out)
              have HXp82 := Lib.hid (blk_kept hb HXp80.out)
              have HXu82 := Lib.hid (blk_kept hb HXu80.out)
              have HW82 := Lib.hid (below_step HW80.out hb HW80.out.size)
              clear hb
              have HXa83 := Lib.hid (blk_alloc HXa82.out (boxA (fa, xa, ya)))
              have HXx83 := Lib.hid (blk_alloc HXx82.out (boxA (fa, xa, ya)))
              have HXn83 := Lib.hid (blk_alloc HXn82.out (boxA (fa, xa, ya)))
              have HXp83 := Lib.hid (blk_alloc HXp82.out (boxA (fa, xa, ya)))
              have HXu83 := Lib.hid (blk_alloc HXu82.out (boxA (fa, xa, ya)))
              have HXs83 := Lib.hid (heap_alloc_new v81 (boxA (fa, xa, ya)))
              have HW83 := Lib.hid (show Below w.heap.size w (v81.alloc (boxA (fa, xa, ya))) from HW82.out.alloc HW82.out.size _)
              obtain ⟨a0, a1, a2⟩ := box_at HXa83.out
              obtain ⟨x0, x1, x2⟩ := box_at HXx83.out
              obtain ⟨n0, n1, n2⟩ := box_at HXn83.out
              obtain ⟨p0, p1, p2⟩ := box_at HXp83.out
              obtain ⟨u0, u1, u2⟩ := box_at HXu83.out
              obtain ⟨s0, s1, s2⟩ := box_at HXs83.out
              have hqq := HQQ.out
              go_wp2_with fail
              refine (HL6.out _).mono ?_
              rintro e v84 ⟨rfl, hb⟩
              clear a0 a1 a2 x0 x1 x2 n0 n1 n2 p0 p1 p2 u0 u1 u2 s0 s1 s2
              have HXa85 := Lib.hid (blk_kept hb HXa83.out)
              have HXx85 := Lib.hid (blk_kept hb HXx83.out)
              have HXn85 := Lib.hid (blk_kept hb HXn83.out)
              have HXp85 := Lib.hid (blk_kept hb HXp83.out)
              have HXu85 := Lib.hid (blk_kept hb HXu83.out)
              have HXs85 := Lib.hid (blk_kept hb HXs83.out)
              have HW85 := Lib.hid (below_step HW83.out hb HW83.out.size)
              clear hb
              obtain ⟨a0, a1, a2⟩ := box_at HXa85.out
              obtain ⟨x0, x1, x2⟩ := box_at HXx85.out
              obtain ⟨n0, n1, n2⟩ := box_at HXn85.out
              obtain ⟨p0, p1, p2⟩ := box_at HXp85.out
              obtain ⟨u0, u1, u2⟩ := box_at HXu85.out
              obtain ⟨s0, s1, s2⟩ := box_at HXs85.out
              go_wp2_with fail
              refine (HL3.out _).mono ?_
              rintro e v86 ⟨rfl, hb⟩
              clear a0 a1 a2 x0 x1 x2 n0 n1 n2 p0 p1 p2 u0 u1 u2 s0 s1 s2
              have HXa87 := Lib.hid (blk_kept hb HXa85.out)
              have HXx87 := Lib.hid (blk_kept hb HXx85.out)
              have HXn87 := Lib.hid (blk_kept hb HXn85.out)
              have HXp87 := Lib.hid (blk_kept hb HXp85.out)
              have HXu87 := Lib.hid (blk_kept hb HXu85.out)
              have HXs87 := Lib.hid (blk_kept hb HXs85.out)
              have HW87 := Lib.hid (below_step HW85.out hb HW85.out.size)
              clear hb
              obtain ⟨a0, a1, a2⟩ := box_at HXa87.out
              obtain ⟨x0, x1, x2⟩ := box_at HXx87.out
              obtain ⟨n0, n1, n2⟩ := box_at HXn87.out
              obtain ⟨p0, p1, p2⟩ := box_at HXp87.out
              obtain ⟨u0, u1, u2⟩ := box_at HXu87.out
              obtain ⟨s0, s1, s2⟩ := box_at HXs87.out
              cases q3
              · go_wp2_with fail
                refine (HAW.out _ (HE.out.kept HW87.out)).mono ?_
                rintro e v88 ⟨rfl, hb⟩
                clear a0 a1 a2 x0 x1 x2 n0 n1 n2 p0 p1 p2 u0 u1 u2 s0 s1 s2
                have HXa89 := Lib.hid (blk_kept hb HXa87.out)
                have HXx89 := Lib.hid (blk_kept hb HXx87.out)
                have HXn89 := Lib.hid (blk_kept hb HXn87.out)
                have HXp89 := Lib.hid (blk_kept hb HXp87.out)
                have HXu89 := Lib.hid (blk_kept hb HXu87.out)
                have HXs89 := Lib.hid (blk_kept hb HXs87.out)
                have HW89 := Lib.hid (below_step HW87.out hb HW87.out.size)
                clear hb
                go_wp2_with fail
                go_ret
                exact ⟨rfl, HW89.out⟩
              · have hq4 := HN2.out (by simp) (by simp)
                subst hq4
                go_wp2_with fail
                refine (HL4.out _).mono ?_
                rintro e v90 ⟨rfl, hb⟩
                clear a0 a1 a2 x0 x1 x2 n0 n1 n2 p0 p1 p2 u0 u1 u2 s0 s1 s2
                have HXa91 := Lib.hid (blk_kept hb HXa87.out)
                have HXx91 := Lib.hid (blk_kept hb HXx87.out)
                have HXn91 := Lib.hid (blk_kept hb HXn87.out)
                have HXp91 := Lib.hid (blk_kept hb HXp87.out)
                have HXu91 := Lib.hid (blk_kept hb HXu87.out)
                have HXs91 := Lib.hid (blk_kept hb HXs87.out)
                have HW91 := Lib.hid (below_step HW87.out hb HW87.out.size)
                clear hb
                obtain ⟨a0, a1, a2⟩ := box_at HXa91.out
                obtain ⟨x0, x1, x2⟩ := box_at HXx91.out
                obtain ⟨n0, n1, n2⟩ := box_at HXn91.out
                obtain ⟨p0, p1, p2⟩ := box_at HXp91.out
                obtain ⟨u0, u1, u2⟩ := box_at HXu91.out
                obtain ⟨s0, s1, s2⟩ := box_at HXs91.out
                go_wp2_with fail
                refine (HAW.out _ (HE.out.kept HW91.out)).mono ?_
                rintro e v92 ⟨rfl, hb⟩
                clear a0 a1 a2 x0 x1 x2 n0 n1 n2 p0 p1 p2 u0 u1 u2 s0 s1 s2
                have HXa93 := Lib.hid (blk_kept hb HXa91.out)
                have HXx93 := Lib.hid (blk_kept hb HXx91.out)
                have HXn93 := Lib.hid (blk_kept hb HXn91.out)
                have HXp93 := Lib.hid (blk_kept hb HXp91.out)
                have HXu93 := Lib.hid (blk_kept hb HXu91.out)
                have HXs93 := Lib.hid (blk_kept hb HXs91.out)
                have HW93 := Lib.hid (below_step HW91.out hb HW91.out.size)
                clear hb
                go_wp2_with fail
                go_ret
                exact ⟨rfl, HW93.out⟩
end Go.Proofs.Tryd.Tx
