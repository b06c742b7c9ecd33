/- CidrBack's walk. -/
import Derived.Test.YtmjjhnfdpiclfaaDoorCq7
import Derived.Test.YtmjjhnfdpiclfaaDoorCl5
import Derived.Test.YtmjjhnfdpiclfaaDoorBz1
set_option linter.unusedVariables false
set_option linter.unusedSimpArgs false
set_option maxRecDepth 100000
namespace Go.Proofs.Tryd.Cd
open Go.RowKit Go.Cph Go.Cph.Tx Go.Cph.Px Go.Cph.Cv Go.Proofs.Tryd.Tx Go.Proofs.Tryd.Pfx
open Go.Cph.Ok (ofBs)
open Go.Proofs.Tryd.Rows (boxZ)
theorem encR_pair (r : Option Pf) : ∃ (p : Pf) (c : Int), encR r = .tuple #[encP p, .int .i64 c] ∧ ((c = 0 ∧ r = some p) ∨ (c = 8 ∧ r = none ∧ p = zeroP)) := by
  cases r with
  | none => exact ⟨zeroP, 8, rfl, .inr ⟨rfl, rfl, rfl⟩⟩
  | some p => exact ⟨p, 0, rfl, .inl ⟨rfl, rfl⟩⟩
theorem zero_wrong : rightP zeroP = false := by decide
set_option maxHeartbeats 16000000 in
theorem back_law (p : Pf) (a : Ad) (s : ByteArray) (w : World) (henv : Env w) : Calls Tryd.prog 5 #[encP p, encA a, .string s] w fun e w' => e = .returned (.bool true) ∧ Below w.heap.size w w' := by
  have HE := Lib.hid henv
  have HAW := Lib.hid (fun W he => awake_any W he)
  obtain ⟨l, hl⟩ : ∃ l, l = Go.Proofs.Tryd.Tx.cutL s := ⟨_, rfl⟩
  have HLL := Lib.hid (show l.length ≤ 2000 from by rw [hl]; exact cutL_le s)
  have HC1 := Lib.hid (show ¬ 2000 < s.size → s = ofBs l from fun h => by rw [hl]; exact cut_all h)
  have HC2 := Lib.hid (show s.extract 0 2000 = ofBs l from by rw [hl]; exact cut_some s)
  clear hl henv
  have HRP := Lib.hid (fun W => rightP_any p W)
  have HTX := Lib.hid (fun W he => ptext_any p W he)
  have HPT := Lib.hid (show rightP p = true → ∀ W, Env W → Calls Tryd.prog 20 #[.string (ofBs (textP p))] W fun e w' => e = .returned (.tuple #[encP p, .int .i64 0]) ∧ Below W.heap.size W w' from fun h W he => pparse_is (by have := textP_len p; omega) h rfl W he)
  have HLA := Lib.hid (fun W => last_any p W)
  have HCL := Lib.hid (show rightP p = true → ∀ W, Calls Tryd.prog 19 #[encA (lastR p), .int .i64 p.2] W fun e w' => e = .returned (.tuple #[encP p, .int .i64 0]) ∧ Below W.heap.size W w' from fun h W => by
    have := cutB (lastR p) p.2 W
    rw [(cut_last h).1, show cutE (lastR p) p.2 = 0 from by unfold cutE; rw [(cut_last h).2]; rfl] at this
    exact this)
  have HPS := Lib.hid (fun W he => pparse_any l (by have := HLL.out; omega) W he)
  have HCA := Lib.hid (fun W => cutB a p.2 W)
  have HHA := Lib.hid (fun W => hasP_any p a W)
  have HRC := Lib.hid (fun W => rightP_any (cutP a p.2) W)
  have HHC := Lib.hid (fun W => hasP_any (cutP a p.2) a W)
  have HF := Lib.hid (show (cutE a p.2 = 1 ∧ cutP a p.2 = zeroP ∧ hasP p a = false) ∨ (cutE a p.2 = 0 ∧ rightP (cutP a p.2) = true ∧ hasP (cutP a p.2) a = true ∧ (cutP a p.2 == p) = hasP p a) from by
    cases hf : fits a p.2 with
    | false => exact .inl ⟨by unfold cutE; rw [hf]; rfl, (cut_not hf).1, (cut_not hf).2⟩
    | true => exact .inr ⟨by unfold cutE; rw [hf]; rfl, (cut_fits hf).1, (cut_fits hf).2, cut_is hf⟩)
  have HEC := Lib.hid (fun W => run_eqlC (cutP a p.2) p W)
  obtain ⟨rp, h1⟩ : ∃ b, b = rightP p := ⟨_, rfl⟩
  rw [← h1] at HRP HPT HCL
  obtain ⟨tx, h2⟩ : ∃ b, b = ofBs (textP p) := ⟨_, rfl⟩
  rw [← h2] at HTX HPT
  obtain ⟨L, h3⟩ : ∃ b, b = lastR p := ⟨_, rfl⟩
  rw [← h3] at HLA HCL
  obtain ⟨c, h4⟩ : ∃ b, b = cutP a p.2 := ⟨_, rfl⟩
  rw [← h4] at HCA HRC HHC HF HEC
  obtain ⟨ce, h5⟩ : ∃ b, b = cutE a p.2 := ⟨_, rfl⟩
  rw [← h5] at HCA HF
  obtain ⟨e1, h6⟩ : ∃ b, b = hasP p a := ⟨_, rfl⟩
  rw [← h6] at HHA HF
  obtain ⟨e2, h7⟩ : ∃ b, b = rightP c := ⟨_, rfl⟩
  rw [← h7] at HRC HF
  obtain ⟨e3, h8⟩ : ∃ b, b = hasP c a := ⟨_, rfl⟩
  rw [← h8] at HHC HF
  obtain ⟨e4, h9⟩ : ∃ b, b = (c == p) := ⟨_, rfl⟩
  rw [← h9] at HEC HF
  have HNP := Lib.hid (show ∀ W, (binOp .neq 26 (encP p) (encP p)).run Tryd.prog W = .ok (.bool false) W from fun W => by rw [run_neqC]; simp)
  clear h1 h2 h3 h4 h5 h6 h7 h8 h9
  obtain ⟨⟨fp, xp, yp⟩, bp⟩ := p
  obtain ⟨fa, xa, ya⟩ := a
  obtain ⟨fl, xl, yl⟩ := L
  obtain ⟨⟨fc, xc, yc⟩, bc⟩ := c
  have HXp1 := Lib.hid (heap_alloc_new w (boxP ((fp, xp, yp), bp)))
  have HW1 := Lib.hid (show Below w.heap.size w (w.alloc (boxP ((fp, xp, yp), bp))) from (Below.refl _ _).alloc (Nat.le_refl _) _)
  have HXp2 := Lib.hid (blk_alloc HXp1.out (boxA (fa, xa, ya)))
  have hxa := heap_alloc_new (w.alloc (boxP ((fp, xp, yp), bp))) (boxA (fa, xa, ya))
  simp only [World.size_alloc] at hxa
  have HXa2 := Lib.hid hxa
  clear hxa
  have HW2 := Lib.hid (show Below w.heap.size w ((w.alloc (boxP ((fp, xp, yp), bp))).alloc (boxA (fa, xa, ya))) from HW1.out.alloc HW1.out.size _)
  go_enter Tryd.func5, Tryd.ntmps5
  go_upto_if 17 with (fail)
  obtain ⟨v3, hv3⟩ : ∃ v3, v3 = ((w.alloc (boxP ((fp, xp, yp), bp))).alloc (boxA (fa, xa, ya))) := ⟨_, rfl⟩
  rw [← hv3] at HXp2 HXa2 HW2 ⊢
  clear hv3
  go_cut [2] (fun s2 wx => s2 = .string (ofBs l) ∧ wx = v3)
  case first =>
    by_cases h2 : 2000 < s.size
    · have h2i : (2000 : Int) < (s.size : Int) := by omega
      go_wp2_with fail
      go_meet
      case rel => exact ⟨by rw [← HC2.out], rfl⟩
    · have h2i : ¬ (2000 : Int) < (s.size : Int) := by omega
      have HS := Lib.hid (HC1.out h2)
      clear h2
      go_wp2_with fail
      go_meet
      case rel => exact ⟨by rw [← HS.out], rfl⟩
  case rest =>
    obtain ⟨rfl, hwx⟩ := hcut
    subst hwx
    clear HC1 HC2
    obtain ⟨p0, p1, p2, p3⟩ := boxP_at HXp2.out
    go_wp2_with fail
    refine (HRP.out _).mono ?_
    rintro e v4 ⟨rfl, hb⟩
    clear p0 p1 p2 p3
    have HXp5 := Lib.hid (blk_kept hb HXp2.out)
    have HXa5 := Lib.hid (blk_kept hb HXa2.out)
    have HW5 := Lib.hid (below_step HW2.out hb HW2.out.size)
    clear hb
    go_upto_if 21 with (fail)
    go_cut [6] (fun s6 wx => s6 = .bool false ∧ Below v4.heap.size v4 wx)
    case first =>
      have HBASE := Lib.hid (show Below v4.heap.size v4 v4 from Below.refl _ _)
      cases rp
      · go_wp2_with fail
        go_meet
        case rel => exact ⟨rfl, HBASE.out⟩
      · obtain ⟨p0, p1, p2, p3⟩ := boxP_at HXp5.out
        go_wp2_with fail
        refine (HTX.out _ (HE.out.kept HW5.out)).mono ?_
        rintro e v6 ⟨rfl, hb⟩
        have hb0 := hb
        have HD7 := Lib.hid (below_step HBASE.out hb0 HBASE.out.size)
        clear hb0
        clear p0 p1 p2 p3
        have HXp8 := Lib.hid (blk_kept hb HXp5.out)
        have HXa8 := Lib.hid (blk_kept hb HXa5.out)
        have HW8 := Lib.hid (below_step HW5.out hb HW5.out.size)
        clear hb
        go_wp2_with fail
        refine (HPT.out (by simp) _ (HE.out.kept HW8.out)).mono ?_
        rintro e v9 ⟨rfl, hb⟩
        have hb0 := hb
        have HD10 := Lib.hid (below_step HD7.out hb0 HD7.out.size)
        clear hb0
        have HXp11 := Lib.hid (blk_kept hb HXp8.out)
        have HXa11 := Lib.hid (blk_kept hb HXa8.out)
        have HW11 := Lib.hid (below_step HW8.out hb HW8.out.size)
        clear hb
        have HXp12 := Lib.hid (blk_alloc HXp11.out (boxP ((fp, xp, yp), bp)))
        have HXa12 := Lib.hid (blk_alloc HXa11.out (boxP ((fp, xp, yp), bp)))
        have HXq12 := Lib.hid (heap_alloc_new v9 (boxP ((fp, xp, yp), bp)))
        have HW12 := Lib.hid (show Below w.heap.size w (v9.alloc (boxP ((fp, xp, yp), bp))) from HW11.out.alloc HW11.out.size _)
        have HD13 := Lib.hid (bl_alloc HD10.out (boxP ((fp, xp, yp), bp)))
        go_wp2_with fail
        obtain ⟨v14, hv14⟩ : ∃ v14, v14 = (v9.alloc (boxP ((fp, xp, yp), bp))) := ⟨_, rfl⟩
        rw [← hv14] at HXp12 HXa12 HXq12 HD13 HW12 ⊢
        clear hv14
        have HKP := Lib.hid (show ∀ W, Below v14.heap.size v14 W → W.cell? ⟨w.heap.size, 0, none⟩ = some (.int .u8 (fp.toNat : Int)) ∧ W.cell? ⟨w.heap.size, 1, none⟩ = some (.int .u64 (xp.toNat : Int)) ∧ W.cell? ⟨w.heap.size, 2, none⟩ = some (.int .u64 (yp.toNat : Int)) ∧ W.cell? ⟨w.heap.size, 3, none⟩ = some (.int .i64 bp) from fun W h => boxP_at (blk_kept h HXp12.out))
        have HS0 := Lib.hid (show Below v14.heap.size v14 v14 from Below.refl _ _)
        go_cut [9, 10] (fun s9 s10 wx => ∃ g, s9 = .pointer (some ⟨g, 0, none⟩) ∧ s10 = .int .i64 0 ∧ wx.heap[g]? = some (boxP ((fp, xp, yp), bp)) ∧ Below v14.heap.size v14 wx)
        case first =>
          go_region_held3 (fun W => W.cell? ⟨w.heap.size, 0, none⟩ = some (.int .u8 (fp.toNat : Int)) ∧ W.cell? ⟨w.heap.size, 1, none⟩ = some (.int .u64 (xp.toNat : Int)) ∧ W.cell? ⟨w.heap.size, 2, none⟩ = some (.int .u64 (yp.toNat : Int)) ∧ W.cell? ⟨w.heap.size, 3, none⟩ = some (.int .i64 bp)) ((refine HKP.out _ ?_; (repeat (first | exact B2.out | exact B1.out | exact HS0.out | refine bl_drew ?_ | refine bl_alloc ?_ _ | refine bl_set ?_ (by first | exact Nat.le_refl _ | exact B1.out.size | exact B2.out.size) _)); done))
            (first
              | (go_at_call 11; (with_reducible refine (HLA.out _).mono ?_); rintro e u1 ⟨rfl, hb⟩; (have B1 := Lib.hid (show Below v14.heap.size v14 u1 from by first | exact below_step HS0.out.drew hb HS0.out.drew.size | exact below_step (bl_alloc HS0.out _).drew hb (bl_alloc HS0.out _).drew.size)); (try (have K1 := Lib.hid (show u1.heap[v14.heap.size]? = some boxPZ from blk_kept hb (heap_alloc_new _ _)))); clear hb)
              | (go_at_call 19; (with_reducible refine (HCL.out (by simp) _).mono ?_); rintro e u2 ⟨rfl, hb⟩; (have B2 := Lib.hid (show Below v14.heap.size v14 u2 from by first | exact below_step B1.out hb B1.out.size | exact below_step (bl_alloc B1.out _) hb (bl_alloc B1.out _).size)); (try (have K2 := Lib.hid (show u2.heap[v14.heap.size]? = some boxPZ from blk_kept hb K1.out))); (try (have K3 := Lib.hid (show u2.heap[u1.heap.size]? = some boxPZ from blk_kept hb (heap_alloc_new _ _)))); clear hb; (try (obtain ⟨K2c0, K2c1, K2c2, K2c3⟩ := boxPZ_at K2.out; have K2f : ∀ j, u2.frozen? ⟨v14.heap.size, j, none⟩ = false := (fun j => by rw [blk_frozen K2.out]; simp))); (try (obtain ⟨K3c0, K3c1, K3c2, K3c3⟩ := boxPZ_at K3.out; have K3f : ∀ j, u2.frozen? ⟨u1.heap.size, j, none⟩ = false := (fun j => by rw [blk_frozen K3.out]; simp)))))
          all_goals go_wp2_with fail
          all_goals go_meet
          all_goals case rel =>
            refine ⟨_, rfl, rfl, ?_, ?_⟩
            · first
                | exact heap_alloc_new u2 _
                | exact set4_heap K3.out _ _ _ _
                | exact set4_heap K2.out _ _ _ _
            · first
                | exact bl_alloc B2.out _
                | exact set4 B2.out B1.out.size _ _ _ _
                | exact set4 B2.out (Nat.le_refl _) _ _ _ _
        case rest =>
          skip
          obtain ⟨g, rfl, rfl, hg, hb⟩ := hcut
          have hb0 := hb
          have HD15 := Lib.hid (below_step HD13.out hb0 HD13.out.size)
          clear hb0
          have HXr0 := Lib.hid hg
          clear hg
          have HXp16 := Lib.hid (blk_kept hb HXp12.out)
          have HXa16 := Lib.hid (blk_kept hb HXa12.out)
          have HXq16 := Lib.hid (blk_kept hb HXq12.out)
          have HW16 := Lib.hid (below_step HW12.out hb HW12.out.size)
          clear hb
          obtain ⟨q0, q1, q2, q3⟩ := boxP_at HXq16.out
          obtain ⟨p0, p1, p2, p3⟩ := boxP_at HXp16.out
          obtain ⟨r0, r1, r2, r3⟩ := boxP_at HXr0.out
          have hnp := HNP.out
          go_wp2_with fail
          go_meet
          case rel => exact ⟨rfl, HD15.out⟩
    case rest =>
      obtain ⟨w5, hw5⟩ : ∃ w5, w5 = wc := ⟨_, rfl⟩
      subst hw5
      obtain ⟨rfl, hb⟩ := hcut
      have HXp17 := Lib.hid (blk_kept hb HXp5.out)
      have HXa17 := Lib.hid (blk_kept hb HXa5.out)
      have HW17 := Lib.hid (below_step HW5.out hb HW5.out.size)
      clear hb
      go_wp2_with fail
      refine (HPS.out _ (HE.out.kept HW17.out)).mono ?_
      rintro e w6 ⟨R, hR, rfl, hb⟩
      have HXp18 := Lib.hid (blk_kept hb HXp17.out)
      have HXa18 := Lib.hid (blk_kept hb HXa17.out)
      have HW18 := Lib.hid (below_step HW17.out hb HW17.out.size)
      clear hb
      obtain ⟨S, sc, hS, hcs⟩ := encR_pair R
      rw [hS]
      have HSF := Lib.hid (show (sc = 0 ∧ rightP S = true ∧ textP S = l) ∨ (sc = 8 ∧ S = zeroP) from by
        rcases hcs with ⟨k1, k2⟩ | ⟨k1, k2, k3⟩
        · exact .inl ⟨k1, (hR S).1 k2⟩
        · exact .inr ⟨k1, k3⟩)
      have HRS := Lib.hid (fun W => rightP_any S W)
      have HTS := Lib.hid (fun W he => ptext_any S W he)
      have HZW := Lib.hid (show S = zeroP → rightP S = false from fun h => by rw [h]; exact zero_wrong)
      obtain ⟨rs, h1⟩ : ∃ b, b = rightP S := ⟨_, rfl⟩
      rw [← h1] at HSF HRS HZW
      obtain ⟨sb, h2⟩ : ∃ b, b = ofBs l := ⟨_, rfl⟩
      have HTF := Lib.hid (show textP S = l → ofBs (textP S) = sb from fun h => by rw [h, h2])
      rw [← h2]
      obtain ⟨ts, h3⟩ : ∃ b, b = ofBs (textP S) := ⟨_, rfl⟩
      rw [← h3] at HTS HTF
      clear h1 h2 h3 hS hcs hR
      obtain ⟨⟨fs, xs, ys⟩, bs⟩ := S
      have HXp19 := Lib.hid (blk_alloc HXp18.out (boxP ((fs, xs, ys), bs)))
      have HXa19 := Lib.hid (blk_alloc HXa18.out (boxP ((fs, xs, ys), bs)))
      have HXt19 := Lib.hid (heap_alloc_new w6 (boxP ((fs, xs, ys), bs)))
      have HW19 := Lib.hid (show Below w.heap.size w (w6.alloc (boxP ((fs, xs, ys), bs))) from HW18.out.alloc HW18.out.size _)
      rcases HSF.out with ⟨rfl, rfl, ht⟩ | ⟨rfl, hz⟩
      · obtain rfl : ts = sb := HTF.out ht
        have hq : (ts.toList != ts.toList) = false := by simp
        clear ht
        obtain ⟨t0, t1, t2, t3⟩ := boxP_at HXt19.out
        go_wp2_with fail
        refine (HRS.out _).mono ?_
        rintro e v20 ⟨rfl, hb⟩
        clear t0 t1 t2 t3
        have HXp21 := Lib.hid (blk_kept hb HXp19.out)
        have HXa21 := Lib.hid (blk_kept hb HXa19.out)
        have HXt21 := Lib.hid (blk_kept hb HXt19.out)
        have HW21 := Lib.hid (below_step HW19.out hb HW19.out.size)
        clear hb
        obtain ⟨t0, t1, t2, t3⟩ := boxP_at HXt21.out
        go_wp2_with fail
        refine (HTS.out _ (HE.out.kept HW21.out)).mono ?_
        rintro e v22 ⟨rfl, hb⟩
        clear t0 t1 t2 t3
        have HXp23 := Lib.hid (blk_kept hb HXp21.out)
        have HXa23 := Lib.hid (blk_kept hb HXa21.out)
        have HXt23 := Lib.hid (blk_kept hb HXt21.out)
        have HW23 := Lib.hid (below_step HW21.out hb HW21.out.size)
        clear hb
        obtain ⟨a0, a1, a2⟩ := box_at HXa23.out
        obtain ⟨p0, p1, p2, p3⟩ := boxP_at HXp23.out
        go_wp2_with fail
        refine (HCA.out _).mono ?_
        rintro e v24 ⟨rfl, hb⟩
        clear a0 a1 a2 p0 p1 p2 p3
        have HXp25 := Lib.hid (blk_kept hb HXp23.out)
        have HXa25 := Lib.hid (blk_kept hb HXa23.out)
        have HXt25 := Lib.hid (blk_kept hb HXt23.out)
        have HW25 := Lib.hid (below_step HW23.out hb HW23.out.size)
        clear hb
        have HXp26 := Lib.hid (blk_alloc HXp25.out (boxP ((fc, xc, yc), bc)))
        have HXa26 := Lib.hid (blk_alloc HXa25.out (boxP ((fc, xc, yc), bc)))
        have HXt26 := Lib.hid (blk_alloc HXt25.out (boxP ((fc, xc, yc), bc)))
        have HXc26 := Lib.hid (heap_alloc_new v24 (boxP ((fc, xc, yc), bc)))
        have HW26 := Lib.hid (show Below w.heap.size w (v24.alloc (boxP ((fc, xc, yc), bc))) from HW25.out.alloc HW25.out.size _)
        rcases HF.out with ⟨rfl, hz, rfl⟩ | ⟨rfl, rfl, rfl, he⟩
        · have HZQ := Lib.hid (show ∀ W, (binOp .eql 26 (encP ((fc, xc, yc), bc)) (.agg #[.int .u8 0, .int .u64 0, .int .u64 0, .int .i64 0])).run Tryd.prog W = .ok (.bool true) W from fun W => by
            have := run_eqlC ((fc, xc, yc), bc) zeroP W
            rw [show (((fc, xc, yc), bc) : Pf) == zeroP from by rw [hz]; decide] at this
            exact this)
          clear hz
          have hzq := HZQ.out
          obtain ⟨c0, c1, c2, c3⟩ := boxP_at HXc26.out
          obtain ⟨p0, p1, p2, p3⟩ := boxP_at HXp26.out
          obtain ⟨a0, a1, a2⟩ := box_at HXa26.out
          go_wp2_with fail
          refine (HHA.out _).mono ?_
          rintro e v27 ⟨rfl, hb⟩
          clear c0 c1 c2 c3 p0 p1 p2 p3 a0 a1 a2
          have HXp28 := Lib.hid (blk_kept hb HXp26.out)
          have HXa28 := Lib.hid (blk_kept hb HXa26.out)
          have HXt28 := Lib.hid (blk_kept hb HXt26.out)
          have HXc28 := Lib.hid (blk_kept hb HXc26.out)
          have HW28 := Lib.hid (below_step HW26.out hb HW26.out.size)
          clear hb
          go_wp2_with fail
          refine (HAW.out _ (HE.out.kept HW28.out)).mono ?_
          rintro e v29 ⟨rfl, hb⟩
          have HXp30 := Lib.hid (blk_kept hb HXp28.out)
          have HXa30 := Lib.hid (blk_kept hb HXa28.out)
          have HXt30 := Lib.hid (blk_kept hb HXt28.out)
          have HXc30 := Lib.hid (blk_kept hb HXc28.out)
          have HW30 := Lib.hid (below_step HW28.out hb HW28.out.size)
          clear hb
          go_wp2_with fail
          go_ret
          exact ⟨rfl, HW30.out⟩
        · rw [he] at HEC
          clear he
          go_wp2_with fail
          obtain ⟨c0, c1, c2, c3⟩ := later_boxP HXc26.out
          obtain ⟨p0, p1, p2, p3⟩ := later_boxP HXp26.out
          obtain ⟨a0, a1, a2⟩ := later_box HXa26.out
          have hec := HEC.out
          cases e1
          all_goals
            refine wp_region_later (v24.alloc (boxP ((fc, xc, yc), bc))).heap.size (by kernel_rfl) (by kernel_rfl) ?_
            repeat (go_big_quiet_step (first | (go_at_call 12; exact Later.calls (Nat.le_refl _) (HRC.out _)) | (go_at_call 10; first | with_reducible exact Later.calls (Nat.le_refl _) (HHC.out _) | with_reducible exact Later.calls (Nat.le_refl _) (HHA.out _)) | (go_at_call 14; exact Later.calls (Nat.le_refl _) (HAW.out _ (HE.out.kept (below_step HW26.out (Later.prop _) HW26.out.size))))))
            refine wpQuiet_nil ?_
            rintro v31 ⟨zz, rfl⟩
            have hb := zz.prop
            have HZ0 := Lib.hid hb
            clear c0 c1 c2 c3 p0 p1 p2 p3 a0 a1 a2
            generalize zz.val = v31 at *
            have HXp32 := Lib.hid (blk_kept hb HXp26.out)
            have HXa32 := Lib.hid (blk_kept hb HXa26.out)
            have HXt32 := Lib.hid (blk_kept hb HXt26.out)
            have HXc32 := Lib.hid (blk_kept hb HXc26.out)
            have HW32 := Lib.hid (below_step HW26.out hb HW26.out.size)
            clear hb
            go_wp2_with fail
            go_ret
            exact ⟨rfl, HW32.out⟩
      · obtain rfl : rs = false := HZW.out hz
        clear hz
        obtain ⟨t0, t1, t2, t3⟩ := boxP_at HXt19.out
        go_wp2_with fail
        refine (HRS.out _).mono ?_
        rintro e v33 ⟨rfl, hb⟩
        clear t0 t1 t2 t3
        have HXp34 := Lib.hid (blk_kept hb HXp19.out)
        have HXa34 := Lib.hid (blk_kept hb HXa19.out)
        have HXt34 := Lib.hid (blk_kept hb HXt19.out)
        have HW34 := Lib.hid (below_step HW19.out hb HW19.out.size)
        clear hb
        obtain ⟨a0, a1, a2⟩ := box_at HXa34.out
        obtain ⟨p0, p1, p2, p3⟩ := boxP_at HXp34.out
        go_wp2_with fail
        refine (HCA.out _).mono ?_
        rintro e v35 ⟨rfl, hb⟩
        clear a0 a1 a2 p0 p1 p2 p3
        have HXp36 := Lib.hid (blk_kept hb HXp34.out)
        have HXa36 := Lib.hid (blk_kept hb HXa34.out)
        have HXt36 := Lib.hid (blk_kept hb HXt34.out)
        have HW36 := Lib.hid (below_step HW34.out hb HW34.out.size)
        clear hb
        have HXp37 := Lib.hid (blk_alloc HXp36.out (boxP ((fc, xc, yc), bc)))
        have HXa37 := Lib.hid (blk_alloc HXa36.out (boxP ((fc, xc, yc), bc)))
        have HXt37 := Lib.hid (blk_alloc HXt36.out (boxP ((fc, xc, yc), bc)))
        have HXc37 := Lib.hid (heap_alloc_new v35 (boxP ((fc, xc, yc), bc)))
        have HW37 := Lib.hid (show Below w.heap.size w (v35.alloc (boxP ((fc, xc, yc), bc))) from HW36.out.alloc HW36.out.size _)
        rcases HF.out with ⟨rfl, hz, rfl⟩ | ⟨rfl, rfl, rfl, he⟩
        · have HZQ := Lib.hid (show ∀ W, (binOp .eql 26 (encP ((fc, xc, yc), bc)) (.agg #[.int .u8 0, .int .u64 0, .int .u64 0, .int .i64 0])).run Tryd.prog W = .ok (.bool true) W from fun W => by
            have := run_eqlC ((fc, xc, yc), bc) zeroP W
            rw [show (((fc, xc, yc), bc) : Pf) == zeroP from by rw [hz]; decide] at this
            exact this)
          clear hz
          have hzq := HZQ.out
          obtain ⟨c0, c1, c2, c3⟩ := boxP_at HXc37.out
          obtain ⟨p0, p1, p2, p3⟩ := boxP_at HXp37.out
          obtain ⟨a0, a1, a2⟩ := box_at HXa37.out
          go_wp2_with fail
          refine (HHA.out _).mono ?_
          rintro e v38 ⟨rfl, hb⟩
          clear c0 c1 c2 c3 p0 p1 p2 p3 a0 a1 a2
          have HXp39 := Lib.hid (blk_kept hb HXp37.out)
          have HXa39 := Lib.hid (blk_kept hb HXa37.out)
          have HXt39 := Lib.hid (blk_kept hb HXt37.out)
          have HXc39 := Lib.hid (blk_kept hb HXc37.out)
          have HW39 := Lib.hid (below_step HW37.out hb HW37.out.size)
          clear hb
          go_wp2_with fail
          refine (HAW.out _ (HE.out.kept HW39.out)).mono ?_
          rintro e v40 ⟨rfl, hb⟩
          have HXp41 := Lib.hid (blk_kept hb HXp39.out)
          have HXa41 := Lib.hid (blk_kept hb HXa39.out)
          have HXt41 := Lib.hid (blk_kept hb HXt39.out)
          have HXc41 := Lib.hid (blk_kept hb HXc39.out)
          have HW41 := Lib.hid (below_step HW39.out hb HW39.out.size)
          clear hb
          go_wp2_with fail
          go_ret
          exact ⟨rfl, HW41.out⟩
        · rw [he] at HEC
          clear he
          go_wp2_with fail
          obtain ⟨c0, c1, c2, c3⟩ := later_boxP HXc37.out
          obtain ⟨p0, p1, p2, p3⟩ := later_boxP HXp37.out
          obtain ⟨a0, a1, a2⟩ := later_box HXa37.out
          have hec := HEC.out
          cases e1
          all_goals
            refine wp_region_later (v35.alloc (boxP ((fc, xc, yc), bc))).heap.size (by kernel_rfl) (by kernel_rfl) ?_
            repeat (go_big_quiet_step (first | (go_at_call 12; exact Later.calls (Nat.le_refl _) (HRC.out _)) | (go_at_call 10; first | with_reducible exact Later.calls (Nat.le_refl _) (HHC.out _) | with_reducible exact Later.calls (Nat.le_refl _) (HHA.out _)) | (go_at_call 14; exact Later.calls (Nat.le_refl _) (HAW.out _ (HE.out.kept (below_step HW37.out (Later.prop _) HW37.out.size))))))
            refine wpQuiet_nil ?_
            rintro v42 ⟨zz, rfl⟩
            have hb := zz.prop
            have HZ0 := Lib.hid hb
            clear c0 c1 c2 c3 p0 p1 p2 p3 a0 a1 a2
            generalize zz.val = v42 at *
            have HXp43 := Lib.hid (blk_kept hb HXp37.out)
            have HXa43 := Lib.hid (blk_kept hb HXa37.out)
            have HXt43 := Lib.hid (blk_kept hb HXt37.out)
            have HXc43 := Lib.hid (blk_kept hb HXc37.out)
            have HW43 := Lib.hid (below_step HW37.out hb HW37.out.size)
            clear hb
            go_wp2_with fail
            go_ret
            exact ⟨rfl, HW43.out⟩
end Go.Proofs.Tryd.Cd
