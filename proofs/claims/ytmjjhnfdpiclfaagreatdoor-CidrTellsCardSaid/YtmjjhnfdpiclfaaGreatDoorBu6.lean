/- The document reads a text. -/
import Derived.Test.YtmjjhnfdpiclfaaGreatDoorMX
import Derived.Test.YtmjjhnfdpiclfaaGreatDoorAz2
import Derived.Deep.RegionHeldLaw
import Derived.Deep.RegionHeld3
import Derived.Deep.DeepCutAuto
import Derived.Deep.CutBlock
set_option linter.unusedVariables false
set_option linter.unusedSimpArgs false
set_option maxRecDepth 100000
namespace Go.Proofs.Tryz.Tx
open Go.RowKit Go.Cph Go.Cph.Tx
open Go.Cph.Ok (ofBs)
open Go.Cph.Px (Ad rightA bytesA zeroA lessA fromB fromOk)
open Go.Proofs.Tryz.Pfx (encA BsAt encB encB_len)
open Go.Proofs.Tryz.Rows (boxZR)
set_option maxHeartbeats 32000000 in
theorem rparse_any (l : Bs) (hl : l.length ≤ 1000000) (w : World) : Calls Tryz.prog 38 #[.string (ofBs l)] w fun e w' => e = .returned (encE (docParse l)) ∧ Below w.heap.size w w' := by
  have HB0 := Lib.hid (show Below w.heap.size w (w.alloc boxZR) from (Below.refl _ _).alloc (Nat.le_refl _) _)
  have HZ0 := Lib.hid (heap_alloc_new w boxZR)
  have HW4 := Lib.hid (fun W => words_any2 l 46 10 255 (.inl rfl) (by omega) hl W)
  have HWW := Lib.hid (fun W => words_any2 l 58 16 65535 (.inr rfl) (by omega) hl W)
  have HCU := Lib.hid (fun W => cut_any l hl W)
  have hsz : (ofBs l).size = l.length := ofBs_size l
  obtain ⟨R4, hR4⟩ : ∃ R, R = wordsF 10 255 46 [] none l := ⟨_, rfl⟩
  have HR4 := Lib.hid hR4
  rw [← hR4] at HW4
  clear hR4
  go_enter Tryz.func38, Tryz.ntmps38
  go_wp2_with fail
  refine (HW4.out _).mono ?_
  rintro e w1 ⟨ao, n4, cap, ok4, rfl, hb, hp⟩
  have HB1 := Lib.hid (below_step HB0.out hb HB0.out.size)
  have HZ1 := Lib.hid (blk_kept hb HZ0.out)
  have HP := Lib.hid hp
  rw [HR4.out] at hp
  have HP1 := Lib.hid hp
  clear hb hp HW4
  go_upto_region 2 with (fail)
  go_cut [24] (fun s24 W => w1 = W ∧ s24 = .bool (ok4 && n4 == 4))
  case first =>
    rcases HP.out.out with ⟨rfl, h1, rfl, rfl, rfl⟩ | ⟨rfl, L, h1, rfl, ho⟩
    · clear h1
      go_wp2_with fail
      go_meet
      case rel => exact ⟨rfl, rfl⟩
    · clear h1 ho
      go_wp2_with fail
      go_meet
      case rel => exact ⟨rfl, by simp; rw [Bool.eq_iff_iff]; simp only [beq_iff_eq]; omega⟩
  case rest =>
    obtain ⟨rfl, rfl⟩ := hcut
    obtain ⟨c4, hc4⟩ : ∃ c, c = (ok4 && n4 == 4) := ⟨_, rfl⟩
    rw [← hc4]
    cases c4
    · have HD := Lib.hid (other_case HP1.out hc4)
      clear hc4 HP HP1 HR4
      obtain ⟨C, hC⟩ : ∃ C, C = cutAt l := ⟨_, rfl⟩
      rw [← hC] at HCU
      have HC := Lib.hid hC.symm
      clear hC
      obtain ⟨z, hz⟩ : ∃ z, z = optI C := ⟨_, rfl⟩
      rw [← hz] at HCU
      have HZ := Lib.hid hz
      clear hz
      go_wp2_with fail
      refine (HCU.out _).mono ?_
      rintro e w2 ⟨rfl, hw⟩
      obtain rfl : w1 = w2 := hw.symm
      clear hw
      go_upto_if 50 with (fail)
      go_cut [4, 5, 8, 9] (fun s4 s5 s8 s9 W => ∃ aL nL cL ok aM nM cM z', s4 = .slice aL nL cL ∧ s5 = .bool ok ∧ s8 = .slice aM nM cM ∧ s9 = .int .i64 z' ∧ Hid (GroupsIs l w1.heap.size W aL nL cL ok aM nM cM z') ∧ Below w1.heap.size w1 W)
      case first =>
        cases C with
        | none =>
          obtain rfl : z = -1 := HZ.out
          clear HZ
          go_wp2_with fail
          refine (HWW.out _).mono ?_
          rintro e w3 ⟨ao3, n3, cap3, ok3, rfl, hb3, hp3⟩
          have HB3 := Lib.hid hb3
          have HP3 := Lib.hid hp3
          clear hb3 hp3
          go_wp2_with fail
          go_meet
          case rel => exact ⟨_, _, _, _, _, _, _, _, rfl, rfl, rfl, rfl, Lib.hid (groups_none hl HC.out HP3.out), HB3.out⟩
        | some k =>
          obtain rfl : z = (k : Int) := HZ.out
          clear HZ HWW
          have HWL := Lib.hid (fun W => words_any2 (l.take k) 58 16 65535 (.inr rfl) (by omega) (by rw [List.length_take]; omega) W)
          have HWR := Lib.hid (fun W => words_any2 (l.drop (k + 2)) 58 16 65535 (.inr rfl) (by omega) (by rw [List.length_drop]; omega) W)
          rw [← ofBs_take] at HWL
          rw [← ofBs_drop] at HWR
          have hkl := cut_lt HC.out
          have hk0 : ¬ (k : Int) < 0 := by omega
          have k2 : IntKind.i64.wrap ((k : Int) + 2) = ((k + 2 : Nat) : Int) := by rw [IntKind.wrap_i64]; omega
          by_cases hkp : 0 < k
          · have hkpi : (0 : Int) < (k : Int) := by omega
            have HWL2 := Lib.hid (show (if 0 < k then docWords (l.take k) else some []) = docWords (l.take k) from if_pos hkp)
            have hki : (k : Int) ≤ (l.length : Int) := by omega
            go_wp2_with fail
            refine (HWL.out _).mono ?_
            rintro e w3 ⟨ao3, n3, cap3, ok3, rfl, hb3, hp3⟩
            have HB3 := Lib.hid hb3
            have HP3 := Lib.hid hp3
            clear hb3 hp3
            cases ok3
            · go_wp2_with fail
              go_meet
              case rel => exact ⟨_, _, _, _, _, _, _, _, rfl, rfl, rfl, rfl, Lib.hid (groups_stop HC.out (by rw [HWL2.out]; exact HP3.out)), HB3.out⟩
            · by_cases hk2 : k + 2 < l.length
              · have hk2i : ((k + 2 : Nat) : Int) < (l.length : Int) := by omega
                have HWR2 := Lib.hid (show (if k + 2 < l.length then docWords (l.drop (k + 2)) else some []) = docWords (l.drop (k + 2)) from if_pos hk2)
                go_wp2_with fail
                refine (HWR.out _).mono ?_
                rintro e w5 ⟨ao5, n5, cap5, ok5, rfl, hb5, hp5⟩
                have HB5 := Lib.hid hb5
                have HP5 := Lib.hid hp5
                clear hb5 hp5
                go_wp2_with fail
                go_meet
                case rel => exact ⟨_, _, _, _, _, _, _, _, rfl, rfl, rfl, rfl, Lib.hid (groups_cut hl HC.out (by rw [HWL2.out]; exact HP3.out) HB5.out HB3.out.size (by rw [HWR2.out]; exact HP5.out)), below_step HB3.out HB5.out HB3.out.size⟩
              · have hk2i : ¬ ((k + 2 : Nat) : Int) < (l.length : Int) := by omega
                have HWR2 := Lib.hid (show (if k + 2 < l.length then docWords (l.drop (k + 2)) else some []) = some [] from if_neg hk2)
                go_wp2_with fail
                go_meet
                case rel => exact ⟨_, _, _, _, _, _, _, _, rfl, rfl, rfl, rfl, Lib.hid (groups_cut hl HC.out (by rw [HWL2.out]; exact HP3.out) (Below.refl _ _) HB3.out.size (by rw [HWR2.out]; exact words_nil _ _)), HB3.out⟩
          · have hkpi : ¬ (0 : Int) < (k : Int) := by omega
            have HWL2 := Lib.hid (show (if 0 < k then docWords (l.take k) else some []) = some [] from if_neg hkp)
            by_cases hk2 : k + 2 < l.length
            · have hk2i : ((k + 2 : Nat) : Int) < (l.length : Int) := by omega
              have HWR2 := Lib.hid (show (if k + 2 < l.length then docWords (l.drop (k + 2)) else some []) = docWords (l.drop (k + 2)) from if_pos hk2)
              go_wp2_with fail
              refine (HWR.out _).mono ?_
              rintro e w5 ⟨ao5, n5, cap5, ok5, rfl, hb5, hp5⟩
              have HB5 := Lib.hid hb5
              have HP5 := Lib.hid hp5
              clear hb5 hp5
              go_wp2_with fail
              go_meet
              case rel => exact ⟨_, _, _, _, _, _, _, _, rfl, rfl, rfl, rfl, Lib.hid (groups_cut hl HC.out (by rw [HWL2.out]; exact words_nil _ _) HB5.out (Nat.le_refl _) (by rw [HWR2.out]; exact HP5.out)), HB5.out⟩
            · have hk2i : ¬ ((k + 2 : Nat) : Int) < (l.length : Int) := by omega
              have HWR2 := Lib.hid (show (if k + 2 < l.length then docWords (l.drop (k + 2)) else some []) = some [] from if_neg hk2)
              go_wp2_with fail
              go_meet
              case rel => exact ⟨_, _, _, _, _, _, _, _, rfl, rfl, rfl, rfl, Lib.hid (groups_cut hl HC.out (by rw [HWL2.out]; exact words_nil _ _) (Below.refl _ _) (Nat.le_refl _) (by rw [HWR2.out]; exact words_nil _ _)), Below.refl _ _⟩
      case rest =>
        clear HWW HCU HZ
        obtain ⟨w3, hw3⟩ : ∃ w3, w3 = wc := ⟨_, rfl⟩
        subst hw3
        obtain ⟨aL, nL, cL, ok, aM, nM, cM, z', rfl, rfl, rfl, rfl, HG, hbW⟩ := hcut
        have HBC := Lib.hid hbW
        have HBW := Lib.hid (below_step HB1.out hbW HB1.out.size)
        have HZ3 := Lib.hid (blk_kept hbW HZ1.out)
        clear hbW
        obtain ⟨hs1, hs2⟩ := HG.out.small
        have k1 : IntKind.i64.wrap ((nL : Int) + (nM : Int)) = ((nL + nM : Nat) : Int) := by rw [IntKind.wrap_i64]; omega
        rcases HG.out.out with ⟨hgn, hbad⟩ | ⟨rfl, h8, hz, L, M, hnL, hnM, hgs, hoL, hoM, hq⟩
        · have HV := Lib.hid (show docParse l = none from by rw [HD.out]; unfold doc6; rw [hgn]; rfl)
          have c0 : w3.cell? ⟨w.heap.size, 0, none⟩ = some (.int .u8 0) := by rw [blk_cell HZ3.out]; rfl
          have c1 : w3.cell? ⟨w.heap.size, 1, none⟩ = some (.int .u64 0) := by rw [blk_cell HZ3.out]; rfl
          have c2 : w3.cell? ⟨w.heap.size, 2, none⟩ = some (.int .u64 0) := by rw [blk_cell HZ3.out]; rfl
          have f0 : w3.frozen? ⟨w.heap.size, 0, none⟩ = false := by rw [blk_frozen HZ3.out]; rfl
          have f1 : w3.frozen? ⟨w.heap.size, 1, none⟩ = false := by rw [blk_frozen HZ3.out]; rfl
          have f2 : w3.frozen? ⟨w.heap.size, 2, none⟩ = false := by rw [blk_frozen HZ3.out]; rfl
          clear hgn
          rcases hbad with rfl | ⟨rfl, h8⟩ | ⟨rfl, h8, hz, h9⟩
          · go_wp2_with fail
            exact bodyPost_ret (v := .tuple #[.agg #[.int .u8 0, .int .u64 0, .int .u64 0], .int .i64 8]) (by simp [results, Tryz.results38, go_sem, c0, c1, c2]) rfl ⟨by rw [HV.out]; rfl, by first | exact HBW.out | exact Rows.below_set3 HBW.out _ _ _⟩
          · have h8i : ((nL + nM : Nat) : Int) > 8 := by omega
            go_wp2_with fail
            exact bodyPost_ret (v := .tuple #[.agg #[.int .u8 0, .int .u64 0, .int .u64 0], .int .i64 8]) (by simp [results, Tryz.results38, go_sem, c0, c1, c2]) rfl ⟨by rw [HV.out]; rfl, by first | exact HBW.out | exact Rows.below_set3 HBW.out _ _ _⟩
          · have h8i : ¬ ((nL + nM : Nat) : Int) > 8 := by omega
            have h9i : ((nL : Int) != 8) = true := by simp; omega
            go_wp2_with fail
            exact bodyPost_ret (v := .tuple #[.agg #[.int .u8 0, .int .u64 0, .int .u64 0], .int .i64 8]) (by simp [results, Tryz.results38, go_sem, c0, c1, c2]) rfl ⟨by rw [HV.out]; rfl, by first | exact HBW.out | exact Rows.below_set3 HBW.out _ _ _⟩
        · have HGS := Lib.hid hgs
          have HOL := Lib.hid hoL
          have HOM := Lib.hid hoM
          have HNQ := Lib.hid hq
          have HNL := Lib.hid hnL
          have HNM := Lib.hid hnM
          have HZF := Lib.hid hz
          have h8i : ¬ ((nL + nM : Nat) : Int) > 8 := by omega
          clear hgs hoL hoM hq hnL hnM hz
          go_upto_region 14 with (fail)
          go_cut [99] (fun s99 W => w3 = W ∧ s99 = .bool false)
          case first =>
            rcases HZF.out with hz | ⟨hz, h9⟩
            · go_wp2_with fail
              go_meet
              case rel => exact ⟨rfl, by rw [decide_eq_false (by omega)]⟩
            · have h9i : ((nL : Int) != 8) = false := by rw [h9]; rfl
              clear h9
              go_wp2_with fail
              go_meet
              case rel => exact ⟨rfl, by rw [decide_eq_false (by omega)]⟩
          case rest =>
            obtain ⟨rfl, rfl⟩ := hcut
            clear h8i k1 HZF hs1 hs2 HG
            go_wp2_with fail
            go_loopw [4] (fun v4 W => ∃ r, nL + r + nM ≤ 8 ∧ lenOf v4 = nL + r ∧ W.ownsRow w1.heap.size 3 1 v4 (nL + r) (intV (L ++ List.replicate r 0)) ∧ W.ownsRow w1.heap.size 3 1 (.slice aM nM cM) nM (intV M) ∧ (∀ q, v4.ownBlock = some q → (Value.slice aM nM cM).ownBlock ≠ some q) ∧ Below w1.heap.size w1 W) (fun v4 _ => 8 - lenOf v4)
            case atStart => exact ⟨0, by omega, rfl, by simpa using HOL.out, HOM.out, HNQ.out, HBC.out⟩
            case round =>
              obtain ⟨r, hr, hlen, ho7, ho8, hnq, hb⟩ := hrel
              obtain ⟨A7, C7, hv⟩ := owns_slice1 ho7
              subst hv
              have HO7 := Lib.hid ho7
              have HP8 := Lib.hid ho8
              have HNr := Lib.hid hnq
              have HBr := Lib.hid hb
              have hz := hb.size
              clear ho7 ho8 hnq hb hlen
              obtain ⟨x, hx⟩ : ∃ x, x = nL + r := ⟨_, rfl⟩
              have HXX := Lib.hid hx
              rw [← hx] at HO7 HNr
              have k1 : IntKind.i64.wrap ((x : Int) + (nM : Int)) = ((x + nM : Nat) : Int) := by rw [IntKind.wrap_i64]; omega
              have hrx : x + nM ≤ 8 := by omega
              rw [← hx]
              clear hx hr
              by_cases hx8 : x + nM < 8
              · have hx8i : (x : Int) + (nM : Int) < 8 := by omega
                go_wp2_with (at_builtin; refine wpList_append_seg rfl (.tmp 107) (.tmp 108) 92 rfl w1.heap.size 3 _ 1 8 Tryz.underlying92 infoI rfl (by decide) _ x _ rfl (HO7.out.alloc _) _ 1 [.int .i64 0] rfl (zero_seg wr) (by simp [Value.oneCell']) (by omega) (by decide) (by rw [World.size_alloc]; omega) ?_; intro v9 w9 ho9 hg9 hb9; obtain ⟨o9, c9, hv9⟩ := owns_slice1 ho9; subst hv9; have HO9 := Lib.hid ho9; have HG9 := Lib.hid hg9; have HB9 := Lib.hid hb9; clear ho9 hg9 hb9)
                go_roundw
                case rel =>
                  have hal : Below w1.heap.size w1 (wr.alloc (.cells #[.int .i64 0] 3)) := HBr.out.alloc hz _
                  have hsz9 : (wr.alloc (.cells #[.int .i64 0] 3)).heap.size = wr.heap.size + 1 := World.size_alloc ..
                  refine ⟨r + 1, by have := HXX.out; omega, by show x + 1 = nL + (r + 1); have := HXX.out; omega, ?_, ?_, ?_, below_grown hal HG9.out (HO7.out.alloc _) (Nat.le_refl _) (by rw [World.size_alloc]; omega)⟩
                  · rw [intV_snoc, show nL + (r + 1) = x + 1 by have := HXX.out; omega]; exact HO9.out
                  · refine row_kept1 (HP8.out.alloc _) fun q hq => HG9.out.block q (by rw [World.size_alloc]; have := (HP8.out.lt q hq).2; omega) fun e => HNr.out q e.symm hq
                  · intro q hq hq8
                    rcases HB9.out with h | h
                    · rw [h] at hq; exact HNr.out q hq hq8
                    · rw [h] at hq
                      have := (HP8.out.lt q hq8).2
                      have e := Option.some.inj hq
                      rw [World.size_alloc] at e; omega
                case measure =>
                  show 8 - (x + 1) < 8 - x
                  omega
              · have hx8i : ¬ (x : Int) + (nM : Int) < 8 := by omega
                obtain ⟨G, hG⟩ : ∃ G, G = L ++ List.replicate r 0 ++ M := ⟨_, rfl⟩
                have hgl : G.length = 8 := by rw [hG, List.length_append, List.length_append, List.length_replicate, ← HNL.out, ← HNM.out]; have := HXX.out; omega
                have HSW := Lib.hid (show intV (L ++ List.replicate r 0) ++ intV M = intV G ∧ x + nM = G.length from ⟨by rw [hG]; simp [intV], by omega⟩)
                have HGL := Lib.hid hgl
                have HGG := Lib.hid (show docGroups l = some G from by rw [HGS.out, hG, show 8 - (nL + nM) = r by have := HXX.out; omega])
                clear hG hgl
                go_wp2_with (at_builtin; refine wpList_append_seg rfl (.tmp 110) (.tmp 111) 92 rfl w1.heap.size 3 _ 1 8 Tryz.underlying92 infoI rfl (by decide) _ x _ rfl HO7.out _ nM _ rfl (Seg.of_owns HP8.out) (intV_one M) (by omega) (by decide) hz ?_; intro v9 w9 ho9 hg9 hb9; rw [HSW.out.1, HSW.out.2] at ho9; obtain ⟨g9, c9, hv9, hgb, hgl, -, hcl, -⟩ := owns_shape ho9 (by rw [HGL.out]; omega); subst hv9; rw [HGL.out]; have HCL := Lib.hid hcl; have HB9 := Lib.hid (below_grown HBr.out hg9 HO7.out (Nat.le_refl _) hz); clear ho9 hg9 hb9 hgb hgl hcl)
                clear HXX HO7 HP8 HNr HGS HOL HOM HNQ HNL HNM HBr hrx hx8 hx8i k1 hz
                go_loopw [10, 11] (fun v10 v11 W => ∃ i : Nat, i ≤ 8 ∧ v11 = .int .i64 (i : Int) ∧ W.ownsRow w9.heap.size TB 1 v10 (2 * i) ((bytesG (G.take i)).flatMap encB) ∧ Below w9.heap.size w9 W) (fun _ v11 _ => (8 - intOf v11).toNat)
                case atStart => exact ⟨0, Nat.zero_le _, rfl, World.ownsRow_nil _ _ _ _, Below.refl _ _⟩
                case round =>
                  obtain ⟨i, hi, rfl, ho, hb⟩ := hrel
                  obtain ⟨o10, c10, hv⟩ := owns_slice1 ho
                  subst hv
                  have HO := Lib.hid ho
                  have HBi := Lib.hid hb
                  clear ho hb
                  by_cases hi8 : i < 8
                  · have hii : (i : Int) < 8 := by omega
                    have k1 : IntKind.i64.wrap ((i : Int) + 1) = ((i + 1 : Nat) : Int) := by rw [IntKind.wrap_i64]; omega
                    have hil : i < G.length := by rw [HGL.out]; exact hi8
                    obtain ⟨q, hq⟩ : ∃ q, q = G[i] := ⟨_, rfl⟩
                    have hq1 : q ≤ 65535 := by rw [hq]; exact (docGroups_right HGG.out).2 _ (List.getElem_mem _)
                    have HTK := Lib.hid (show bytesG (G.take (i + 1)) = bytesG (G.take i) ++ [UInt8.ofNat (q / 256), UInt8.ofNat (q % 256)] from by rw [hq]; exact bytesG_take G i hil)
                    have hcell : w9.cell? ⟨g9, i, none⟩ = some (.int .i64 (q : Int)) := by rw [HCL.out i (by omega)]; unfold intV; rw [List.getElem?_map, List.getElem?_eq_getElem hil, hq]; rfl
                    have HKP := Lib.hid (show ∀ W, Below w9.heap.size w9 W → W.cell? ⟨g9, i, none⟩ = some (.int .i64 (q : Int)) from fun W h => cell_kept h hcell)
                    obtain ⟨c, hc⟩ : ∃ c, c = UInt8.ofNat (q / 256) := ⟨_, rfl⟩
                    obtain ⟨d, hd⟩ : ∃ d, d = UInt8.ofNat (q % 256) := ⟨_, rfl⟩
                    rw [← hc, ← hd] at HTK
                    obtain ⟨q1, hqq1⟩ : ∃ z, z = q / 256 := ⟨_, rfl⟩
                    obtain ⟨q2, hqq2⟩ : ∃ z, z = q % 256 := ⟨_, rfl⟩
                    have b1 : IntKind.u8.wrap ((q : Int) / 256) = (c.toNat : Int) := by rw [hc, IntKind.wrap_u8, UInt8.toNat_ofNat']; omega
                    have b2 : IntKind.u8.wrap ((q : Int).tmod 256) = (d.toNat : Int) := by rw [hd, IntKind.wrap_u8, UInt8.toNat_ofNat', Int.tmod_eq_emod_of_nonneg (by omega)]; omega
                    have b0 : IntKind.i64.wrap ((q : Int) / 256) = (q : Int) / 256 := by rw [IntKind.wrap_i64]; omega
                    have hq0 : (0 : Int) ≤ (q : Int) := by omega
                    have hq65 : (q : Int) ≤ 65535 := by omega
                    have HI := Lib.hid hi8
                    clear hc hd hq hil hcell hqq1 hqq2
                    go_wp2_with fail
                    go_region_held_law (fun W => W.cell? ⟨g9, i, none⟩ = some (.int .i64 (q : Int))) ((refine HKP.out _ ?_; (repeat (first | exact HB6.out | exact HBi.out | refine bl_drew ?_ | refine bl_alloc ?_ _)); done))
                      ((refine step_push2 (c := c) (d := d) (base := w9.heap.size) (w0 := w9) rfl (.tmp 117) (.tmp 130) rfl (by rfl) (by rfl) (heap_alloc_new wr _) (HO.out.alloc _) (HBi.out.alloc HBi.out.size _).drew (HBi.out.alloc HBi.out.size (.cells #[.int .u8 (c.toNat : Int), .int .u8 (d.toNat : Int)] TB)).drew.size (by have := HI.out; omega) ?_; intro v6 w6 ho6 hb6 hz6; have HO6 := Lib.hid ho6; have HB6 := Lib.hid hb6; clear ho6 hb6 hz6))
                    go_wp2_with fail
                    go_roundw
                    case rel => exact ⟨i + 1, by have := HI.out; omega, rfl, by rw [HTK.out, List.flatMap_append, show 2 * (i + 1) = 2 * i + 2 by omega]; exact HO6.out, HB6.out⟩
                    case measure => simp [intOf]; have := HI.out; omega
                  · have hii : ¬ (i : Int) < 8 := by omega
                    have HI := Lib.hid (show i = 8 by omega)
                    have HBS := Lib.hid (show BsAt wr (.slice o10 (2 * i) c10) (bytesG G) from by
                      have h := Seg.of_owns HO.out
                      have hle : G.length ≤ i := by rw [HGL.out, HI.out]; exact Nat.le_refl _
                      rw [List.take_of_length_le hle] at h
                      have e : 2 * i = (bytesG G).length := by rw [bytesG_len, HGL.out, HI.out]
                      show Seg wr 1 _ (bytesG G).length _
                      rw [← e]; exact h)
                    have HFB := Lib.hid (rfrom_any 6 (.slice o10 (2 * i) c10) (bytesG G) wr HBS.out)
                    obtain ⟨A, hA⟩ : ∃ A, A = fromB 6 (bytesG G) := ⟨_, rfl⟩
                    rw [← hA] at HFB
                    have HDV := Lib.hid (show docParse l = if textA A = l then some A else none from by rw [HD.out]; unfold doc6; rw [HGG.out, hA]; rfl)
                    obtain ⟨fb, hfb⟩ : ∃ fb, fb = fromOk 6 (bytesG G).length := ⟨_, rfl⟩
                    rw [← hfb] at HFB
                    obtain ⟨fa, xa, ya⟩ := A
                    have HTX := Lib.hid (fun W => rtext_any (fa, xa, ya) W)
                    have HSE := Lib.hid (str_eq (textA (fa, xa, ya)) l)
                    obtain ⟨eq, heq⟩ : ∃ eq, eq = decide (textA (fa, xa, ya) = l) := ⟨_, rfl⟩
                    have HEQ := Lib.hid heq
                    rw [← heq] at HSE
                    obtain ⟨tx, htx⟩ : ∃ tx, tx = ofBs (textA (fa, xa, ya)) := ⟨_, rfl⟩
                    obtain ⟨sb, hsb⟩ : ∃ sb, sb = ofBs l := ⟨_, rfl⟩
                    rw [← hsb] at hsz HSE ⊢
                    rw [show (∀ W, Calls Tryz.prog 52 #[encA (fa, xa, ya)] W (TextPost (textA (fa, xa, ya)) W)) = (∀ W, Calls Tryz.prog 52 #[encA (fa, xa, ya)] W (fun e w' => e = .returned (.string tx) ∧ Below W.heap.size W w')) from by rw [htx]] at HTX
                    rw [← htx] at HSE
                    have HBZ := Lib.hid (below_step (below_step HB1.out HB9.out HB1.out.size) HBi.out (below_step HB1.out HB9.out HB1.out.size).size)
                    have HZr := Lib.hid (blk_kept HBi.out (blk_kept HB9.out HZ1.out))
                    clear hA hfb heq htx hsb hi hi8 HO HBS HI HGL HGG HCL HSW
                    go_wp2_with fail
                    refine HFB.out.mono ?_
                    rintro e w6 ⟨rfl, hb6⟩
                    have HB6 := Lib.hid (below_step HBZ.out hb6 HBZ.out.size)
                    have HZ6 := Lib.hid (blk_kept hb6 HZr.out)
                    clear hb6
                    go_wp2_with fail
                    have HX6 := Lib.hid (heap_alloc_new w6 (boxR (fa, xa, ya)))
                    have HZ6' := Lib.hid (blk_alloc HZ6.out (boxR (fa, xa, ya)))
                    have HB6' := Lib.hid (HB6.out.alloc HB6.out.size (boxR (fa, xa, ya)))
                    refine (HTX.out _).mono ?_
                    rintro e w7 ⟨rfl, hb7⟩
                    have HB7 := Lib.hid (below_step HB6'.out hb7 HB6'.out.size)
                    have HX7 := Lib.hid (blk_kept hb7 HX6.out)
                    have HZ7 := Lib.hid (blk_kept hb7 HZ6'.out)
                    clear hb7
                    have d0 : w7.cell? ⟨w6.heap.size, 0, none⟩ = some (.int .u8 (fa.toNat : Int)) := by rw [blk_cell HX7.out]; rfl
                    have d1 : w7.cell? ⟨w6.heap.size, 1, none⟩ = some (.int .u64 (xa.toNat : Int)) := by rw [blk_cell HX7.out]; rfl
                    have d2 : w7.cell? ⟨w6.heap.size, 2, none⟩ = some (.int .u64 (ya.toNat : Int)) := by rw [blk_cell HX7.out]; rfl
                    have c0 : w7.cell? ⟨w.heap.size, 0, none⟩ = some (.int .u8 0) := by rw [blk_cell HZ7.out]; rfl
                    have c1 : w7.cell? ⟨w.heap.size, 1, none⟩ = some (.int .u64 0) := by rw [blk_cell HZ7.out]; rfl
                    have c2 : w7.cell? ⟨w.heap.size, 2, none⟩ = some (.int .u64 0) := by rw [blk_cell HZ7.out]; rfl
                    have f0 : w7.frozen? ⟨w.heap.size, 0, none⟩ = false := by rw [blk_frozen HZ7.out]; rfl
                    have f1 : w7.frozen? ⟨w.heap.size, 1, none⟩ = false := by rw [blk_frozen HZ7.out]; rfl
                    have f2 : w7.frozen? ⟨w.heap.size, 2, none⟩ = false := by rw [blk_frozen HZ7.out]; rfl
                    have hse := HSE.out
                    cases eq
                    · have HN := Lib.hid (show docParse l = none from by rw [HDV.out, if_neg (of_decide_eq_false HEQ.out.symm)])
                      have hse2 : (tx.toList != sb.toList) = true := by rw [bne, hse]; rfl
                      go_wp2_with fail
                      exact bodyPost_ret (v := .tuple #[.agg #[.int .u8 0, .int .u64 0, .int .u64 0], .int .i64 8]) (by simp [results, Tryz.results38, go_sem, c0, c1, c2]) rfl ⟨by rw [HN.out]; rfl, by first | exact HB7.out | exact Rows.below_set3 HB7.out _ _ _⟩
                    · have HN := Lib.hid (show docParse l = some (fa, xa, ya) from by rw [HDV.out, if_pos (of_decide_eq_true HEQ.out.symm)])
                      have hse2 : (tx.toList != sb.toList) = false := by rw [bne, hse]; rfl
                      go_wp2_with fail
                      exact bodyPost_ret (v := .tuple #[.agg #[.int .u8 (fa.toNat : Int), .int .u64 (xa.toNat : Int), .int .u64 (ya.toNat : Int)], .int .i64 0]) (by simp [results, Tryz.results38, go_sem, c0, c1, c2]) rfl ⟨by rw [HN.out]; rfl, Rows.below_set3 HB7.out _ _ _⟩
    · obtain ⟨α, β, γ, δ, g, rfl, rfl, c0, c1, c2, c3, hv⟩ := four_case HP1.out hc4
      have HV := Lib.hid hv
      have a0 : IntKind.u8.wrap (α.toNat : Int) = (α.toNat : Int) := by rw [IntKind.wrap_u8]; have := α.toNat_lt; omega
      have a1 : IntKind.u8.wrap (β.toNat : Int) = (β.toNat : Int) := by rw [IntKind.wrap_u8]; have := β.toNat_lt; omega
      have a2 : IntKind.u8.wrap (γ.toNat : Int) = (γ.toNat : Int) := by rw [IntKind.wrap_u8]; have := γ.toNat_lt; omega
      have a3 : IntKind.u8.wrap (δ.toNat : Int) = (δ.toNat : Int) := by rw [IntKind.wrap_u8]; have := δ.toNat_lt; omega
      have HFB := Lib.hid (fun v W h => rfrom_any 4 v [α, β, γ, δ] W h)
      obtain ⟨A, hA⟩ : ∃ A, A = fromB 4 [α, β, γ, δ] := ⟨_, rfl⟩
      rw [← hA] at HFB HV
      obtain ⟨fa, xa, ya⟩ := A
      have HCK := Lib.hid (show ∀ W, Below w1.heap.size w1 W → W.cell? ⟨g, 0, none⟩ = some (.int .i64 (α.toNat : Int)) ∧ W.cell? ⟨g, 1, none⟩ = some (.int .i64 (β.toNat : Int)) ∧ W.cell? ⟨g, 2, none⟩ = some (.int .i64 (γ.toNat : Int)) ∧ W.cell? ⟨g, 3, none⟩ = some (.int .i64 (δ.toNat : Int)) from fun W h => ⟨cell_kept h c0, cell_kept h c1, cell_kept h c2, cell_kept h c3⟩)
      have HS0 := Lib.hid (show Below w1.heap.size w1 w1 from Below.refl _ _)
      clear hc4 HP HP1 HR4 HCU HWW hv hA
      go_upto_region 3 with (fail)
      go_cut [6] (fun s6 W => ∃ g6, s6 = .pointer (some ⟨g6, 0, none⟩) ∧ W.heap[g6]? = some (boxR (fa, xa, ya)) ∧ Below w1.heap.size w1 W)
      case first =>
        go_region_held3 (fun W => W.cell? ⟨g, 0, none⟩ = some (.int .i64 (α.toNat : Int)) ∧ W.cell? ⟨g, 1, none⟩ = some (.int .i64 (β.toNat : Int)) ∧ W.cell? ⟨g, 2, none⟩ = some (.int .i64 (γ.toNat : Int)) ∧ W.cell? ⟨g, 3, none⟩ = some (.int .i64 (δ.toNat : Int))) ((refine HCK.out _ ?_; (repeat (first | exact B2.out | exact HS0.out | refine bl_drew ?_ | refine bl_alloc ?_ _ | refine bl_set ?_ (by first | exact Nat.le_refl _ | exact B2.out.size | (simp only [World.size_alloc]; omega)) _)); done))
          ((go_at_call 62; refine (HFB.out _ _ (bs_four_at (by first | exact heap_alloc_new _ _ | exact blk_alloc (heap_alloc_new _ _) _ | exact hp_new1 _ _ _))).mono ?_; rintro e u2 ⟨rfl, hb⟩; (have B2 := Lib.hid (show Below w1.heap.size w1 u2 from by first | exact below_step (bl_drew (bl_alloc HS0.out _)) hb (bl_drew (bl_alloc HS0.out _)).size | exact below_step (bl_drew (bl_alloc (bl_alloc HS0.out _) _)) hb (bl_drew (bl_alloc (bl_alloc HS0.out _) _)).size)); (try (have K2 := Lib.hid (show u2.heap[w1.heap.size]? = some boxZR from blk_kept hb (blk_alloc (heap_alloc_new _ _) _)))); (try (have K3 := Lib.hid (show u2.heap[w1.heap.size + 1]? = some boxZR from blk_kept hb (hp_new1 _ _ _)))); clear hb; (try (have k2c0 : u2.cell? ⟨w1.heap.size, 0, none⟩ = some (.int .u8 0) := (by rw [blk_cell K2.out]; rfl); have k2c1 : u2.cell? ⟨w1.heap.size, 1, none⟩ = some (.int .u64 0) := (by rw [blk_cell K2.out]; rfl); have k2c2 : u2.cell? ⟨w1.heap.size, 2, none⟩ = some (.int .u64 0) := (by rw [blk_cell K2.out]; rfl); have k2f : ∀ j, u2.frozen? ⟨w1.heap.size, j, none⟩ = false := (fun j => by rw [blk_frozen K2.out]; simp))); (try (have k3c0 : u2.cell? ⟨w1.heap.size + 1, 0, none⟩ = some (.int .u8 0) := (by rw [blk_cell K3.out]; rfl); have k3c1 : u2.cell? ⟨w1.heap.size + 1, 1, none⟩ = some (.int .u64 0) := (by rw [blk_cell K3.out]; rfl); have k3c2 : u2.cell? ⟨w1.heap.size + 1, 2, none⟩ = some (.int .u64 0) := (by rw [blk_cell K3.out]; rfl); have k3f : ∀ j, u2.frozen? ⟨w1.heap.size + 1, j, none⟩ = false := (fun j => by rw [blk_frozen K3.out]; simp)))))
        all_goals go_wp2_with fail
        all_goals go_meet
        all_goals case rel =>
          refine ⟨_, rfl, ?_, ?_⟩
          · first
              | exact heap_alloc_new u2 _
              | (rw [blk_set (blk_set (blk_set K3.out 0 _) 1 _) 2 _]; rfl)
              | (rw [blk_set (blk_set (blk_set K2.out 0 _) 1 _) 2 _]; rfl)
          · first
              | exact bl_alloc B2.out _
              | exact bl_set (bl_set (bl_set B2.out (Nat.le_refl _) _) (Nat.le_refl _) _) (Nat.le_refl _) _
              | exact bl_set (bl_set (bl_set B2.out (Nat.le_succ _) _) (Nat.le_succ _) _) (Nat.le_succ _) _
      case rest =>
        obtain ⟨w3, hw3⟩ : ∃ w3, w3 = wc := ⟨_, rfl⟩
        subst hw3
        obtain ⟨g6, rfl, hx6, hb6⟩ := hcut
        have HB6 := Lib.hid (below_step HB1.out hb6 HB1.out.size)
        have HX6 := Lib.hid hx6
        have HZ6 := Lib.hid (blk_kept hb6 HZ1.out)
        clear hb6 hx6 c0 c1 c2 c3
        have d0 : w3.cell? ⟨g6, 0, none⟩ = some (.int .u8 (fa.toNat : Int)) := by rw [blk_cell HX6.out]; rfl
        have d1 : w3.cell? ⟨g6, 1, none⟩ = some (.int .u64 (xa.toNat : Int)) := by rw [blk_cell HX6.out]; rfl
        have d2 : w3.cell? ⟨g6, 2, none⟩ = some (.int .u64 (ya.toNat : Int)) := by rw [blk_cell HX6.out]; rfl
        have c0 : w3.cell? ⟨w.heap.size, 0, none⟩ = some (.int .u8 0) := by rw [blk_cell HZ6.out]; rfl
        have c1 : w3.cell? ⟨w.heap.size, 1, none⟩ = some (.int .u64 0) := by rw [blk_cell HZ6.out]; rfl
        have c2 : w3.cell? ⟨w.heap.size, 2, none⟩ = some (.int .u64 0) := by rw [blk_cell HZ6.out]; rfl
        have f0 : w3.frozen? ⟨w.heap.size, 0, none⟩ = false := by rw [blk_frozen HZ6.out]; rfl
        have f1 : w3.frozen? ⟨w.heap.size, 1, none⟩ = false := by rw [blk_frozen HZ6.out]; rfl
        have f2 : w3.frozen? ⟨w.heap.size, 2, none⟩ = false := by rw [blk_frozen HZ6.out]; rfl
        go_wp2_with fail
        exact bodyPost_ret (v := .tuple #[.agg #[.int .u8 (fa.toNat : Int), .int .u64 (xa.toNat : Int), .int .u64 (ya.toNat : Int)], .int .i64 0]) (by simp [results, Tryz.results38, go_sem, c0, c1, c2]) rfl ⟨by rw [HV.out]; rfl, Rows.below_set3 HB6.out _ _ _⟩
end Go.Proofs.Tryz.Tx
