/- The document's rows: what a prefix's key is of. -/
import Derived.Test.YtccopljpceolcaaDoorRoK
set_option linter.unusedVariables false
set_option linter.unusedSimpArgs false
set_option maxRecDepth 100000
namespace Go.Proofs.Tryd.Rows
open Go.RowKit Go.Cph Go.Cph.Ok Go.Proofs.Tryd.Nu Go.Proofs.Tryd.Ok
open Go.Cph.Px (Ad Pf rightA bytesA rightP fromB fromOk)
open Go.Proofs.Tryd.Pfx (encA bcell BsAt)
abbrev boxYR : Obj := .cells #[.int .u8 0, .int .u64 0, .int .u64 0, .int .i64 0] 29 (0, 0)
theorem zeroPR_of {w : World} {b : Nat} (h : w.heap[b]? = some boxYR) : ZeroP w b := ⟨by rw [blk_cell h]; rfl, by rw [blk_cell h]; rfl, by rw [blk_cell h]; rfl, by rw [blk_cell h]; rfl, by rw [blk_frozen h]; rfl, by rw [blk_frozen h]; rfl, by rw [blk_frozen h]; rfl, by rw [blk_frozen h]; rfl⟩
theorem blk_set4 {w : World} {b : Nat} {E : TypeId} {x0 x1 x2 x3 : Value} (h : w.heap[b]? = some (.cells #[x0, x1, x2, x3] E (0, 0))) (y0 y1 y2 y3 : Value) :
    ((((w.setCell ⟨b, 0, none⟩ y0).setCell ⟨b, 1, none⟩ y1).setCell ⟨b, 2, none⟩ y2).setCell ⟨b, 3, none⟩ y3).heap[b]? = some (.cells #[y0, y1, y2, y3] E (0, 0)) :=
  blk_set (blk_set (blk_set (blk_set h 0 y0) 1 y1) 2 y2) 3 y3
theorem below_row4 {B : Nat} {w W : World} {g : Nat} (h : Below B w W) (hg : B ≤ g) (x y z u : Value) : Below B w ((((W.setCell ⟨g, 0, none⟩ x).setCell ⟨g, 1, none⟩ y).setCell ⟨g, 2, none⟩ z).setCell ⟨g, 3, none⟩ u) :=
  (((h.setCell (p := ⟨g, 0, none⟩) hg x).setCell (p := ⟨g, 1, none⟩) hg y).setCell (p := ⟨g, 2, none⟩) hg z).setCell (p := ⟨g, 3, none⟩) hg u
set_option maxHeartbeats 8000000 in
theorem rprefixOf (kind : UInt64) (k : ByteArray) (w : World) (hs : k.size ≤ 1000000) : Calls Tryd.prog 31 #[.int .u64 (kind.toNat : Int), .string k] w fun e w' => e = .returned (encPo (prefixK kind k)) ∧ Below w.heap.size w w' := by
  have HB0 := Lib.hid (show Below w.heap.size w (w.alloc boxYR) from (Below.refl _ _).alloc (Nat.le_refl _) _)
  have HX := Lib.hid (heap_alloc_new w boxYR)
  have HP := Lib.hid (rparts_any k (w.alloc boxYR) hs)
  cases hp : Cph.Ok.parts k.data.toList with
  | none =>
    rw [hp] at HP
    have HQ := Lib.hid (show prefixK kind k = none from by unfold prefixK ofK; rw [hp]; rfl)
    clear hp
    go_enter Tryd.func31, Tryd.ntmps31
    go_wp2_with fail
    refine HP.out.mono ?_
    rintro e w1 ⟨rfl, hb⟩
    have HBA := Lib.hid (below_step HB0.out hb HB0.out.size)
    have HXA := Lib.hid (blk_kept hb HX.out)
    clear hb
    have Z0 := (zeroPR_of HXA.out).c0
    have G0 := (zeroPR_of HXA.out).f0
    have Z1 := (zeroPR_of HXA.out).c1
    have G1 := (zeroPR_of HXA.out).f1
    have Z2 := (zeroPR_of HXA.out).c2
    have G2 := (zeroPR_of HXA.out).f2
    have Z3 := (zeroPR_of HXA.out).c3
    have G3 := (zeroPR_of HXA.out).f3
    go_wp2_with fail
    exact bodyPost_ret (v := .tuple #[.agg #[.int .u8 0, .int .u64 0, .int .u64 0, .int .i64 0], .bool false]) (by simp (maxDischargeDepth := 8) [results, Tryd.results31, go_sem, Z0, Z1, Z2, Z3]) rfl ⟨by rw [HQ.out]; rfl, by first | exact HBA.out | exact below_set4 HBA.out _ _ _ _⟩
  | some l =>
    rw [hp] at HP
    by_cases hl : l.length = 4
    · obtain ⟨a, b, c, d, rfl⟩ := list_four hl
      have HSZ := Lib.hid (part_small hs hp)
      have h0 := parts_ne hp
      have HQ := Lib.hid (prefix_law (kind := kind) hp)
      obtain ⟨n, hn⟩ : ∃ n, n = d.n.toNat := ⟨_, rfl⟩
      have HN := Lib.hid hn
      rw [← hn] at HQ
      by_cases h128 : n ≤ 128
      · have k1 : ¬ (128 : Int) < (n : Int) := by omega
        have k2 : decide (128 < n) = false := decide_eq_false (by omega)
        have k3 : IntKind.i64.wrap (n : Int) = (n : Int) := by rw [IntKind.wrap_i64]; omega
        have HA := Lib.hid (fun (W : World) (v : Value) (base : Nat) (h : W.ownsRow base TR 3 v 4 ([a, b, c, d].flatMap encC)) => raddress v [a, b, c, d] base W h HSZ.out)
        obtain ⟨⟨af, ah, al⟩, hA⟩ : ∃ A, A = docA b c := ⟨_, rfl⟩
        have HA2 := Lib.hid (fun (W : World) (v : Value) (base : Nat) (h : W.ownsRow base TR 3 v 4 ([a, b, c, d].flatMap encC)) => show Calls Tryd.prog 76 #[v] W (fun e w' => e = .returned (.agg #[.int .u8 (af.toNat : Int), .int .u64 (ah.toNat : Int), .int .u64 (al.toNat : Int)]) ∧ Below W.heap.size W w') from by have h2 := HA.out W v base h; rw [show docAddr [a, b, c, d] = (af, ah, al) from hA.symm] at h2; exact h2)
        rw [← hA] at HQ
        obtain ⟨K, hK⟩ : ∃ K, K = keyP kind ((af, ah, al), (n : Int)) := ⟨_, rfl⟩
        have HKA := Lib.hid (fun (W : World) => show Calls Tryd.prog 12 #[.int .u64 (kind.toNat : Int), .agg #[.int .u8 (af.toNat : Int), .int .u64 (ah.toNat : Int), .int .u64 (al.toNat : Int), .int .i64 (n : Int)]] W (fun e w' => e = .returned (.string K) ∧ Below W.heap.size W w') from by rw [hK]; exact rprefix kind ((af, ah, al), (n : Int)) W)
        rw [← hK] at HQ
        have he := str_some k h0
        have H128 := Lib.hid h128
        clear hp hA HSZ hn hK HA hl h0 h128
        go_enter Tryd.func31, Tryd.ntmps31
        go_wp2_with fail
        refine HP.out.mono ?_
        rintro e w1 ⟨⟨v, rfl, ho⟩, hb⟩
        have HBA := Lib.hid (below_step HB0.out hb HB0.out.size)
        have HXA := Lib.hid (blk_kept hb HX.out)
        obtain ⟨g, cap, rfl, _, hg, _, hcs, _⟩ := owns_shape ho (by simp)
        have HO := Lib.hid (show w1.ownsRow _ TR 3 (.slice (some ⟨g, 0, none⟩) 4 cap) 4 ([a, b, c, d].flatMap encC) from ho)
        have HC := Lib.hid (show w1.cell? ⟨g, 11, none⟩ = some (.int .u64 (n : Int)) from by rw [hcs 11 (by simp), HN.out]; rfl)
        have c11 := HC.out
        rw [show ([a, b, c, d] : List Pt).length = 4 from rfl]
        clear hb ho hcs hg
        have HOK := Lib.hid (fun W (hb : Below w1.heap.size w1 W) => row_keptB HO.out hb)
        have HCK := Lib.hid (fun W (hb : Below w1.heap.size w1 W) => cell_kept hb HC.out)
        have HD := Lib.hid (show Below w1.heap.size w1 w1.drew from (Below.refl _ _).drew)
        go_wp2_with fail
        clear c11
        go_cut [8] (fun s8 W => ∃ g2, s8 = .pointer (some ⟨g2, 0, none⟩) ∧ W.heap[g2]? = some (.cells #[.int .u8 (af.toNat : Int), .int .u64 (ah.toNat : Int), .int .u64 (al.toNat : Int), .int .i64 (n : Int)] 29 (0, 0)) ∧ Below w1.heap.size w1 W)
        case first =>
          go_region_held_law (fun W => W.cell? ⟨g, 11, none⟩ = some (.int .u64 (n : Int)))
            (((refine HCK.out _ ?_); (first | exact HD.out | exact HD.out.drew | exact HD.out.alloc HD.out.size _ | exact below_row4 HD.out (Nat.le_refl _) _ _ _ _)))
            ((go_at_call 76; refine (HA2.out _ _ _ (HOK.out _ (by first | exact HD.out | exact HD.out.alloc HD.out.size _))).mono ?_; rintro r u ⟨rfl, hb⟩; (try (have HXY := Lib.hid (show u.heap[w1.heap.size]? = some boxYR from blk_kept hb (heap_alloc_new w1.drew boxYR)); have y0 := (zeroPR_of HXY.out).c0; have y1 := (zeroPR_of HXY.out).c1; have y2 := (zeroPR_of HXY.out).c2; have y3 := (zeroPR_of HXY.out).c3; have z0 := (zeroPR_of HXY.out).f0; have z1 := (zeroPR_of HXY.out).f1; have z2 := (zeroPR_of HXY.out).f2; have z3 := (zeroPR_of HXY.out).f3)); (have HD2 := Lib.hid (show Below w1.heap.size w1 u from by first | exact below_step HD.out hb HD.out.size | exact below_step (HD.out.alloc HD.out.size boxYR) hb (HD.out.alloc HD.out.size boxYR).size)); clear HD hb; have HD := HD2; clear HD2))
          all_goals
            go_wp2_with fail
            go_meet
            case rel => first | exact ⟨_, rfl, heap_alloc_new _ _, HD.out.alloc HD.out.size _⟩ | exact ⟨_, rfl, blk_set4 HXY.out _ _ _ _, below_row4 HD.out (Nat.le_refl _) _ _ _ _⟩
        case rest =>
          by_cases hq : K = k
          · have HQ2 := Lib.hid (show prefixK kind k = some ((af, ah, al), (n : Int)) from by rw [HQ.out, if_pos ⟨H128.out, hq⟩])
            have e1 := ba_eq hq
            clear hq HQ
            obtain ⟨g2, rfl, hx, hb⟩ := hcut
            replace HBA := Lib.hid (below_step HBA.out hb HBA.out.size)
            replace HXA := Lib.hid (blk_kept hb HXA.out)
            have HXB := Lib.hid hx
            have D0 := blk_cell HXB.out 0
            have D1 := blk_cell HXB.out 1
            have D2 := blk_cell HXB.out 2
            have D3 := blk_cell HXB.out 3
            simp only [List.getElem?_toArray, List.getElem?_cons_zero, List.getElem?_cons_succ] at D0 D1 D2 D3
            clear hb hx
            go_wp2_with fail
            refine (HKA.out _).mono ?_
            rintro e w3 ⟨rfl, hb⟩
            replace HBA := Lib.hid (below_step HBA.out hb HBA.out.size)
            replace HXA := Lib.hid (blk_kept hb HXA.out)
            replace HXB := Lib.hid (blk_kept hb HXB.out)
            clear hb D0 D1 D2 D3
            have D0 := blk_cell HXB.out 0
            have D1 := blk_cell HXB.out 1
            have D2 := blk_cell HXB.out 2
            have D3 := blk_cell HXB.out 3
            simp only [List.getElem?_toArray, List.getElem?_cons_zero, List.getElem?_cons_succ] at D0 D1 D2 D3
            have Z0 := (zeroPR_of HXA.out).c0
            have G0 := (zeroPR_of HXA.out).f0
            have Z1 := (zeroPR_of HXA.out).c1
            have G1 := (zeroPR_of HXA.out).f1
            have Z2 := (zeroPR_of HXA.out).c2
            have G2 := (zeroPR_of HXA.out).f2
            have Z3 := (zeroPR_of HXA.out).c3
            have G3 := (zeroPR_of HXA.out).f3
            go_wp2_with fail
            exact bodyPost_ret (v := .tuple #[.agg #[.int .u8 (af.toNat : Int), .int .u64 (ah.toNat : Int), .int .u64 (al.toNat : Int), .int .i64 (n : Int)], .bool true]) (by simp (maxDischargeDepth := 8) [results, Tryd.results31, go_sem, Z0, Z1, Z2, Z3]) rfl ⟨by rw [HQ2.out]; rfl, by first | exact HBA.out | exact below_set4 HBA.out _ _ _ _⟩
          · have HQ2 := Lib.hid (show prefixK kind k = none from by rw [HQ.out, if_neg (fun h => hq h.2)])
            have e1 := ba_ne hq
            clear hq HQ
            obtain ⟨g2, rfl, hx, hb⟩ := hcut
            replace HBA := Lib.hid (below_step HBA.out hb HBA.out.size)
            replace HXA := Lib.hid (blk_kept hb HXA.out)
            have HXB := Lib.hid hx
            have D0 := blk_cell HXB.out 0
            have D1 := blk_cell HXB.out 1
            have D2 := blk_cell HXB.out 2
            have D3 := blk_cell HXB.out 3
            simp only [List.getElem?_toArray, List.getElem?_cons_zero, List.getElem?_cons_succ] at D0 D1 D2 D3
            clear hb hx
            go_wp2_with fail
            refine (HKA.out _).mono ?_
            rintro e w3 ⟨rfl, hb⟩
            replace HBA := Lib.hid (below_step HBA.out hb HBA.out.size)
            replace HXA := Lib.hid (blk_kept hb HXA.out)
            replace HXB := Lib.hid (blk_kept hb HXB.out)
            clear hb D0 D1 D2 D3
            have D0 := blk_cell HXB.out 0
            have D1 := blk_cell HXB.out 1
            have D2 := blk_cell HXB.out 2
            have D3 := blk_cell HXB.out 3
            simp only [List.getElem?_toArray, List.getElem?_cons_zero, List.getElem?_cons_succ] at D0 D1 D2 D3
            have Z0 := (zeroPR_of HXA.out).c0
            have G0 := (zeroPR_of HXA.out).f0
            have Z1 := (zeroPR_of HXA.out).c1
            have G1 := (zeroPR_of HXA.out).f1
            have Z2 := (zeroPR_of HXA.out).c2
            have G2 := (zeroPR_of HXA.out).f2
            have Z3 := (zeroPR_of HXA.out).c3
            have G3 := (zeroPR_of HXA.out).f3
            go_wp2_with fail
            exact bodyPost_ret (v := .tuple #[.agg #[.int .u8 0, .int .u64 0, .int .u64 0, .int .i64 0], .bool false]) (by simp (maxDischargeDepth := 8) [results, Tryd.results31, go_sem, Z0, Z1, Z2, Z3]) rfl ⟨by rw [HQ2.out]; rfl, by first | exact HBA.out | exact below_set4 HBA.out _ _ _ _⟩
      · have HQ2 := Lib.hid (show prefixK kind k = none from by rw [HQ.out, if_neg (fun h => h128 h.1)])
        have k1 : (128 : Int) < (n : Int) := by omega
        have k2 : decide (128 < n) = true := decide_eq_true (by omega)
        clear hp HSZ hn hl h0 h128 HQ
        go_enter Tryd.func31, Tryd.ntmps31
        go_wp2_with fail
        refine HP.out.mono ?_
        rintro e w1 ⟨⟨v, rfl, ho⟩, hb⟩
        have HBA := Lib.hid (below_step HB0.out hb HB0.out.size)
        have HXA := Lib.hid (blk_kept hb HX.out)
        obtain ⟨g, cap, rfl, _, hg, _, hcs, _⟩ := owns_shape ho (by simp)
        have HO := Lib.hid (show w1.ownsRow _ TR 3 (.slice (some ⟨g, 0, none⟩) 4 cap) 4 ([a, b, c, d].flatMap encC) from ho)
        have HC := Lib.hid (show w1.cell? ⟨g, 11, none⟩ = some (.int .u64 (n : Int)) from by rw [hcs 11 (by simp), HN.out]; rfl)
        have c11 := HC.out
        rw [show ([a, b, c, d] : List Pt).length = 4 from rfl]
        clear hb ho hcs hg
        have Z0 := (zeroPR_of HXA.out).c0
        have G0 := (zeroPR_of HXA.out).f0
        have Z1 := (zeroPR_of HXA.out).c1
        have G1 := (zeroPR_of HXA.out).f1
        have Z2 := (zeroPR_of HXA.out).c2
        have G2 := (zeroPR_of HXA.out).f2
        have Z3 := (zeroPR_of HXA.out).c3
        have G3 := (zeroPR_of HXA.out).f3
        go_wp2_with fail
        exact bodyPost_ret (v := .tuple #[.agg #[.int .u8 0, .int .u64 0, .int .u64 0, .int .i64 0], .bool false]) (by simp (maxDischargeDepth := 8) [results, Tryd.results31, go_sem, Z0, Z1, Z2, Z3]) rfl ⟨by rw [HQ2.out]; rfl, by first | exact HBA.out | exact below_set4 HBA.out _ _ _ _⟩
    · have HQ := Lib.hid (prefix_len (kind := kind) hp hl)
      obtain ⟨n, hn⟩ : ∃ n, n = l.length := ⟨_, rfl⟩
      have HN := Lib.hid hn
      have k1 : ¬ (n : Int) = 4 := by omega
      have k2 : ((n : Int) == 4) = false := beq_eq_false_iff_ne.2 k1
      clear hp hl hn
      go_enter Tryd.func31, Tryd.ntmps31
      go_wp2_with fail
      refine HP.out.mono ?_
      rintro e w1 ⟨⟨v, rfl, ho⟩, hb⟩
      have HBA := Lib.hid (below_step HB0.out hb HB0.out.size)
      have HXA := Lib.hid (blk_kept hb HX.out)
      obtain ⟨ao, cap, rfl⟩ := owns_slice1 ho
      rw [← HN.out]
      clear hb ho
      have Z0 := (zeroPR_of HXA.out).c0
      have G0 := (zeroPR_of HXA.out).f0
      have Z1 := (zeroPR_of HXA.out).c1
      have G1 := (zeroPR_of HXA.out).f1
      have Z2 := (zeroPR_of HXA.out).c2
      have G2 := (zeroPR_of HXA.out).f2
      have Z3 := (zeroPR_of HXA.out).c3
      have G3 := (zeroPR_of HXA.out).f3
      go_wp2_with fail
      exact bodyPost_ret (v := .tuple #[.agg #[.int .u8 0, .int .u64 0, .int .u64 0, .int .i64 0], .bool false]) (by simp (maxDischargeDepth := 8) [results, Tryd.results31, go_sem, Z0, Z1, Z2, Z3]) rfl ⟨by rw [HQ.out]; rfl, by first | exact HBA.out | exact below_set4 HBA.out _ _ _ _⟩
end Go.Proofs.Tryd.Rows
