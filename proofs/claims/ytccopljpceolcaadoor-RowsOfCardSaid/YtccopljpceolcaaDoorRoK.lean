/- The document's rows: what a key is of. -/
import Derived.Test.YtccopljpceolcaaDoorRoI
import Derived.Test.YtccopljpceolcaaDoorRoJ
set_option linter.unusedVariables false
set_option linter.unusedSimpArgs false
set_option maxRecDepth 100000
namespace Go.Proofs.Tryd.Rows
open Go.RowKit Go.Cph Go.Cph.Ok Go.Proofs.Tryd.Nu Go.Proofs.Tryd.Ok
open Go.Cph.Px (Ad Pf rightA bytesA rightP fromB fromOk)
open Go.Proofs.Tryd.Pfx (encA bcell BsAt)
theorem ba_ne {a b : ByteArray} (h : ¬ a = b) : (a.toList == b.toList) = false := by
  refine beq_eq_false_iff_ne.2 fun e => h (list_eq ?_)
  rw [← ByteArray.toList_eq, ← ByteArray.toList_eq, e]
theorem ba_eq {a b : ByteArray} (h : a = b) : (a.toList == b.toList) = true := by rw [h]; simp
set_option maxHeartbeats 1600000 in
theorem rclientOf (k : ByteArray) (w : World) : Calls Tryd.prog 39 #[.string k] w fun e w' => e = .returned (encCo (clientO k)) ∧ Below w.heap.size w w' := by
  go_enter Tryd.func39, Tryd.ntmps39
  go_wp2_with fail
  go_loopw [4] (fun v4 W => ∃ i : Nat, i ≤ 256 ∧ v4 = .int .i64 i ∧ (∀ c : UInt8, c.toNat < i → clientK c ≠ k) ∧ Below w.heap.size w W) (fun v4 _ => 256 - (intOf v4).toNat)
  case atStart => exact ⟨0, by decide, rfl, fun c hc => absurd hc (by omega), Below.refl _ _⟩
  case round =>
    obtain ⟨i, hi, rfl, hno, hb⟩ := hrel
    have HB := Lib.hid hb
    have HNO := Lib.hid hno
    by_cases hlt : i < 256
    · have HLT := Lib.hid hlt
      obtain ⟨c, hc⟩ : ∃ c, c = UInt8.ofNat i := ⟨_, rfl⟩
      have hcn : c.toNat = i := by rw [hc, UInt8.toNat_ofNat']; omega
      have HCN := Lib.hid hcn
      have k1 : IntKind.u8.wrap (i : Int) = (c.toNat : Int) := by rw [IntKind.wrap_u8, hcn]; omega
      have k2 : (i : Int) < 256 := by omega
      have k4 : IntKind.i64.wrap ((i : Int) + 1) = (i : Int) + 1 := by rw [IntKind.wrap_i64]; omega
      have HC := Lib.hid (fun W => rclient c W)
      obtain ⟨X, hX⟩ : ∃ X, X = clientK c := ⟨_, rfl⟩
      have HX := Lib.hid hX
      rw [← hX] at HC
      clear hb hno hi hlt hc hcn hX
      by_cases hq : X = k
      · have e1 := ba_eq hq
        have HQ := Lib.hid (show clientO k = some c from client_iff.2 (by rw [← hq, HX.out]))
        clear hq
        go_wp2_with fail
        refine (HC.out _).mono ?_
        rintro e w1 ⟨rfl, hb⟩
        have HB1 := Lib.hid (below_step HB.out hb HB.out.size)
        clear hb
        go_wp2_with fail
        exact bodyPost_ret (v := .tuple #[.int .u8 (c.toNat : Int), .bool true]) (by simp [results, Tryd.results39, go_sem]) rfl ⟨(by rw [HQ.out]; rfl), HB1.out⟩
      · have e1 := ba_ne hq
        have HQ := Lib.hid (show clientK c ≠ k from fun e => hq (by rw [HX.out, e]))
        clear hq
        go_wp2_with fail
        refine (HC.out _).mono ?_
        rintro e w1 ⟨rfl, hb⟩
        have HB1 := Lib.hid (below_step HB.out hb HB.out.size)
        clear hb
        go_wp2_with fail
        go_roundw
        case rel => exact ⟨i + 1, HLT.out, by go_num, fun d hd => by
          rcases Nat.lt_or_ge d.toNat i with h | h
          · exact HNO.out d h
          · have : d = c := UInt8.toNat_inj.1 (by rw [HCN.out]; omega)
            rw [this]; exact HQ.out, HB1.out⟩
        case measure => have := HLT.out; simp [intOf]; omega
    · have k2 : ¬ (i : Int) < 256 := by omega
      have HQ := Lib.hid (show clientO k = none from by
        cases h : clientO k with
        | none => rfl
        | some c => exact absurd (client_iff.1 h).symm (hno c (by have := c.toNat_lt; omega)))
      clear hno hb hi hlt
      go_wp2_with fail
      exact bodyPost_ret (v := .tuple #[.int .u8 0, .bool false]) (by simp [results, Tryd.results39, go_sem]) rfl ⟨(by rw [HQ.out]; rfl), HB.out⟩
theorem zeroAR_of {w : World} {b : Nat} (h : w.heap[b]? = some boxZR) : ZeroA w b := ⟨by rw [blk_cell h]; rfl, by rw [blk_cell h]; rfl, by rw [blk_cell h]; rfl, by rw [blk_frozen h]; rfl, by rw [blk_frozen h]; rfl, by rw [blk_frozen h]; rfl⟩
abbrev boxRAz (f : UInt8) (hi lo : UInt64) : Obj := .cells #[.int .u8 (f.toNat : Int), .int .u64 (hi.toNat : Int), .int .u64 (lo.toNat : Int)] 27 (0, 0)
theorem parts_nil_none {k : ByteArray} (h : k.size = 0) : Cph.Ok.parts k.data.toList = some [] := by
  rw [size0 h]; exact parts_nil
set_option maxHeartbeats 1600000 in
theorem raddrOf (kind : UInt64) (k : ByteArray) (w : World) (hs : k.size ≤ 1000000) : Calls Tryd.prog 34 #[.int .u64 (kind.toNat : Int), .string k] w fun e w' => e = .returned (encAo (ofK kind 0 k)) ∧ Below w.heap.size w w' := by
  have HB0 := Lib.hid (show Below w.heap.size w (w.alloc boxZR) from (Below.refl _ _).alloc (Nat.le_refl _) _)
  have HX := Lib.hid (heap_alloc_new w boxZR)
  have HP := Lib.hid (rparts_any k (w.alloc boxZR) hs)
  have HKD := Lib.hid (fun W a => raddr kind a W)
  cases hp : Cph.Ok.parts k.data.toList with
  | none =>
    rw [hp] at HP
    have HQ := Lib.hid (show ofK kind 0 k = none from by unfold ofK; rw [hp]; rfl)
    have HA := Lib.hid (fun (W : World) => show Calls Tryd.prog 76 #[.slice none 0 0] W (fun e w' => e = .returned (.agg #[.int .u8 0, .int .u64 0, .int .u64 0]) ∧ Below W.heap.size W w') from raddress _ [] 0 W (World.ownsRow_nil _ _ _ _) (by simp))
    clear hp
    go_enter Tryd.func34, Tryd.ntmps34
    go_wp2_with fail
    refine HP.out.mono ?_
    rintro e w1 ⟨rfl, hb⟩
    have HB := Lib.hid (below_step HB0.out hb HB0.out.size)
    have HX1 := Lib.hid (blk_kept hb HX.out)
    clear hb
    go_wp2_with fail
    refine (HA.out _).mono ?_
    rintro e w2 ⟨rfl, hb⟩
    have HBA := Lib.hid ((below_step HB.out hb HB.out.size).alloc (below_step HB.out hb HB.out.size).size boxZR)
    have HXA := Lib.hid (blk_alloc (blk_kept hb HX1.out) boxZR)
    clear hb
    have Z0 := (zeroAR_of HXA.out).c0
    have Z1 := (zeroAR_of HXA.out).c1
    have Z2 := (zeroAR_of HXA.out).c2
    have G0 := (zeroAR_of HXA.out).f0
    have G1 := (zeroAR_of HXA.out).f1
    have G2 := (zeroAR_of HXA.out).f2
    go_wp2_with fail
    exact bodyPost_ret (v := .tuple #[.agg #[.int .u8 0, .int .u64 0, .int .u64 0], .bool false]) (by simp (maxDischargeDepth := 8) [results, Tryd.results34, go_sem, Z0, Z1, Z2]) rfl ⟨by rw [HQ.out]; rfl, by first | exact HBA.out | exact below_set3 HBA.out _ _ _ | exact HBA.out.drew | exact (below_set3 HBA.out _ _ _).drew⟩
  | some l =>
    rw [hp] at HP
    have HSZ := Lib.hid (part_small hs hp)
    have HQ := Lib.hid (addr_law (kind := kind) hp)
    have HA := Lib.hid (fun (W : World) (v : Value) (base : Nat) (h : W.ownsRow base TR 3 v l.length (l.flatMap encC)) => raddress v l base W h HSZ.out)
    obtain ⟨⟨af, ah, al⟩, hA⟩ : ∃ A, A = docAddr l := ⟨_, rfl⟩
    rw [← hA] at HQ HA
    have HKA := Lib.hid (fun (W : World) => show Calls Tryd.prog 15 #[.int .u64 (kind.toNat : Int), .agg #[.int .u8 (af.toNat : Int), .int .u64 (ah.toNat : Int), .int .u64 (al.toNat : Int)]] W (fun e w' => e = .returned (.string (keyA kind (af, ah, al) [])) ∧ Below W.heap.size W w') from HKD.out W (af, ah, al))
    clear hp hA HSZ HKD
    by_cases h0 : k.size = 0
    · have HQ2 := Lib.hid (show ofK kind 0 k = none from by rw [HQ.out, if_neg (fun h => h.1 h0)])
      obtain rfl := size0 h0
      clear h0 HQ
      go_enter Tryd.func34, Tryd.ntmps34
      go_wp2_with fail
      refine HP.out.mono ?_
      rintro e w1 ⟨⟨v, rfl, ho⟩, hb⟩
      have HB := Lib.hid (below_step HB0.out hb HB0.out.size)
      have HX1 := Lib.hid (blk_kept hb HX.out)
      have HO := Lib.hid ho
      clear hb ho
      go_wp2_with fail
      refine (HA.out _ _ _ HO.out).mono ?_
      rintro e w2 ⟨rfl, hb⟩
      have HBA := Lib.hid ((below_step HB.out hb HB.out.size).alloc (below_step HB.out hb HB.out.size).size (boxRAz af ah al))
      have HXA := Lib.hid (blk_alloc (blk_kept hb HX1.out) (boxRAz af ah al))
      have HXB := Lib.hid (heap_alloc_new w2 (boxRAz af ah al))
      clear hb
      have Z0 := (zeroAR_of HXA.out).c0
      have Z1 := (zeroAR_of HXA.out).c1
      have Z2 := (zeroAR_of HXA.out).c2
      have G0 := (zeroAR_of HXA.out).f0
      have G1 := (zeroAR_of HXA.out).f1
      have G2 := (zeroAR_of HXA.out).f2
      go_wp2_with fail
      exact bodyPost_ret (v := .tuple #[.agg #[.int .u8 0, .int .u64 0, .int .u64 0], .bool false]) (by simp (maxDischargeDepth := 8) [results, Tryd.results34, go_sem, Z0, Z1, Z2]) rfl ⟨by rw [HQ2.out]; rfl, by first | exact HBA.out | exact below_set3 HBA.out _ _ _ | exact HBA.out.drew | exact (below_set3 HBA.out _ _ _).drew⟩
    · have he := str_some k h0
      obtain ⟨K, hK⟩ : ∃ K, K = keyA kind (af, ah, al) [] := ⟨_, rfl⟩
      rw [← hK] at HQ HKA
      by_cases hq : K = k
      · have HQ2 := Lib.hid (show ofK kind 0 k = some ((af, ah, al), 0) from by rw [HQ.out, if_pos ⟨h0, hq⟩])
        have e1 := ba_eq hq
        clear h0 hq HQ hK
        go_enter Tryd.func34, Tryd.ntmps34
        go_wp2_with fail
        refine HP.out.mono ?_
        rintro e w1 ⟨⟨v, rfl, ho⟩, hb⟩
        have HB := Lib.hid (below_step HB0.out hb HB0.out.size)
        have HX1 := Lib.hid (blk_kept hb HX.out)
        have HO := Lib.hid ho
        clear hb ho
        go_wp2_with fail
        refine (HA.out _ _ _ HO.out).mono ?_
        rintro e w2 ⟨rfl, hb⟩
        have HBA := Lib.hid ((below_step HB.out hb HB.out.size).alloc (below_step HB.out hb HB.out.size).size (boxRAz af ah al))
        have HXA := Lib.hid (blk_alloc (blk_kept hb HX1.out) (boxRAz af ah al))
        have HXB := Lib.hid (heap_alloc_new w2 (boxRAz af ah al))
        clear hb
        go_wp2_with fail
        refine (HKA.out _).mono ?_
        rintro e w3 ⟨rfl, hb⟩
        replace HBA := Lib.hid (below_step HBA.out hb HBA.out.size)
        replace HXA := Lib.hid (blk_kept hb HXA.out)
        replace HXB := Lib.hid (blk_kept hb HXB.out)
        clear hb
        have Z0 := (zeroAR_of HXA.out).c0
        have Z1 := (zeroAR_of HXA.out).c1
        have Z2 := (zeroAR_of HXA.out).c2
        have G0 := (zeroAR_of HXA.out).f0
        have G1 := (zeroAR_of HXA.out).f1
        have G2 := (zeroAR_of HXA.out).f2
        have Y0 : w3.cell? ⟨w2.heap.size, 0, none⟩ = some (.int .u8 (af.toNat : Int)) := by rw [blk_cell HXB.out]; rfl
        have Y1 : w3.cell? ⟨w2.heap.size, 1, none⟩ = some (.int .u64 (ah.toNat : Int)) := by rw [blk_cell HXB.out]; rfl
        have Y2 : w3.cell? ⟨w2.heap.size, 2, none⟩ = some (.int .u64 (al.toNat : Int)) := by rw [blk_cell HXB.out]; rfl
        go_wp2_with fail
        exact bodyPost_ret (v := .tuple #[.agg #[.int .u8 (af.toNat : Int), .int .u64 (ah.toNat : Int), .int .u64 (al.toNat : Int)], .bool true]) (by simp (maxDischargeDepth := 8) [results, Tryd.results34, go_sem, Z0, Z1, Z2]) rfl ⟨by rw [HQ2.out]; rfl, by first | exact HBA.out | exact below_set3 HBA.out _ _ _ | exact HBA.out.drew | exact (below_set3 HBA.out _ _ _).drew⟩
      · have HQ2 := Lib.hid (show ofK kind 0 k = none from by rw [HQ.out, if_neg (fun h => hq h.2)])
        have e1 := ba_ne hq
        clear h0 hq HQ hK
        go_enter Tryd.func34, Tryd.ntmps34
        go_wp2_with fail
        refine HP.out.mono ?_
        rintro e w1 ⟨⟨v, rfl, ho⟩, hb⟩
        have HB := Lib.hid (below_step HB0.out hb HB0.out.size)
        have HX1 := Lib.hid (blk_kept hb HX.out)
        have HO := Lib.hid ho
        clear hb ho
        go_wp2_with fail
        refine (HA.out _ _ _ HO.out).mono ?_
        rintro e w2 ⟨rfl, hb⟩
        have HBA := Lib.hid ((below_step HB.out hb HB.out.size).alloc (below_step HB.out hb HB.out.size).size (boxRAz af ah al))
        have HXA := Lib.hid (blk_alloc (blk_kept hb HX1.out) (boxRAz af ah al))
        have HXB := Lib.hid (heap_alloc_new w2 (boxRAz af ah al))
        clear hb
        go_wp2_with fail
        refine (HKA.out _).mono ?_
        rintro e w3 ⟨rfl, hb⟩
        replace HBA := Lib.hid (below_step HBA.out hb HBA.out.size)
        replace HXA := Lib.hid (blk_kept hb HXA.out)
        replace HXB := Lib.hid (blk_kept hb HXB.out)
        clear hb
        have Z0 := (zeroAR_of HXA.out).c0
        have Z1 := (zeroAR_of HXA.out).c1
        have Z2 := (zeroAR_of HXA.out).c2
        have G0 := (zeroAR_of HXA.out).f0
        have G1 := (zeroAR_of HXA.out).f1
        have G2 := (zeroAR_of HXA.out).f2
        go_wp2_with fail
        exact bodyPost_ret (v := .tuple #[.agg #[.int .u8 0, .int .u64 0, .int .u64 0], .bool false]) (by simp (maxDischargeDepth := 8) [results, Tryd.results34, go_sem, Z0, Z1, Z2]) rfl ⟨by rw [HQ2.out]; rfl, by first | exact HBA.out | exact below_set3 HBA.out _ _ _ | exact HBA.out.drew | exact (below_set3 HBA.out _ _ _).drew⟩
set_option maxHeartbeats 1600000 in
theorem reventOf (k : ByteArray) (w : World) (hs : k.size ≤ 1000000) : Calls Tryd.prog 37 #[.string k] w fun e w' => e = .returned (encOf (ofK 6 1 k)) ∧ Below w.heap.size w w' := by
  have HB0 := Lib.hid (show Below w.heap.size w (w.alloc boxZR) from (Below.refl _ _).alloc (Nat.le_refl _) _)
  have HX := Lib.hid (heap_alloc_new w boxZR)
  have HP := Lib.hid (rparts_any k (w.alloc boxZR) hs)
  cases hp : Cph.Ok.parts k.data.toList with
  | none =>
    rw [hp] at HP
    have HQ := Lib.hid (show ofK 6 1 k = none from by unfold ofK; rw [hp]; rfl)
    clear hp
    go_enter Tryd.func37, Tryd.ntmps37
    go_wp2_with fail
    refine HP.out.mono ?_
    rintro e w1 ⟨rfl, hb⟩
    have HBA := Lib.hid (below_step HB0.out hb HB0.out.size)
    have HXA := Lib.hid (blk_kept hb HX.out)
    clear hb
    have Z0 := (zeroAR_of HXA.out).c0
    have Z1 := (zeroAR_of HXA.out).c1
    have Z2 := (zeroAR_of HXA.out).c2
    have G0 := (zeroAR_of HXA.out).f0
    have G1 := (zeroAR_of HXA.out).f1
    have G2 := (zeroAR_of HXA.out).f2
    go_wp2_with fail
    exact bodyPost_ret (v := .tuple #[.agg #[.int .u8 0, .int .u64 0, .int .u64 0], .int .u64 0, .bool false]) (by simp (maxDischargeDepth := 8) [results, Tryd.results37, go_sem, Z0, Z1, Z2]) rfl ⟨by rw [HQ.out]; rfl, by first | exact HBA.out | exact below_set3 HBA.out _ _ _ | exact HBA.out.drew | exact (below_set3 HBA.out _ _ _).drew⟩
  | some l =>
    rw [hp] at HP
    by_cases hl : l.length = 4
    · obtain ⟨a, b, c, d, rfl⟩ := list_four hl
      have HSZ := Lib.hid (part_small hs hp)
      have HQ := Lib.hid (event_law (kind := 6) hp)
      have HA := Lib.hid (fun (W : World) (v : Value) (base : Nat) (h : W.ownsRow base TR 3 v 4 ([a, b, c, d].flatMap encC)) => raddress v [a, b, c, d] base W h HSZ.out)
      obtain ⟨⟨af, ah, al⟩, hA⟩ : ∃ A, A = docA b c := ⟨_, rfl⟩
      obtain ⟨n, hn⟩ : ∃ n, n = d.n := ⟨_, rfl⟩
      have HA2 := Lib.hid (fun (W : World) (v : Value) (base : Nat) (h : W.ownsRow base TR 3 v 4 ([a, b, c, d].flatMap encC)) => show Calls Tryd.prog 76 #[v] W (fun e w' => e = .returned (encA (af, ah, al)) ∧ Below W.heap.size W w') from by rw [hA]; exact HA.out W v base h)
      have HN := Lib.hid hn
      rw [← hA, ← hn] at HQ
      obtain ⟨K, hK⟩ : ∃ K, K = keyA 6 (af, ah, al) [n] := ⟨_, rfl⟩
      have HKA := Lib.hid (fun (W : World) => show Calls Tryd.prog 18 #[.agg #[.int .u8 (af.toNat : Int), .int .u64 (ah.toNat : Int), .int .u64 (al.toNat : Int)], .int .u64 (n.toNat : Int)] W (fun e w' => e = .returned (.string K) ∧ Below W.heap.size W w') from by rw [hK]; exact revent (af, ah, al) n W)
      rw [← hK] at HQ
      clear hp hA HSZ hn hK HA hl
      go_enter Tryd.func37, Tryd.ntmps37
      go_wp2_with fail
      refine HP.out.mono ?_
      rintro e w1 ⟨⟨v, rfl, ho⟩, hb⟩
      have HB := Lib.hid (below_step HB0.out hb HB0.out.size)
      have HX1 := Lib.hid (blk_kept hb HX.out)
      obtain ⟨g, cap, rfl, _, hg, _, hcs, _⟩ := owns_shape ho (by simp)
      have HO := Lib.hid (show w1.ownsRow _ TR 3 (.slice (some ⟨g, 0, none⟩) 4 cap) 4 ([a, b, c, d].flatMap encC) from ho)
      have HC := Lib.hid (show w1.cell? ⟨g, 11, none⟩ = some (.int .u64 (n.toNat : Int)) from by rw [hcs 11 (by simp), HN.out]; rfl)
      rw [show ([a, b, c, d] : List Pt).length = 4 from rfl]
      clear hb ho hcs hg
      go_wp2_with fail
      refine (HA2.out _ _ _ HO.out).mono ?_
      rintro e w2 ⟨rfl, hb⟩
      have HBA := Lib.hid ((below_step HB.out hb HB.out.size).alloc (below_step HB.out hb HB.out.size).size (boxRAz af ah al))
      have HXA := Lib.hid (blk_alloc (blk_kept hb HX1.out) (boxRAz af ah al))
      have HXB := Lib.hid (heap_alloc_new w2 (boxRAz af ah al))
      have HC2 := Lib.hid (cell_kept ((Below.refl _ _).alloc (Nat.le_refl _) (boxRAz af ah al)) (cell_kept hb HC.out))
      clear hb
      obtain ⟨W, hW⟩ : ∃ W, W = w2.alloc (boxRAz af ah al) := ⟨_, rfl⟩
      rw [← hW] at HBA HXA HXB HC2
      have hxb := HXB.out
      have hc2 := HC2.out
      have q0 : ∀ zz : Later W.heap.size W, zz.val.cell? ⟨w2.heap.size, 0, none⟩ = some (.int .u8 (af.toNat : Int)) := fun zz => Later.cell (by rw [blk_cell hxb]; rfl) (blk_lt hxb) zz
      have q1 : ∀ zz : Later W.heap.size W, zz.val.cell? ⟨w2.heap.size, 1, none⟩ = some (.int .u64 (ah.toNat : Int)) := fun zz => Later.cell (by rw [blk_cell hxb]; rfl) (blk_lt hxb) zz
      have q2 : ∀ zz : Later W.heap.size W, zz.val.cell? ⟨w2.heap.size, 2, none⟩ = some (.int .u64 (al.toNat : Int)) := fun zz => Later.cell (by rw [blk_cell hxb]; rfl) (blk_lt hxb) zz
      have q3 : ∀ zz : Later W.heap.size W, zz.val.cell? ⟨g, 11, none⟩ = some (.int .u64 (n.toNat : Int)) := fun zz => Later.cell hc2 (World.block_lt_of_cell? W ⟨g, 11, none⟩ hc2) zz
      clear hxb hc2
      by_cases hq : K = k
      · have HQ2 := Lib.hid (show ofK 6 1 k = some ((af, ah, al), n) from by rw [HQ.out, if_pos hq])
        have e1 := ba_eq hq
        clear hq HQ
        go_wp2_with fail
        try rw [← hW]
        refine wp_region_later W.heap.size (by kernel_rfl) (by kernel_rfl) ?_
        repeat (go_big_quiet_step (first | (go_at_call 18; exact Later.calls (Nat.le_refl _) (HKA.out _))))
        refine wpQuiet_nil ?_
        rintro wq ⟨zz, rfl⟩
        replace HBA := Lib.hid (below_step HBA.out zz.prop HBA.out.size)
        replace HXA := Lib.hid (blk_kept zz.prop HXA.out)
        replace HXB := Lib.hid (blk_kept zz.prop HXB.out)
        replace HC2 := Lib.hid (cell_kept zz.prop HC2.out)
        clear q0 q1 q2 q3
        obtain ⟨w3, hV⟩ : ∃ V, V = zz.val := ⟨_, rfl⟩
        rw [← hV] at HBA HXA HXB HC2 ⊢
        clear hV zz hW
        have Z0 := (zeroAR_of HXA.out).c0
        have Z1 := (zeroAR_of HXA.out).c1
        have Z2 := (zeroAR_of HXA.out).c2
        have G0 := (zeroAR_of HXA.out).f0
        have G1 := (zeroAR_of HXA.out).f1
        have G2 := (zeroAR_of HXA.out).f2
        have Y0 : w3.cell? ⟨w2.heap.size, 0, none⟩ = some (.int .u8 (af.toNat : Int)) := by rw [blk_cell HXB.out]; rfl
        have Y1 : w3.cell? ⟨w2.heap.size, 1, none⟩ = some (.int .u64 (ah.toNat : Int)) := by rw [blk_cell HXB.out]; rfl
        have Y2 : w3.cell? ⟨w2.heap.size, 2, none⟩ = some (.int .u64 (al.toNat : Int)) := by rw [blk_cell HXB.out]; rfl
        have Y3 := HC2.out
        go_wp2_with fail
        go_region
        all_goals
          go_wp2_with fail
          exact bodyPost_ret (v := .tuple #[.agg #[.int .u8 (af.toNat : Int), .int .u64 (ah.toNat : Int), .int .u64 (al.toNat : Int)], .int .u64 (n.toNat : Int), .bool true]) (by simp (maxDischargeDepth := 8) [results, Tryd.results37, go_sem, Z0, Z1, Z2]) rfl ⟨by rw [HQ2.out]; rfl, by first | exact HBA.out | exact below_set3 HBA.out _ _ _ | exact HBA.out.drew | exact (below_set3 HBA.out _ _ _).drew⟩
      · have HQ2 := Lib.hid (show ofK 6 1 k = none from by rw [HQ.out, if_neg hq])
        have e1 := ba_ne hq
        clear hq HQ
        go_wp2_with fail
        try rw [← hW]
        refine wp_region_later W.heap.size (by kernel_rfl) (by kernel_rfl) ?_
        repeat (go_big_quiet_step (first | (go_at_call 18; exact Later.calls (Nat.le_refl _) (HKA.out _))))
        refine wpQuiet_nil ?_
        rintro wq ⟨zz, rfl⟩
        replace HBA := Lib.hid (below_step HBA.out zz.prop HBA.out.size)
        replace HXA := Lib.hid (blk_kept zz.prop HXA.out)
        replace HXB := Lib.hid (blk_kept zz.prop HXB.out)
        replace HC2 := Lib.hid (cell_kept zz.prop HC2.out)
        clear q0 q1 q2 q3
        obtain ⟨w3, hV⟩ : ∃ V, V = zz.val := ⟨_, rfl⟩
        rw [← hV] at HBA HXA HXB HC2 ⊢
        clear hV zz hW
        have Z0 := (zeroAR_of HXA.out).c0
        have Z1 := (zeroAR_of HXA.out).c1
        have Z2 := (zeroAR_of HXA.out).c2
        have G0 := (zeroAR_of HXA.out).f0
        have G1 := (zeroAR_of HXA.out).f1
        have G2 := (zeroAR_of HXA.out).f2
        have Y0 : w3.cell? ⟨w2.heap.size, 0, none⟩ = some (.int .u8 (af.toNat : Int)) := by rw [blk_cell HXB.out]; rfl
        have Y1 : w3.cell? ⟨w2.heap.size, 1, none⟩ = some (.int .u64 (ah.toNat : Int)) := by rw [blk_cell HXB.out]; rfl
        have Y2 : w3.cell? ⟨w2.heap.size, 2, none⟩ = some (.int .u64 (al.toNat : Int)) := by rw [blk_cell HXB.out]; rfl
        have Y3 := HC2.out
        go_wp2_with fail
        exact bodyPost_ret (v := .tuple #[.agg #[.int .u8 0, .int .u64 0, .int .u64 0], .int .u64 0, .bool false]) (by simp (maxDischargeDepth := 8) [results, Tryd.results37, go_sem, Z0, Z1, Z2]) rfl ⟨by rw [HQ2.out]; rfl, by first | exact HBA.out | exact below_set3 HBA.out _ _ _ | exact HBA.out.drew | exact (below_set3 HBA.out _ _ _).drew⟩
    · have HQ := Lib.hid (len_none (kind := 6) hp hl)
      obtain ⟨n, hn⟩ : ∃ n, n = l.length := ⟨_, rfl⟩
      have HN := Lib.hid hn
      have k1 : ¬ (n : Int) = 4 := by omega
      have k2 : ((n : Int) == 4) = false := beq_eq_false_iff_ne.2 k1
      clear hp hl hn
      go_enter Tryd.func37, Tryd.ntmps37
      go_wp2_with fail
      refine HP.out.mono ?_
      rintro e w1 ⟨⟨v, rfl, ho⟩, hb⟩
      have HBA := Lib.hid (below_step HB0.out hb HB0.out.size)
      have HXA := Lib.hid (blk_kept hb HX.out)
      obtain ⟨ao, cap, rfl⟩ := owns_slice1 ho
      rw [← HN.out]
      clear hb ho
      have Z0 := (zeroAR_of HXA.out).c0
      have Z1 := (zeroAR_of HXA.out).c1
      have Z2 := (zeroAR_of HXA.out).c2
      have G0 := (zeroAR_of HXA.out).f0
      have G1 := (zeroAR_of HXA.out).f1
      have G2 := (zeroAR_of HXA.out).f2
      go_wp2_with fail
      exact bodyPost_ret (v := .tuple #[.agg #[.int .u8 0, .int .u64 0, .int .u64 0], .int .u64 0, .bool false]) (by simp (maxDischargeDepth := 8) [results, Tryd.results37, go_sem, Z0, Z1, Z2]) rfl ⟨by rw [HQ.out]; rfl, by first | exact HBA.out | exact below_set3 HBA.out _ _ _ | exact HBA.out.drew | exact (below_set3 HBA.out _ _ _).drew⟩
end Go.Proofs.Tryd.Rows
