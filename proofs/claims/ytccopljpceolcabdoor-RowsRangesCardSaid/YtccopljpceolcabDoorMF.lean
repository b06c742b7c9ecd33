/- MF: texts put together: Ro7 Ro9 Ro8 RoA RoB RoC RoD RoG. -/
import Derived.Test.YtccopljpceolcabDoorME
import Derived.Test.YtccopljpceolcabDoorMD
/- rows: the clock's and clients' keys; a prefix's key read. -/
set_option linter.unusedVariables false
set_option linter.unusedSimpArgs false
set_option maxRecDepth 100000
namespace Go.Proofs.Tryd.Rows
open Go.RowKit Go.Cph Go.Cph.Ok Go.Proofs.Tryd.Nu Go.Proofs.Tryd.Ok
open Go.Cph.Px (Ad Pf rightA bytesA rightP fromB fromOk)
open Go.Proofs.Tryd.Pfx (encA bcell)
theorem pts_one (w : World) (p : Pt) : PtsAt (w.alloc (boxP p)) (.slice (some ⟨w.heap.size, 0, none⟩) 1 1) [p] := by
  have h := box_cells (heap_alloc_new w (boxP p))
  refine ⟨⟨_, _, rfl, fun _ => ⟨w.heap.size, 0, rfl, fun j hj => ?_⟩⟩, rfl⟩
  have h3 : j = 0 ∨ j = 1 ∨ j = 2 := by simp at hj; omega
  rcases h3 with rfl | rfl | rfl
  · exact h.c0
  · exact h.c1
  · exact h.c2
theorem pts_two (w : World) (p q : Pt) : PtsAt (w.alloc (.cells #[.bool p.text, .string p.s, .int .u64 (p.n.toNat : Int), .bool q.text, .string q.s, .int .u64 (q.n.toNat : Int)] 86 (0, 0))) (.slice (some ⟨w.heap.size, 0, none⟩) 2 2) [p, q] :=
  ⟨⟨_, _, rfl, fun _ => ⟨w.heap.size, 0, rfl, fun j hj => by
    rw [Nat.zero_add, blk_cell (heap_alloc_new w _)]
    have hj6 : j < 6 := by simpa using hj
    rcases (show j = 0 ∨ j = 1 ∨ j = 2 ∨ j = 3 ∨ j = 4 ∨ j = 5 by omega) with rfl | rfl | rfl | rfl | rfl | rfl <;> rfl⟩⟩, rfl⟩
def clockK : ByteArray := ofBs (key [numP 1])
def clientK (c : UInt8) : ByteArray := ofBs (key [numP 7, numP c.toUInt64])
set_option maxHeartbeats 800000 in
theorem clockKey (m : Int) (w : World) (hm : MaxAt m w) : Calls Tryd.prog 27 #[] w fun e w' => e = .returned (.string clockK) ∧ Below w.heap.size w w' := by
  have HM := Lib.hid hm
  have HN := Lib.hid (fun (W : World) => show Calls Tryd.prog 50 #[.int .u64 1] W (fun e w' => e = .returned (.agg #[.bool false, .string ⟨#[]⟩, .int .u64 1]) ∧ Below W.heap.size W w') from num_any 1 W)
  have HK := Lib.hid (fun (W : World) (hm : MaxAt m (W.alloc (boxP (numP 1)))) => show Calls Tryd.prog 49 #[.slice (some ⟨W.heap.size, 0, none⟩) 1 1] (W.alloc (.cells #[.bool false, .string ⟨#[]⟩, .int .u64 1] 86)) (fun e w' => e = .returned (.string clockK) ∧ _) from key_any _ [numP 1] m _ (pts_one W (numP 1)) (by simp) (by have := nums_len [1]; simp at this; omega) hm)
  clear hm
  go_enter Tryd.func27, Tryd.ntmps27
  go_wp2_with fail
  refine (HN.out _).mono ?_
  rintro e w1 ⟨rfl, hb⟩
  have HB := Lib.hid hb
  have HB1 := Lib.hid (show Below w.heap.size w (w1.alloc (boxP (numP 1))) from hb.alloc hb.size _)
  clear hb
  go_wp2_with fail
  refine (HK.out _ (max_kept HM.out HB1.out)).mono ?_
  rintro e w2 ⟨rfl, hb⟩
  have HB2 := Lib.hid (below_step HB1.out hb HB1.out.size)
  clear hb
  go_wp2_with fail
  go_ret
  exact ⟨rfl, HB2.out⟩
set_option maxHeartbeats 800000 in
theorem clientKey (c : UInt8) (m : Int) (w : World) (hm : MaxAt m w) : Calls Tryd.prog 29 #[.int .u8 (c.toNat : Int)] w fun e w' => e = .returned (.string (clientK c)) ∧ Below w.heap.size w w' := by
  have HM := Lib.hid hm
  have HN := Lib.hid (fun (W : World) => show Calls Tryd.prog 50 #[.int .u64 7] W (fun e w' => e = .returned (.agg #[.bool false, .string ⟨#[]⟩, .int .u64 7]) ∧ Below W.heap.size W w') from num_any 7 W)
  have HN2 := Lib.hid (fun (W : World) => show Calls Tryd.prog 50 #[.int .u64 (c.toNat : Int)] W (fun e w' => e = .returned (.agg #[.bool false, .string ⟨#[]⟩, .int .u64 (c.toNat : Int)]) ∧ Below W.heap.size W w') from by rw [← fam64 c]; exact num_any c.toUInt64 W)
  have HK := Lib.hid (fun (W : World) (hm : MaxAt m (W.alloc (.cells #[.bool false, .string ⟨#[]⟩, .int .u64 7, .bool false, .string ⟨#[]⟩, .int .u64 (c.toNat : Int)] 86))) => show Calls Tryd.prog 49 #[.slice (some ⟨W.heap.size, 0, none⟩) 2 2] (W.alloc (.cells #[.bool false, .string ⟨#[]⟩, .int .u64 7, .bool false, .string ⟨#[]⟩, .int .u64 (c.toNat : Int)] 86)) (fun e w' => e = .returned (.string (clientK c)) ∧ _) from key_any _ [numP 7, numP c.toUInt64] m _ (pts_two W (numP 7) (numP c.toUInt64)) (by simp) (by have := nums_len [7, c.toUInt64]; simp at this; omega) hm)
  clear hm
  go_enter Tryd.func29, Tryd.ntmps29
  go_wp2_with fail
  refine (HN.out _).mono ?_
  rintro e w1 ⟨rfl, hb⟩
  have HB := Lib.hid hb
  clear hb
  go_wp2_with fail
  refine (HN2.out _).mono ?_
  rintro e w2 ⟨rfl, hb⟩
  replace HB := Lib.hid (below_step HB.out hb HB.out.size)
  have HB1 := Lib.hid (show Below w.heap.size w (w2.alloc (.cells #[.bool false, .string ⟨#[]⟩, .int .u64 7, .bool false, .string ⟨#[]⟩, .int .u64 (c.toNat : Int)] 86)) from HB.out.alloc HB.out.size _)
  clear hb
  go_wp2_with fail
  refine (HK.out _ (max_kept HM.out HB1.out)).mono ?_
  rintro e w3 ⟨rfl, hb⟩
  have HB2 := Lib.hid (below_step HB1.out hb HB1.out.size)
  clear hb
  go_wp2_with fail
  go_ret
  exact ⟨rfl, HB2.out⟩
def tenP : Pf := ((4, 0, 167772160), 8)
def someA : Ad := (4, 0, 16909060)
theorem ten_any (w : World) : Calls Tryd.prog 32 #[] w fun e w' => e = .returned (Pfx.encP tenP) ∧ Below w.heap.size w w' := by
  have HB := Lib.hid (show Below w.heap.size w (w.alloc (boxF tenP)) from (Below.refl _ _).alloc (Nat.le_refl _) _)
  have h := heap_alloc_new w (boxF tenP)
  have c0 : (w.alloc (boxF tenP)).cell? ⟨w.heap.size, 0, none⟩ = some (.int .u8 4) := by rw [blk_cell h]; rfl
  have c1 : (w.alloc (boxF tenP)).cell? ⟨w.heap.size, 1, none⟩ = some (.int .u64 0) := by rw [blk_cell h]; rfl
  have c2 : (w.alloc (boxF tenP)).cell? ⟨w.heap.size, 2, none⟩ = some (.int .u64 167772160) := by rw [blk_cell h]; rfl
  have c3 : (w.alloc (boxF tenP)).cell? ⟨w.heap.size, 3, none⟩ = some (.int .i64 8) := by rw [blk_cell h]; rfl
  clear h
  go_enter Tryd.func32, Tryd.ntmps32
  go_wp2_with fail
  exact bodyPost_ret (v := Pfx.encP tenP) (by simp [results, Tryd.results32, go_sem, tenP, c0, c1, c2, c3]) rfl ⟨rfl, HB.out⟩
theorem some_any (w : World) : Calls Tryd.prog 33 #[] w fun e w' => e = .returned (encA someA) ∧ Below w.heap.size w w' := by
  have HB := Lib.hid (show Below w.heap.size w (w.alloc (boxA someA)) from (Below.refl _ _).alloc (Nat.le_refl _) _)
  go_enter Tryd.func33, Tryd.ntmps33
  go_wp2_with fail
  exact bodyPost_ret (v := encA someA) (by simp [results, Tryd.results33, go_sem, someA]) rfl ⟨rfl, HB.out⟩
end Go.Proofs.Tryd.Rows

/- rows, plainly: a key that was written is read. -/
set_option linter.unusedVariables false
set_option linter.unusedSimpArgs false
set_option maxRecDepth 100000
namespace Go.Proofs.Tryd.Rows
open Go.RowKit Go.Cph Go.Cph.Ok Go.Proofs.Tryd.Nu Go.Proofs.Tryd.Ok
open Go.Cph.Px (Ad Pf rightA bytesA rightP fromB fromOk)
theorem plain_num (n : UInt64) : plainP (numP n) = numP n := rfl
theorem plain_str (s : ByteArray) : plainP (strP s) = strP s := rfl
theorem plain_nums (l : List UInt64) : (l.map numP).map plainP = l.map numP := by
  rw [List.map_map]; rfl
theorem plain_parts (kind : UInt64) (a : Ad) (l : List UInt64) : (partsL kind a l).map plainP = partsL kind a l := by
  unfold partsL headL
  rw [List.map_append, plain_nums]; rfl
theorem parts_partsL (kind : UInt64) (a : Ad) (l : List UInt64) : Cph.Ok.parts (key (partsL kind a l)) = some (partsL kind a l) := by
  rw [parts_key, plain_parts]
theorem fam_back (f : UInt8) : f.toUInt64.toUInt8 = f := by simp
theorem bytes_size {a : Ad} (h : rightA a = true) : fromOk a.1 (bytesA a).length = true := by
  unfold bytesA
  rw [if_pos h, Px.bytesN_length]
  unfold Px.sizeB
  rcases Px.right_fam h with h4 | h4
  · rw [h4]; rfl
  · rw [h4]; rfl
theorem from_bytes {a : Ad} (h : rightA a = true) : fromB a.1 (bytesA a) = a := by
  have hs := bytes_size h
  unfold fromB
  rw [if_pos hs]
  have hn := Px.num_wid h
  have hv : Px.val (bytesA a) = Px.num a := by
    unfold bytesA
    rw [if_pos h, Px.val_bytesN]
    refine Nat.mod_eq_of_lt ?_
    rw [Px.wid_size] at hn
    rwa [show (256 : Nat) = 2 ^ 8 from rfl, ← Nat.pow_mul]
  rw [hv]
  obtain ⟨f, hi, lo⟩ := a
  unfold Px.ofNum Px.num
  have h1 := lo.toNat_lt
  have h2 := hi.toNat_lt
  refine Prod.ext rfl (Prod.ext ?_ ?_)
  · apply UInt64.toNat_inj.1
    simp only [UInt64.toNat_ofNat']; omega
  · apply UInt64.toNat_inj.1
    simp only [UInt64.toNat_ofNat']; omega
theorem ofK_key0 (kind : UInt64) {a : Ad} (h : rightA a = true) : ofK kind 0 (keyA kind a []) = some (a, 0) := by
  unfold ofK keyA
  rw [if_pos h, ofBs_list, parts_partsL]
  show ofL kind 0 [numP kind, numP a.1.toUInt64, strP (ofBs (bytesA a))] = _
  unfold ofL
  dsimp only
  have e : (numP a.1.toUInt64).n.toUInt8 = a.1 := fam_back a.1
  have h6 : (numP a.1.toUInt64).n.toNat ≤ 6 := by
    show a.1.toUInt64.toNat ≤ 6
    rw [UInt8.toNat_toUInt64]
    rcases Px.right_fam h with h4 | h4 <;> rw [h4] <;> decide
  rw [e, if_pos ⟨rfl, eqP_refl _, h6, rfl, by show fromOk a.1 (ofBs (bytesA a)).size = true; rw [ofBs_size]; exact bytes_size h⟩]
  show some (fromB a.1 (bytesA a), (0 : UInt64)) = _
  rw [from_bytes h]
theorem ofK_key1 (kind n : UInt64) {a : Ad} (h : rightA a = true) : ofK kind 1 (keyA kind a [n]) = some (a, n) := by
  unfold ofK keyA
  rw [if_pos h, ofBs_list, parts_partsL]
  show ofL kind 1 [numP kind, numP a.1.toUInt64, strP (ofBs (bytesA a)), numP n] = _
  unfold ofL
  dsimp only
  have e : (numP a.1.toUInt64).n.toUInt8 = a.1 := fam_back a.1
  have h6 : (numP a.1.toUInt64).n.toNat ≤ 6 := by
    show a.1.toUInt64.toNat ≤ 6
    rw [UInt8.toNat_toUInt64]
    rcases Px.right_fam h with h4 | h4 <;> rw [h4] <;> decide
  rw [e, if_pos ⟨rfl, eqP_refl _, h6, rfl, by show fromOk a.1 (ofBs (bytesA a)).size = true; rw [ofBs_size]; exact bytes_size h⟩]
  show some (fromB a.1 (bytesA a), n) = _
  rw [from_bytes h]
end Go.Proofs.Tryd.Rows

/- rows: a prefix's key read. -/
set_option linter.unusedVariables false
set_option linter.unusedSimpArgs false
set_option maxRecDepth 100000
namespace Go.Proofs.Tryd.Rows
open Go.RowKit Go.Cph Go.Cph.Ok Go.Proofs.Tryd.Nu Go.Proofs.Tryd.Ok
open Go.Cph.Px (Ad Pf rightA bytesA rightP fromB fromOk)
open Go.Proofs.Tryd.Pfx (encA bcell)
abbrev boxY : Obj := .cells #[.int .u8 0, .int .u64 0, .int .u64 0, .int .i64 0] 42 (0, 0)
structure ZeroP (w : World) (b : Nat) : Prop where
  c0 : w.cell? ⟨b, 0, none⟩ = some (.int .u8 0)
  c1 : w.cell? ⟨b, 1, none⟩ = some (.int .u64 0)
  c2 : w.cell? ⟨b, 2, none⟩ = some (.int .u64 0)
  c3 : w.cell? ⟨b, 3, none⟩ = some (.int .i64 0)
  f0 : w.frozen? ⟨b, 0, none⟩ = false
  f1 : w.frozen? ⟨b, 1, none⟩ = false
  f2 : w.frozen? ⟨b, 2, none⟩ = false
  f3 : w.frozen? ⟨b, 3, none⟩ = false
theorem zeroP_of {w : World} {b : Nat} (h : w.heap[b]? = some boxY) : ZeroP w b := ⟨by rw [blk_cell h]; rfl, by rw [blk_cell h]; rfl, by rw [blk_cell h]; rfl, by rw [blk_cell h]; rfl, by rw [blk_frozen h]; rfl, by rw [blk_frozen h]; rfl, by rw [blk_frozen h]; rfl, by rw [blk_frozen h]; rfl⟩
theorem zeroP_kept {w W : World} (hb : Below (w.alloc boxY).heap.size (w.alloc boxY) W) : ZeroP W w.heap.size := zeroP_of (blk_kept hb (heap_alloc_new w boxY))
theorem below_set4 {w W : World} (h : Below w.heap.size w W) (x y z u : Value) : Below w.heap.size w ((((W.setCell ⟨w.heap.size, 0, none⟩ x).setCell ⟨w.heap.size, 1, none⟩ y).setCell ⟨w.heap.size, 2, none⟩ z).setCell ⟨w.heap.size, 3, none⟩ u) :=
  (below_set3 h x y z).setCell (p := ⟨w.heap.size, 3, none⟩) (Nat.le_refl _) _
theorem below_alloc2 {B : Nat} {w W : World} (h : Below B w W) (hB : B ≤ W.heap.size) (o o2 : Obj) : Below B w ((W.alloc o).alloc o2) :=
  (h.alloc hB o).alloc (Nat.le_trans hB (by rw [World.size_alloc]; exact Nat.le_succ _)) o2
/-- What a prefix's key is of. -/
def prefK (a : Ad) (n : UInt64) : Pf := (a, ((min n.toNat 65536 : Nat) : Int))
def prefixK (kind : UInt64) (k : ByteArray) : Option Pf := (ofK kind 1 k).bind fun x => if rightP (prefK x.1 x.2) then some (prefK x.1 x.2) else none
def encPo : Option Pf → Value
  | none => .tuple #[.agg #[.int .u8 0, .int .u64 0, .int .u64 0, .int .i64 0], .bool false]
  | some p => .tuple #[Pfx.encP p, .bool true]
set_option maxHeartbeats 1600000 in
theorem prefixOf_any (kind : UInt64) (k : ByteArray) (w : World) (hs : k.size ≤ 1000000) : Calls Tryd.prog 51 #[.string k, .int .u64 (kind.toNat : Int)] w fun e w' => e = .returned (encPo (prefixK kind k)) ∧ Below w.heap.size w w' := by
  have HB0 := Lib.hid (show Below w.heap.size w (w.alloc boxY) from (Below.refl _ _).alloc (Nat.le_refl _) _)
  have HZC := Lib.hid (fun W (hb : Below (w.alloc boxY).heap.size (w.alloc boxY) W) => zeroP_kept hb)
  have HOF := Lib.hid (fun (W : World) => of1 k kind W hs)
  have HK := Lib.hid (show prefixK kind k = (ofK kind 1 k).bind fun x => if rightP (prefK x.1 x.2) then some (prefK x.1 x.2) else none from rfl)
  cases ho : ofK kind 1 k with
  | none =>
    rw [ho] at HOF HK
    have HV := Lib.hid (show prefixK kind k = none from HK.out)
    clear ho HK
    unfold encOf at HOF
    go_enter Tryd.func51, Tryd.ntmps51
    go_wp2_with fail
    refine (HOF.out _).mono ?_
    rintro e w1 ⟨rfl, hb⟩
    have HB := Lib.hid (below_step HB0.out hb HB0.out.size)
    have hz : w.heap.size < w1.heap.size := by have := hb.size; rw [World.size_alloc] at this; omega
    have Z0 := (HZC.out w1 hb).c0
    have Z1 := (HZC.out w1 hb).c1
    have Z2 := (HZC.out w1 hb).c2
    have Z3 := (HZC.out w1 hb).c3
    have G0 := (HZC.out w1 hb).f0
    have G1 := (HZC.out w1 hb).f1
    have G2 := (HZC.out w1 hb).f2
    have G3 := (HZC.out w1 hb).f3
    clear hb
    go_wp2_with fail
    exact bodyPost_ret (v := encPo none) (by simp (maxDischargeDepth := 8) [results, Tryd.results51, go_sem, encPo, Z0, Z1, Z2, Z3, hz]) rfl ⟨by rw [HV.out], by exact below_alloc2 (below_set4 HB.out _ _ _ _) (below_set4 HB.out _ _ _ _).size _ _⟩
  | some x =>
    obtain ⟨⟨f, hi, lo⟩, n⟩ := x
    rw [ho] at HOF HK
    obtain ⟨q, hq⟩ : ∃ q, q = min n.toNat 65536 := ⟨_, rfl⟩
    have hq2 : q ≤ 65536 := by omega
    have km : min (n.toNat : Int) 65536 = (q : Int) := by omega
    have kw : IntKind.i64.wrap (q : Int) = (q : Int) := by rw [IntKind.wrap_i64]; omega
    have HP := Lib.hid (show prefK (f, hi, lo) n = ((f, hi, lo), (q : Int)) from by rw [hq]; rfl)
    have HRT := Lib.hid (fun (W : World) => show Calls Tryd.prog 16 #[.agg #[.int .u8 (f.toNat : Int), .int .u64 (hi.toNat : Int), .int .u64 (lo.toNat : Int), .int .i64 (q : Int)]] W (fun e w' => e = .returned (.bool (rightP ((f, hi, lo), (q : Int)))) ∧ Below W.heap.size W w') from Pfx.rightP_any ((f, hi, lo), (q : Int)) W)
    have HV := Lib.hid (show prefixK kind k = if rightP ((f, hi, lo), (q : Int)) then some ((f, hi, lo), (q : Int)) else none from by rw [HK.out]; show (if rightP (prefK (f, hi, lo) n) then some (prefK (f, hi, lo) n) else none) = _; rw [HP.out])
    clear ho HK HP hq hq2
    unfold encOf at HOF
    obtain ⟨r, hr⟩ : ∃ r, r = rightP ((f, hi, lo), (q : Int)) := ⟨_, rfl⟩
    rw [← hr] at HRT HV
    clear hr
    have HBB := Lib.hid (fun w1 (h1 : Below w.heap.size w w1) o o2 => show Below w.heap.size w ((w1.alloc o).alloc o2) from below_alloc2 h1 h1.size o o2)
    have HBZ := Lib.hid (fun w1 (h1 : Below (w.alloc boxY).heap.size (w.alloc boxY) w1) o o2 => show Below (w.alloc boxY).heap.size (w.alloc boxY) ((w1.alloc o).alloc o2) from below_alloc2 h1 h1.size o o2)
    cases r
    all_goals
      go_enter Tryd.func51, Tryd.ntmps51
      go_wp2_with fail
      refine (HOF.out _).mono ?_
      rintro e w1 ⟨rfl, hb⟩
      have HB := Lib.hid (below_step HB0.out hb HB0.out.size)
      have HBV := Lib.hid hb
      clear hb
      go_wp2_with fail
      refine (HRT.out _).mono ?_
      rintro e w2 ⟨rfl, hb⟩
      have HB2 := Lib.hid (below_step (HBB.out _ HB.out _ _) hb (HBB.out _ HB.out _ _).size)
      have HB2V := Lib.hid (below_step (HBZ.out _ HBV.out _ _) hb (HBZ.out _ HBV.out _ _).size)
      obtain ⟨hc, hf⟩ := bcell hb
      have hz1 : w.heap.size < w1.heap.size := by have := HBV.out.size; rw [World.size_alloc] at this; omega
      have hz2 : w1.heap.size + 1 < w2.heap.size := by have := hb.size; simp at this; omega
      have Z0 := (HZC.out w2 HB2V.out).c0
      have Z1 := (HZC.out w2 HB2V.out).c1
      have Z2 := (HZC.out w2 HB2V.out).c2
      have Z3 := (HZC.out w2 HB2V.out).c3
      have G0 := (HZC.out w2 HB2V.out).f0
      have G1 := (HZC.out w2 HB2V.out).f1
      have G2 := (HZC.out w2 HB2V.out).f2
      have G3 := (HZC.out w2 HB2V.out).f3
      clear hb
      go_wp2_with fail
      first
        | exact bodyPost_ret (v := encPo none) (by simp (maxDischargeDepth := 8) [results, Tryd.results51, go_sem, encPo, Z0, Z1, Z2, Z3]) rfl ⟨by rw [HV.out]; rfl, by exact below_set4 HB2.out _ _ _ _⟩
        | exact bodyPost_ret (v := encPo (some ((f, hi, lo), (q : Int)))) (by simp (maxDischargeDepth := 8) [results, Tryd.results51, go_sem, encPo, Z0, Z1, Z2, Z3]) rfl ⟨by rw [HV.out]; rfl, by exact below_set4 HB2.out _ _ _ _⟩
end Go.Proofs.Tryd.Rows

/- rows: what keys are of. -/
set_option linter.unusedVariables false
set_option linter.unusedSimpArgs false
set_option maxRecDepth 100000
namespace Go.Proofs.Tryd.Rows
open Go.RowKit Go.Cph Go.Cph.Ok Go.Proofs.Tryd.Nu Go.Proofs.Tryd.Ok
open Go.Cph.Px (Ad Pf rightA bytesA rightP fromB fromOk)
open Go.Proofs.Tryd.Pfx (encA bcell)
def encAo : Option (Ad × UInt64) → Value
  | none => .tuple #[.agg #[.int .u8 0, .int .u64 0, .int .u64 0], .bool false]
  | some (a, _) => .tuple #[encA a, .bool true]
theorem below_alloc1 {B : Nat} {w W : World} (h : Below B w W) (hB : B ≤ W.heap.size) (o : Obj) : Below B w (W.alloc o) := h.alloc hB o
set_option maxHeartbeats 800000 in
theorem poolOf (k : ByteArray) (w : World) (hs : k.size ≤ 1000000) : Calls Tryd.prog 30 #[.string k] w fun e w' => e = .returned (encPo (prefixK 2 k)) ∧ Below w.heap.size w w' := by
  have HB0 := Lib.hid (show Below w.heap.size w (w.alloc boxY) from (Below.refl _ _).alloc (Nat.le_refl _) _)
  have HZC := Lib.hid (fun W (hb : Below (w.alloc boxY).heap.size (w.alloc boxY) W) => zeroP_kept hb)
  have HOF := Lib.hid (fun (W : World) => show Calls Tryd.prog 51 #[.string k, .int .u64 2] W _ from prefixOf_any 2 k W hs)
  obtain ⟨r, hr⟩ : ∃ r, r = prefixK 2 k := ⟨_, rfl⟩
  rw [← hr] at HOF ⊢
  clear hr
  cases r with
  | none =>
    unfold encPo at HOF
    go_enter Tryd.func30, Tryd.ntmps30
    go_wp2_with fail
    refine (HOF.out _).mono ?_
    rintro e w1 ⟨rfl, hb⟩
    have HB := Lib.hid (below_step HB0.out hb HB0.out.size)
    have Z0 := (HZC.out w1 hb).c0
    have G0 := (HZC.out w1 hb).f0
    have Z1 := (HZC.out w1 hb).c1
    have G1 := (HZC.out w1 hb).f1
    have Z2 := (HZC.out w1 hb).c2
    have G2 := (HZC.out w1 hb).f2
    have Z3 := (HZC.out w1 hb).c3
    have G3 := (HZC.out w1 hb).f3
    clear hb
    go_wp2_with fail
    exact bodyPost_ret (v := encPo none) (by simp (maxDischargeDepth := 8) [results, Tryd.results30, go_sem, encPo, Z0, Z1, Z2, Z3]) rfl ⟨rfl, below_set4 HB.out _ _ _ _⟩
  | some p =>
    unfold encPo at HOF
    obtain ⟨⟨f, hi, lo⟩, n⟩ := p
    go_enter Tryd.func30, Tryd.ntmps30
    go_wp2_with fail
    refine (HOF.out _).mono ?_
    rintro e w1 ⟨rfl, hb⟩
    have HB := Lib.hid (below_step HB0.out hb HB0.out.size)
    have Z0 := (HZC.out w1 hb).c0
    have G0 := (HZC.out w1 hb).f0
    have Z1 := (HZC.out w1 hb).c1
    have G1 := (HZC.out w1 hb).f1
    have Z2 := (HZC.out w1 hb).c2
    have G2 := (HZC.out w1 hb).f2
    have Z3 := (HZC.out w1 hb).c3
    have G3 := (HZC.out w1 hb).f3
    clear hb
    go_wp2_with fail
    exact bodyPost_ret (v := encPo (some ((f, hi, lo), n))) (by simp (maxDischargeDepth := 8) [results, Tryd.results30, go_sem, encPo, Z0, Z1, Z2, Z3]) rfl ⟨rfl, below_set4 HB.out _ _ _ _⟩
set_option maxHeartbeats 800000 in
theorem leaseOf (k : ByteArray) (w : World) (hs : k.size ≤ 1000000) : Calls Tryd.prog 31 #[.string k] w fun e w' => e = .returned (encAo (ofK 4 0 k)) ∧ Below w.heap.size w w' := by
  have HB0 := Lib.hid (show Below w.heap.size w (w.alloc boxZ) from (Below.refl _ _).alloc (Nat.le_refl _) _)
  have HZC := Lib.hid (fun W (hb : Below (w.alloc boxZ).heap.size (w.alloc boxZ) W) => zeroA_kept hb)
  have HOF := Lib.hid (fun (W : World) => show Calls Tryd.prog 52 #[.string k, .int .u64 4, .int .i64 0] W _ from of0 k 4 W hs)
  obtain ⟨r, hr⟩ : ∃ r, r = ofK 4 0 k := ⟨_, rfl⟩
  rw [← hr] at HOF ⊢
  clear hr
  cases r with
  | none =>
    unfold encOf at HOF
    go_enter Tryd.func31, Tryd.ntmps31
    go_wp2_with fail
    refine (HOF.out _).mono ?_
    rintro e w1 ⟨rfl, hb⟩
    have HB := Lib.hid (below_step HB0.out hb HB0.out.size)
    have hz : w.heap.size < w1.heap.size := by have := hb.size; rw [World.size_alloc] at this; omega
    have Z0 := (HZC.out w1 hb).c0
    have G0 := (HZC.out w1 hb).f0
    have Z1 := (HZC.out w1 hb).c1
    have G1 := (HZC.out w1 hb).f1
    have Z2 := (HZC.out w1 hb).c2
    have G2 := (HZC.out w1 hb).f2
    clear hb
    go_wp2_with fail
    exact bodyPost_ret (v := encAo none) (by simp (maxDischargeDepth := 8) [results, Tryd.results31, go_sem, encAo, Z0, Z1, Z2, hz]) rfl ⟨rfl, by first | exact below_set3 HB.out _ _ _ | exact below_alloc1 (below_set3 HB.out _ _ _) (below_set3 HB.out _ _ _).size _ | exact below_set3 (below_alloc1 HB.out HB.out.size _) _ _ _⟩
  | some x =>
    obtain ⟨⟨f, hi, lo⟩, n⟩ := x
    unfold encOf at HOF
    go_enter Tryd.func31, Tryd.ntmps31
    go_wp2_with fail
    refine (HOF.out _).mono ?_
    rintro e w1 ⟨rfl, hb⟩
    have HB := Lib.hid (below_step HB0.out hb HB0.out.size)
    have hz : w.heap.size < w1.heap.size := by have := hb.size; rw [World.size_alloc] at this; omega
    have Z0 := (HZC.out w1 hb).c0
    have G0 := (HZC.out w1 hb).f0
    have Z1 := (HZC.out w1 hb).c1
    have G1 := (HZC.out w1 hb).f1
    have Z2 := (HZC.out w1 hb).c2
    have G2 := (HZC.out w1 hb).f2
    clear hb
    go_wp2_with fail
    exact bodyPost_ret (v := encAo (some ((f, hi, lo), n))) (by simp (maxDischargeDepth := 8) [results, Tryd.results31, go_sem, encAo, Z0, Z1, Z2, hz]) rfl ⟨rfl, by first | exact below_set3 HB.out _ _ _ | exact below_alloc1 (below_set3 HB.out _ _ _) (below_set3 HB.out _ _ _).size _ | exact below_set3 (below_alloc1 HB.out HB.out.size _) _ _ _⟩
end Go.Proofs.Tryd.Rows

/- rows: a client's key read. -/
set_option linter.unusedVariables false
set_option linter.unusedSimpArgs false
set_option maxRecDepth 100000
namespace Go.Proofs.Tryd.Rows
open Go.RowKit Go.Cph Go.Cph.Ok Go.Proofs.Tryd.Nu Go.Proofs.Tryd.Ok
def clientL : List Pt → Option UInt8
  | [a, b] => if eqP a (numP 7) = true ∧ b.text = false ∧ b.n.toNat ≤ 255 then some b.n.toUInt8 else none
  | _ => none
def clientO (k : ByteArray) : Option UInt8 := (Cph.Ok.parts k.data.toList).bind clientL
def encCo : Option UInt8 → Value
  | none => .tuple #[.int .u8 0, .bool false]
  | some c => .tuple #[.int .u8 (c.toNat : Int), .bool true]
theorem list_two {l : List Pt} (h : l.length = 2) : ∃ a b, l = [a, b] := by
  match l, h with
  | [a, b], _ => exact ⟨a, b, rfl⟩
theorem clientL_len {l : List Pt} (h : l.length ≠ 2) : clientL l = none := by
  match l, h with
  | [], _ => rfl
  | [_], _ => rfl
  | [_, _], h => exact absurd rfl h
  | _ :: _ :: _ :: _, _ => rfl
end Go.Proofs.Tryd.Rows

/- rows, plainly: the examples of awake. -/
set_option linter.unusedVariables false
set_option linter.unusedSimpArgs false
set_option maxRecDepth 100000
namespace Go.Proofs.Tryd.Rows
open Go.RowKit Go.Cph Go.Cph.Ok Go.Proofs.Tryd.Nu Go.Proofs.Tryd.Ok
open Go.Cph.Px (Ad Pf rightA bytesA rightP fromB fromOk)
theorem ten_right : rightP tenP = true := by decide
theorem some_right : rightA someA = true := by decide
theorem ten_rightA : rightA tenP.1 = true := by decide
theorem bits_ten : bitsU tenP = 8 := by decide
theorem keyP_keyA {kind : UInt64} {p : Pf} (h : rightP p = true) : keyP kind p = keyA kind p.1 [bitsU p] := by
  unfold keyP keyA
  rw [if_pos h, if_pos (right_bits h).2.2]
theorem prefK_bits {p : Pf} (h : rightP p = true) : prefK p.1 (bitsU p) = p := by
  have h8 := right_bits h
  unfold prefK bitsU
  refine Prod.ext rfl ?_
  show ((min (UInt64.ofNat p.2.toNat).toNat 65536 : Nat) : Int) = p.2
  rw [UInt64.toNat_ofNat']; omega
theorem prefixK_key {kind : UInt64} {p : Pf} (h : rightP p = true) : prefixK kind (keyP kind p) = some p := by
  unfold prefixK
  rw [keyP_keyA h, ofK_key1 kind (bitsU p) (right_bits h).2.2]
  show (if rightP (prefK p.1 (bitsU p)) then some (prefK p.1 (bitsU p)) else none) = _
  rw [prefK_bits h, if_pos h]
/-- A key of another kind is not read. -/
theorem ofK_other {kind kind2 : UInt64} {more : Nat} {a : Ad} {l : List UInt64} (hk : kind2 ≠ kind) : ofK kind more (keyA kind2 a l) = none := by
  unfold ofK keyA
  split
  · rw [ofBs_list, parts_partsL]
    show ofL kind more (numP kind2 :: numP a.1.toUInt64 :: strP (ofBs (bytesA a)) :: l.map numP) = none
    unfold ofL
    dsimp only
    rw [if_neg]
    rintro ⟨-, h, -⟩
    have := eqP_iff.1 h
    injection this with h1 h2 h3
    exact hk h3
  · show (Cph.Ok.parts []).bind _ = none
    rw [parts_nil]; rfl
theorem prefixK_other {kind kind2 : UInt64} {p : Pf} (hk : kind2 ≠ kind) : prefixK kind (keyP kind2 p) = none := by
  unfold prefixK
  cases h : rightP p with
  | false =>
    unfold keyP
    rw [h]
    show ((Cph.Ok.parts []).bind (ofL kind 1)).bind _ = none
    rw [parts_nil]; rfl
  | true => rw [keyP_keyA h, ofK_other hk]; rfl
theorem clockK_eq : clockK = ⟨#[1, 1]⟩ := by decide
theorem clientK_eq : clientK 9 = ⟨#[1, 7, 1, 9]⟩ := by decide
theorem eventKey_eq : keyA 6 someA [7] = ⟨#[1, 6, 1, 4, 2, 1, 2, 3, 4, 0, 1, 1, 7]⟩ := by decide
theorem eventV_eq : eventV 1 ⟨#[97]⟩ 5 15 = ⟨#[1, 5, 15, 1, 97]⟩ := by decide
theorem leaseV_eq : leaseV ⟨#[97]⟩ 15 = ⟨#[1, 97, 15]⟩ := by decide
end Go.Proofs.Tryd.Rows

/- law23: awake. -/
set_option linter.unusedVariables false
set_option linter.unusedSimpArgs false
set_option maxRecDepth 100000
namespace Go.Proofs.Tryd.Rows
open Go.RowKit Go.Cph Go.Cph.Ok Go.Proofs.Tryd.Nu Go.Proofs.Tryd.Ok
open Go.Cph.Px (Ad Pf rightA bytesA rightP fromB fromOk)
open Go.Proofs.Tryd.Pfx (encA bcell)
theorem keyP_small (kind : UInt64) (p : Pf) : (keyP kind p).size ≤ 1000000 := by
  unfold keyP; split
  · rw [ofBs_size]; have := parts_len kind p.1 [bitsU p]; simp at this; omega
  · exact Nat.zero_le _
set_option maxHeartbeats 800000 in
theorem awake_any (m : Int) (w : World) (hm : MaxAt m w) : Calls Tryd.prog 5 #[] w fun e w' => e = .returned (.bool true) ∧ Below w.heap.size w w' := by
  have HM := Lib.hid hm
  have HT := Lib.hid (fun (W : World) => show Calls Tryd.prog 32 #[] W (fun e w' => e = .returned (.agg #[.int .u8 4, .int .u64 0, .int .u64 167772160, .int .i64 8]) ∧ Below W.heap.size W w') from ten_any W)
  have HS := Lib.hid (fun (W : World) => show Calls Tryd.prog 33 #[] W (fun e w' => e = .returned (.agg #[.int .u8 4, .int .u64 0, .int .u64 16909060]) ∧ Below W.heap.size W w') from some_any W)
  have HP := Lib.hid (fun (W : World) (h : MaxAt m W) => show Calls Tryd.prog 19 #[.agg #[.int .u8 4, .int .u64 0, .int .u64 167772160, .int .i64 8]] W (fun e w' => e = .returned (.string (keyP 2 tenP)) ∧ Below W.heap.size W w') from poolKey tenP m W h)
  have HH := Lib.hid (fun (W : World) (h : MaxAt m W) => show Calls Tryd.prog 20 #[.agg #[.int .u8 4, .int .u64 0, .int .u64 167772160, .int .i64 8]] W (fun e w' => e = .returned (.string (keyP 3 tenP)) ∧ Below W.heap.size W w') from holdKey tenP m W h)
  have HO2 := Lib.hid (fun (W : World) => show Calls Tryd.prog 30 #[.string (keyP 2 tenP)] W (fun e w' => e = .returned (.tuple #[.agg #[.int .u8 4, .int .u64 0, .int .u64 167772160, .int .i64 8], .bool true]) ∧ Below W.heap.size W w') from by have := poolOf (keyP 2 tenP) W (keyP_small _ _); rw [prefixK_key ten_right] at this; exact this)
  have HO3 := Lib.hid (fun (W : World) => show Calls Tryd.prog 30 #[.string (keyP 3 tenP)] W (fun e w' => e = .returned (.tuple #[.agg #[.int .u8 0, .int .u64 0, .int .u64 0, .int .i64 0], .bool false]) ∧ Below W.heap.size W w') from by have := poolOf (keyP 3 tenP) W (keyP_small _ _); rw [prefixK_other (by decide)] at this; exact this)
  have HE := Lib.hid (fun (W : World) => show Calls Tryd.prog 8 #[.int .i64 1, .string ⟨#[97]⟩, .int .u64 5, .int .u64 15] W (fun e w' => e = .returned (.tuple #[.string ⟨#[1, 5, 15, 1, 97]⟩, .int .i64 0]) ∧ Below W.heap.size W w') from by have := eventValue 1 ⟨#[97]⟩ 5 15 W (by decide); rw [eventV_eq] at this; exact this)
  have HL := Lib.hid (fun (W : World) => show Calls Tryd.prog 6 #[.string ⟨#[97]⟩, .int .u64 15] W (fun e w' => e = .returned (.tuple #[.string ⟨#[1, 97, 15]⟩, .int .i64 0]) ∧ Below W.heap.size W w') from by have := leaseValue ⟨#[97]⟩ 15 W (by decide); rw [leaseV_eq] at this; exact this)
  have HC := Lib.hid (fun (W : World) (h : MaxAt m W) => show Calls Tryd.prog 27 #[] W (fun e w' => e = .returned (.string ⟨#[1, 1]⟩) ∧ Below W.heap.size W w') from by have := clockKey m W h; rw [clockK_eq] at this; exact this)
  have HN := Lib.hid (fun (W : World) (h : MaxAt m W) => show Calls Tryd.prog 29 #[.int .u8 9] W (fun e w' => e = .returned (.string ⟨#[1, 7, 1, 9]⟩) ∧ Below W.heap.size W w') from by have := clientKey 9 m W h; rw [clientK_eq] at this; exact this)
  have HEK := Lib.hid (fun (W : World) (h : MaxAt m W) => show Calls Tryd.prog 26 #[.agg #[.int .u8 4, .int .u64 0, .int .u64 16909060], .int .u64 7] W (fun e w' => e = .returned (.string ⟨#[1, 6, 1, 4, 2, 1, 2, 3, 4, 0, 1, 1, 7]⟩) ∧ Below W.heap.size W w') from by have := eventKey someA 7 m W h; rw [eventKey_eq] at this; exact this)
  have hqq : ∀ W, (binOp .eql 42 (.agg #[.int .u8 4, .int .u64 0, .int .u64 167772160, .int .i64 8]) (.agg #[.int .u8 4, .int .u64 0, .int .u64 167772160, .int .i64 8])).run Tryd.prog W = .ok (.bool true) W := fun W => by go_simp
  obtain ⟨K2, hK2⟩ : ∃ K, K = keyP 2 tenP := ⟨_, rfl⟩
  obtain ⟨K3, hK3⟩ : ∃ K, K = keyP 3 tenP := ⟨_, rfl⟩
  rw [← hK2] at HP HO2
  rw [← hK3] at HH HO3
  clear hm hK2 hK3
  go_enter Tryd.func5, Tryd.ntmps5
  go_wp2_with fail
  refine (HT.out _).mono ?_
  rintro e w1 ⟨rfl, hb⟩
  have HB := Lib.hid hb
  clear hb
  go_wp2_with fail
  refine (HP.out _ (max_kept HM.out HB.out)).mono ?_
  rintro e w2 ⟨rfl, hb⟩
  replace HB := Lib.hid (below_step HB.out hb HB.out.size)
  clear hb
  go_wp2_with fail
  refine (HO2.out _).mono ?_
  rintro e w3 ⟨rfl, hb⟩
  replace HB := Lib.hid (below_step HB.out hb HB.out.size)
  clear hb
  have HX := Lib.hid (heap_alloc_new w3 (.cells #[.int .u8 4, .int .u64 0, .int .u64 167772160, .int .i64 8] 42))
  replace HB := Lib.hid (below_alloc1 HB.out HB.out.size (.cells #[.int .u8 4, .int .u64 0, .int .u64 167772160, .int .i64 8] 42))
  go_wp2_with fail
  refine (HT.out _).mono ?_
  rintro e w4 ⟨rfl, hb⟩
  replace HB := Lib.hid (below_step HB.out hb HB.out.size)
  replace HX := Lib.hid (blk_kept hb HX.out)
  clear hb
  go_wp2_with fail
  refine (HH.out _ (max_kept HM.out HB.out)).mono ?_
  rintro e w5 ⟨rfl, hb⟩
  replace HB := Lib.hid (below_step HB.out hb HB.out.size)
  replace HX := Lib.hid (blk_kept hb HX.out)
  clear hb
  go_wp2_with fail
  refine (HO3.out _).mono ?_
  rintro e w6 ⟨rfl, hb⟩
  replace HB := Lib.hid (below_step HB.out hb HB.out.size)
  replace HX := Lib.hid (blk_kept hb HX.out)
  clear hb
  replace HX := Lib.hid (blk_alloc HX.out (.cells #[.int .u8 0, .int .u64 0, .int .u64 0, .int .i64 0] 42))
  replace HB := Lib.hid (below_alloc1 HB.out HB.out.size (.cells #[.int .u8 0, .int .u64 0, .int .u64 0, .int .i64 0] 42))
  go_wp2_with fail
  refine (HE.out _).mono ?_
  rintro e w7 ⟨rfl, hb⟩
  replace HB := Lib.hid (below_step HB.out hb HB.out.size)
  replace HX := Lib.hid (blk_kept hb HX.out)
  clear hb
  go_wp2_with fail
  refine (HL.out _).mono ?_
  rintro e w8 ⟨rfl, hb⟩
  replace HB := Lib.hid (below_step HB.out hb HB.out.size)
  replace HX := Lib.hid (blk_kept hb HX.out)
  clear hb
  have hx := HX.out
  have q0 : ∀ zz : Later w8.heap.size w8, zz.val.cell? ⟨w3.heap.size, 0, none⟩ = some (.int .u8 4) := fun zz => Later.cell (by rw [blk_cell hx]; rfl) (blk_lt hx) zz
  have q1 : ∀ zz : Later w8.heap.size w8, zz.val.cell? ⟨w3.heap.size, 1, none⟩ = some (.int .u64 0) := fun zz => Later.cell (by rw [blk_cell hx]; rfl) (blk_lt hx) zz
  have q2 : ∀ zz : Later w8.heap.size w8, zz.val.cell? ⟨w3.heap.size, 2, none⟩ = some (.int .u64 167772160) := fun zz => Later.cell (by rw [blk_cell hx]; rfl) (blk_lt hx) zz
  have q3 : ∀ zz : Later w8.heap.size w8, zz.val.cell? ⟨w3.heap.size, 3, none⟩ = some (.int .i64 8) := fun zz => Later.cell (by rw [blk_cell hx]; rfl) (blk_lt hx) zz
  have HMQ := Lib.hid (fun (zz : Later w8.heap.size w8) => max_kept HM.out (below_step HB.out zz.prop HB.out.size))
  clear hx
  go_wp2_with fail
  refine wp_region_later w8.heap.size (by kernel_rfl) (by kernel_rfl) ?_
  repeat (go_big_quiet_step (first
    | (go_at_call 27; exact Later.calls (Nat.le_refl _) (HC.out _ (HMQ.out _)))
    | (go_at_call 29; exact Later.calls (Nat.le_refl _) (HN.out _ (HMQ.out _)))
    | (go_at_call 33; exact Later.calls (Nat.le_refl _) (HS.out _))
    | (go_at_call 26; exact Later.calls (Nat.le_refl _) (HEK.out _ (HMQ.out _)))
    | (go_at_call 32; exact Later.calls (Nat.le_refl _) (HT.out _))))
  refine wpQuiet_nil ?_
  rintro wq ⟨zz, rfl⟩
  have HBQ := Lib.hid (below_step HB.out zz.prop HB.out.size)
  go_wp2_with fail
  go_ret
  exact ⟨rfl, HBQ.out⟩
end Go.Proofs.Tryd.Rows

/- rows, plainly: what is read was written. -/
set_option linter.unusedVariables false
set_option linter.unusedSimpArgs false
set_option maxRecDepth 100000
namespace Go.Proofs.Tryd.Rows
open Go.RowKit Go.Cph Go.Cph.Ok Go.Proofs.Tryd.Nu Go.Proofs.Tryd.Ok
open Go.Cph.Px (Ad Pf rightA bytesA rightP fromB fromOk)
theorem bytesN_val : ∀ (r : List UInt8), Px.bytesN (Px.val r.reverse) r.reverse.length = r.reverse
  | [] => rfl
  | b :: r => by
    have hb := b.toNat_lt
    rw [List.reverse_cons, Px.val_snoc, List.length_append, List.length_singleton, Px.bytesN_succ]
    have h1 : (256 * Px.val r.reverse + b.toNat) / 256 = Px.val r.reverse := by omega
    rw [h1, bytesN_val r]
    congr 2
    apply UInt8.toNat_inj.1
    rw [UInt8.toNat_ofNat']; omega
theorem bytesN_of (l : List UInt8) : Px.bytesN (Px.val l) l.length = l := by
  have := bytesN_val l.reverse
  rwa [List.reverse_reverse] at this
end Go.Proofs.Tryd.Rows
