/- The document's rows: the keys of addresses and prefixes. -/
import Derived.Test.YtccopljpceolcaaDoorRoF
import Derived.Deep.DeepCutAuto
import Derived.Laws.OwnMore
import Derived.Deep.RegionHeld3
import Derived.Deep.RegionHeldLaw
set_option linter.unusedVariables false
set_option linter.unusedSimpArgs false
set_option maxRecDepth 100000
namespace Go.Proofs.Tryd.Rows
open Go.RowKit Go.Cph Go.Cph.Ok Go.Proofs.Tryd.Nu Go.Proofs.Tryd.Ok
open Go.Cph.Px (Ad Pf rightA bytesA rightP)
open Go.Proofs.Tryd.Pfx (encA bcell)
abbrev boxRA (a : Ad) : Obj := .cells #[.int .u8 (a.1.toNat : Int), .int .u64 (a.2.1.toNat : Int), .int .u64 (a.2.2.toNat : Int)] 27 (0, 0)
abbrev boxRP (p : Pf) : Obj := .cells #[.int .u8 (p.1.1.toNat : Int), .int .u64 (p.1.2.1.toNat : Int), .int .u64 (p.1.2.2.toNat : Int), .int .i64 p.2] 29 (0, 0)
theorem rbytesS (a : Ad) (h : rightA a = true) (W : World) : Calls Tryd.prog 61 #[encA a] W fun e w' => ∃ g cap n, e = .returned (.slice (some ⟨g, 0, none⟩) n cap) ∧ (∀ W', Below w'.heap.size w' W' → (convert 63 9 (.slice (some ⟨g, 0, none⟩) n cap)).run Tryd.prog W' = .ok (.string (ofBs (bytesA a))) W') ∧ Below W.heap.size W w' := by
  refine (Pfx.rbytes a W).mono ?_
  rintro e w' ⟨v, rfl, ho, hb⟩
  have hl : 0 < (bytesA a).length := by
    have := bytes_size h
    rcases Nat.eq_zero_or_pos (bytesA a).length with h0 | h0
    · rw [h0] at this
      unfold Px.fromOk at this
      simp at this
    · exact h0
  obtain ⟨g, cap, rfl, h1, h2, h3, h4, h5⟩ := owns_shape ho hl
  refine ⟨g, cap, _, rfl, fun W' hW => ?_, hb⟩
  refine run_string_of_bytes W' _ _ 5 Tryd.underlying63 Tryd.underlying5 Tryd.underlying9 g cap (bytesA a) fun j hj => ?_
  have hj1 : j < (bytesA a).length * 1 := by omega
  refine cell_kept hW ?_
  rw [h4 j hj1]
  have := flat_at Pfx.encB_len (bytesA a) j hj 0 (by decide)
  rw [Nat.mul_one, Nat.add_zero] at this
  rw [this, List.getD_eq_getElem?_getD, List.getElem?_eq_getElem hj]; rfl
theorem rpts_three (w : World) (p q r : Pt) : PtsAt (w.alloc (.cells #[.bool p.text, .string p.s, .int .u64 (p.n.toNat : Int), .bool q.text, .string q.s, .int .u64 (q.n.toNat : Int), .bool r.text, .string r.s, .int .u64 (r.n.toNat : Int)] 88 (0, 0))) (.slice (some ⟨w.heap.size, 0, none⟩) 3 3) [p, q, r] :=
  ⟨⟨_, _, rfl, fun _ => ⟨w.heap.size, 0, rfl, fun j hj => by
    rw [Nat.zero_add, blk_cell (heap_alloc_new w _)]
    have hj6 : j < 9 := by simpa using hj
    rcases (show j = 0 ∨ j = 1 ∨ j = 2 ∨ j = 3 ∨ j = 4 ∨ j = 5 ∨ j = 6 ∨ j = 7 ∨ j = 8 by omega) with rfl | rfl | rfl | rfl | rfl | rfl | rfl | rfl | rfl <;> rfl⟩⟩, rfl⟩
theorem rpts_four (w : World) (p q r s : Pt) : PtsAt (w.alloc (.cells #[.bool p.text, .string p.s, .int .u64 (p.n.toNat : Int), .bool q.text, .string q.s, .int .u64 (q.n.toNat : Int), .bool r.text, .string r.s, .int .u64 (r.n.toNat : Int), .bool s.text, .string s.s, .int .u64 (s.n.toNat : Int)] 88 (0, 0))) (.slice (some ⟨w.heap.size, 0, none⟩) 4 4) [p, q, r, s] :=
  ⟨⟨_, _, rfl, fun _ => ⟨w.heap.size, 0, rfl, fun j hj => by
    rw [Nat.zero_add, blk_cell (heap_alloc_new w _)]
    have hj6 : j < 12 := by simpa using hj
    rcases (show j = 0 ∨ j = 1 ∨ j = 2 ∨ j = 3 ∨ j = 4 ∨ j = 5 ∨ j = 6 ∨ j = 7 ∨ j = 8 ∨ j = 9 ∨ j = 10 ∨ j = 11 by omega) with rfl | rfl | rfl | rfl | rfl | rfl | rfl | rfl | rfl | rfl | rfl | rfl <;> rfl⟩⟩, rfl⟩
set_option maxHeartbeats 3200000 in
theorem raddr (kind : UInt64) (a : Ad) (w : World) :
    Calls Tryd.prog 15 #[.int .u64 (kind.toNat : Int), encA a] w fun e w' => e = .returned (.string (keyA kind a [])) ∧ Below w.heap.size w w' := by
  have HRT := Lib.hid (fun W => Pfx.rright a W)
  have HBX := Lib.hid (show Below w.heap.size w (w.alloc (boxRA a)) from (Below.refl _ _).alloc (Nat.le_refl _) _)
  have HC0 := Lib.hid (fun W (hb : Below (w.alloc (boxRA a)).heap.size (w.alloc (boxRA a)) W) => show W.cell? ⟨w.heap.size, 0, none⟩ = some (.int .u8 (a.1.toNat : Int)) ∧ W.cell? ⟨w.heap.size, 1, none⟩ = some (.int .u64 (a.2.1.toNat : Int)) ∧ W.cell? ⟨w.heap.size, 2, none⟩ = some (.int .u64 (a.2.2.toNat : Int)) from by
    have h := blk_kept hb (heap_alloc_new w (boxRA a))
    exact ⟨by rw [blk_cell h]; rfl, by rw [blk_cell h]; rfl, by rw [blk_cell h]; rfl⟩)
  have HBW := Lib.hid (fun W (hb : Below (w.alloc (boxRA a)).heap.size (w.alloc (boxRA a)) W) => show Below w.heap.size w W from ((Below.refl _ _).alloc (Nat.le_refl _) _).trans (hb.mono (by rw [World.size_alloc]; omega)))
  have HV := Lib.hid (show keyA kind a [] = if rightA a then ofBs (key [numP kind, numP a.1.toUInt64, strP (ofBs (bytesA a))]) else ⟨#[]⟩ from rfl)
  cases hr : rightA a with
  | false =>
    rw [hr] at HRT HV
    clear hr
    obtain ⟨f, hi, lo⟩ := a
    go_enter Tryd.func15, Tryd.ntmps15
    go_wp2_with fail
    refine (HRT.out _).mono ?_
    rintro e w1 ⟨rfl, hb⟩
    have HB := Lib.hid (below_step HBX.out hb HBX.out.size)
    clear hb
    go_wp2_with fail
    go_ret
    exact ⟨ret_s (by rw [HV.out]; rfl), HB.out⟩
  | true =>
    have HLN := Lib.hid (show (key [numP kind, numP a.1.toUInt64, strP (ofBs (bytesA a))]).length ≤ 1000000000 from by have h := parts_len kind a []; unfold partsL headL at h; simp at h; omega)
    have HBY := Lib.hid (fun W => rbytesS a hr W)
    have HN1 := Lib.hid (fun (W : World) => show Calls Tryd.prog 59 #[.int .u64 (kind.toNat : Int)] W (fun e w' => e = .returned (.agg #[.bool false, .string ⟨#[]⟩, .int .u64 (kind.toNat : Int)]) ∧ Below W.heap.size W w') from rnum kind W)
    have HN2 := Lib.hid (fun (W : World) => show Calls Tryd.prog 59 #[.int .u64 (a.1.toNat : Int)] W (fun e w' => e = .returned (.agg #[.bool false, .string ⟨#[]⟩, .int .u64 (a.1.toNat : Int)]) ∧ Below W.heap.size W w') from by rw [← fam64 a.1]; exact rnum a.1.toUInt64 W)
    obtain ⟨K, hK⟩ : ∃ K, K = keyA kind a [] := ⟨_, rfl⟩
    obtain ⟨sb, hsb⟩ : ∃ sb, sb = ofBs (bytesA a) := ⟨_, rfl⟩
    rw [hr] at HRT HV
    rw [← hK, ← hsb] at HV
    rw [← hsb] at HBY HLN
    have HST := Lib.hid (fun (W : World) => show Calls Tryd.prog 60 #[.string sb] W (fun e w' => e = .returned (.agg #[.bool true, .string sb, .int .u64 0]) ∧ Below W.heap.size W w') from rstr sb W)
    have HKY := Lib.hid (fun (W : World) => show Calls Tryd.prog 58 #[.slice (some ⟨W.heap.size, 0, none⟩) 3 3] (W.alloc (.cells #[.bool false, .string ⟨#[]⟩, .int .u64 (kind.toNat : Int), .bool false, .string ⟨#[]⟩, .int .u64 (a.1.toNat : Int), .bool true, .string sb, .int .u64 0] 88)) (fun e w' => e = .returned (.string K) ∧ Below (W.alloc (.cells #[.bool false, .string ⟨#[]⟩, .int .u64 (kind.toNat : Int), .bool false, .string ⟨#[]⟩, .int .u64 (a.1.toNat : Int), .bool true, .string sb, .int .u64 0] 88)).heap.size (W.alloc (.cells #[.bool false, .string ⟨#[]⟩, .int .u64 (kind.toNat : Int), .bool false, .string ⟨#[]⟩, .int .u64 (a.1.toNat : Int), .bool true, .string sb, .int .u64 0] 88)) w') from by
      have h := rpts_three W (numP kind) (numP a.1.toUInt64) (strP sb)
      rw [show ((numP a.1.toUInt64).n.toNat : Int) = (a.1.toNat : Int) from fam64 a.1] at h
      have h2 := rkey_any _ _ _ h (by simp) HLN.out
      rw [show K = ofBs (key [numP kind, numP a.1.toUInt64, strP sb]) from HV.out]
      exact h2)
    rw [← hK]
    clear hr hsb hK
    obtain ⟨f, hi, lo⟩ := a
    go_enter Tryd.func15, Tryd.ntmps15
    go_wp2_with fail
    refine (HRT.out _).mono ?_
    rintro e w1 ⟨rfl, hb⟩
    have HB := Lib.hid hb.drew
    have c0 := (HC0.out w1 hb).1
    have c1 := (HC0.out w1 hb).2.1
    have c2 := (HC0.out w1 hb).2.2
    clear hb
    go_wp2_with fail
    clear c0 c1 c2
    go_cut [4] (fun s4 W => s4 = .string K ∧ Below w.heap.size w W)
    case first =>
      go_region_held_law (fun W => W.cell? ⟨w.heap.size, 0, none⟩ = some (.int .u8 (f.toNat : Int)) ∧ W.cell? ⟨w.heap.size, 1, none⟩ = some (.int .u64 (hi.toNat : Int)) ∧ W.cell? ⟨w.heap.size, 2, none⟩ = some (.int .u64 (lo.toNat : Int)))
        (((refine HC0.out _ ?_); (first | exact HB.out | exact HB.out.drew | exact HB.out.alloc HB.out.size _)))
        (first
          | (go_at_call 59; (first | (with_reducible refine (HN1.out _).mono ?_) | (with_reducible refine (HN2.out _).mono ?_)); rintro r u ⟨rfl, hb⟩; replace HB := Lib.hid (HB.out.trans (hb.mono HB.out.size)); clear hb)
          | (go_at_call 61; refine (HBY.out _).mono ?_; rintro r u ⟨g, cp, n, rfl, hcv, hb⟩; have hq := hcv u (Below.refl _ _); replace HB := Lib.hid (HB.out.trans (hb.mono HB.out.size)); clear hb hcv)
          | (go_at_call 60; refine (HST.out _).mono ?_; rintro r u ⟨rfl, hb⟩; replace HB := Lib.hid (HB.out.trans (hb.mono HB.out.size)); clear hb)
          | (go_at_call 58; refine (HKY.out _).mono ?_; rintro r u ⟨rfl, hb⟩; replace HB := Lib.hid ((HB.out.alloc HB.out.size _).trans (hb.mono (HB.out.alloc HB.out.size _).size)); clear hb))
      all_goals
        go_wp2_with fail
        go_meet
        case rel => exact ⟨rfl, HBW.out _ HB.out⟩
    case rest =>
      obtain ⟨rfl, hb⟩ := hcut
      have HBC := Lib.hid hb
      clear hb
      go_wp2_with fail
      go_ret
      exact ⟨rfl, HBC.out⟩
set_option maxHeartbeats 1600000 in
theorem revent (a : Ad) (n : UInt64) (w : World) : Calls Tryd.prog 18 #[encA a, .int .u64 (n.toNat : Int)] w fun e w' => e = .returned (.string (keyA 6 a [n])) ∧ Below w.heap.size w w' := by
  have HRT := Lib.hid (fun W => Pfx.rright a W)
  have HBX := Lib.hid (show Below w.heap.size w (w.alloc (boxRA a)) from (Below.refl _ _).alloc (Nat.le_refl _) _)
  have HC0 := Lib.hid (fun W (hb : Below (w.alloc (boxRA a)).heap.size (w.alloc (boxRA a)) W) => show W.cell? ⟨w.heap.size, 0, none⟩ = some (.int .u8 (a.1.toNat : Int)) ∧ W.cell? ⟨w.heap.size, 1, none⟩ = some (.int .u64 (a.2.1.toNat : Int)) ∧ W.cell? ⟨w.heap.size, 2, none⟩ = some (.int .u64 (a.2.2.toNat : Int)) from by
    have h := blk_kept hb (heap_alloc_new w (boxRA a))
    exact ⟨by rw [blk_cell h]; rfl, by rw [blk_cell h]; rfl, by rw [blk_cell h]; rfl⟩)
  have HV := Lib.hid (show keyA 6 a [n] = if rightA a then ofBs (key (partsL 6 a [n])) else ⟨#[]⟩ from rfl)
  have HN := Lib.hid (fun (W : World) => show Calls Tryd.prog 59 #[.int .u64 (n.toNat : Int)] W (fun e w' => e = .returned (.agg #[.bool false, .string ⟨#[]⟩, .int .u64 (n.toNat : Int)]) ∧ Below W.heap.size W w') from rnum n W)
  have HO := Lib.hid (fun (W : World) => show Calls Tryd.prog 64 #[.agg #[.bool false, .string ⟨#[]⟩, .int .u64 (n.toNat : Int)]] W (fun e w' => e = .returned (.string (ofBs (Cph.Ok.bytes (numP n)))) ∧ Below W.heap.size W w') from rone_any (numP n) W (by have := num_len n; omega))
  have HA := Lib.hid (fun W => raddr 6 a W)
  cases hr : rightA a with
  | false =>
    rw [hr] at HRT HV
    clear hr
    obtain ⟨f, hi, lo⟩ := a
    go_enter Tryd.func18, Tryd.ntmps18
    go_wp2_with fail
    refine (HRT.out _).mono ?_
    rintro e w1 ⟨rfl, hb⟩
    have HB := Lib.hid (below_step HBX.out hb HBX.out.size)
    clear hb
    go_wp2_with fail
    go_ret
    exact ⟨ret_s (by rw [HV.out]; rfl), HB.out⟩
  | true =>
    have hz := parts_len 6 a []
    have hz2 : (keyA 6 a []).size ≤ 60 := by
      unfold keyA; rw [if_pos hr, ofBs_size]; simpa using hz
    have HX := Lib.hid (show keyA 6 a [] ++ ofBs (Cph.Ok.bytes (numP n)) = keyA 6 a [n] from by
      unfold keyA
      rw [if_pos hr, if_pos hr, ofBs_app]
      apply list_eq2
      rw [ofBs_list, ofBs_list]
      show key (headL 6 a ++ []) ++ Cph.Ok.bytes (numP n) = key (headL 6 a ++ [numP n])
      rw [List.append_nil, key_append]
      show _ = key (headL 6 a) ++ (Cph.Ok.bytes (numP n) ++ [])
      rw [List.append_nil])
    have hz3 : (ofBs (Cph.Ok.bytes (numP n))).size ≤ 10 := by rw [ofBs_size]; exact num_len n
    rw [hr] at HRT
    obtain ⟨K, hK⟩ : ∃ K, K = keyA 6 a [n] := ⟨_, rfl⟩
    obtain ⟨X, hX⟩ : ∃ X, X = keyA 6 a [] := ⟨_, rfl⟩
    obtain ⟨Y, hY⟩ : ∃ Y, Y = ofBs (Cph.Ok.bytes (numP n)) := ⟨_, rfl⟩
    rw [← hK, ← hX, ← hY] at HX
    rw [← hX] at hz2 HA
    rw [← hY] at hz3 HO
    rw [← hK]
    have HA2 := Lib.hid (fun (W : World) => show Calls Tryd.prog 15 #[.int .u64 6, encA a] W (fun e w' => e = .returned (.string X) ∧ Below W.heap.size W w') from HA.out W)
    have z2 : (X.size : Int) ≤ 60 := by omega
    have z3 : (Y.size : Int) ≤ 10 := by omega
    clear hr hz hK hX hY HV HA
    obtain ⟨f, hi, lo⟩ := a
    go_enter Tryd.func18, Tryd.ntmps18
    go_wp2_with fail
    refine (HRT.out _).mono ?_
    rintro e w1 ⟨rfl, hb⟩
    have HB := Lib.hid (below_step HBX.out hb HBX.out.size)
    have c0 := (HC0.out w1 hb).1
    have c1 := (HC0.out w1 hb).2.1
    have c2 := (HC0.out w1 hb).2.2
    clear hb
    go_wp2_with fail
    refine (HA2.out _).mono ?_
    rintro e w2 ⟨rfl, hb⟩
    replace HB := Lib.hid (below_step HB.out hb HB.out.size)
    clear hb
    go_wp2_with fail
    refine (HN.out _).mono ?_
    rintro e w3 ⟨rfl, hb⟩
    replace HB := Lib.hid (below_step HB.out hb HB.out.size)
    clear hb
    go_wp2_with fail
    refine (HO.out _).mono ?_
    rintro e w4 ⟨rfl, hb⟩
    replace HB := Lib.hid (below_step HB.out hb HB.out.size)
    clear hb
    go_wp2_with fail
    go_ret
    exact ⟨ret_s HX.out, HB.out⟩
set_option maxHeartbeats 3200000 in
theorem rprefix (kind : UInt64) (p : Pf) (w : World) :
    Calls Tryd.prog 12 #[.int .u64 (kind.toNat : Int), Pfx.encP p] w fun e w' => e = .returned (.string (keyP kind p)) ∧ Below w.heap.size w w' := by
  have HRT := Lib.hid (fun W => Pfx.rrightP p W)
  have HBX := Lib.hid (show Below w.heap.size w (w.alloc (boxRP p)) from (Below.refl _ _).alloc (Nat.le_refl _) _)
  have HC0 := Lib.hid (fun W (hb : Below (w.alloc (boxRP p)).heap.size (w.alloc (boxRP p)) W) => show W.cell? ⟨w.heap.size, 0, none⟩ = some (.int .u8 (p.1.1.toNat : Int)) ∧ W.cell? ⟨w.heap.size, 1, none⟩ = some (.int .u64 (p.1.2.1.toNat : Int)) ∧ W.cell? ⟨w.heap.size, 2, none⟩ = some (.int .u64 (p.1.2.2.toNat : Int)) ∧ W.cell? ⟨w.heap.size, 3, none⟩ = some (.int .i64 p.2) from by
    have h := blk_kept hb (heap_alloc_new w (boxRP p))
    exact ⟨by rw [blk_cell h]; rfl, by rw [blk_cell h]; rfl, by rw [blk_cell h]; rfl, by rw [blk_cell h]; rfl⟩)
  have HBW := Lib.hid (fun W (hb : Below (w.alloc (boxRP p)).heap.size (w.alloc (boxRP p)) W) => show Below w.heap.size w W from ((Below.refl _ _).alloc (Nat.le_refl _) _).trans (hb.mono (by rw [World.size_alloc]; omega)))
  have HV := Lib.hid (show keyP kind p = if rightP p then ofBs (key [numP kind, numP p.1.1.toUInt64, strP (ofBs (bytesA p.1)), numP (bitsU p)]) else ⟨#[]⟩ from rfl)
  cases hr : rightP p with
  | false =>
    rw [hr] at HRT HV
    clear hr
    obtain ⟨⟨f, hi, lo⟩, bits⟩ := p
    go_enter Tryd.func12, Tryd.ntmps12
    go_wp2_with fail
    refine (HRT.out _).mono ?_
    rintro e w1 ⟨rfl, hb⟩
    have HB := Lib.hid (below_step HBX.out hb HBX.out.size)
    clear hb
    go_wp2_with fail
    go_ret
    exact ⟨ret_s (by rw [HV.out]; rfl), HB.out⟩
  | true =>
    have HLN := Lib.hid (show (key [numP kind, numP p.1.1.toUInt64, strP (ofBs (bytesA p.1)), numP (bitsU p)]).length ≤ 1000000000 from by have h := parts_len kind p.1 [bitsU p]; unfold partsL headL at h; simp at h; omega)
    have HBY := Lib.hid (fun W => rbytesS p.1 (right_bits hr).2.2 W)
    have HN1 := Lib.hid (fun (W : World) => show Calls Tryd.prog 59 #[.int .u64 (kind.toNat : Int)] W (fun e w' => e = .returned (.agg #[.bool false, .string ⟨#[]⟩, .int .u64 (kind.toNat : Int)]) ∧ Below W.heap.size W w') from rnum kind W)
    have HN2 := Lib.hid (fun (W : World) => show Calls Tryd.prog 59 #[.int .u64 (p.1.1.toNat : Int)] W (fun e w' => e = .returned (.agg #[.bool false, .string ⟨#[]⟩, .int .u64 (p.1.1.toNat : Int)]) ∧ Below W.heap.size W w') from by rw [← fam64 p.1.1]; exact rnum p.1.1.toUInt64 W)
    have h8 := right_bits hr
    have kb : IntKind.u64.wrap p.2 = ((bitsU p).toNat : Int) := by
      unfold bitsU; rw [IntKind.wrap_u64, UInt64.toNat_ofNat']; omega
    obtain ⟨u, hu⟩ : ∃ u, u = bitsU p := ⟨_, rfl⟩
    rw [← hu] at HLN HV kb
    have HN3 := Lib.hid (fun (W : World) => show Calls Tryd.prog 59 #[.int .u64 (u.toNat : Int)] W (fun e w' => e = .returned (.agg #[.bool false, .string ⟨#[]⟩, .int .u64 (u.toNat : Int)]) ∧ Below W.heap.size W w') from rnum u W)
    clear hu h8
    obtain ⟨K, hK⟩ : ∃ K, K = keyP kind p := ⟨_, rfl⟩
    obtain ⟨sb, hsb⟩ : ∃ sb, sb = ofBs (bytesA p.1) := ⟨_, rfl⟩
    rw [hr] at HRT HV
    rw [← hK, ← hsb] at HV
    rw [← hsb] at HBY HLN
    have HST := Lib.hid (fun (W : World) => show Calls Tryd.prog 60 #[.string sb] W (fun e w' => e = .returned (.agg #[.bool true, .string sb, .int .u64 0]) ∧ Below W.heap.size W w') from rstr sb W)
    have HKY := Lib.hid (fun (W : World) => show Calls Tryd.prog 58 #[.slice (some ⟨W.heap.size, 0, none⟩) 4 4] (W.alloc (.cells #[.bool false, .string ⟨#[]⟩, .int .u64 (kind.toNat : Int), .bool false, .string ⟨#[]⟩, .int .u64 (p.1.1.toNat : Int), .bool true, .string sb, .int .u64 0, .bool false, .string ⟨#[]⟩, .int .u64 (u.toNat : Int)] 88)) (fun e w' => e = .returned (.string K) ∧ Below (W.alloc (.cells #[.bool false, .string ⟨#[]⟩, .int .u64 (kind.toNat : Int), .bool false, .string ⟨#[]⟩, .int .u64 (p.1.1.toNat : Int), .bool true, .string sb, .int .u64 0, .bool false, .string ⟨#[]⟩, .int .u64 (u.toNat : Int)] 88)).heap.size (W.alloc (.cells #[.bool false, .string ⟨#[]⟩, .int .u64 (kind.toNat : Int), .bool false, .string ⟨#[]⟩, .int .u64 (p.1.1.toNat : Int), .bool true, .string sb, .int .u64 0, .bool false, .string ⟨#[]⟩, .int .u64 (u.toNat : Int)] 88)) w') from by
      have h := rpts_four W (numP kind) (numP p.1.1.toUInt64) (strP sb) (numP u)
      rw [show ((numP p.1.1.toUInt64).n.toNat : Int) = (p.1.1.toNat : Int) from fam64 p.1.1] at h
      have h2 := rkey_any _ _ _ h (by simp) HLN.out
      rw [show K = ofBs (key [numP kind, numP p.1.1.toUInt64, strP sb, numP u]) from HV.out]
      exact h2)
    rw [← hK]
    clear hr hsb hK
    obtain ⟨⟨f, hi, lo⟩, bits⟩ := p
    go_enter Tryd.func12, Tryd.ntmps12
    go_wp2_with fail
    refine (HRT.out _).mono ?_
    rintro e w1 ⟨rfl, hb⟩
    have HB := Lib.hid hb.drew
    have c0 := (HC0.out w1 hb).1
    have c1 := (HC0.out w1 hb).2.1
    have c2 := (HC0.out w1 hb).2.2.1
    have c3 := (HC0.out w1 hb).2.2.2
    clear hb
    go_wp2_with fail
    clear c0 c1 c2 c3
    go_cut [4] (fun s4 W => s4 = .string K ∧ Below w.heap.size w W)
    case first =>
      go_region_held_law (fun W => W.cell? ⟨w.heap.size, 0, none⟩ = some (.int .u8 (f.toNat : Int)) ∧ W.cell? ⟨w.heap.size, 1, none⟩ = some (.int .u64 (hi.toNat : Int)) ∧ W.cell? ⟨w.heap.size, 2, none⟩ = some (.int .u64 (lo.toNat : Int)) ∧ W.cell? ⟨w.heap.size, 3, none⟩ = some (.int .i64 bits))
        (((refine HC0.out _ ?_); (first | exact HB.out | exact HB.out.drew | exact HB.out.alloc HB.out.size _)))
        (first
          | (go_at_call 59; (first | (with_reducible refine (HN1.out _).mono ?_) | (with_reducible refine (HN2.out _).mono ?_) | (with_reducible refine (HN3.out _).mono ?_)); rintro r u ⟨rfl, hb⟩; replace HB := Lib.hid (HB.out.trans (hb.mono HB.out.size)); clear hb)
          | (go_at_call 61; refine (HBY.out _).mono ?_; rintro r u ⟨g, cp, n, rfl, hcv, hb⟩; have hq := hcv u (Below.refl _ _); replace HB := Lib.hid (HB.out.trans (hb.mono HB.out.size)); clear hb hcv)
          | (go_at_call 60; refine (HST.out _).mono ?_; rintro r u ⟨rfl, hb⟩; replace HB := Lib.hid (HB.out.trans (hb.mono HB.out.size)); clear hb)
          | (go_at_call 58; refine (HKY.out _).mono ?_; rintro r u ⟨rfl, hb⟩; replace HB := Lib.hid ((HB.out.alloc HB.out.size _).trans (hb.mono (HB.out.alloc HB.out.size _).size)); clear hb))
      all_goals
        go_wp2_with fail
        go_meet
        case rel => exact ⟨rfl, HBW.out _ HB.out⟩
    case rest =>
      obtain ⟨rfl, hb⟩ := hcut
      have HBC := Lib.hid hb
      clear hb
      go_wp2_with fail
      go_ret
      exact ⟨rfl, HBC.out⟩
end Go.Proofs.Tryd.Rows
