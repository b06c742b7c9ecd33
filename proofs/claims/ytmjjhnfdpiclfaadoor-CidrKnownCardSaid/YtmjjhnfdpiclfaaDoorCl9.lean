/- CidrKnown: the chapter's examples; the walk. -/
import Derived.Test.YtmjjhnfdpiclfaaDoorCq7
set_option linter.unusedVariables false
set_option linter.unusedSimpArgs false
set_option maxRecDepth 100000
namespace Go.Proofs.Tryd.Cd
open Go.RowKit Go.Cph Go.Cph.Tx Go.Cph.Px Go.Cph.Cv Go.Proofs.Tryd.Tx Go.Proofs.Tryd.Pfx
open Go.Cph.Ok (ofBs)
open Go.Proofs.Tryd.Rows (boxZ)
abbrev ALL : Ad := (6, 18446744073709551615, 18446744073709551615)
theorem kn_half : halvesP PA = (((4, 0, 167772160), 9), ((4, 0, 176160768), 9), true) := by decide +kernel
theorem kn_one : halvesP ((4, 0, 7), 32) = (zeroP, zeroP, false) := by decide +kernel
theorem kn_cut1 : cutP (4, 0, 167838211) 33 = zeroP ∧ cutE (4, 0, 167838211) 33 = 1 := by decide +kernel
theorem kn_cut2 : cutP (4, 0, 4294967296) 8 = zeroP ∧ cutE (4, 0, 4294967296) 8 = 1 := by decide +kernel
theorem kn_all : coverP (6, 0, 0) ALL = [((6, 0, 0), 0)] := by decide +kernel
theorem kn_len : (coverP (6, 0, 1) ALL).length = 128 := by decide +kernel
theorem kn_w1 : coverP (4, 0, 2) (4, 0, 1) = [] := by decide +kernel
theorem kn_w2 : coverP (4, 0, 0) ALL = [] := by decide +kernel
theorem kn_w3 : coverP (4, 0, 0) (4, 0, 4294967296) = [] := by decide +kernel
theorem kn_h1 : hasP PA (4, 0, 184483840) = true := by decide +kernel
theorem kn_h2 : hasP PA (4, 0, 184549376) = false := by decide +kernel
theorem kn_m : meets PA ((4, 0, 184549376), 16) = false := by decide +kernel
theorem kn_b1 : before PA ((4, 0, 167772160), 9) = true := by decide +kernel
theorem kn_b2 : before PA PA = false := by decide +kernel
theorem kn_b3 : before ((4, 0, 167837696), 16) PA = false := by decide +kernel
theorem kn_text : textP ((6, 0, 0), 0) = [58, 58, 47, 48] := by decide +kernel
theorem kn_last : lastR ((6, 0, 0), 0) = ALL := by decide +kernel
def SS : List Bs := [[49, 48, 46, 49, 46, 48, 46, 48, 47, 56], [49, 48, 46, 48, 46, 48, 46, 48, 47, 48, 56], [58, 58, 47, 49, 50, 57], [49, 48, 46, 48, 46, 48, 46, 48], [49, 48, 46, 48, 46, 48, 46, 48, 47], [47, 56], [49, 48, 46, 48, 46, 48, 46, 48, 47, 45, 49], [49, 48, 46, 48, 46, 48, 46, 48, 47, 51, 51], [49, 48, 46, 48, 46, 48, 46, 48, 47, 56, 47, 56], [49, 48, 46, 48, 46, 48, 46, 48, 47, 43, 56], []]
theorem kn_s0 : ParseIs [49, 48, 46, 49, 46, 48, 46, 48, 47, 56] none := parse_other (a := (4, 0, 167837696)) (n := 8) (show slash ([49, 48, 46, 49, 46, 48, 46, 48, 47, 56] : Bs) = some ([49, 48, 46, 49, 46, 48, 46, 48], [56]) from by decide +kernel) (by decide +kernel) (by decide +kernel) (by decide +kernel)
theorem kn_s1 : ParseIs [49, 48, 46, 48, 46, 48, 46, 48, 47, 48, 56] none := parse_tail (show slash ([49, 48, 46, 48, 46, 48, 46, 48, 47, 48, 56] : Bs) = some ([49, 48, 46, 48, 46, 48, 46, 48], [48, 56]) from by decide +kernel) (by decide +kernel)
theorem kn_s2 : ParseIs [58, 58, 47, 49, 50, 57] none := parse_tail (show slash ([58, 58, 47, 49, 50, 57] : Bs) = some ([58, 58], [49, 50, 57]) from by decide +kernel) (by decide +kernel)
theorem kn_s3 : ParseIs [49, 48, 46, 48, 46, 48, 46, 48] none := parse_flat (by decide +kernel)
theorem kn_s4 : ParseIs [49, 48, 46, 48, 46, 48, 46, 48, 47] none := parse_tail (show slash ([49, 48, 46, 48, 46, 48, 46, 48, 47] : Bs) = some ([49, 48, 46, 48, 46, 48, 46, 48], []) from by decide +kernel) (by decide +kernel)
theorem kn_s5 : ParseIs [47, 56] none := parse_head (show slash ([47, 56] : Bs) = some ([], [56]) from by decide +kernel) (by decide +kernel)
theorem kn_s6 : ParseIs [49, 48, 46, 48, 46, 48, 46, 48, 47, 45, 49] none := parse_tail (show slash ([49, 48, 46, 48, 46, 48, 46, 48, 47, 45, 49] : Bs) = some ([49, 48, 46, 48, 46, 48, 46, 48], [45, 49]) from by decide +kernel) (by decide +kernel)
theorem kn_s7 : ParseIs [49, 48, 46, 48, 46, 48, 46, 48, 47, 51, 51] none := parse_other (a := (4, 0, 167772160)) (n := 33) (show slash ([49, 48, 46, 48, 46, 48, 46, 48, 47, 51, 51] : Bs) = some ([49, 48, 46, 48, 46, 48, 46, 48], [51, 51]) from by decide +kernel) (by decide +kernel) (by decide +kernel) (by decide +kernel)
theorem kn_s8 : ParseIs [49, 48, 46, 48, 46, 48, 46, 48, 47, 56, 47, 56] none := parse_tail (show slash ([49, 48, 46, 48, 46, 48, 46, 48, 47, 56, 47, 56] : Bs) = some ([49, 48, 46, 48, 46, 48, 46, 48], [56, 47, 56]) from by decide +kernel) (by decide +kernel)
theorem kn_s9 : ParseIs [49, 48, 46, 48, 46, 48, 46, 48, 47, 43, 56] none := parse_tail (show slash ([49, 48, 46, 48, 46, 48, 46, 48, 47, 43, 56] : Bs) = some ([49, 48, 46, 48, 46, 48, 46, 48], [43, 56]) from by decide +kernel) (by decide +kernel)
theorem kn_s10 : ParseIs [] none := parse_flat (by decide +kernel)
theorem ss_none : ∀ s ∈ SS, ParseIs s none := by
  intro s hs
  simp only [SS, List.mem_cons, List.not_mem_nil, or_false] at hs
  rcases hs with rfl | rfl | rfl | rfl | rfl | rfl | rfl | rfl | rfl | rfl | rfl
  · exact kn_s0
  · exact kn_s1
  · exact kn_s2
  · exact kn_s3
  · exact kn_s4
  · exact kn_s5
  · exact kn_s6
  · exact kn_s7
  · exact kn_s8
  · exact kn_s9
  · exact kn_s10
theorem pparse_no {s : Bs} (hs : s.length ≤ 1000000) (h : ParseIs s none) (w : World) (henv : Env w) : Calls Tryd.prog 20 #[.string (ofBs s)] w fun e w' => e = .returned (.tuple #[.agg #[.int .u8 0, .int .u64 0, .int .u64 0, .int .i64 0], .int .i64 8]) ∧ Below w.heap.size w w' := by
  refine (pparse_any s hs w henv).mono ?_
  rintro e w' ⟨r, hr, rfl, hb⟩
  rw [hr.unique h]
  exact ⟨rfl, hb⟩
theorem ss_len : ∀ s ∈ SS, s.length ≤ 1000000 := by decide
structure ElemAt (W : World) (g o : Nat) (f : UInt8) (x y : UInt64) (b : Int) : Prop where
  c0 : W.cell? ⟨g, o, none⟩ = some (.int .u8 (f.toNat : Int))
  c1 : W.cell? ⟨g, o + 1, none⟩ = some (.int .u64 (x.toNat : Int))
  c2 : W.cell? ⟨g, o + 2, none⟩ = some (.int .u64 (y.toNat : Int))
  c3 : W.cell? ⟨g, o + 3, none⟩ = some (.int .i64 b)
theorem elem_at {W : World} {g : Nat} {L : List Pf} (h : RowC W g L) (i : Nat) (hi : i < L.length) {f : UInt8} {x y : UInt64} {b : Int} (e : L[i] = ((f, x, y), b)) : ElemAt W g (i * 4) f x y b :=
  ⟨by rw [h.c0 i hi, e], by rw [h.c1 i hi, e], by rw [h.c2 i hi, e], by rw [h.c3 i hi, e]⟩
abbrev boxAL : Obj := .cells #[.int .u8 6, .int .u64 18446744073709551615, .int .u64 18446744073709551615] 24 (0, 0)
theorem boxAL_at {W : World} {g : Nat} (h : W.heap[g]? = some boxAL) : W.cell? ⟨g, 0, none⟩ = some (.int .u8 6) ∧ W.cell? ⟨g, 1, none⟩ = some (.int .u64 18446744073709551615) ∧ W.cell? ⟨g, 2, none⟩ = some (.int .u64 18446744073709551615) := ⟨(by rw [blk_cell h]; rfl), (by rw [blk_cell h]; rfl), (by rw [blk_cell h]; rfl)⟩
theorem later_boxAL {W : World} {g : Nat} (h : W.heap[g]? = some boxAL) : (∀ zz : Later W.heap.size W, zz.val.cell? ⟨g, 0, none⟩ = some (.int .u8 6)) ∧ (∀ zz : Later W.heap.size W, zz.val.cell? ⟨g, 1, none⟩ = some (.int .u64 18446744073709551615)) ∧ (∀ zz : Later W.heap.size W, zz.val.cell? ⟨g, 2, none⟩ = some (.int .u64 18446744073709551615)) := ⟨(fun zz => by rw [blk_cell (blk_kept zz.prop h)]; rfl), (fun zz => by rw [blk_cell (blk_kept zz.prop h)]; rfl), (fun zz => by rw [blk_cell (blk_kept zz.prop h)]; rfl)⟩
abbrev boxS : Obj := .cells #[.string ⟨#[49, 48, 46, 49, 46, 48, 46, 48, 47, 56]⟩, .string ⟨#[49, 48, 46, 48, 46, 48, 46, 48, 47, 48, 56]⟩, .string ⟨#[58, 58, 47, 49, 50, 57]⟩, .string ⟨#[49, 48, 46, 48, 46, 48, 46, 48]⟩, .string ⟨#[49, 48, 46, 48, 46, 48, 46, 48, 47]⟩, .string ⟨#[47, 56]⟩, .string ⟨#[49, 48, 46, 48, 46, 48, 46, 48, 47, 45, 49]⟩, .string ⟨#[49, 48, 46, 48, 46, 48, 46, 48, 47, 51, 51]⟩, .string ⟨#[49, 48, 46, 48, 46, 48, 46, 48, 47, 56, 47, 56]⟩, .string ⟨#[49, 48, 46, 48, 46, 48, 46, 48, 47, 43, 56]⟩, .string ⟨#[]⟩] 9 (0, 0)
theorem boxS_at {W : World} {g : Nat} (h : W.heap[g]? = some boxS) (i : Nat) (hi : i < 11) : ∃ s, s ∈ SS ∧ s.length ≤ 1000000 ∧ W.cell? ⟨g, i, none⟩ = some (.string (ofBs s)) := by
  have hl : SS.length = 11 := rfl
  refine ⟨SS[i], List.getElem_mem _, ss_len _ (List.getElem_mem _), ?_⟩
  · rw [blk_cell h]
    have : ∀ k : Fin 11, (#[Value.string ⟨#[49, 48, 46, 49, 46, 48, 46, 48, 47, 56]⟩, Value.string ⟨#[49, 48, 46, 48, 46, 48, 46, 48, 47, 48, 56]⟩, Value.string ⟨#[58, 58, 47, 49, 50, 57]⟩, Value.string ⟨#[49, 48, 46, 48, 46, 48, 46, 48]⟩, Value.string ⟨#[49, 48, 46, 48, 46, 48, 46, 48, 47]⟩, Value.string ⟨#[47, 56]⟩, Value.string ⟨#[49, 48, 46, 48, 46, 48, 46, 48, 47, 45, 49]⟩, Value.string ⟨#[49, 48, 46, 48, 46, 48, 46, 48, 47, 51, 51]⟩, Value.string ⟨#[49, 48, 46, 48, 46, 48, 46, 48, 47, 56, 47, 56]⟩, Value.string ⟨#[49, 48, 46, 48, 46, 48, 46, 48, 47, 43, 56]⟩, Value.string ⟨#[]⟩] : Array Value)[k.val]? = some (.string (ofBs (SS[k.val]'(by rw [hl]; exact k.isLt)))) := by
      intro k
      rcases k with ⟨k, hk⟩
      match k, hk with
      | 0, _ => rfl
      | 1, _ => rfl
      | 2, _ => rfl
      | 3, _ => rfl
      | 4, _ => rfl
      | 5, _ => rfl
      | 6, _ => rfl
      | 7, _ => rfl
      | 8, _ => rfl
      | 9, _ => rfl
      | 10, _ => rfl
    exact this ⟨i, hi⟩
set_option maxHeartbeats 16000000 in
theorem known_law (w : World) (henv : Env w) : Calls Tryd.prog 6 #[] w fun e w' => e = .returned (.bool true) ∧ Below w.heap.size w w' := by
  have HE := Lib.hid henv
  clear henv
  have HAW := Lib.hid (fun W he => awake_any W he)
  obtain ⟨C1, hC1⟩ : ∃ A : Ad, A = (4, 0, 167838211) := ⟨_, rfl⟩
  obtain ⟨C2, hC2⟩ : ∃ A : Ad, A = (4, 0, 4294967296) := ⟨_, rfl⟩
  obtain ⟨C3, hC3⟩ : ∃ A : Ad, A = (4, 0, 184483840) := ⟨_, rfl⟩
  obtain ⟨C4, hC4⟩ : ∃ A : Ad, A = (4, 0, 184549376) := ⟨_, rfl⟩
  obtain ⟨C5, hC5⟩ : ∃ A : Ad, A = (4, 0, 2) := ⟨_, rfl⟩
  obtain ⟨C6, hC6⟩ : ∃ A : Ad, A = (4, 0, 1) := ⟨_, rfl⟩
  obtain ⟨C7, hC7⟩ : ∃ A : Ad, A = (4, 0, 0) := ⟨_, rfl⟩
  obtain ⟨A, hA⟩ : ∃ A : Ad, A = ALL := ⟨_, rfl⟩
  obtain ⟨F0, hF0⟩ : ∃ A : Ad, A = (6, 0, 0) := ⟨_, rfl⟩
  obtain ⟨F1, hF1⟩ : ∃ A : Ad, A = (6, 0, 1) := ⟨_, rfl⟩
  obtain ⟨P, hP⟩ : ∃ A : Pf, A = PA := ⟨_, rfl⟩
  obtain ⟨X, hX⟩ : ∃ A : Pf, A = ((4, 0, 167772160), 9) := ⟨_, rfl⟩
  obtain ⟨Y, hY⟩ : ∃ A : Pf, A = ((4, 0, 176160768), 9) := ⟨_, rfl⟩
  obtain ⟨O, hO⟩ : ∃ A : Pf, A = ((4, 0, 7), 32) := ⟨_, rfl⟩
  obtain ⟨Q, hQ⟩ : ∃ A : Pf, A = ((4, 0, 184549376), 16) := ⟨_, rfl⟩
  obtain ⟨R, hR⟩ : ∃ A : Pf, A = ((4, 0, 167837696), 16) := ⟨_, rfl⟩
  obtain ⟨Z, hZ⟩ : ∃ A : Pf, A = zeroP := ⟨_, rfl⟩
  obtain ⟨G, hG⟩ : ∃ A : Pf, A = ((6, 0, 0), 0) := ⟨_, rfl⟩
  have HVC1 := Lib.hid (fun W => v4_at C1 167838211 167838211 (by rfl) hC1 W)
  have HVC2 := Lib.hid (fun W => v4_at C2 4294967296 4294967296 (by rfl) hC2 W)
  have HVC3 := Lib.hid (fun W => v4_at C3 184483840 184483840 (by rfl) hC3 W)
  have HVC4 := Lib.hid (fun W => v4_at C4 184549376 184549376 (by rfl) hC4 W)
  have HVC5 := Lib.hid (fun W => v4_at C5 2 2 (by rfl) hC5 W)
  have HVC6 := Lib.hid (fun W => v4_at C6 1 1 (by rfl) hC6 W)
  have HVC7 := Lib.hid (fun W => v4_at C7 0 0 (by rfl) hC7 W)
  have HPP := Lib.hid (fun W => p4_at P 167772160 8 167772160 (by rfl) hP W)
  have HPX := Lib.hid (fun W => p4_at X 167772160 9 167772160 (by rfl) hX W)
  have HPY := Lib.hid (fun W => p4_at Y 176160768 9 176160768 (by rfl) hY W)
  have HPO := Lib.hid (fun W => p4_at O 7 32 7 (by rfl) hO W)
  have HPQ := Lib.hid (fun W => p4_at Q 184549376 16 184549376 (by rfl) hQ W)
  have HPR := Lib.hid (fun W => p4_at R 167837696 16 167837696 (by rfl) hR W)
  have HHP := Lib.hid (show ∀ W, Calls Tryd.prog 22 #[encP P] W fun e w' => e = .returned (.tuple #[encP X, encP Y, .bool true]) ∧ Below W.heap.size W w' from fun W => by
    have := halves_any P W
    unfold HalvesPost at this; rw [show halvesP P = (X, Y, true) by rw [hP, hX, hY]; exact kn_half] at this
    exact this)
  have HHO := Lib.hid (show ∀ W, Calls Tryd.prog 22 #[encP O] W fun e w' => e = .returned (.tuple #[encP Z, encP Z, .bool false]) ∧ Below W.heap.size W w' from fun W => by
    have := halves_any O W
    unfold HalvesPost at this; rw [show halvesP O = (Z, Z, false) by rw [hO, hZ]; exact kn_one] at this
    exact this)
  have HU1 := Lib.hid (show ∀ W, Calls Tryd.prog 19 #[encA C1, .int .i64 33] W fun e w' => e = .returned (.tuple #[encP Z, .int .i64 1]) ∧ Below W.heap.size W w' from fun W => by
    have := cutB C1 33 W
    rw [show cutP C1 33 = Z by rw [hC1, hZ]; exact kn_cut1.1, show cutE C1 33 = 1 by rw [hC1]; exact kn_cut1.2] at this
    exact this)
  have HU2 := Lib.hid (show ∀ W, Calls Tryd.prog 19 #[encA C2, .int .i64 8] W fun e w' => e = .returned (.tuple #[encP Z, .int .i64 1]) ∧ Below W.heap.size W w' from fun W => by
    have := cutB C2 8 W
    rw [show cutP C2 8 = Z by rw [hC2, hZ]; exact kn_cut2.1, show cutE C2 8 = 1 by rw [hC2]; exact kn_cut2.2] at this
    exact this)
  have HB1 := Lib.hid (show ∀ W, Calls Tryd.prog 10 #[encP P, encA C3] W fun e w' => e = .returned (.bool true) ∧ Below W.heap.size W w' from fun W => by
    have := hasP_any P C3 W
    rw [show hasP P C3 = true by rw [hP, hC3]; exact kn_h1] at this
    exact this)
  have HB2 := Lib.hid (show ∀ W, Calls Tryd.prog 10 #[encP P, encA C4] W fun e w' => e = .returned (.bool false) ∧ Below W.heap.size W w' from fun W => by
    have := hasP_any P C4 W
    rw [show hasP P C4 = false by rw [hP, hC4]; exact kn_h2] at this
    exact this)
  have HM1 := Lib.hid (show ∀ W, Calls Tryd.prog 8 #[encP P, encP Q] W fun e w' => e = .returned (.bool false) ∧ Below W.heap.size W w' from fun W => by
    have := meets_any P Q W
    rw [show meets P Q = false by rw [hP, hQ]; exact kn_m] at this
    exact this)
  have HF1 := Lib.hid (show ∀ W, Calls Tryd.prog 24 #[encP P, encP X] W fun e w' => e = .returned (.bool true) ∧ Below W.heap.size W w' from fun W => by
    have := before_any P X W
    rw [show before P X = true by rw [hP, hX]; exact kn_b1] at this
    exact this)
  have HF2 := Lib.hid (show ∀ W, Calls Tryd.prog 24 #[encP P, encP P] W fun e w' => e = .returned (.bool false) ∧ Below W.heap.size W w' from fun W => by
    have := before_any P P W
    rw [show before P P = false by rw [hP]; exact kn_b2] at this
    exact this)
  have HF3 := Lib.hid (show ∀ W, Calls Tryd.prog 24 #[encP R, encP P] W fun e w' => e = .returned (.bool false) ∧ Below W.heap.size W w' from fun W => by
    have := before_any R P W
    rw [show before R P = false by rw [hP, hR]; exact kn_b3] at this
    exact this)
  obtain ⟨tx, htx⟩ : ∃ tx, tx = ofBs [58, 58, 47, 48] := ⟨_, rfl⟩
  have HSE := Lib.hid (show (tx.toList == ([58, 58, 47, 48] : Bs)) = true from by rw [htx, ByteArray.toList_eq]; rfl)
  have HTX := Lib.hid (show ∀ W, Env W → Calls Tryd.prog 13 #[encP G] W fun e w' => e = .returned (.string tx) ∧ Below W.heap.size W w' from fun W he => by
    have := ptext_any G W he
    rw [show textP G = [58, 58, 47, 48] by rw [hG]; exact kn_text, ← htx] at this
    exact this)
  have HLA := Lib.hid (show ∀ W, Calls Tryd.prog 11 #[encP G] W fun e w' => e = .returned (.agg #[.int .u8 6, .int .u64 18446744073709551615, .int .u64 18446744073709551615]) ∧ Below W.heap.size W w' from fun W => by
    have := last_any G W
    rw [show lastR G = ALL by rw [hG]; exact kn_last] at this
    exact this)
  obtain ⟨LM, hLM⟩ : ∃ l, l = coverP F1 A := ⟨_, rfl⟩
  have HLM := Lib.hid (show LM.length = 128 from by rw [hLM, hF1, hA]; exact kn_len)
  have HO1 := Lib.hid (show ∀ W, Calls Tryd.prog 17 #[encA F0, encA A] W (CoverPost [G] W) from fun W => by
    have := cover_any F0 A W
    rw [show coverP F0 A = [G] by rw [hF0, hA, hG]; exact kn_all] at this
    exact this)
  have HO2 := Lib.hid (show ∀ W, Calls Tryd.prog 17 #[encA F1, encA A] W (CoverPost LM W) from fun W => by
    have := cover_any F1 A W
    rw [← hLM] at this
    exact this)
  have HO3 := Lib.hid (show ∀ W, Calls Tryd.prog 17 #[encA C5, encA C6] W (CoverPost [] W) from fun W => by
    have := cover_any C5 C6 W
    rw [show coverP C5 C6 = [] by rw [hC5, hC6]; exact kn_w1] at this
    exact this)
  have HO4 := Lib.hid (show ∀ W, Calls Tryd.prog 17 #[encA C7, encA A] W (CoverPost [] W) from fun W => by
    have := cover_any C7 A W
    rw [show coverP C7 A = [] by rw [hC7, hA]; exact kn_w2] at this
    exact this)
  have HO5 := Lib.hid (show ∀ W, Calls Tryd.prog 17 #[encA C7, encA C2] W (CoverPost [] W) from fun W => by
    have := cover_any C7 C2 W
    rw [show coverP C7 C2 = [] by rw [hC7, hC2]; exact kn_w3] at this
    exact this)
  have HC1 := Lib.hid (show ∀ W, Calls Tryd.prog 17 #[.agg #[.int .u8 6, .int .u64 0, .int .u64 0], .agg #[.int .u8 6, .int .u64 18446744073709551615, .int .u64 18446744073709551615]] W (CoverPost [G] W) from fun W => by have := HO1.out W; rw [hA, hF0] at this; exact this)
  have HC2 := Lib.hid (show ∀ W, Calls Tryd.prog 17 #[.agg #[.int .u8 6, .int .u64 0, .int .u64 1], .agg #[.int .u8 6, .int .u64 18446744073709551615, .int .u64 18446744073709551615]] W (CoverPost LM W) from fun W => by have := HO2.out W; rw [hA, hF1] at this; exact this)
  have HC4 := Lib.hid (show ∀ W, Calls Tryd.prog 17 #[encA C7, .agg #[.int .u8 6, .int .u64 18446744073709551615, .int .u64 18446744073709551615]] W (CoverPost [] W) from fun W => by have := HO4.out W; rw [hA] at this; exact this)
  have HQA := Lib.hid (show ∀ W, (binOp .eql 24 (.agg #[.int .u8 6, .int .u64 18446744073709551615, .int .u64 18446744073709551615]) (.agg #[.int .u8 6, .int .u64 18446744073709551615, .int .u64 18446744073709551615])).run Tryd.prog W = .ok (.bool true) W from fun W => by have := run_eqlA ALL ALL W; rw [show (ALL == ALL) = true from by simp] at this; exact this)
  have HZP := Lib.hid (show .agg #[.int .u8 0, .int .u64 0, .int .u64 0, .int .i64 0] = encP Z from by rw [hZ]; rfl)
  clear hLM htx hC1 hC2 hC3 hC4 hC5 hC6 hC7 hA hF0 hF1 hP hX hY hO hQ hR hZ hG
  obtain ⟨fC1, xC1, yC1⟩ := C1
  obtain ⟨fC2, xC2, yC2⟩ := C2
  obtain ⟨fC3, xC3, yC3⟩ := C3
  obtain ⟨fC4, xC4, yC4⟩ := C4
  obtain ⟨fC5, xC5, yC5⟩ := C5
  obtain ⟨fC6, xC6, yC6⟩ := C6
  obtain ⟨fC7, xC7, yC7⟩ := C7
  obtain ⟨fA, xA, yA⟩ := A
  obtain ⟨fF0, xF0, yF0⟩ := F0
  obtain ⟨fF1, xF1, yF1⟩ := F1
  obtain ⟨⟨fP, xP, yP⟩, bP⟩ := P
  obtain ⟨⟨fX, xX, yX⟩, bX⟩ := X
  obtain ⟨⟨fY, xY, yY⟩, bY⟩ := Y
  obtain ⟨⟨fO, xO, yO⟩, bO⟩ := O
  obtain ⟨⟨fQ, xQ, yQ⟩, bQ⟩ := Q
  obtain ⟨⟨fR, xR, yR⟩, bR⟩ := R
  obtain ⟨⟨fZ, xZ, yZ⟩, bZ⟩ := Z
  obtain ⟨⟨fG, xG, yG⟩, bG⟩ := G
  have HQX := Lib.hid (show ∀ W, (binOp .neq 26 (encP ((fX, xX, yX), bX)) (encP ((fX, xX, yX), bX))).run Tryd.prog W = .ok (.bool false) W from fun W => by rw [run_neqC]; simp)
  have HQY := Lib.hid (show ∀ W, (binOp .neq 26 (encP ((fY, xY, yY), bY)) (encP ((fY, xY, yY), bY))).run Tryd.prog W = .ok (.bool false) W from fun W => by rw [run_neqC]; simp)
  go_enter Tryd.func6, Tryd.ntmps6
  go_wp2_with fail
  refine (HPP.out _).mono ?_
  rintro e v1 ⟨rfl, hb⟩
  have HW2 := Lib.hid hb
  clear hb
  have HXp3 := Lib.hid (heap_alloc_new v1 (boxP ((fP, xP, yP), bP)))
  have HW3 := Lib.hid (show Below w.heap.size w (v1.alloc (boxP ((fP, xP, yP), bP))) from HW2.out.alloc HW2.out.size _)
  obtain ⟨p0, p1, p2, p3⟩ := boxP_at HXp3.out
  go_wp2_with fail
  refine (HHP.out _).mono ?_
  rintro e v4 ⟨rfl, hb⟩
  clear p0 p1 p2 p3
  have HXp5 := Lib.hid (blk_kept hb HXp3.out)
  have HW5 := Lib.hid (below_step HW3.out hb HW3.out.size)
  clear hb
  have HXp6 := Lib.hid (blk_alloc HXp5.out (boxP ((fX, xX, yX), bX)))
  have HXx6 := Lib.hid (heap_alloc_new v4 (boxP ((fX, xX, yX), bX)))
  have HW6 := Lib.hid (show Below w.heap.size w (v4.alloc (boxP ((fX, xX, yX), bX))) from HW5.out.alloc HW5.out.size _)
  have HXp7 := Lib.hid (blk_alloc HXp6.out (boxP ((fY, xY, yY), bY)))
  have HXx7 := Lib.hid (blk_alloc HXx6.out (boxP ((fY, xY, yY), bY)))
  have hxy := heap_alloc_new (v4.alloc (boxP ((fX, xX, yX), bX))) (boxP ((fY, xY, yY), bY))
  simp only [World.size_alloc] at hxy
  have HXy7 := Lib.hid hxy
  clear hxy
  have HW7 := Lib.hid (show Below w.heap.size w ((v4.alloc (boxP ((fX, xX, yX), bX))).alloc (boxP ((fY, xY, yY), bY))) from HW6.out.alloc HW6.out.size _)
  go_wp2_with fail
  refine (HPO.out _).mono ?_
  rintro e v8 ⟨rfl, hb⟩
  have HXp9 := Lib.hid (blk_kept hb HXp7.out)
  have HXx9 := Lib.hid (blk_kept hb HXx7.out)
  have HXy9 := Lib.hid (blk_kept hb HXy7.out)
  have HW9 := Lib.hid (below_step HW7.out hb HW7.out.size)
  clear hb
  go_wp2_with fail
  refine (HHO.out _).mono ?_
  rintro e v10 ⟨rfl, hb⟩
  have HXp11 := Lib.hid (blk_kept hb HXp9.out)
  have HXx11 := Lib.hid (blk_kept hb HXx9.out)
  have HXy11 := Lib.hid (blk_kept hb HXy9.out)
  have HW11 := Lib.hid (below_step HW9.out hb HW9.out.size)
  clear hb
  have HXp12 := Lib.hid (blk_alloc HXp11.out (boxP ((fZ, xZ, yZ), bZ)))
  have HXx12 := Lib.hid (blk_alloc HXx11.out (boxP ((fZ, xZ, yZ), bZ)))
  have HXy12 := Lib.hid (blk_alloc HXy11.out (boxP ((fZ, xZ, yZ), bZ)))
  have HXz112 := Lib.hid (heap_alloc_new v10 (boxP ((fZ, xZ, yZ), bZ)))
  have HW12 := Lib.hid (show Below w.heap.size w (v10.alloc (boxP ((fZ, xZ, yZ), bZ))) from HW11.out.alloc HW11.out.size _)
  have HXp13 := Lib.hid (blk_alloc HXp12.out (boxP ((fZ, xZ, yZ), bZ)))
  have HXx13 := Lib.hid (blk_alloc HXx12.out (boxP ((fZ, xZ, yZ), bZ)))
  have HXy13 := Lib.hid (blk_alloc HXy12.out (boxP ((fZ, xZ, yZ), bZ)))
  have HXz113 := Lib.hid (blk_alloc HXz112.out (boxP ((fZ, xZ, yZ), bZ)))
  have hxz2 := heap_alloc_new (v10.alloc (boxP ((fZ, xZ, yZ), bZ))) (boxP ((fZ, xZ, yZ), bZ))
  simp only [World.size_alloc] at hxz2
  have HXz213 := Lib.hid hxz2
  clear hxz2
  have HW13 := Lib.hid (show Below w.heap.size w ((v10.alloc (boxP ((fZ, xZ, yZ), bZ))).alloc (boxP ((fZ, xZ, yZ), bZ))) from HW12.out.alloc HW12.out.size _)
  go_wp2_with fail
  refine (HVC1.out _).mono ?_
  rintro e v14 ⟨rfl, hb⟩
  have HXp15 := Lib.hid (blk_kept hb HXp13.out)
  have HXx15 := Lib.hid (blk_kept hb HXx13.out)
  have HXy15 := Lib.hid (blk_kept hb HXy13.out)
  have HXz115 := Lib.hid (blk_kept hb HXz113.out)
  have HXz215 := Lib.hid (blk_kept hb HXz213.out)
  have HW15 := Lib.hid (below_step HW13.out hb HW13.out.size)
  clear hb
  go_wp2_with fail
  refine (HU1.out _).mono ?_
  rintro e v16 ⟨rfl, hb⟩
  have HXp17 := Lib.hid (blk_kept hb HXp15.out)
  have HXx17 := Lib.hid (blk_kept hb HXx15.out)
  have HXy17 := Lib.hid (blk_kept hb HXy15.out)
  have HXz117 := Lib.hid (blk_kept hb HXz115.out)
  have HXz217 := Lib.hid (blk_kept hb HXz215.out)
  have HW17 := Lib.hid (below_step HW15.out hb HW15.out.size)
  clear hb
  have HXp18 := Lib.hid (blk_alloc HXp17.out (boxP ((fZ, xZ, yZ), bZ)))
  have HXx18 := Lib.hid (blk_alloc HXx17.out (boxP ((fZ, xZ, yZ), bZ)))
  have HXy18 := Lib.hid (blk_alloc HXy17.out (boxP ((fZ, xZ, yZ), bZ)))
  have HXz118 := Lib.hid (blk_alloc HXz117.out (boxP ((fZ, xZ, yZ), bZ)))
  have HXz218 := Lib.hid (blk_alloc HXz217.out (boxP ((fZ, xZ, yZ), bZ)))
  have HXz318 := Lib.hid (heap_alloc_new v16 (boxP ((fZ, xZ, yZ), bZ)))
  have HW18 := Lib.hid (show Below w.heap.size w (v16.alloc (boxP ((fZ, xZ, yZ), bZ))) from HW17.out.alloc HW17.out.size _)
  go_wp2_with fail
  refine (HVC2.out _).mono ?_
  rintro e v19 ⟨rfl, hb⟩
  have HXp20 := Lib.hid (blk_kept hb HXp18.out)
  have HXx20 := Lib.hid (blk_kept hb HXx18.out)
  have HXy20 := Lib.hid (blk_kept hb HXy18.out)
  have HXz120 := Lib.hid (blk_kept hb HXz118.out)
  have HXz220 := Lib.hid (blk_kept hb HXz218.out)
  have HXz320 := Lib.hid (blk_kept hb HXz318.out)
  have HW20 := Lib.hid (below_step HW18.out hb HW18.out.size)
  clear hb
  go_wp2_with fail
  refine (HU2.out _).mono ?_
  rintro e v21 ⟨rfl, hb⟩
  have HXp22 := Lib.hid (blk_kept hb HXp20.out)
  have HXx22 := Lib.hid (blk_kept hb HXx20.out)
  have HXy22 := Lib.hid (blk_kept hb HXy20.out)
  have HXz122 := Lib.hid (blk_kept hb HXz120.out)
  have HXz222 := Lib.hid (blk_kept hb HXz220.out)
  have HXz322 := Lib.hid (blk_kept hb HXz320.out)
  have HW22 := Lib.hid (below_step HW20.out hb HW20.out.size)
  clear hb
  have HXp23 := Lib.hid (blk_alloc HXp22.out (boxP ((fZ, xZ, yZ), bZ)))
  have HXx23 := Lib.hid (blk_alloc HXx22.out (boxP ((fZ, xZ, yZ), bZ)))
  have HXy23 := Lib.hid (blk_alloc HXy22.out (boxP ((fZ, xZ, yZ), bZ)))
  have HXz123 := Lib.hid (blk_alloc HXz122.out (boxP ((fZ, xZ, yZ), bZ)))
  have HXz223 := Lib.hid (blk_alloc HXz222.out (boxP ((fZ, xZ, yZ), bZ)))
  have HXz323 := Lib.hid (blk_alloc HXz322.out (boxP ((fZ, xZ, yZ), bZ)))
  have HXz423 := Lib.hid (heap_alloc_new v21 (boxP ((fZ, xZ, yZ), bZ)))
  have HW23 := Lib.hid (show Below w.heap.size w (v21.alloc (boxP ((fZ, xZ, yZ), bZ))) from HW22.out.alloc HW22.out.size _)
  go_wp2_with fail
  obtain ⟨v24, hv24⟩ : ∃ v24, v24 = (v21.alloc (boxP ((fZ, xZ, yZ), bZ))) := ⟨_, rfl⟩
  rw [← hv24] at HXp23 HXx23 HXy23 HXz123 HXz223 HXz323 HXz423 HW23 ⊢
  clear hv24
  obtain ⟨x0, x1, x2, x3⟩ := later_boxP HXx23.out
  obtain ⟨y0, y1, y2, y3⟩ := later_boxP HXy23.out
  have hqx := HQX.out
  have hqy := HQY.out
  refine wp_region_later v24.heap.size (by kernel_rfl) (by kernel_rfl) ?_
  repeat (go_big_quiet_step ((go_at_call 21; first | with_reducible exact Later.calls (Nat.le_refl _) (HPX.out _) | with_reducible exact Later.calls (Nat.le_refl _) (HPY.out _))))
  refine wpQuiet_nil ?_
  rintro v25 ⟨zz, rfl⟩
  have hb := zz.prop
  have HZ0 := Lib.hid hb
  clear x0 x1 x2 x3 y0 y1 y2 y3
  generalize zz.val = v25 at *
  have HXp26 := Lib.hid (blk_kept hb HXp23.out)
  have HXx26 := Lib.hid (blk_kept hb HXx23.out)
  have HXy26 := Lib.hid (blk_kept hb HXy23.out)
  have HW26 := Lib.hid (below_step HW23.out hb HW23.out.size)
  clear hb
  clear hqx hqy
  have HXs27 := Lib.hid (heap_alloc_new v25 boxS)
  have HXp27 := Lib.hid (blk_alloc HXp26.out boxS)
  have HW27 := Lib.hid (bl_alloc HW26.out boxS)
  go_wp2_with fail
  go_loopw [69] (fun v69 W => ∃ i : Nat, v69 = .int .i64 (i : Int) ∧ i ≤ 11 ∧ W.heap[v1.heap.size]? = some (boxP ((fP, xP, yP), bP)) ∧ W.heap[v25.heap.size]? = some boxS ∧ Below w.heap.size w W) (fun v69 _ => 11 - (intOf v69).toNat)
  case atStart => exact ⟨0, rfl, Nat.zero_le _, HXp27.out, HXs27.out, HW27.out⟩
  case round =>
    obtain ⟨i, rfl, hi, hp, hs, hb⟩ := hrel
    have HXp0 := Lib.hid hp
    have HXs0 := Lib.hid hs
    have HW0 := Lib.hid hb
    clear hp hs hb
    by_cases hlt : i < 11
    · have hii : (i : Int) < 11 := by omega
      obtain ⟨s, hs1, hs2, hs3⟩ := boxS_at HXs0.out i hlt
      have HPN := Lib.hid (fun W he => pparse_no hs2 (ss_none s hs1) W he)
      clear hs1 hs2
      go_wp2_with fail
      clear hs3
      refine (HPN.out _ (HE.out.kept HW0.out)).mono ?_
      rintro e v28 ⟨rfl, hb⟩
      have HXp29 := Lib.hid (blk_kept hb HXp0.out)
      have HXs29 := Lib.hid (blk_kept hb HXs0.out)
      have HW29 := Lib.hid (below_step HW0.out hb HW0.out.size)
      clear hb
      have HXp30 := Lib.hid (blk_alloc HXp29.out boxPZ)
      have HXs30 := Lib.hid (blk_alloc HXs29.out boxPZ)
      have HXz30 := Lib.hid (heap_alloc_new v28 boxPZ)
      have HW30 := Lib.hid (show Below w.heap.size w (v28.alloc boxPZ) from HW29.out.alloc HW29.out.size _)
      obtain ⟨z0, z1, z2, z3⟩ := boxPZ_at HXz30.out
      go_wp2_with fail
      clear z0 z1 z2 z3
      go_roundw
      case rel => exact ⟨i + 1, by go_num, by omega, HXp30.out, HXs30.out, HW30.out⟩
      case measure => simp [intOf]; omega
    · obtain rfl : i = 11 := by omega
      clear hlt hi
      go_wp2_with fail
      have HXp31 := Lib.hid (blk_alloc HXp0.out boxAL)
      have HXs31 := Lib.hid (blk_alloc HXs0.out boxAL)
      have HXa31 := Lib.hid (heap_alloc_new wr boxAL)
      have HW31 := Lib.hid (show Below w.heap.size w (wr.alloc boxAL) from HW0.out.alloc HW0.out.size _)
      refine (HC1.out _).mono ?_
      rintro e w1 ⟨v, rfl, ho, hb⟩
      obtain ⟨g, c1, rfl, hrow⟩ := RowC.of_owns ho (by simp)
      have HROW := Lib.hid hrow
      rw [show ([((fG, xG, yG), bG)] : List Pf).length = 1 from rfl]
      clear ho hrow
      have HXp32 := Lib.hid (blk_kept hb HXp31.out)
      have HXa32 := Lib.hid (blk_kept hb HXa31.out)
      have HW32 := Lib.hid (below_step HW31.out hb HW31.out.size)
      clear hb
      obtain ⟨a0, a1, a2⟩ := boxAL_at HXa32.out
      go_wp2_with fail
      refine (HC2.out _).mono ?_
      rintro e w2 ⟨v, rfl, ho, hb⟩
      obtain ⟨ao, c2, rfl⟩ := owns_slice1 ho
      rw [HLM.out]
      clear ho
      clear a0 a1 a2
      have HQL33 := Lib.hid (RowC.kept HROW.out hb)
      have HXp34 := Lib.hid (blk_kept hb HXp32.out)
      have HXa34 := Lib.hid (blk_kept hb HXa32.out)
      have HW34 := Lib.hid (below_step HW32.out hb HW32.out.size)
      clear hb
      go_wp2_with fail
      have HBc := Lib.hid (show Below w2.heap.size w2 w2 from Below.refl _ _)
      have HCA := Lib.hid (show ∀ W, Below w2.heap.size w2 W → W.cell? ⟨wr.heap.size, 0, none⟩ = some (.int .u8 6) ∧ W.cell? ⟨wr.heap.size, 1, none⟩ = some (.int .u64 18446744073709551615) ∧ W.cell? ⟨wr.heap.size, 2, none⟩ = some (.int .u64 18446744073709551615) from fun W h => boxAL_at (blk_kept h HXa34.out))
      go_cut [19] (fun s19 W => s19 = .int .i64 0 ∧ Below w2.heap.size w2 W)
      case first =>
        obtain ⟨p0, p1, p2⟩ := HCA.out _ HBc.out
        go_region_held_law (fun W => W.cell? ⟨wr.heap.size, 0, none⟩ = some (.int .u8 6) ∧ W.cell? ⟨wr.heap.size, 1, none⟩ = some (.int .u64 18446744073709551615) ∧ W.cell? ⟨wr.heap.size, 2, none⟩ = some (.int .u64 18446744073709551615)) ((refine HCA.out _ ?_; first | exact HBc.out | exact HBc.out.drew))
          (first
            | (go_at_call 23; (first | with_reducible refine (HVC5.out _).mono ?_ | with_reducible refine (HVC6.out _).mono ?_ | with_reducible refine (HVC7.out _).mono ?_ | with_reducible refine (HVC2.out _).mono ?_); rintro e W0 ⟨rfl, hb⟩; (replace HBc := Lib.hid (show Below w2.heap.size w2 W0 from by first | exact below_step HBc.out hb HBc.out.size | exact below_step HBc.out.drew hb HBc.out.drew.size)); clear hb; obtain ⟨p0, p1, p2⟩ := HCA.out _ HBc.out)
            | (go_at_call 17; (first | with_reducible refine (HO3.out _).mono ?_ | with_reducible refine (HC4.out _).mono ?_ | with_reducible refine (HO5.out _).mono ?_); rintro e W0 ⟨v, rfl, ho, hb⟩; (obtain ⟨ao, cap, rfl⟩ := owns_slice1 ho); clear ho; (rw [show ([] : List Pf).length = 0 from rfl]); (replace HBc := Lib.hid (show Below w2.heap.size w2 W0 from by first | exact below_step HBc.out hb HBc.out.size | exact below_step HBc.out.drew hb HBc.out.drew.size)); clear hb; obtain ⟨p0, p1, p2⟩ := HCA.out _ HBc.out))
        all_goals go_wp2_with fail
        all_goals go_meet
        all_goals case rel => exact ⟨rfl, by first | exact HBc.out | exact HBc.out.drew⟩
      case rest =>
        obtain ⟨w3, hw3⟩ : ∃ w3, w3 = wc := ⟨_, rfl⟩
        subst hw3
        obtain ⟨rfl, hb⟩ := hcut
        clear HBc HCA
        have HQL35 := Lib.hid (RowC.kept HQL33.out hb)
        have HXp36 := Lib.hid (blk_kept hb HXp34.out)
        have HXa36 := Lib.hid (blk_kept hb HXa34.out)
        have HW36 := Lib.hid (below_step HW34.out hb HW34.out.size)
        clear hb
        go_wp2_with fail
        obtain ⟨p0, p1, p2, p3⟩ := later_boxP HXp36.out
        refine wp_region_later w3.heap.size (by kernel_rfl) (by kernel_rfl) ?_
        repeat (go_big_quiet_step (first | (go_at_call 23; first | with_reducible exact Later.calls (Nat.le_refl _) (HVC3.out _) | with_reducible exact Later.calls (Nat.le_refl _) (HVC4.out _)) | (go_at_call 21; first | with_reducible exact Later.calls (Nat.le_refl _) (HPX.out _) | with_reducible exact Later.calls (Nat.le_refl _) (HPQ.out _) | with_reducible exact Later.calls (Nat.le_refl _) (HPR.out _)) | (go_at_call 10; first | with_reducible exact Later.calls (Nat.le_refl _) (HB1.out _) | with_reducible exact Later.calls (Nat.le_refl _) (HB2.out _)) | (go_at_call 8; exact Later.calls (Nat.le_refl _) (HM1.out _)) | (go_at_call 24; first | with_reducible exact Later.calls (Nat.le_refl _) (HF1.out _) | with_reducible exact Later.calls (Nat.le_refl _) (HF2.out _) | with_reducible exact Later.calls (Nat.le_refl _) (HF3.out _))))
        refine wpQuiet_nil ?_
        rintro v37 ⟨zz, rfl⟩
        have hb := zz.prop
        have HZ0 := Lib.hid hb
        clear p0 p1 p2 p3
        generalize zz.val = v37 at *
        have HQL38 := Lib.hid (RowC.kept HQL35.out hb)
        have HXp39 := Lib.hid (blk_kept hb HXp36.out)
        have HXa39 := Lib.hid (blk_kept hb HXa36.out)
        have HW39 := Lib.hid (below_step HW36.out hb HW36.out.size)
        clear hb
        go_wp2_with fail
        obtain ⟨a0, a1, a2⟩ := later_boxAL HXa39.out
        have e0 : ∀ zz : Later v37.heap.size v37, zz.val.cell? ⟨g, 0, none⟩ = some (.int .u8 (fG.toNat : Int)) := fun zz => cell_kept zz.prop (elem_at HQL38.out 0 (by simp) rfl).c0
        have e1 : ∀ zz : Later v37.heap.size v37, zz.val.cell? ⟨g, 1, none⟩ = some (.int .u64 (xG.toNat : Int)) := fun zz => cell_kept zz.prop (elem_at HQL38.out 0 (by simp) rfl).c1
        have e2 : ∀ zz : Later v37.heap.size v37, zz.val.cell? ⟨g, 2, none⟩ = some (.int .u64 (yG.toNat : Int)) := fun zz => cell_kept zz.prop (elem_at HQL38.out 0 (by simp) rfl).c2
        have e3 : ∀ zz : Later v37.heap.size v37, zz.val.cell? ⟨g, 3, none⟩ = some (.int .i64 bG) := fun zz => cell_kept zz.prop (elem_at HQL38.out 0 (by simp) rfl).c3
        have hse := HSE.out
        have hqa := HQA.out
        refine wp_region_later v37.heap.size (by kernel_rfl) (by kernel_rfl) ?_
        repeat (go_big_quiet_step (first | (go_at_call 13; exact Later.calls (Nat.le_refl _) (HTX.out _ (HE.out.kept (below_step HW39.out (Later.prop _) HW39.out.size)))) | (go_at_call 11; exact Later.calls (Nat.le_refl _) (HLA.out _)) | (go_at_call 14; exact Later.calls (Nat.le_refl _) (HAW.out _ (HE.out.kept (below_step HW39.out (Later.prop _) HW39.out.size))))))
        refine wpQuiet_nil ?_
        rintro v40 ⟨zz, rfl⟩
        have hb := zz.prop
        have HZ0 := Lib.hid hb
        clear a0 a1 a2 e0 e1 e2 e3
        generalize zz.val = v40 at *
        have HQL41 := Lib.hid (RowC.kept HQL38.out hb)
        have HXp42 := Lib.hid (blk_kept hb HXp39.out)
        have HXa42 := Lib.hid (blk_kept hb HXa39.out)
        have HW42 := Lib.hid (below_step HW39.out hb HW39.out.size)
        clear hb
        go_wp2_with fail
        go_ret
        exact ⟨rfl, HW42.out⟩
end Go.Proofs.Tryd.Cd
