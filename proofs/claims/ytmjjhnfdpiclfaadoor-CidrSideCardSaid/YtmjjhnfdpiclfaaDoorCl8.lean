/- CidrSide's walk. -/
import Derived.Test.YtmjjhnfdpiclfaaDoorCq7
import Derived.Test.YtmjjhnfdpiclfaaDoorCl7
set_option linter.unusedVariables false
set_option linter.unusedSimpArgs false
set_option maxRecDepth 100000
namespace Go.Proofs.Tryd.Cd
open Go.RowKit Go.Cph Go.Cph.Tx Go.Cph.Px Go.Cph.Cv Go.Proofs.Tryd.Tx Go.Proofs.Tryd.Pfx
open Go.Cph.Ok (ofBs)
open Go.Proofs.Tryd.Rows (boxZ)
theorem neq_of_eql {x y : Int} {b : Bool} (h : (x == y) = b) : (x != y) = !b := by simp [bne, h]
set_option maxHeartbeats 8000000 in
theorem side_no (a b x : Ad) (w : World) (henv : Env w) (hc : ¬ (CanP a b ∧ num a ≤ num b)) : Calls Tryd.prog 4 #[encA a, encA b, encA x] w fun e w' => e = .returned (.bool true) ∧ Below w.heap.size w w' := by
  have HE := Lib.hid henv
  have HAW := Lib.hid (fun W he => awake_any W he)
  have hcv : coverP a b = [] := by
    by_cases h : CanP a b
    · exact cover_less h (by have : ¬ num a ≤ num b := fun k => hc ⟨h, k⟩
                             omega)
    · exact cover_not h
  have HCO := Lib.hid (fun W => cover_any a b W)
  rw [hcv] at HCO
  have HRa := Lib.hid (fun W => Pfx.right a W)
  have HRb := Lib.hid (fun W => Pfx.right b W)
  have HLS := Lib.hid (fun W => Pfx.less b a W)
  have hfe := neq_of_eql (Pfx.u8_eq a.1 b.1)
  have HF := Lib.hid (show rightA a = false ∨ (rightA a = true ∧ rightA b = false) ∨ (rightA a = true ∧ rightA b = true ∧ (a.1 == b.1) = false) ∨ (rightA a = true ∧ rightA b = true ∧ (a.1 == b.1) = true ∧ lessA b a = true) from by
    cases h1 : rightA a with
    | false => exact .inl rfl
    | true =>
      right
      cases h2 : rightA b with
      | false => exact .inl ⟨rfl, rfl⟩
      | true =>
        right
        by_cases h3 : a.1 = b.1
        · refine .inr ⟨rfl, rfl, by simpa using h3, ?_⟩
          rw [less_same h3.symm, decide_eq_true_eq]
          have : ¬ num a ≤ num b := fun k => hc ⟨⟨h1, h2, h3⟩, k⟩
          omega
        · exact .inl ⟨rfl, rfl, by simpa using h3⟩)
  obtain ⟨ra, h1⟩ : ∃ r, r = rightA a := ⟨_, rfl⟩
  rw [← h1] at HRa HF
  obtain ⟨rb, h2⟩ : ∃ r, r = rightA b := ⟨_, rfl⟩
  rw [← h2] at HRb HF
  obtain ⟨fe, h3⟩ : ∃ r, r = (a.1 == b.1) := ⟨_, rfl⟩
  rw [← h3] at hfe HF
  obtain ⟨ls, h4⟩ : ∃ r, r = lessA b a := ⟨_, rfl⟩
  rw [← h4] at HLS HF
  have HFE := Lib.hid hfe
  clear henv hc hcv h1 h2 h3 h4 hfe
  obtain ⟨fa, xa, ya⟩ := a
  obtain ⟨fb, xb, yb⟩ := b
  obtain ⟨fx, xx, yx⟩ := x
  have HXa1 := Lib.hid (heap_alloc_new w (boxA (fa, xa, ya)))
  have HW1 := Lib.hid (show Below w.heap.size w (w.alloc (boxA (fa, xa, ya))) from (Below.refl _ _).alloc (Nat.le_refl _) _)
  have HXa2 := Lib.hid (blk_alloc HXa1.out (boxA (fb, xb, yb)))
  have hxb := heap_alloc_new (w.alloc (boxA (fa, xa, ya))) (boxA (fb, xb, yb))
  simp only [World.size_alloc] at hxb
  have HXb2 := Lib.hid hxb
  clear hxb
  have HW2 := Lib.hid (show Below w.heap.size w ((w.alloc (boxA (fa, xa, ya))).alloc (boxA (fb, xb, yb))) from HW1.out.alloc HW1.out.size _)
  have HXa3 := Lib.hid (blk_alloc HXa2.out (boxA (fx, xx, yx)))
  have HXb3 := Lib.hid (blk_alloc HXb2.out (boxA (fx, xx, yx)))
  have hxx := heap_alloc_new ((w.alloc (boxA (fa, xa, ya))).alloc (boxA (fb, xb, yb))) (boxA (fx, xx, yx))
  simp only [World.size_alloc] at hxx
  have HXx3 := Lib.hid hxx
  clear hxx
  have HW3 := Lib.hid (show Below w.heap.size w (((w.alloc (boxA (fa, xa, ya))).alloc (boxA (fb, xb, yb))).alloc (boxA (fx, xx, yx))) from HW2.out.alloc HW2.out.size _)
  go_enter Tryd.func4, Tryd.ntmps4
  obtain ⟨a0, a1, a2⟩ := box_at HXa3.out
  obtain ⟨b0, b1, b2⟩ := box_at HXb3.out
  go_wp2_with fail
  refine (HCO.out _).mono ?_
  rintro e w9 ⟨v, rfl, ho, hb⟩
  obtain ⟨ao, cap, rfl⟩ := owns_slice1 ho
  clear ho
  rw [show ([] : List Pf).length = 0 from rfl]
  clear a0 a1 a2 b0 b1 b2
  have HXa4 := Lib.hid (blk_kept hb HXa3.out)
  have HXb4 := Lib.hid (blk_kept hb HXb3.out)
  have HXx4 := Lib.hid (blk_kept hb HXx3.out)
  have HW4 := Lib.hid (below_step HW3.out hb HW3.out.size)
  clear hb
  obtain ⟨a0, a1, a2⟩ := box_at HXa4.out
  obtain ⟨b0, b1, b2⟩ := box_at HXb4.out
  go_wp2_with fail
  refine (HRa.out _).mono ?_
  rintro e v5 ⟨rfl, hb⟩
  clear a0 a1 a2 b0 b1 b2
  have HXa6 := Lib.hid (blk_kept hb HXa4.out)
  have HXb6 := Lib.hid (blk_kept hb HXb4.out)
  have HXx6 := Lib.hid (blk_kept hb HXx4.out)
  have HW6 := Lib.hid (below_step HW4.out hb HW4.out.size)
  clear hb
  obtain ⟨a0, a1, a2⟩ := box_at HXa6.out
  obtain ⟨b0, b1, b2⟩ := box_at HXb6.out
  rcases HF.out with rfl | ⟨rfl, rfl⟩ | ⟨rfl, rfl, rfl⟩ | ⟨rfl, rfl, rfl, rfl⟩
  · go_wp2_with fail
    refine (HAW.out _ (HE.out.kept HW6.out)).mono ?_
    rintro e v7 ⟨rfl, hb⟩
    clear a0 a1 a2 b0 b1 b2
    have HXa8 := Lib.hid (blk_kept hb HXa6.out)
    have HXb8 := Lib.hid (blk_kept hb HXb6.out)
    have HXx8 := Lib.hid (blk_kept hb HXx6.out)
    have HW8 := Lib.hid (below_step HW6.out hb HW6.out.size)
    clear hb
    go_wp2_with fail
    go_ret
    exact ⟨rfl, HW8.out⟩
  · go_wp2_with fail
    refine (HRb.out _).mono ?_
    rintro e v9 ⟨rfl, hb⟩
    clear a0 a1 a2 b0 b1 b2
    have HXa10 := Lib.hid (blk_kept hb HXa6.out)
    have HXb10 := Lib.hid (blk_kept hb HXb6.out)
    have HXx10 := Lib.hid (blk_kept hb HXx6.out)
    have HW10 := Lib.hid (below_step HW6.out hb HW6.out.size)
    clear hb
    obtain ⟨a0, a1, a2⟩ := box_at HXa10.out
    obtain ⟨b0, b1, b2⟩ := box_at HXb10.out
    go_wp2_with fail
    refine (HAW.out _ (HE.out.kept HW10.out)).mono ?_
    rintro e v11 ⟨rfl, hb⟩
    clear a0 a1 a2 b0 b1 b2
    have HXa12 := Lib.hid (blk_kept hb HXa10.out)
    have HXb12 := Lib.hid (blk_kept hb HXb10.out)
    have HXx12 := Lib.hid (blk_kept hb HXx10.out)
    have HW12 := Lib.hid (below_step HW10.out hb HW10.out.size)
    clear hb
    go_wp2_with fail
    go_ret
    exact ⟨rfl, HW12.out⟩
  · go_wp2_with fail
    refine (HRb.out _).mono ?_
    rintro e v13 ⟨rfl, hb⟩
    clear a0 a1 a2 b0 b1 b2
    have HXa14 := Lib.hid (blk_kept hb HXa6.out)
    have HXb14 := Lib.hid (blk_kept hb HXb6.out)
    have HXx14 := Lib.hid (blk_kept hb HXx6.out)
    have HW14 := Lib.hid (below_step HW6.out hb HW6.out.size)
    clear hb
    obtain ⟨a0, a1, a2⟩ := box_at HXa14.out
    obtain ⟨b0, b1, b2⟩ := box_at HXb14.out
    have hfe := HFE.out
    go_wp2_with fail
    refine (HAW.out _ (HE.out.kept HW14.out)).mono ?_
    rintro e v15 ⟨rfl, hb⟩
    clear a0 a1 a2 b0 b1 b2
    have HXa16 := Lib.hid (blk_kept hb HXa14.out)
    have HXb16 := Lib.hid (blk_kept hb HXb14.out)
    have HXx16 := Lib.hid (blk_kept hb HXx14.out)
    have HW16 := Lib.hid (below_step HW14.out hb HW14.out.size)
    clear hb
    go_wp2_with fail
    go_ret
    exact ⟨rfl, HW16.out⟩
  · go_wp2_with fail
    refine (HRb.out _).mono ?_
    rintro e v17 ⟨rfl, hb⟩
    clear a0 a1 a2 b0 b1 b2
    have HXa18 := Lib.hid (blk_kept hb HXa6.out)
    have HXb18 := Lib.hid (blk_kept hb HXb6.out)
    have HXx18 := Lib.hid (blk_kept hb HXx6.out)
    have HW18 := Lib.hid (below_step HW6.out hb HW6.out.size)
    clear hb
    obtain ⟨a0, a1, a2⟩ := box_at HXa18.out
    obtain ⟨b0, b1, b2⟩ := box_at HXb18.out
    have hfe := HFE.out
    go_wp2_with fail
    refine (HLS.out _).mono ?_
    rintro e v19 ⟨rfl, hb⟩
    clear a0 a1 a2 b0 b1 b2
    have HXa20 := Lib.hid (blk_kept hb HXa18.out)
    have HXb20 := Lib.hid (blk_kept hb HXb18.out)
    have HXx20 := Lib.hid (blk_kept hb HXx18.out)
    have HW20 := Lib.hid (below_step HW18.out hb HW18.out.size)
    clear hb
    go_wp2_with fail
    refine (HAW.out _ (HE.out.kept HW20.out)).mono ?_
    rintro e v21 ⟨rfl, hb⟩
    have HXa22 := Lib.hid (blk_kept hb HXa20.out)
    have HXb22 := Lib.hid (blk_kept hb HXb20.out)
    have HXx22 := Lib.hid (blk_kept hb HXx20.out)
    have HW22 := Lib.hid (below_step HW20.out hb HW20.out.size)
    clear hb
    go_wp2_with fail
    go_ret
    exact ⟨rfl, HW22.out⟩
/-- One element's cells. -/
structure ElemAt (W : World) (g o : Nat) (f : UInt8) (x y : UInt64) (b : Int) : Prop where
  c0 : W.cell? ⟨g, o, none⟩ = some (.int .u8 (f.toNat : Int))
  c1 : W.cell? ⟨g, o + 1, none⟩ = some (.int .u64 (x.toNat : Int))
  c2 : W.cell? ⟨g, o + 2, none⟩ = some (.int .u64 (y.toNat : Int))
  c3 : W.cell? ⟨g, o + 3, none⟩ = some (.int .i64 b)
theorem elem_at {W : World} {g : Nat} {L : List Pf} (h : RowC W g L) (i : Nat) (hi : i < L.length) {f : UInt8} {x y : UInt64} {b : Int} (e : L[i] = ((f, x, y), b)) : ElemAt W g (i * 4) f x y b :=
  ⟨by rw [h.c0 i hi, e], by rw [h.c1 i hi, e], by rw [h.c2 i hi, e], by rw [h.c3 i hi, e]⟩
theorem next_at {l : List Pf} {a b x : Ad} (S : SideFacts l a b x) {i j : Nat} (e : i = j + 1) (h : i < l.length) (hj : j < l.length) : Go.Proofs.Tryd.Gp.nextA (lastR l[j]) = (l[i].1, true) := by subst e; exact S.next j h
theorem apart_at {l : List Pf} {a b x : Ad} (S : SideFacts l a b x) {i j : Nat} (e : i = j + 1) (h : i < l.length) (hj : j < l.length) : fits l[i].1 (l[i].2 - 1) = true → l[j].2 = l[i].2 → (cutP l[i].1 (l[i].2 - 1)).1 ≠ l[j].1 := by subst e; exact S.apart j h
def InC (r : Bool) (e l m : Bool) (z : Int) : Prop := (r = false ∧ z = 0) ∨ (r = true ∧ e = false ∧ z = 0) ∨ (r = true ∧ e = true ∧ l = true ∧ z = 0) ∨ (r = true ∧ e = true ∧ l = false ∧ m = true ∧ z = 0) ∨ (r = true ∧ e = true ∧ l = false ∧ m = false ∧ z = 1)
theorem in_cases {a b x : Ad} (hc : CanP a b) {n : Nat} (h : n = if rightA x = true ∧ x.1 = a.1 ∧ num a ≤ num x ∧ num x ≤ num b then 1 else 0) {z : Int} (hz : z = (n : Int)) : InC (rightA x) ((x.1.toNat : Int) == (a.1.toNat : Int)) (lessA x a) (lessA b x) z := by
  unfold InC
  rw [hz, h, Pfx.u8_eq]
  cases h1 : rightA x with
  | false => exact .inl ⟨rfl, by simp⟩
  | true =>
    right
    by_cases h2 : x.1 = a.1
    · right
      have e1 : lessA x a = decide (num x < num a) := less_same h2
      have e2 : lessA b x = decide (num b < num x) := less_same (hc.2.2.symm.trans h2.symm)
      rw [e1, e2]
      by_cases h3 : num x < num a
      · exact .inl ⟨rfl, by simpa using h2, by simpa using h3, by rw [if_neg (by omega)]; rfl⟩
      · right
        by_cases h4 : num b < num x
        · exact .inl ⟨rfl, by simpa using h2, by simpa using h3, by simpa using h4, by rw [if_neg (by omega)]; rfl⟩
        · exact .inr ⟨rfl, by simpa using h2, by simpa using h3, by simpa using h4, by rw [if_pos ⟨rfl, h2, by omega, by omega⟩]; rfl⟩
    · exact .inl ⟨rfl, by simpa using h2, by rw [if_neg (fun k => h2 k.2.1)]; rfl⟩
set_option maxHeartbeats 16000000 in
theorem side_yes (a b x : Ad) (w : World) (henv : Env w) (hc : CanP a b) (hab : num a ≤ num b) : Calls Tryd.prog 4 #[encA a, encA b, encA x] w fun e w' => e = .returned (.bool true) ∧ Below w.heap.size w w' := by
  have HE := Lib.hid henv
  have HAW := Lib.hid (fun W he => awake_any W he)
  have HCO := Lib.hid (fun W => cover_any a b W)
  have hsf := side_facts hc hab x
  obtain ⟨L, hL⟩ : ∃ L, L = coverP a b := ⟨_, rfl⟩
  rw [← hL] at hsf HCO
  have SF := Lib.hid hsf
  have HRa := Lib.hid (fun W => Pfx.right a W)
  rw [hc.1] at HRa
  have HRb := Lib.hid (fun W => Pfx.right b W)
  rw [hc.2.1] at HRb
  have HLS := Lib.hid (fun W => Pfx.less b a W)
  rw [show lessA b a = false from by rw [less_same hc.2.2.symm, decide_eq_false_iff_not]; omega] at HLS
  have hfe : ((a.1.toNat : Int) != (b.1.toNat : Int)) = false := by rw [hc.2.2]; simp
  have HFE := Lib.hid hfe
  have HRX := Lib.hid (fun W => Pfx.right x W)
  have HL1 := Lib.hid (fun W => Pfx.less x a W)
  have HL2 := Lib.hid (fun W => Pfx.less b x W)
  have hxe := Pfx.u8_eq x.1 a.1
  have HXE := Lib.hid hxe
  obtain ⟨z0, hz0⟩ : ∃ z : Int, z = ((L.countP (fun p => hasP p x) : Nat) : Int) := ⟨_, rfl⟩
  have HZC := Lib.hid hz0
  have HIN := Lib.hid (in_cases hc hsf.count hz0)
  unfold InC at HIN
  obtain ⟨rx, hr1⟩ : ∃ r, r = rightA x := ⟨_, rfl⟩
  rw [← hr1] at HRX HIN
  obtain ⟨l1, hr2⟩ : ∃ r, r = lessA x a := ⟨_, rfl⟩
  rw [← hr2] at HL1 HIN
  obtain ⟨l2, hr3⟩ : ∃ r, r = lessA b x := ⟨_, rfl⟩
  rw [← hr3] at HL2 HIN
  clear hz0 hr1 hr2 hr3
  have HNA := Lib.hid (show ∀ W, (binOp .neq 24 (encA a) (encA a)).run Tryd.prog W = .ok (.bool false) W from fun W => by rw [run_neqA]; simp)
  have HNB := Lib.hid (show ∀ W, (binOp .neq 24 (encA b) (encA b)).run Tryd.prog W = .ok (.bool false) W from fun W => by rw [run_neqA]; simp)
  obtain ⟨n, hn⟩ : ∃ n, n = L.length := ⟨_, rfl⟩
  have HN := Lib.hid hn
  obtain ⟨hl1, hl2⟩ := hsf.len
  rw [← hn] at hl1 hl2
  obtain ⟨m, hm⟩ : ∃ m, n = m + 1 := ⟨n - 1, by omega⟩
  have HM := Lib.hid hm
  have hml : m < L.length := by omega
  obtain ⟨PL, hPL⟩ : ∃ P, P = L[m] := ⟨_, rfl⟩
  have HPL : Hid (∀ h : m < L.length, L[m] = PL) := Lib.hid (fun h => hPL.symm)
  have HLL := Lib.hid (fun W => last_any PL W)
  rw [show lastR PL = b from by rw [hPL]; have := hsf.last (by omega); simp only [show L.length - 1 = m by omega] at this; exact this] at HLL
  have HP0 : Hid (∀ h : 0 < L.length, L[0].1 = a) := Lib.hid (fun h => hsf.first h)
  have hn0 : ((n : Int) == 0) = false := by simp; omega
  have hn1 : 0 < n := by omega
  have hn2 : decide ((254 : Int) < (n : Int)) = false := by simp; omega
  have hn3 : IntKind.i64.wrap ((n : Int) - 1) = (m : Int) := by rw [IntKind.wrap_i64]; omega
  have hn4 : m < n := by omega
  have HNB254 := Lib.hid hl2
  clear henv hL hsf hfe hxe hn hPL hm hl1 hl2 hml hc hab
  obtain ⟨fa, xa, ya⟩ := a
  obtain ⟨fb, xb, yb⟩ := b
  obtain ⟨fx, xx, yx⟩ := x
  obtain ⟨⟨fz, xz, yz⟩, bz⟩ := PL
  have HXa1 := Lib.hid (heap_alloc_new w (boxA (fa, xa, ya)))
  have HW1 := Lib.hid (show Below w.heap.size w (w.alloc (boxA (fa, xa, ya))) from (Below.refl _ _).alloc (Nat.le_refl _) _)
  have HXa2 := Lib.hid (blk_alloc HXa1.out (boxA (fb, xb, yb)))
  have hxb := heap_alloc_new (w.alloc (boxA (fa, xa, ya))) (boxA (fb, xb, yb))
  simp only [World.size_alloc] at hxb
  have HXb2 := Lib.hid hxb
  clear hxb
  have HW2 := Lib.hid (show Below w.heap.size w ((w.alloc (boxA (fa, xa, ya))).alloc (boxA (fb, xb, yb))) from HW1.out.alloc HW1.out.size _)
  have HXa3 := Lib.hid (blk_alloc HXa2.out (boxA (fx, xx, yx)))
  have HXb3 := Lib.hid (blk_alloc HXb2.out (boxA (fx, xx, yx)))
  have hxx := heap_alloc_new ((w.alloc (boxA (fa, xa, ya))).alloc (boxA (fb, xb, yb))) (boxA (fx, xx, yx))
  simp only [World.size_alloc] at hxx
  have HXx3 := Lib.hid hxx
  clear hxx
  have HW3 := Lib.hid (show Below w.heap.size w (((w.alloc (boxA (fa, xa, ya))).alloc (boxA (fb, xb, yb))).alloc (boxA (fx, xx, yx))) from HW2.out.alloc HW2.out.size _)
  go_enter Tryd.func4, Tryd.ntmps4
  obtain ⟨a0, a1, a2⟩ := box_at HXa3.out
  obtain ⟨b0, b1, b2⟩ := box_at HXb3.out
  go_wp2_with fail
  refine (HCO.out _).mono ?_
  rintro e w9 ⟨v, rfl, ho, hb⟩
  obtain ⟨g, cap, rfl, hrow⟩ := RowC.of_owns ho (by rw [← HN.out]; omega)
  rw [← HN.out]
  have HROW := Lib.hid hrow
  clear ho hrow
  clear a0 a1 a2 b0 b1 b2
  have HXa4 := Lib.hid (blk_kept hb HXa3.out)
  have HXb4 := Lib.hid (blk_kept hb HXb3.out)
  have HXx4 := Lib.hid (blk_kept hb HXx3.out)
  have HW4 := Lib.hid (below_step HW3.out hb HW3.out.size)
  clear hb
  obtain ⟨a0, a1, a2⟩ := box_at HXa4.out
  obtain ⟨b0, b1, b2⟩ := box_at HXb4.out
  go_wp2_with fail
  refine (HRa.out _).mono ?_
  rintro e v5 ⟨rfl, hb⟩
  clear a0 a1 a2 b0 b1 b2
  have HQL6 := Lib.hid (RowC.kept HROW.out hb)
  have HXa7 := Lib.hid (blk_kept hb HXa4.out)
  have HXb7 := Lib.hid (blk_kept hb HXb4.out)
  have HXx7 := Lib.hid (blk_kept hb HXx4.out)
  have HW7 := Lib.hid (below_step HW4.out hb HW4.out.size)
  clear hb
  obtain ⟨a0, a1, a2⟩ := box_at HXa7.out
  obtain ⟨b0, b1, b2⟩ := box_at HXb7.out
  go_wp2_with fail
  refine (HRb.out _).mono ?_
  rintro e v8 ⟨rfl, hb⟩
  clear a0 a1 a2 b0 b1 b2
  have HQL9 := Lib.hid (RowC.kept HQL6.out hb)
  have HXa10 := Lib.hid (blk_kept hb HXa7.out)
  have HXb10 := Lib.hid (blk_kept hb HXb7.out)
  have HXx10 := Lib.hid (blk_kept hb HXx7.out)
  have HW10 := Lib.hid (below_step HW7.out hb HW7.out.size)
  clear hb
  obtain ⟨a0, a1, a2⟩ := box_at HXa10.out
  obtain ⟨b0, b1, b2⟩ := box_at HXb10.out
  have hfe := HFE.out
  go_wp2_with fail
  refine (HLS.out _).mono ?_
  rintro e w10 ⟨rfl, hb⟩
  clear a0 a1 a2 b0 b1 b2
  clear hfe
  have HQL11 := Lib.hid (RowC.kept HQL9.out hb)
  have HXa12 := Lib.hid (blk_kept hb HXa10.out)
  have HXb12 := Lib.hid (blk_kept hb HXb10.out)
  have HXx12 := Lib.hid (blk_kept hb HXx10.out)
  have HW12 := Lib.hid (below_step HW10.out hb HW10.out.size)
  clear hb
  go_wp2_with fail
  have HLM := Lib.hid (show m < L.length from by rw [← HN.out, HM.out]; omega)
  have HL0 := Lib.hid (show 0 < L.length from by rw [← HN.out, HM.out]; omega)
  obtain ⟨bk, hbk⟩ : ∃ bk, bk = (L[0]'HL0.out).2 := ⟨_, rfl⟩
  have HP1 := Lib.hid (show L[0]'HL0.out = ((fa, xa, ya), bk) from by rw [hbk, ← HP0.out HL0.out])
  clear hbk
  go_cut [70] (fun s9 wx => s9 = .bool false ∧ Below w10.heap.size w10 wx)
  case first =>
    obtain ⟨a0, a1, a2⟩ := later_box HXa12.out
    obtain ⟨b0, b1, b2⟩ := later_box HXb12.out
    have e0 : ∀ zz : Later w10.heap.size w10, zz.val.cell? ⟨g, 0, none⟩ = some (.int .u8 (fa.toNat : Int)) := fun zz => cell_kept zz.prop (elem_at HQL11.out 0 HL0.out HP1.out).c0
    have e1 : ∀ zz : Later w10.heap.size w10, zz.val.cell? ⟨g, 1, none⟩ = some (.int .u64 (xa.toNat : Int)) := fun zz => cell_kept zz.prop (elem_at HQL11.out 0 HL0.out HP1.out).c1
    have e2 : ∀ zz : Later w10.heap.size w10, zz.val.cell? ⟨g, 2, none⟩ = some (.int .u64 (ya.toNat : Int)) := fun zz => cell_kept zz.prop (elem_at HQL11.out 0 HL0.out HP1.out).c2
    have e3 : ∀ zz : Later w10.heap.size w10, zz.val.cell? ⟨g, 3, none⟩ = some (.int .i64 bk) := fun zz => cell_kept zz.prop (elem_at HQL11.out 0 HL0.out HP1.out).c3
    have z0 : ∀ zz : Later w10.heap.size w10, zz.val.cell? ⟨g, m * 4, none⟩ = some (.int .u8 (fz.toNat : Int)) := fun zz => cell_kept zz.prop (elem_at HQL11.out m HLM.out (HPL.out HLM.out)).c0
    have z1 : ∀ zz : Later w10.heap.size w10, zz.val.cell? ⟨g, m * 4 + 1, none⟩ = some (.int .u64 (xz.toNat : Int)) := fun zz => cell_kept zz.prop (elem_at HQL11.out m HLM.out (HPL.out HLM.out)).c1
    have z2 : ∀ zz : Later w10.heap.size w10, zz.val.cell? ⟨g, m * 4 + 2, none⟩ = some (.int .u64 (yz.toNat : Int)) := fun zz => cell_kept zz.prop (elem_at HQL11.out m HLM.out (HPL.out HLM.out)).c2
    have z3 : ∀ zz : Later w10.heap.size w10, zz.val.cell? ⟨g, m * 4 + 3, none⟩ = some (.int .i64 bz) := fun zz => cell_kept zz.prop (elem_at HQL11.out m HLM.out (HPL.out HLM.out)).c3
    have hna := HNA.out
    have hnb := HNB.out
    refine wp_region_later w10.heap.size (by kernel_rfl) (by kernel_rfl) ?_
    repeat (go_big_quiet_step ((go_at_call 11; exact Later.calls (Nat.le_refl _) (HLL.out _))))
    refine wpQuiet_nil ?_
    rintro v13 ⟨zz, rfl⟩
    have hb := zz.prop
    have HZ0 := Lib.hid hb
    clear a0 a1 a2 b0 b1 b2 e0 e1 e2 e3 z0 z1 z2 z3
    generalize zz.val = v13 at *
    have HQL14 := Lib.hid (RowC.kept HQL11.out hb)
    have HXa15 := Lib.hid (blk_kept hb HXa12.out)
    have HXb15 := Lib.hid (blk_kept hb HXb12.out)
    have HXx15 := Lib.hid (blk_kept hb HXx12.out)
    have HW15 := Lib.hid (below_step HW12.out hb HW12.out.size)
    clear hb
    go_wp2_with fail
    go_meet
    case rel => exact ⟨rfl, HZ0.out⟩
  case rest =>
    obtain ⟨w11, hw11⟩ : ∃ w11, w11 = wc := ⟨_, rfl⟩
    subst hw11
    obtain ⟨rfl, hb⟩ := hcut
    have HQL16 := Lib.hid (RowC.kept HQL11.out hb)
    have HXa17 := Lib.hid (blk_kept hb HXa12.out)
    have HXb17 := Lib.hid (blk_kept hb HXb12.out)
    have HXx17 := Lib.hid (blk_kept hb HXx12.out)
    have HW17 := Lib.hid (below_step HW12.out hb HW12.out.size)
    clear hb
    go_wp2_with fail
    go_loopw [8, 9] (fun v8 v9 W => ∃ i : Nat, v9 = .int .i64 (i : Int) ∧ i ≤ n ∧ v8 = .int .i64 (((L.take i).countP (fun p => hasP p (fx, xx, yx)) : Nat) : Int) ∧ W.heap[w.heap.size]? = some (boxA (fa, xa, ya)) ∧ W.heap[w.heap.size + 1]? = some (boxA (fb, xb, yb)) ∧ W.heap[w.heap.size + 1 + 1]? = some (boxA (fx, xx, yx)) ∧ RowC W g L ∧ Below w.heap.size w W) (fun _ v9 _ => match v9 with | .int _ z => n - z.toNat | _ => 0)
    case atStart => exact ⟨0, rfl, Nat.zero_le _, by simp, HXa17.out, HXb17.out, HXx17.out, HQL16.out, HW17.out⟩
    case round =>
      obtain ⟨i, rfl, hi, rfl, ha, hbx, hx, hrow, hb⟩ := hrel
      have HXa0 := Lib.hid ha
      have HXb0 := Lib.hid hbx
      have HXx0 := Lib.hid hx
      have HR0 := Lib.hid hrow
      have HW0 := Lib.hid hb
      clear ha hbx hx hrow hb
      by_cases hlt : i < n
      · have hii : (i : Int) < (n : Int) := by omega
        have HIL := Lib.hid (show i < L.length from by rw [← HN.out]; exact hlt)
        obtain ⟨PI, hPI⟩ : ∃ P, P = L[i]'HIL.out := ⟨_, rfl⟩
        have HPI := Lib.hid hPI.symm
        have HRI := Lib.hid (fun W => rightP_any PI W)
        rw [show rightP PI = true from by rw [hPI]; exact SF.out.right i HIL.out] at HRI
        have HBI := Lib.hid (bits_small (show rightP PI = true from by rw [hPI]; exact SF.out.right i HIL.out))
        have HHI := Lib.hid (fun W => hasP_any PI (fx, xx, yx) W)
        obtain ⟨hh, hhe⟩ : ∃ b, b = hasP PI (fx, xx, yx) := ⟨_, rfl⟩
        rw [← hhe] at HHI
        have HCT := Lib.hid (show (L.take (i + 1)).countP (fun p => hasP p (fx, xx, yx)) = (L.take i).countP (fun p => hasP p (fx, xx, yx)) + (if hh then 1 else 0) from by
          rw [List.take_succ_eq_append_getElem HIL.out, List.countP_append, ← hPI, hhe]; simp [List.countP_cons])
        clear hPI hhe
        obtain ⟨⟨fi, xi, yi⟩, bi⟩ := PI
        have e0 : wr.cell? ⟨g, i * 4, none⟩ = some (.int .u8 (fi.toNat : Int)) := (elem_at HR0.out i HIL.out HPI.out).c0
        have e1 : wr.cell? ⟨g, i * 4 + 1, none⟩ = some (.int .u64 (xi.toNat : Int)) := (elem_at HR0.out i HIL.out HPI.out).c1
        have e2 : wr.cell? ⟨g, i * 4 + 2, none⟩ = some (.int .u64 (yi.toNat : Int)) := (elem_at HR0.out i HIL.out HPI.out).c2
        have e3 : wr.cell? ⟨g, i * 4 + 3, none⟩ = some (.int .i64 bi) := (elem_at HR0.out i HIL.out HPI.out).c3
        go_wp2_with fail
        refine (HRI.out _).mono ?_
        rintro e v18 ⟨rfl, hb⟩
        clear e0 e1 e2 e3
        have HQL19 := Lib.hid (RowC.kept HR0.out hb)
        have HXa20 := Lib.hid (blk_kept hb HXa0.out)
        have HXb20 := Lib.hid (blk_kept hb HXb0.out)
        have HXx20 := Lib.hid (blk_kept hb HXx0.out)
        have HW20 := Lib.hid (below_step HW0.out hb HW0.out.size)
        clear hb
        go_wp2_with fail
        obtain ⟨x0, x1, x2⟩ := later_box HXx20.out
        have e0 : ∀ zz : Later v18.heap.size v18, zz.val.cell? ⟨g, i * 4, none⟩ = some (.int .u8 (fi.toNat : Int)) := fun zz => cell_kept zz.prop (elem_at HQL19.out i HIL.out HPI.out).c0
        have e1 : ∀ zz : Later v18.heap.size v18, zz.val.cell? ⟨g, i * 4 + 1, none⟩ = some (.int .u64 (xi.toNat : Int)) := fun zz => cell_kept zz.prop (elem_at HQL19.out i HIL.out HPI.out).c1
        have e2 : ∀ zz : Later v18.heap.size v18, zz.val.cell? ⟨g, i * 4 + 2, none⟩ = some (.int .u64 (yi.toNat : Int)) := fun zz => cell_kept zz.prop (elem_at HQL19.out i HIL.out HPI.out).c2
        have e3 : ∀ zz : Later v18.heap.size v18, zz.val.cell? ⟨g, i * 4 + 3, none⟩ = some (.int .i64 bi) := fun zz => cell_kept zz.prop (elem_at HQL19.out i HIL.out HPI.out).c3
        refine wp_region_later v18.heap.size (by kernel_rfl) (by kernel_rfl) ?_
        repeat (go_big_quiet_step ((go_at_call 10; exact Later.calls (Nat.le_refl _) (HHI.out _))))
        refine wpQuiet_nil ?_
        rintro v21 ⟨zz, rfl⟩
        have hb := zz.prop
        have HZ0 := Lib.hid hb
        clear x0 x1 x2 e0 e1 e2 e3
        generalize zz.val = v21 at *
        have HQL22 := Lib.hid (RowC.kept HQL19.out hb)
        have HXa23 := Lib.hid (blk_kept hb HXa20.out)
        have HXb23 := Lib.hid (blk_kept hb HXb20.out)
        have HXx23 := Lib.hid (blk_kept hb HXx20.out)
        have HW23 := Lib.hid (below_step HW20.out hb HW20.out.size)
        clear hb
        go_upto_if 88 with (fail)
        go_cut [8] (fun s8 wx => s8 = .int .i64 (((L.take (i + 1)).countP (fun p => hasP p (fx, xx, yx)) : Nat) : Int) ∧ wx = v21)
        case first =>
          cases hh
          · go_wp2_with fail
            go_meet
            case rel => exact ⟨by rw [HCT.out]; simp, rfl⟩
          · have hw8 : IntKind.i64.wrap ((((L.take (i)).countP (fun p => hasP p (fx, xx, yx)) : Nat) : Int) + 1) = (((L.take (i + 1)).countP (fun p => hasP p (fx, xx, yx)) : Nat) : Int) := by
              have k0 := HNB254.out
              have k1 := HCT.out
              have k2 := List.countP_le_length (p := fun p => hasP p (fx, xx, yx)) (l := L.take i)
              rw [List.length_take] at k2
              rw [k1, IntKind.wrap_i64]
              simp only [if_true]
              omega
            go_wp2_with fail
            go_meet
            case rel => exact ⟨rfl, rfl⟩
        case rest =>
          obtain ⟨rfl, hwx⟩ := hcut
          subst hwx
          have hw9 : IntKind.i64.wrap ((i : Int) + 1) = ((i + 1 : Nat) : Int) := by have := HNB254.out; rw [IntKind.wrap_i64]; omega
          by_cases h0 : i = 0
          · have hz : ((i : Int) == 0) = true := by simp [h0]
            clear h0
            go_wp2_with fail
            go_roundw
            case rel => exact ⟨i + 1, rfl, by omega, rfl, HXa23.out, HXb23.out, HXx23.out, HQL22.out, HW23.out⟩
            case measure => simp; omega
          · have hz : ((i : Int) == 0) = false := by simp [h0]
            obtain ⟨j, hj⟩ : ∃ j, i = j + 1 := ⟨i - 1, by omega⟩
            have HJ := Lib.hid hj
            have hs : IntKind.i64.wrap ((i : Int) - 1) = (j : Int) := by have := HNB254.out; rw [IntKind.wrap_i64]; omega
            have hjn : j < n := by omega
            have HJL := Lib.hid (show j < L.length from by rw [← HN.out]; exact hjn)
            obtain ⟨PJ, hPJ⟩ : ∃ P, P = L[j]'HJL.out := ⟨_, rfl⟩
            have HPJ := Lib.hid hPJ.symm
            have HLJ := Lib.hid (fun W => last_any PJ W)
            have HNX := Lib.hid (fun W => nextB (lastR PJ) ((fi, xi, yi), true) (by have := next_at SF.out hj HIL.out HJL.out; rw [HPI.out, ← hPJ] at this; exact this) W)
            have HNI := Lib.hid (show ∀ W, (binOp .neq 24 (encA (fi, xi, yi)) (encA (fi, xi, yi))).run Tryd.prog W = .ok (.bool false) W from fun W => by rw [run_neqA]; simp)
            obtain ⟨LJ, hLJ⟩ : ∃ P, P = lastR PJ := ⟨_, rfl⟩
            rw [← hLJ] at HLJ HNX
            clear hPJ hj hLJ h0
            obtain ⟨⟨fj, xj, yj⟩, bj⟩ := PJ
            obtain ⟨fl, xl, yl⟩ := LJ
            have p0 : wc.cell? ⟨g, j * 4, none⟩ = some (.int .u8 (fj.toNat : Int)) := (elem_at HQL22.out j HJL.out HPJ.out).c0
            have p1 : wc.cell? ⟨g, j * 4 + 1, none⟩ = some (.int .u64 (xj.toNat : Int)) := (elem_at HQL22.out j HJL.out HPJ.out).c1
            have p2 : wc.cell? ⟨g, j * 4 + 2, none⟩ = some (.int .u64 (yj.toNat : Int)) := (elem_at HQL22.out j HJL.out HPJ.out).c2
            have p3 : wc.cell? ⟨g, j * 4 + 3, none⟩ = some (.int .i64 bj) := (elem_at HQL22.out j HJL.out HPJ.out).c3
            go_wp2_with fail
            refine (HLJ.out _).mono ?_
            rintro e v24 ⟨rfl, hb⟩
            clear p0 p1 p2 p3
            have HQL25 := Lib.hid (RowC.kept HQL22.out hb)
            have HXa26 := Lib.hid (blk_kept hb HXa23.out)
            have HXb26 := Lib.hid (blk_kept hb HXb23.out)
            have HXx26 := Lib.hid (blk_kept hb HXx23.out)
            have HW26 := Lib.hid (below_step HW23.out hb HW23.out.size)
            clear hb
            go_wp2_with fail
            refine (HNX.out _).mono ?_
            rintro e v27 ⟨rfl, hb⟩
            have HQL28 := Lib.hid (RowC.kept HQL25.out hb)
            have HXa29 := Lib.hid (blk_kept hb HXa26.out)
            have HXb29 := Lib.hid (blk_kept hb HXb26.out)
            have HXx29 := Lib.hid (blk_kept hb HXx26.out)
            have HW29 := Lib.hid (below_step HW26.out hb HW26.out.size)
            clear hb
            have HQL30 := Lib.hid (RowC.kept HQL28.out ((Below.refl _ _).alloc (Nat.le_refl _) (boxA (fi, xi, yi))))
            have HXa31 := Lib.hid (blk_alloc HXa29.out (boxA (fi, xi, yi)))
            have HXb31 := Lib.hid (blk_alloc HXb29.out (boxA (fi, xi, yi)))
            have HXx31 := Lib.hid (blk_alloc HXx29.out (boxA (fi, xi, yi)))
            have HXq31 := Lib.hid (heap_alloc_new v27 (boxA (fi, xi, yi)))
            have HW31 := Lib.hid (show Below w.heap.size w (v27.alloc (boxA (fi, xi, yi))) from HW29.out.alloc HW29.out.size _)
            go_wp2_with fail
            obtain ⟨q0, q1, q2⟩ := later_box HXq31.out
            have e0 : ∀ zz : Later (v27.alloc (boxA (fi, xi, yi))).heap.size (v27.alloc (boxA (fi, xi, yi))), zz.val.cell? ⟨g, i * 4, none⟩ = some (.int .u8 (fi.toNat : Int)) := fun zz => cell_kept zz.prop (elem_at HQL30.out i HIL.out HPI.out).c0
            have e1 : ∀ zz : Later (v27.alloc (boxA (fi, xi, yi))).heap.size (v27.alloc (boxA (fi, xi, yi))), zz.val.cell? ⟨g, i * 4 + 1, none⟩ = some (.int .u64 (xi.toNat : Int)) := fun zz => cell_kept zz.prop (elem_at HQL30.out i HIL.out HPI.out).c1
            have e2 : ∀ zz : Later (v27.alloc (boxA (fi, xi, yi))).heap.size (v27.alloc (boxA (fi, xi, yi))), zz.val.cell? ⟨g, i * 4 + 2, none⟩ = some (.int .u64 (yi.toNat : Int)) := fun zz => cell_kept zz.prop (elem_at HQL30.out i HIL.out HPI.out).c2
            have e3 : ∀ zz : Later (v27.alloc (boxA (fi, xi, yi))).heap.size (v27.alloc (boxA (fi, xi, yi))), zz.val.cell? ⟨g, i * 4 + 3, none⟩ = some (.int .i64 bi) := fun zz => cell_kept zz.prop (elem_at HQL30.out i HIL.out HPI.out).c3
            have p0 : ∀ zz : Later (v27.alloc (boxA (fi, xi, yi))).heap.size (v27.alloc (boxA (fi, xi, yi))), zz.val.cell? ⟨g, j * 4, none⟩ = some (.int .u8 (fj.toNat : Int)) := fun zz => cell_kept zz.prop (elem_at HQL30.out j HJL.out HPJ.out).c0
            have p1 : ∀ zz : Later (v27.alloc (boxA (fi, xi, yi))).heap.size (v27.alloc (boxA (fi, xi, yi))), zz.val.cell? ⟨g, j * 4 + 1, none⟩ = some (.int .u64 (xj.toNat : Int)) := fun zz => cell_kept zz.prop (elem_at HQL30.out j HJL.out HPJ.out).c1
            have p2 : ∀ zz : Later (v27.alloc (boxA (fi, xi, yi))).heap.size (v27.alloc (boxA (fi, xi, yi))), zz.val.cell? ⟨g, j * 4 + 2, none⟩ = some (.int .u64 (yj.toNat : Int)) := fun zz => cell_kept zz.prop (elem_at HQL30.out j HJL.out HPJ.out).c2
            have p3 : ∀ zz : Later (v27.alloc (boxA (fi, xi, yi))).heap.size (v27.alloc (boxA (fi, xi, yi))), zz.val.cell? ⟨g, j * 4 + 3, none⟩ = some (.int .i64 bj) := fun zz => cell_kept zz.prop (elem_at HQL30.out j HJL.out HPJ.out).c3
            have hni := HNI.out
            refine wp_region_later (v27.alloc (boxA (fi, xi, yi))).heap.size (by kernel_rfl) (by kernel_rfl) ?_
            repeat (go_big_quiet_step ((go_at_call 10; exact Later.calls (Nat.le_refl _) (HHI.out _))))
            refine wpQuiet_nil ?_
            rintro v32 ⟨zz, rfl⟩
            have hb := zz.prop
            have HZ0 := Lib.hid hb
            clear q0 q1 q2 e0 e1 e2 e3 p0 p1 p2 p3
            generalize zz.val = v32 at *
            have HQL33 := Lib.hid (RowC.kept HQL30.out hb)
            have HXa34 := Lib.hid (blk_kept hb HXa31.out)
            have HXb34 := Lib.hid (blk_kept hb HXb31.out)
            have HXx34 := Lib.hid (blk_kept hb HXx31.out)
            have HXq34 := Lib.hid (blk_kept hb HXq31.out)
            have HW34 := Lib.hid (below_step HW31.out hb HW31.out.size)
            clear hb
            go_wp2_with fail
            clear hni
            have HAP := Lib.hid (show fits (fi, xi, yi) (bi - 1) = true → bj = bi → (cutP (fi, xi, yi) (bi - 1)).1 ≠ (fj, xj, yj) from by
              have := apart_at SF.out HJ.out HIL.out HJL.out
              rw [HPI.out, HPJ.out] at this
              exact this)
            have HCU := Lib.hid (fun W => cutB (fi, xi, yi) (bi - 1) W)
            have HCE := Lib.hid (show (cutE (fi, xi, yi) (bi - 1) = 0 ∧ fits (fi, xi, yi) (bi - 1) = true) ∨ cutE (fi, xi, yi) (bi - 1) = 1 from by
              cases hf : fits (fi, xi, yi) (bi - 1) with
              | false => exact .inr (by unfold cutE; rw [hf]; rfl)
              | true => exact .inl ⟨by unfold cutE; rw [hf]; rfl, rfl⟩)
            obtain ⟨ce, hce⟩ : ∃ z, z = cutE (fi, xi, yi) (bi - 1) := ⟨_, rfl⟩
            rw [← hce] at HCU HCE
            obtain ⟨CC, hCC⟩ : ∃ z, z = cutP (fi, xi, yi) (bi - 1) := ⟨_, rfl⟩
            rw [← hCC] at HCU HAP
            clear hce hCC
            have hbm : IntKind.i64.wrap (bi - 1) = bi - 1 := by
              obtain ⟨b1, b2⟩ := HBI.out
              have b1 : bi.toNat < 129 := b1
              have b2 : (bi.toNat : Int) = bi := b2
              rw [IntKind.wrap_i64]; omega
            obtain ⟨bm, hbm0⟩ : ∃ z, z = bi - 1 := ⟨_, rfl⟩
            rw [← hbm0] at HCU HCE HAP
            have hbm1 : IntKind.i64.wrap (bi - 1) = bm := by rw [hbm0]; exact hbm
            clear hbm hbm0
            obtain ⟨⟨fc, xc, yc⟩, bc⟩ := CC
            have HKP := Lib.hid (show ∀ W, Below v32.heap.size v32 W → W.cell? ⟨g, i * 4, none⟩ = some (.int .u8 (fi.toNat : Int)) ∧ W.cell? ⟨g, i * 4 + 1, none⟩ = some (.int .u64 (xi.toNat : Int)) ∧ W.cell? ⟨g, i * 4 + 2, none⟩ = some (.int .u64 (yi.toNat : Int)) ∧ W.cell? ⟨g, i * 4 + 3, none⟩ = some (.int .i64 bi) from fun W h => (fun z : ElemAt W g (i * 4) fi xi yi bi => ⟨z.c0, z.c1, z.c2, z.c3⟩) (elem_at (RowC.kept HQL33.out h) i HIL.out HPI.out))
            have HS0 := Lib.hid (show Below v32.heap.size v32 v32 from Below.refl _ _)
            go_cut [12, 13] (fun s12 s13 wx => ∃ t, s12 = .pointer (some ⟨t, 0, none⟩) ∧ s13 = .int .i64 ce ∧ wx.heap[t]? = some (boxP ((fc, xc, yc), bc)) ∧ Below v32.heap.size v32 wx)
            case first =>
              go_region_held3 (fun W => W.cell? ⟨g, i * 4, none⟩ = some (.int .u8 (fi.toNat : Int)) ∧ W.cell? ⟨g, i * 4 + 1, none⟩ = some (.int .u64 (xi.toNat : Int)) ∧ W.cell? ⟨g, i * 4 + 2, none⟩ = some (.int .u64 (yi.toNat : Int)) ∧ W.cell? ⟨g, i * 4 + 3, none⟩ = some (.int .i64 bi)) ((refine HKP.out _ ?_; (repeat (first | exact B1.out | exact HS0.out | refine bl_drew ?_ | refine bl_alloc ?_ _ | refine bl_set ?_ (by first | exact Nat.le_refl _ | exact B1.out.size) _)); done))
                ((go_at_call 19; (with_reducible refine (HCU.out _).mono ?_); rintro e u1 ⟨rfl, hb⟩; (have B1 := Lib.hid (show Below v32.heap.size v32 u1 from by first | exact below_step HS0.out hb HS0.out.size | exact below_step HS0.out.drew hb HS0.out.drew.size | exact below_step (bl_alloc HS0.out _) hb (bl_alloc HS0.out _).size | exact below_step (bl_alloc HS0.out _).drew hb (bl_alloc HS0.out _).drew.size)); (try (have K1 := Lib.hid (show u1.heap[v32.heap.size]? = some boxPZ from blk_kept hb (heap_alloc_new _ _)))); clear hb; (try (obtain ⟨K1c0, K1c1, K1c2, K1c3⟩ := boxPZ_at K1.out; have K1f : ∀ j, u1.frozen? ⟨v32.heap.size, j, none⟩ = false := (fun j => by rw [blk_frozen K1.out]; simp)))))
              all_goals go_wp2_with fail
              all_goals go_meet
              all_goals case rel =>
                refine ⟨_, rfl, rfl, ?_, ?_⟩
                · first
                    | exact heap_alloc_new u1 _
                    | exact set4_heap K1.out _ _ _ _
                · first
                    | exact bl_alloc B1.out _
                    | exact set4 B1.out (Nat.le_refl _) _ _ _ _
            case rest =>
              obtain ⟨w12, hw12⟩ : ∃ w12, w12 = wc := ⟨_, rfl⟩
              subst hw12
              obtain ⟨t, rfl, rfl, ht, hb⟩ := hcut
              clear HKP HS0
              have HQL35 := Lib.hid (RowC.kept HQL33.out hb)
              have HXa36 := Lib.hid (blk_kept hb HXa34.out)
              have HXb36 := Lib.hid (blk_kept hb HXb34.out)
              have HXx36 := Lib.hid (blk_kept hb HXx34.out)
              have HXq36 := Lib.hid (blk_kept hb HXq34.out)
              have HW36 := Lib.hid (below_step HW34.out hb HW34.out.size)
              clear hb
              have HXc0 := Lib.hid ht
              clear ht
              go_wp2_with fail
              have HTR := Lib.hid (show Below w12.heap.size w12 w12 from Below.refl _ _)
              go_cut [155] (fun s155 wx => s155 = .bool false ∧ Below w12.heap.size w12 wx)
              case first =>
                skip
                rcases HCE.out with ⟨rfl, hf⟩ | rfl
                · have HAP2 := Lib.hid (HAP.out hf)
                  clear hf
                  by_cases hbe : bj = bi
                  · have HEA := Lib.hid (show ∀ W, (binOp .eql 24 (encA (fc, xc, yc)) (encA (fj, xj, yj))).run Tryd.prog W = .ok (.bool false) W from fun W => by
                      rw [run_eqlA, show (((fc, xc, yc) : Ad) == (fj, xj, yj)) = false from by have := HAP2.out hbe; simpa using this])
                    have hbq : (bj == bi) = true := by simpa using hbe
                    clear hbe
                    have hea := HEA.out
                    obtain ⟨c0, c1, c2, c3⟩ := boxP_at HXc0.out
                    have e0 : w12.cell? ⟨g, i * 4, none⟩ = some (.int .u8 (fi.toNat : Int)) := (elem_at HQL35.out i HIL.out HPI.out).c0
                    have e1 : w12.cell? ⟨g, i * 4 + 1, none⟩ = some (.int .u64 (xi.toNat : Int)) := (elem_at HQL35.out i HIL.out HPI.out).c1
                    have e2 : w12.cell? ⟨g, i * 4 + 2, none⟩ = some (.int .u64 (yi.toNat : Int)) := (elem_at HQL35.out i HIL.out HPI.out).c2
                    have e3 : w12.cell? ⟨g, i * 4 + 3, none⟩ = some (.int .i64 bi) := (elem_at HQL35.out i HIL.out HPI.out).c3
                    have p0 : w12.cell? ⟨g, j * 4, none⟩ = some (.int .u8 (fj.toNat : Int)) := (elem_at HQL35.out j HJL.out HPJ.out).c0
                    have p1 : w12.cell? ⟨g, j * 4 + 1, none⟩ = some (.int .u64 (xj.toNat : Int)) := (elem_at HQL35.out j HJL.out HPJ.out).c1
                    have p2 : w12.cell? ⟨g, j * 4 + 2, none⟩ = some (.int .u64 (yj.toNat : Int)) := (elem_at HQL35.out j HJL.out HPJ.out).c2
                    have p3 : w12.cell? ⟨g, j * 4 + 3, none⟩ = some (.int .i64 bj) := (elem_at HQL35.out j HJL.out HPJ.out).c3
                    go_quiet (fail)
                    go_wp2_with fail
                    go_meet
                    case rel => exact ⟨rfl, below_drewN HTR.out _⟩
                  · have hbq : (bj == bi) = false := by simpa using hbe
                    clear hbe
                    obtain ⟨c0, c1, c2, c3⟩ := boxP_at HXc0.out
                    have e0 : w12.cell? ⟨g, i * 4, none⟩ = some (.int .u8 (fi.toNat : Int)) := (elem_at HQL35.out i HIL.out HPI.out).c0
                    have e1 : w12.cell? ⟨g, i * 4 + 1, none⟩ = some (.int .u64 (xi.toNat : Int)) := (elem_at HQL35.out i HIL.out HPI.out).c1
                    have e2 : w12.cell? ⟨g, i * 4 + 2, none⟩ = some (.int .u64 (yi.toNat : Int)) := (elem_at HQL35.out i HIL.out HPI.out).c2
                    have e3 : w12.cell? ⟨g, i * 4 + 3, none⟩ = some (.int .i64 bi) := (elem_at HQL35.out i HIL.out HPI.out).c3
                    have p0 : w12.cell? ⟨g, j * 4, none⟩ = some (.int .u8 (fj.toNat : Int)) := (elem_at HQL35.out j HJL.out HPJ.out).c0
                    have p1 : w12.cell? ⟨g, j * 4 + 1, none⟩ = some (.int .u64 (xj.toNat : Int)) := (elem_at HQL35.out j HJL.out HPJ.out).c1
                    have p2 : w12.cell? ⟨g, j * 4 + 2, none⟩ = some (.int .u64 (yj.toNat : Int)) := (elem_at HQL35.out j HJL.out HPJ.out).c2
                    have p3 : w12.cell? ⟨g, j * 4 + 3, none⟩ = some (.int .i64 bj) := (elem_at HQL35.out j HJL.out HPJ.out).c3
                    go_quiet (fail)
                    go_wp2_with fail
                    go_meet
                    case rel => exact ⟨rfl, below_drewN HTR.out _⟩
                · obtain ⟨c0, c1, c2, c3⟩ := boxP_at HXc0.out
                  have e0 : w12.cell? ⟨g, i * 4, none⟩ = some (.int .u8 (fi.toNat : Int)) := (elem_at HQL35.out i HIL.out HPI.out).c0
                  have e1 : w12.cell? ⟨g, i * 4 + 1, none⟩ = some (.int .u64 (xi.toNat : Int)) := (elem_at HQL35.out i HIL.out HPI.out).c1
                  have e2 : w12.cell? ⟨g, i * 4 + 2, none⟩ = some (.int .u64 (yi.toNat : Int)) := (elem_at HQL35.out i HIL.out HPI.out).c2
                  have e3 : w12.cell? ⟨g, i * 4 + 3, none⟩ = some (.int .i64 bi) := (elem_at HQL35.out i HIL.out HPI.out).c3
                  have p0 : w12.cell? ⟨g, j * 4, none⟩ = some (.int .u8 (fj.toNat : Int)) := (elem_at HQL35.out j HJL.out HPJ.out).c0
                  have p1 : w12.cell? ⟨g, j * 4 + 1, none⟩ = some (.int .u64 (xj.toNat : Int)) := (elem_at HQL35.out j HJL.out HPJ.out).c1
                  have p2 : w12.cell? ⟨g, j * 4 + 2, none⟩ = some (.int .u64 (yj.toNat : Int)) := (elem_at HQL35.out j HJL.out HPJ.out).c2
                  have p3 : w12.cell? ⟨g, j * 4 + 3, none⟩ = some (.int .i64 bj) := (elem_at HQL35.out j HJL.out HPJ.out).c3
                  go_quiet (fail)
                  go_wp2_with fail
                  go_meet
                  case rel => exact ⟨rfl, below_drewN HTR.out _⟩
              case rest =>
                obtain ⟨w13, hw13⟩ : ∃ w13, w13 = wc := ⟨_, rfl⟩
                subst hw13
                obtain ⟨rfl, hb⟩ := hcut
                clear HTR
                have HQL37 := Lib.hid (RowC.kept HQL35.out hb)
                have HXa38 := Lib.hid (blk_kept hb HXa36.out)
                have HXb38 := Lib.hid (blk_kept hb HXb36.out)
                have HXx38 := Lib.hid (blk_kept hb HXx36.out)
                have HXq38 := Lib.hid (blk_kept hb HXq36.out)
                have HXc38 := Lib.hid (blk_kept hb HXc0.out)
                have HW38 := Lib.hid (below_step HW36.out hb HW36.out.size)
                clear hb
                go_wp2_with fail
                go_roundw
                case rel => exact ⟨i + 1, rfl, by omega, rfl, HXa38.out, HXb38.out, HXx38.out, HQL37.out, HW38.out⟩
                case measure => simp; omega
      · have hii : ¬ (i : Int) < (n : Int) := by omega
        have hz1 : (((L.take i).countP (fun p => hasP p (fx, xx, yx)) : Nat) : Int) = z0 := by
          rw [HZC.out, List.take_of_length_le (by rw [← HN.out]; omega)]
        rw [hz1]
        clear hz1 hi hlt
        obtain ⟨a0, a1, a2⟩ := box_at HXa0.out
        obtain ⟨b0, b1, b2⟩ := box_at HXb0.out
        obtain ⟨x0, x1, x2⟩ := box_at HXx0.out
        go_wp2_with fail
        refine (HRX.out _).mono ?_
        rintro e v39 ⟨rfl, hb⟩
        clear a0 a1 a2 b0 b1 b2 x0 x1 x2
        have HQL40 := Lib.hid (RowC.kept HR0.out hb)
        have HXa41 := Lib.hid (blk_kept hb HXa0.out)
        have HXb41 := Lib.hid (blk_kept hb HXb0.out)
        have HXx41 := Lib.hid (blk_kept hb HXx0.out)
        have HW41 := Lib.hid (below_step HW0.out hb HW0.out.size)
        clear hb
        obtain ⟨a0, a1, a2⟩ := box_at HXa41.out
        obtain ⟨b0, b1, b2⟩ := box_at HXb41.out
        obtain ⟨x0, x1, x2⟩ := box_at HXx41.out
        rcases HIN.out with ⟨rfl, rfl⟩ | ⟨rfl, hxq, rfl⟩ | ⟨rfl, hxq, rfl, rfl⟩ | ⟨rfl, hxq, rfl, rfl, rfl⟩ | ⟨rfl, hxq, rfl, rfl, rfl⟩
        · go_wp2_with fail
          refine (HAW.out _ (HE.out.kept HW41.out)).mono ?_
          rintro e v42 ⟨rfl, hb⟩
          clear a0 a1 a2 b0 b1 b2 x0 x1 x2
          have HQL43 := Lib.hid (RowC.kept HQL40.out hb)
          have HXa44 := Lib.hid (blk_kept hb HXa41.out)
          have HXb44 := Lib.hid (blk_kept hb HXb41.out)
          have HXx44 := Lib.hid (blk_kept hb HXx41.out)
          have HW44 := Lib.hid (below_step HW41.out hb HW41.out.size)
          clear hb
          go_wp2_with fail
          go_ret
          exact ⟨rfl, HW44.out⟩
        · go_wp2_with fail
          refine (HAW.out _ (HE.out.kept HW41.out)).mono ?_
          rintro e v45 ⟨rfl, hb⟩
          clear a0 a1 a2 b0 b1 b2 x0 x1 x2
          have HQL46 := Lib.hid (RowC.kept HQL40.out hb)
          have HXa47 := Lib.hid (blk_kept hb HXa41.out)
          have HXb47 := Lib.hid (blk_kept hb HXb41.out)
          have HXx47 := Lib.hid (blk_kept hb HXx41.out)
          have HW47 := Lib.hid (below_step HW41.out hb HW41.out.size)
          clear hb
          go_wp2_with fail
          go_ret
          exact ⟨rfl, HW47.out⟩
        · go_wp2_with fail
          refine (HL1.out _).mono ?_
          rintro e v48 ⟨rfl, hb⟩
          clear a0 a1 a2 b0 b1 b2 x0 x1 x2
          have HQL49 := Lib.hid (RowC.kept HQL40.out hb)
          have HXa50 := Lib.hid (blk_kept hb HXa41.out)
          have HXb50 := Lib.hid (blk_kept hb HXb41.out)
          have HXx50 := Lib.hid (blk_kept hb HXx41.out)
          have HW50 := Lib.hid (below_step HW41.out hb HW41.out.size)
          clear hb
          obtain ⟨a0, a1, a2⟩ := box_at HXa50.out
          obtain ⟨b0, b1, b2⟩ := box_at HXb50.out
          obtain ⟨x0, x1, x2⟩ := box_at HXx50.out
          go_wp2_with fail
          refine (HAW.out _ (HE.out.kept HW50.out)).mono ?_
          rintro e v51 ⟨rfl, hb⟩
          clear a0 a1 a2 b0 b1 b2 x0 x1 x2
          have HQL52 := Lib.hid (RowC.kept HQL49.out hb)
          have HXa53 := Lib.hid (blk_kept hb HXa50.out)
          have HXb53 := Lib.hid (blk_kept hb HXb50.out)
          have HXx53 := Lib.hid (blk_kept hb HXx50.out)
          have HW53 := Lib.hid (below_step HW50.out hb HW50.out.size)
          clear hb
          go_wp2_with fail
          go_ret
          exact ⟨rfl, HW53.out⟩
        · go_wp2_with fail
          refine (HL1.out _).mono ?_
          rintro e v54 ⟨rfl, hb⟩
          clear a0 a1 a2 b0 b1 b2 x0 x1 x2
          have HQL55 := Lib.hid (RowC.kept HQL40.out hb)
          have HXa56 := Lib.hid (blk_kept hb HXa41.out)
          have HXb56 := Lib.hid (blk_kept hb HXb41.out)
          have HXx56 := Lib.hid (blk_kept hb HXx41.out)
          have HW56 := Lib.hid (below_step HW41.out hb HW41.out.size)
          clear hb
          obtain ⟨a0, a1, a2⟩ := box_at HXa56.out
          obtain ⟨b0, b1, b2⟩ := box_at HXb56.out
          obtain ⟨x0, x1, x2⟩ := box_at HXx56.out
          go_wp2_with fail
          refine (HL2.out _).mono ?_
          rintro e v57 ⟨rfl, hb⟩
          clear a0 a1 a2 b0 b1 b2 x0 x1 x2
          have HQL58 := Lib.hid (RowC.kept HQL55.out hb)
          have HXa59 := Lib.hid (blk_kept hb HXa56.out)
          have HXb59 := Lib.hid (blk_kept hb HXb56.out)
          have HXx59 := Lib.hid (blk_kept hb HXx56.out)
          have HW59 := Lib.hid (below_step HW56.out hb HW56.out.size)
          clear hb
          obtain ⟨a0, a1, a2⟩ := box_at HXa59.out
          obtain ⟨b0, b1, b2⟩ := box_at HXb59.out
          obtain ⟨x0, x1, x2⟩ := box_at HXx59.out
          go_wp2_with fail
          refine (HAW.out _ (HE.out.kept HW59.out)).mono ?_
          rintro e v60 ⟨rfl, hb⟩
          clear a0 a1 a2 b0 b1 b2 x0 x1 x2
          have HQL61 := Lib.hid (RowC.kept HQL58.out hb)
          have HXa62 := Lib.hid (blk_kept hb HXa59.out)
          have HXb62 := Lib.hid (blk_kept hb HXb59.out)
          have HXx62 := Lib.hid (blk_kept hb HXx59.out)
          have HW62 := Lib.hid (below_step HW59.out hb HW59.out.size)
          clear hb
          go_wp2_with fail
          go_ret
          exact ⟨rfl, HW62.out⟩
        · go_wp2_with fail
          refine (HL1.out _).mono ?_
          rintro e v63 ⟨rfl, hb⟩
          clear a0 a1 a2 b0 b1 b2 x0 x1 x2
          have HQL64 := Lib.hid (RowC.kept HQL40.out hb)
          have HXa65 := Lib.hid (blk_kept hb HXa41.out)
          have HXb65 := Lib.hid (blk_kept hb HXb41.out)
          have HXx65 := Lib.hid (blk_kept hb HXx41.out)
          have HW65 := Lib.hid (below_step HW41.out hb HW41.out.size)
          clear hb
          obtain ⟨a0, a1, a2⟩ := box_at HXa65.out
          obtain ⟨b0, b1, b2⟩ := box_at HXb65.out
          obtain ⟨x0, x1, x2⟩ := box_at HXx65.out
          go_wp2_with fail
          refine (HL2.out _).mono ?_
          rintro e v66 ⟨rfl, hb⟩
          clear a0 a1 a2 b0 b1 b2 x0 x1 x2
          have HQL67 := Lib.hid (RowC.kept HQL64.out hb)
          have HXa68 := Lib.hid (blk_kept hb HXa65.out)
          have HXb68 := Lib.hid (blk_kept hb HXb65.out)
          have HXx68 := Lib.hid (blk_kept hb HXx65.out)
          have HW68 := Lib.hid (below_step HW65.out hb HW65.out.size)
          clear hb
          obtain ⟨a0, a1, a2⟩ := box_at HXa68.out
          obtain ⟨b0, b1, b2⟩ := box_at HXb68.out
          obtain ⟨x0, x1, x2⟩ := box_at HXx68.out
          go_wp2_with fail
          refine (HAW.out _ (HE.out.kept HW68.out)).mono ?_
          rintro e v69 ⟨rfl, hb⟩
          clear a0 a1 a2 b0 b1 b2 x0 x1 x2
          have HQL70 := Lib.hid (RowC.kept HQL67.out hb)
          have HXa71 := Lib.hid (blk_kept hb HXa68.out)
          have HXb71 := Lib.hid (blk_kept hb HXb68.out)
          have HXx71 := Lib.hid (blk_kept hb HXx68.out)
          have HW71 := Lib.hid (below_step HW68.out hb HW68.out.size)
          clear hb
          go_wp2_with fail
          go_ret
          exact ⟨rfl, HW71.out⟩
theorem side_law (a b x : Ad) (w : World) (henv : Env w) : Calls Tryd.prog 4 #[encA a, encA b, encA x] w fun e w' => e = .returned (.bool true) ∧ Below w.heap.size w w' := by
  by_cases h : CanP a b ∧ num a ≤ num b
  · exact side_yes a b x w henv h.1 h.2
  · exact side_no a b x w henv h
end Go.Proofs.Tryd.Cd
