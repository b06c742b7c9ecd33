/- CidrCovers' walk. -/
import Derived.Test.YtmjjhnfdpiclfaaGreatDoorDq4
set_option linter.unusedVariables false
set_option linter.unusedSimpArgs false
set_option maxRecDepth 100000
namespace Go.Proofs.Tryz.Cd
open Go.RowKit Go.Cph Go.Cph.Tx Go.Cph.Px Go.Cph.Cv Go.Proofs.Tryz.Tx Go.Proofs.Tryz.Pfx
open Go.Cph.Ok (ofBs)
open Go.Proofs.Tryz.Rows (boxZ boxZR)
structure ElemAt (W : World) (g o : Nat) (f : UInt8) (x y : UInt64) (b : Int) : Prop where
  c0 : W.cell? ⟨g, o, none⟩ = some (.int .u8 (f.toNat : Int))
  c1 : W.cell? ⟨g, o + 1, none⟩ = some (.int .u64 (x.toNat : Int))
  c2 : W.cell? ⟨g, o + 2, none⟩ = some (.int .u64 (y.toNat : Int))
  c3 : W.cell? ⟨g, o + 3, none⟩ = some (.int .i64 b)
theorem elem_own {W : World} {base : Nat} {t : TypeId} {v : Value} {l : List Pf} {n : Nat} (h : W.ownsRow base t 4 v n (l.flatMap encC)) (hn : n = l.length) (i : Nat) (hi : i < n) {f : UInt8} {x y : UInt64} {b : Int} (e : ∀ k : i < l.length, l[i] = ((f, x, y), b)) :
    ∃ g cap, v = .slice (some ⟨g, 0, none⟩) n cap ∧ ElemAt W g (i * 4) f x y b := by
  obtain ⟨g, cap, rfl, -, -, -, hc, -⟩ := owns_shape h (by omega)
  have k : i < l.length := by omega
  have key : ∀ j (hj : j < 4), W.cell? ⟨g, i * 4 + j, none⟩ = (encC l[i])[j]? := fun j hj => by
    rw [hc _ (by omega), flat_at encC_len l i k j hj]
  refine ⟨g, cap, rfl, ?_, ?_, ?_, ?_⟩
  · have := key 0 (by omega); rw [e k] at this; exact this
  · have := key 1 (by omega); rw [e k] at this; exact this
  · have := key 2 (by omega); rw [e k] at this; exact this
  · have := key 3 (by omega); rw [e k] at this; exact this
set_option maxHeartbeats 16000000 in
theorem covers_law (a b : Ad) (w : World) (henv : Env w) : Calls Tryz.prog 4 #[encA a, encA b] w fun e w' => e = .returned (.bool true) ∧ Below w.heap.size w w' := by
  have HE := Lib.hid henv
  have HAW := Lib.hid (fun W he => awake_any W he)
  clear henv
  have HCO := Lib.hid (fun W => cover_any a b W)
  have HRC := Lib.hid (fun W => rcover a b W)
  have HGa := Lib.hid (fun W => Tx.given19 a W)
  have HGb := Lib.hid (fun W => Tx.given19 b W)
  obtain ⟨L, hL⟩ : ∃ l, l = coverP a b := ⟨_, rfl⟩
  rw [← hL] at HCO HRC
  have HLL := Lib.hid (show L.length ≤ 1000 from by
    rw [hL]
    by_cases h : CanP a b
    · rw [← (start_part h).2]
      have := partP_len (start_part h).1
      omega
    · rw [cover_not h]; simp)
  obtain ⟨n, hn⟩ : ∃ n, n = L.length := ⟨_, rfl⟩
  have HN := Lib.hid hn
  clear hL hn
  obtain ⟨fa, xa, ya⟩ := a
  obtain ⟨fb, xb, yb⟩ := b
  have HXa1 := Lib.hid (heap_alloc_new w (boxA (fa, xa, ya)))
  have HW1 := Lib.hid (show Below w.heap.size w (w.alloc (boxA (fa, xa, ya))) from (Below.refl _ _).alloc (Nat.le_refl _) _)
  have HXa2 := Lib.hid (blk_alloc HXa1.out (boxA (fb, xb, yb)))
  have hxb := heap_alloc_new (w.alloc (boxA (fa, xa, ya))) (boxA (fb, xb, yb))
  simp only [World.size_alloc] at hxb
  have HXb2 := Lib.hid hxb
  clear hxb
  have HW2 := Lib.hid (show Below w.heap.size w ((w.alloc (boxA (fa, xa, ya))).alloc (boxA (fb, xb, yb))) from HW1.out.alloc HW1.out.size _)
  go_enter Tryz.func4, Tryz.ntmps4
  obtain ⟨a0, a1, a2⟩ := box_at HXa2.out
  obtain ⟨b0, b1, b2⟩ := box_at HXb2.out
  go_wp2_with fail
  refine (HCO.out _).mono ?_
  rintro e w1 ⟨v, rfl, ho, hb⟩
  obtain ⟨ao, cap, rfl⟩ := owns_slice1 ho
  rw [← HN.out] at ho ⊢
  have HO1 := Lib.hid (owns_mono ho HW2.out.size)
  clear ho
  clear a0 a1 a2 b0 b1 b2
  have HXa3 := Lib.hid (blk_kept hb HXa2.out)
  have HXb3 := Lib.hid (blk_kept hb HXb2.out)
  have HW3 := Lib.hid (below_step HW2.out hb HW2.out.size)
  clear hb
  go_wp2_with fail
  have HCS := Lib.hid (show ∀ W, Below w1.heap.size w1 W → W.cell? ⟨w.heap.size, 0, none⟩ = some (.int .u8 (fa.toNat : Int)) ∧ W.cell? ⟨w.heap.size, 1, none⟩ = some (.int .u64 (xa.toNat : Int)) ∧ W.cell? ⟨w.heap.size, 2, none⟩ = some (.int .u64 (ya.toNat : Int)) ∧ W.cell? ⟨w.heap.size + 1, 0, none⟩ = some (.int .u8 (fb.toNat : Int)) ∧ W.cell? ⟨w.heap.size + 1, 1, none⟩ = some (.int .u64 (xb.toNat : Int)) ∧ W.cell? ⟨w.heap.size + 1, 2, none⟩ = some (.int .u64 (yb.toNat : Int)) from fun W h => by
    obtain ⟨a0, a1, a2⟩ := box_at (blk_kept h HXa3.out)
    obtain ⟨b0, b1, b2⟩ := box_at (blk_kept h HXb3.out)
    exact ⟨a0, a1, a2, b0, b1, b2⟩)
  have HBc := Lib.hid (show Below w1.heap.size w1 w1 from Below.refl _ _)
  go_cut [6] (fun s6 W => Hid (∃ bo cap2, s6 = .slice bo n cap2 ∧ W.ownsRow w1.heap.size TR 4 (.slice bo n cap2) n (L.flatMap encC) ∧ Below w1.heap.size w1 W))
  case first =>
    obtain ⟨p0, p1, p2, p3, p4, p5⟩ := HCS.out _ HBc.out
    go_region_held_law (fun W => W.cell? ⟨w.heap.size, 0, none⟩ = some (.int .u8 (fa.toNat : Int)) ∧ W.cell? ⟨w.heap.size, 1, none⟩ = some (.int .u64 (xa.toNat : Int)) ∧ W.cell? ⟨w.heap.size, 2, none⟩ = some (.int .u64 (ya.toNat : Int)) ∧ W.cell? ⟨w.heap.size + 1, 0, none⟩ = some (.int .u8 (fb.toNat : Int)) ∧ W.cell? ⟨w.heap.size + 1, 1, none⟩ = some (.int .u64 (xb.toNat : Int)) ∧ W.cell? ⟨w.heap.size + 1, 2, none⟩ = some (.int .u64 (yb.toNat : Int))) ((refine HCS.out _ ?_; first | exact HBc.out | exact HBc.out.drew))
      (first
        | (go_at_call 8; (first | with_reducible refine (HGa.out _).mono ?_ | with_reducible refine (HGb.out _).mono ?_); rintro e W0 ⟨rfl, hb⟩; (replace HBc := Lib.hid (show Below w1.heap.size w1 W0 from by first | exact below_step HBc.out hb HBc.out.size | exact below_step HBc.out.drew hb HBc.out.drew.size)); clear hb; obtain ⟨p0, p1, p2, p3, p4, p5⟩ := HCS.out _ HBc.out)
        | (go_at_call 14; (with_reducible refine (HRC.out _).mono ?_); rintro e W0 ⟨v2, rfl, ho, hb⟩; (obtain ⟨bo, cap2, rfl⟩ := owns_slice1 ho); (rw [← HN.out] at ho ⊢); (have HO2 := Lib.hid (owns_mono ho (show w1.heap.size ≤ _ from by first | exact HBc.out.size | exact HBc.out.drew.size))); clear ho; (replace HBc := Lib.hid (show Below w1.heap.size w1 W0 from by first | exact below_step HBc.out hb HBc.out.size | exact below_step HBc.out.drew hb HBc.out.drew.size)); clear hb; obtain ⟨p0, p1, p2, p3, p4, p5⟩ := HCS.out _ HBc.out))
    all_goals go_wp2_with fail
    all_goals go_meet
    all_goals case rel => exact Lib.hid ⟨_, _, rfl, HO2.out, by first | exact HBc.out | exact HBc.out.drew⟩
  case rest =>
    obtain ⟨w3, hw3⟩ : ∃ w3, w3 = wc := ⟨_, rfl⟩
    subst hw3
    obtain ⟨bo, cap2, rfl, ho, hb⟩ := hcut.out
    clear hcut HBc HCS
    have HO3 := Lib.hid (owns_mono ho HW3.out.size)
    have HO4 := Lib.hid (row_kept1 HO1.out fun q hq => hb.block q (HO1.out.lt q hq).2)
    clear ho
    have HXa4 := Lib.hid (blk_kept hb HXa3.out)
    have HXb4 := Lib.hid (blk_kept hb HXb3.out)
    have HW4 := Lib.hid (below_step HW3.out hb HW3.out.size)
    clear hb
    have hnn : ((n : Int) != (n : Int)) = false := by simp
    go_wp2_with fail
    clear hnn
    go_loopw [7] (fun v7 W => ∃ i : Nat, v7 = .int .i64 (i : Int) ∧ i ≤ n ∧ W.ownsRow w.heap.size TP 4 (.slice ao n cap) n (L.flatMap encC) ∧ W.ownsRow w.heap.size TR 4 (.slice bo n cap2) n (L.flatMap encC) ∧ Below w.heap.size w W) (fun v7 _ => n - (intOf v7).toNat)
    case atStart => exact ⟨0, rfl, Nat.zero_le _, HO4.out, HO3.out, HW4.out⟩
    case round =>
      obtain ⟨i, rfl, hi, ho1, ho2, hb⟩ := hrel
      have HP1 := Lib.hid ho1
      have HP2 := Lib.hid ho2
      have HW0 := Lib.hid hb
      clear ho1 ho2 hb
      by_cases hlt : i < n
      · have hii : (i : Int) < (n : Int) := by omega
        obtain ⟨PI, hPI⟩ : ∃ P, P = L[i]'(by rw [← HN.out]; exact hlt) := ⟨_, rfl⟩
        have HPI := Lib.hid (show ∀ k : i < L.length, L[i] = PI from fun k => hPI.symm)
        have HGI := Lib.hid (fun W => given20 PI W)
        have HQI := Lib.hid (show ∀ W, (binOp .neq 32 (encP PI) (encP PI)).run Tryz.prog W = .ok (.bool false) W from fun W => by rw [Pfx.run_neqR]; simp)
        clear hPI
        obtain ⟨⟨fi, xi, yi⟩, bi⟩ := PI
        obtain ⟨g1, d1, h1, h2⟩ := elem_own HP1.out HN.out i hlt HPI.out
        cases h1
        obtain ⟨g2, d2, h1, h3⟩ := elem_own HP2.out HN.out i hlt HPI.out
        cases h1
        have HE1 := Lib.hid h2
        have HE2 := Lib.hid h3
        clear h2 h3
        have e10 : ∀ zz : Later wr.heap.size wr, zz.val.cell? ⟨g1, i * 4, none⟩ = some (.int .u8 (fi.toNat : Int)) := fun zz => cell_kept zz.prop HE1.out.c0
        have e11 : ∀ zz : Later wr.heap.size wr, zz.val.cell? ⟨g1, i * 4 + 1, none⟩ = some (.int .u64 (xi.toNat : Int)) := fun zz => cell_kept zz.prop HE1.out.c1
        have e12 : ∀ zz : Later wr.heap.size wr, zz.val.cell? ⟨g1, i * 4 + 2, none⟩ = some (.int .u64 (yi.toNat : Int)) := fun zz => cell_kept zz.prop HE1.out.c2
        have e13 : ∀ zz : Later wr.heap.size wr, zz.val.cell? ⟨g1, i * 4 + 3, none⟩ = some (.int .i64 bi) := fun zz => cell_kept zz.prop HE1.out.c3
        have e20 : ∀ zz : Later wr.heap.size wr, zz.val.cell? ⟨g2, i * 4, none⟩ = some (.int .u8 (fi.toNat : Int)) := fun zz => cell_kept zz.prop HE2.out.c0
        have e21 : ∀ zz : Later wr.heap.size wr, zz.val.cell? ⟨g2, i * 4 + 1, none⟩ = some (.int .u64 (xi.toNat : Int)) := fun zz => cell_kept zz.prop HE2.out.c1
        have e22 : ∀ zz : Later wr.heap.size wr, zz.val.cell? ⟨g2, i * 4 + 2, none⟩ = some (.int .u64 (yi.toNat : Int)) := fun zz => cell_kept zz.prop HE2.out.c2
        have e23 : ∀ zz : Later wr.heap.size wr, zz.val.cell? ⟨g2, i * 4 + 3, none⟩ = some (.int .i64 bi) := fun zz => cell_kept zz.prop HE2.out.c3
        have hqi := HQI.out
        go_wp2_with fail
        refine wp_region_later wr.heap.size (by kernel_rfl) (by kernel_rfl) ?_
        repeat (go_big_quiet_step ((go_at_call 11; exact Later.calls (Nat.le_refl _) (HGI.out _))))
        refine wpQuiet_nil ?_
        rintro v5 ⟨zz, rfl⟩
        have hb := zz.prop
        have HZ0 := Lib.hid hb
        clear e10 e11 e12 e13 e20 e21 e22 e23
        generalize zz.val = v5 at *
        have HW6 := Lib.hid (below_step HW0.out hb HW0.out.size)
        clear hb
        clear hqi
        have hw9 : IntKind.i64.wrap ((i : Int) + 1) = ((i + 1 : Nat) : Int) := by have := HLL.out; have := HN.out; rw [IntKind.wrap_i64]; omega
        go_wp2_with fail
        go_roundw
        case rel => exact ⟨i + 1, rfl, by omega, row_kept1 HP1.out fun q hq => HZ0.out.block q (HP1.out.lt q hq).2, row_kept1 HP2.out fun q hq => HZ0.out.block q (HP2.out.lt q hq).2, HW6.out⟩
        case measure => simp [intOf]; omega
      · have hii : ¬ (i : Int) < (n : Int) := by omega
        go_wp2_with fail
        refine (HAW.out _ (HE.out.kept HW0.out)).mono ?_
        rintro e v7 ⟨rfl, hb⟩
        have HW8 := Lib.hid (below_step HW0.out hb HW0.out.size)
        clear hb
        go_wp2_with fail
        go_ret
        exact ⟨rfl, HW8.out⟩
end Go.Proofs.Tryz.Cd
