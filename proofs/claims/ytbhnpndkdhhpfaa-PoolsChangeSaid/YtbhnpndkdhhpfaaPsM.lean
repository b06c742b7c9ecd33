/- Lists of prefixes: Put. -/
import Derived.Test.YtbhnpndkdhhpfaaPsL
import Derived.Deep.RegionHeld3
set_option linter.unusedVariables false
set_option linter.unusedSimpArgs false
namespace Go.Proofs.Try.Pfx
open Go.RowKit Go.Cph Go.Cph.Px

theorem flat_take {α : Type} {enc : α → List Value} {size : Nat} (hs : ∀ x, (enc x).length = size) : ∀ (l : List α) (i : Nat), (l.flatMap enc).take (i * size) = (l.take i).flatMap enc
  | [], i => by simp
  | x :: l, 0 => by simp
  | x :: l, i + 1 => by
    rw [List.flatMap_cons, List.take_append, hs, List.take_of_length_le (by rw [hs, Nat.succ_mul]; omega), List.take_succ_cons, List.flatMap_cons, ← flat_take hs l i]
    congr 2
    rw [Nat.succ_mul]; omega
theorem flat_drop {α : Type} {enc : α → List Value} {size : Nat} (hs : ∀ x, (enc x).length = size) : ∀ (l : List α) (i : Nat), (l.flatMap enc).drop (i * size) = (l.drop i).flatMap enc
  | [], i => by simp
  | x :: l, 0 => by simp
  | x :: l, i + 1 => by
    rw [List.flatMap_cons, List.drop_append, hs, List.drop_eq_nil_of_le (by rw [hs, Nat.succ_mul]; omega), List.nil_append, List.drop_succ_cons, ← flat_drop hs l i]
    congr 1
    rw [Nat.succ_mul]; omega
theorem put_cells (l : List Pf) (p : Pf) : (l.flatMap encC).take (pos l p * 4) ++ (encC p ++ (l.flatMap encC).drop (pos l p * 4)) = (putL l p).flatMap encC := by
  rw [flat_take encC_len, flat_drop encC_len, putL, List.flatMap_append, List.flatMap_cons]
def outP (l : List Pf) (p : Pf) : List Pf := if putE l p = 0 then putL l p else []
def PutPost (l : List Pf) (p : Pf) (w : World) (e : Ending) (w' : World) : Prop :=
  ∃ v', e = .returned (.tuple #[v', .int .i64 (putE l p : Nat)]) ∧ w'.ownsRow w.heap.size TP 4 v' (outP l p).length ((outP l p).flatMap encC) ∧ Below w.heap.size w w'

theorem CellsOf.below {w w' : World} {b o : Nat} {p : Pf} (h : CellsOf w b o p) {B : Nat} (hb : Below B w w') (hB : b < B) : CellsOf w' b o p :=
  ⟨(hb.cell (p := ⟨b, o, none⟩) hB).trans h.c0, (hb.cell (p := ⟨b, o + 1, none⟩) hB).trans h.c1, (hb.cell (p := ⟨b, o + 2, none⟩) hB).trans h.c2, (hb.cell (p := ⟨b, o + 3, none⟩) hB).trans h.c3⟩
theorem encC_one1 (p : Pf) : ∀ u ∈ encC p, u.oneCell' = true := by
  intro u hy
  simp only [encC, List.mem_cons, List.not_mem_nil, or_false] at hy
  rcases hy with rfl | rfl | rfl | rfl <;> rfl
set_option maxRecDepth 100000 in
set_option maxHeartbeats 2000000 in
theorem put_any (v : Value) (l : List Pf) (p : Pf) (w : World) (h : PfsAt w v l) (hn : l.length ≤ 900000) :
    Calls Try.prog 27 #[v, encP p] w (PutPost l p w) := by
  have HPL := Lib.hid (fun w h => place_any v l p w h (by omega))
  have HV := Lib.hid h
  clear h
  have hbx : Below w.heap.size w (w.alloc (.cells #[.int .u8 (p.1.1.toNat : Int), .int .u64 (p.1.2.1.toNat : Int), .int .u64 (p.1.2.2.toNat : Int), .int .i64 p.2] 27)) := (Below.refl _ _).alloc (Nat.le_refl _) _
  have HBX := Lib.hid hbx
  have HPX := Lib.hid (boxP (p := p) (heap_alloc_new w (.cells #[.int .u8 (p.1.1.toNat : Int), .int .u64 (p.1.2.1.toNat : Int), .int .u64 (p.1.2.2.toNat : Int), .int .i64 p.2] 27)))
  clear hbx
  have hcase : (putE l p = 1 ∧ placeV l p = .tuple #[.int .i64 0, .bool false, .int .i64 1]) ∨ (putE l p = 5 ∧ placeV l p = .tuple #[.int .i64 (pos l p), .bool true, .int .i64 0]) ∨ (putE l p = 0 ∧ placeV l p = .tuple #[.int .i64 (pos l p), .bool false, .int .i64 0]) := by
    unfold putE placeV
    by_cases h1 : (rightL l && rightP p) = true
    · rw [if_pos h1, if_pos h1]
      by_cases h2 : p ∈ l
      · rw [if_pos h2]; exact .inr (.inl ⟨rfl, by simp [h2]⟩)
      · rw [if_neg h2]; exact .inr (.inr ⟨rfl, by simp [h2]⟩)
    · rw [if_neg h1, if_neg h1]; exact .inl ⟨rfl, rfl⟩
  rcases hcase with ⟨he, hp⟩ | ⟨he, hp⟩ | ⟨he, hp⟩
  · have HE := Lib.hid he
    have HPV := Lib.hid hp
    clear he hp
    go_enter Try.func27, Try.ntmps27
    go_wp2_with fail
    refine (HPL.out _ (HV.out.kept HBX.out)).mono ?_
    rintro e w1 ⟨rfl, hb⟩
    rw [HPV.out]
    have HB := Lib.hid (below_step HBX.out hb HBX.out.size)
    clear hb
    go_wp2_with fail
    go_ret2
    refine ⟨_, by rw [HE.out]; rfl, ?_, HB.out⟩
    unfold outP
    rw [HE.out]
    exact World.ownsRow_nil _ _ _ _
  · have HE := Lib.hid he
    have HPV := Lib.hid hp
    clear he hp
    go_enter Try.func27, Try.ntmps27
    go_wp2_with fail
    refine (HPL.out _ (HV.out.kept HBX.out)).mono ?_
    rintro e w1 ⟨rfl, hb⟩
    rw [HPV.out]
    have HB := Lib.hid (below_step HBX.out hb HBX.out.size)
    clear hb
    go_wp2_with fail
    go_ret2
    refine ⟨_, by rw [HE.out]; rfl, ?_, HB.out⟩
    unfold outP
    rw [HE.out]
    exact World.ownsRow_nil _ _ _ _
  · have HE := Lib.hid he
    have HPV := Lib.hid hp
    clear he hp
    have hpl : pos l p ≤ l.length := List.countP_le_length
    have HCL := Lib.hid (fun w h => clone v l w h (by omega))
    go_enter Try.func27, Try.ntmps27
    go_wp2_with fail
    refine (HPL.out _ (HV.out.kept HBX.out)).mono ?_
    rintro e w1 ⟨rfl, hb⟩
    rw [HPV.out]
    have HB := Lib.hid (below_step HBX.out hb HBX.out.size)
    have hpx := HPX.out.kept hb
    have HPX1 := Lib.hid (show CellsOf w1.drew w.heap.size 0 p from ⟨hpx.c0, hpx.c1, hpx.c2, hpx.c3⟩)
    have HW1 := Lib.hid (show w.heap.size < w1.drew.heap.size from World.block_lt_of_cell? _ _ hpx.c0)
    have c0 := hpx.c0
    have c1 := hpx.c1
    have c2 := hpx.c2
    have c3 := hpx.c3
    clear hb hpx
    go_wp2_with fail
    go_region_held3 (fun W => W.cell? ⟨w.heap.size, 0, none⟩ = some (.int .u8 (p.1.1.toNat : Int)) ∧ W.cell? ⟨w.heap.size, 1, none⟩ = some (.int .u64 (p.1.2.1.toNat : Int)) ∧ W.cell? ⟨w.heap.size, 2, none⟩ = some (.int .u64 (p.1.2.2.toNat : Int)) ∧ W.cell? ⟨w.heap.size, 3, none⟩ = some (.int .i64 p.2))
      (go_keep)
      (first
        | ((go_at_call 47; (with_reducible refine (HCL.out w1.drew (HV.out.kept HB.out.drew)).mono ?_); rintro e w3 ⟨v', rfl, ho, hb⟩; have HO3 := Lib.hid ho; have HB3 := Lib.hid (below_step HB.out.drew hb HB.out.drew.size); have HBY := Lib.hid hb; have hx3 := HPX1.out.kept hb; have HX3 := Lib.hid hx3; have q0 := hx3.c0; have q1 := hx3.c1; have q2 := hx3.c2; have q3 := hx3.c3; clear ho hb hx3))
        | ((go_at_call 47; refine (HCL.out _ (HV.out.kept (HB.out.drew.alloc HB.out.drew.size (.cells #[.int .u8 (p.1.1.toNat : Int), .int .u64 (p.1.2.1.toNat : Int), .int .u64 (p.1.2.2.toNat : Int), .int .i64 p.2] 27)))).mono ?_; rintro e w3 ⟨v', rfl, ho, hb⟩; have HV3 := Lib.hid (blk_kept hb (heap_alloc_new w1.drew (.cells #[.int .u8 (p.1.1.toNat : Int), .int .u64 (p.1.2.1.toNat : Int), .int .u64 (p.1.2.2.toNat : Int), .int .i64 p.2] 27))); have HO3' := Lib.hid ho; have HBZ := Lib.hid hb.size; have HB3 := Lib.hid (below_step (HB.out.drew.alloc HB.out.drew.size (.cells #[.int .u8 (p.1.1.toNat : Int), .int .u64 (p.1.2.1.toNat : Int), .int .u64 (p.1.2.2.toNat : Int), .int .i64 p.2] 27)) hb (by simp; exact Nat.le_succ_of_le HB.out.size)); have hx5 := HPX1.out.kept ((Below.refl w1.drew.heap.size w1.drew).alloc (Nat.le_refl _) (.cells #[.int .u8 (p.1.1.toNat : Int), .int .u64 (p.1.2.1.toNat : Int), .int .u64 (p.1.2.2.toNat : Int), .int .i64 p.2] 27)); have hx3 := hx5.kept hb; have HX3 := Lib.hid hx3; have q0 := hx3.c0; have q1 := hx3.c1; have q2 := hx3.c2; have q3 := hx3.c3; clear ho hb hx3 hx5))
        | ((go_at_call 46; have hA := insert_any (us := encC p) w3.heap.size _ (HO3.out.alloc (.cells #[.int .u8 (p.1.1.toNat : Int), .int .u64 (p.1.2.1.toNat : Int), .int .u64 (p.1.2.2.toNat : Int), .int .i64 p.2] 27)) hpl (by omega) (heap_alloc_new _ _) rfl (encC_one1 p) encC_one (fun e => by have := (HO3.out.lt _ e).2; omega) (by have := HBY.out.size; simp; exact Nat.le_succ_of_le this); refine hA.mono ?_; clear hA; rintro e w4 ⟨v'', rfl, ho4, hb4⟩; have HO4 := Lib.hid ho4; have HB4 := Lib.hid ((HB3.out.alloc HB3.out.size _).trans (hb4.mono (show w.heap.size ≤ w1.drew.heap.size from HB.out.size))); have HZ4 := Lib.hid (show w.heap.size ≤ w1.drew.heap.size from HB.out.size); have hx5 := HX3.out.kept ((Below.refl w3.heap.size w3).alloc (Nat.le_refl _) (.cells #[.int .u8 (p.1.1.toNat : Int), .int .u64 (p.1.2.1.toNat : Int), .int .u64 (p.1.2.2.toNat : Int), .int .i64 p.2] 27)); have hx4 := CellsOf.below hx5 hb4 HW1.out; have r0 := hx4.c0; have r1 := hx4.c1; have r2 := hx4.c2; have r3 := hx4.c3; clear ho4 hb4 hx4 hx5))
        | ((go_at_call 46; have hA := insert_any (us := encC p) w1.drew.heap.size w3 HO3'.out hpl (by omega) HV3.out rfl (encC_one1 p) encC_one (fun e => by have := (HO3'.out.lt _ e).1; simp at this; omega) HBZ.out; refine hA.mono ?_; clear hA; rintro e w4 ⟨v'', rfl, ho4, hb4⟩; have HO4 := Lib.hid ho4; have HZ4 := Lib.hid (show w.heap.size ≤ (w1.drew.alloc (.cells #[.int .u8 (p.1.1.toNat : Int), .int .u64 (p.1.2.1.toNat : Int), .int .u64 (p.1.2.2.toNat : Int), .int .i64 p.2] 27)).heap.size by simp; exact Nat.le_succ_of_le HB.out.size); have HB4 := Lib.hid (HB3.out.trans (hb4.mono HZ4.out)); have hx4 := CellsOf.below HX3.out hb4 (by simp; exact Nat.lt_succ_of_lt HW1.out); have r0 := hx4.c0; have r1 := hx4.c1; have r2 := hx4.c2; have r3 := hx4.c3; clear ho4 hb4 hx4)))
    all_goals
      go_wp2_with fail
      go_ret2
      refine ⟨_, by rw [HE.out]; rfl, ?_, HB4.out⟩
      have hlen : (outP l p).length = l.length + 1 := by unfold outP; rw [if_pos HE.out, putL_length]
      have hcs : (outP l p).flatMap encC = (putL l p).flatMap encC := by unfold outP; rw [if_pos HE.out]
      rw [hlen, hcs, ← put_cells]
      exact owns_mono HO4.out HZ4.out
end Go.Proofs.Try.Pfx
