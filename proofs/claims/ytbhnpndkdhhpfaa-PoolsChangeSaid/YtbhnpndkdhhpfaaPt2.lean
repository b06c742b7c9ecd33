/- Lists of prefixes: Drop. -/
import Derived.Test.YtbhnpndkdhhpfaaPt1
set_option linter.unusedVariables false
set_option linter.unusedSimpArgs false
namespace Go.Proofs.Try.Pfx
open Go.RowKit Go.Cph Go.Cph.Px

theorem drop_cells (l : List Pf) (p : Pf) : (l.flatMap encC).take (pos l p * 4) ++ (l.flatMap encC).drop ((pos l p + 1) * 4) = (dropL l p).flatMap encC := by
  rw [flat_take encC_len, flat_drop encC_len, dropL, List.flatMap_append]
def outD (l : List Pf) (p : Pf) : List Pf := if dropE l p = 0 then dropL l p else []
def DropPost (l : List Pf) (p : Pf) (w : World) (e : Ending) (w' : World) : Prop :=
  ∃ v', e = .returned (.tuple #[v', .int .i64 (dropE l p : Nat)]) ∧ w'.ownsRow w.heap.size TP 4 v' (outD l p).length ((outD l p).flatMap encC) ∧ Below w.heap.size w w'

set_option maxRecDepth 100000 in
set_option maxHeartbeats 2000000 in
theorem drop_any (v : Value) (l : List Pf) (p : Pf) (w : World) (h : PfsAt w v l) (hn : l.length ≤ 900000) :
    Calls Try.prog 28 #[v, encP p] w (DropPost l p w) := by
  have HPL := Lib.hid (fun w h => place_any v l p w h (by omega))
  have HV := Lib.hid h
  clear h
  have hbx : Below w.heap.size w (w.alloc (.cells #[.int .u8 (p.1.1.toNat : Int), .int .u64 (p.1.2.1.toNat : Int), .int .u64 (p.1.2.2.toNat : Int), .int .i64 p.2] 27)) := (Below.refl _ _).alloc (Nat.le_refl _) _
  have HBX := Lib.hid hbx
  clear hbx
  have hcase : (dropE l p = 1 ∧ placeV l p = .tuple #[.int .i64 0, .bool false, .int .i64 1]) ∨ (dropE l p = 4 ∧ placeV l p = .tuple #[.int .i64 (pos l p), .bool false, .int .i64 0]) ∨ (dropE l p = 0 ∧ placeV l p = .tuple #[.int .i64 (pos l p), .bool true, .int .i64 0] ∧ pos l p < l.length) := by
    unfold dropE placeV
    by_cases h1 : (rightL l && rightP p) = true
    · rw [if_pos h1, if_pos h1]
      rw [Bool.and_eq_true] at h1
      by_cases h2 : p ∈ l
      · rw [if_pos h2]
        obtain ⟨hlt, _⟩ := ((rightL_iff.1 h1.1).there p).1 h2
        exact .inr (.inr ⟨rfl, by simp [h2], hlt⟩)
      · rw [if_neg h2]; exact .inr (.inl ⟨rfl, by simp [h2]⟩)
    · rw [if_neg h1, if_neg h1]; exact .inl ⟨rfl, rfl⟩
  rcases hcase with ⟨he, hp⟩ | ⟨he, hp⟩ | ⟨he, hp, hpl⟩
  · have HE := Lib.hid he
    have HPV := Lib.hid hp
    clear he hp
    go_enter Try.func28, Try.ntmps28
    go_wp2_with fail
    refine (HPL.out _ (HV.out.kept HBX.out)).mono ?_
    rintro e w1 ⟨rfl, hb⟩
    rw [HPV.out]
    have HB := Lib.hid (below_step HBX.out hb HBX.out.size)
    clear hb
    go_wp2_with fail
    go_ret2
    refine ⟨_, by rw [HE.out]; rfl, ?_, HB.out⟩
    unfold outD
    rw [HE.out]
    exact World.ownsRow_nil _ _ _ _
  · have HE := Lib.hid he
    have HPV := Lib.hid hp
    clear he hp
    go_enter Try.func28, Try.ntmps28
    go_wp2_with fail
    refine (HPL.out _ (HV.out.kept HBX.out)).mono ?_
    rintro e w1 ⟨rfl, hb⟩
    rw [HPV.out]
    have HB := Lib.hid (below_step HBX.out hb HBX.out.size)
    clear hb
    go_wp2_with fail
    go_ret2
    refine ⟨_, by rw [HE.out]; rfl, ?_, HB.out⟩
    unfold outD
    rw [HE.out]
    exact World.ownsRow_nil _ _ _ _
  · have HE := Lib.hid he
    have HPV := Lib.hid hp
    clear he hp
    have HCL := Lib.hid (fun w h => clone v l w h (by omega))
    have hp6 : pos l p ≤ 900000 := by omega
    go_enter Try.func28, Try.ntmps28
    go_wp2_with fail
    refine (HPL.out _ (HV.out.kept HBX.out)).mono ?_
    rintro e w1 ⟨rfl, hb⟩
    rw [HPV.out]
    have HB := Lib.hid (below_step HBX.out hb HBX.out.size)
    clear hb
    go_wp2_with fail
    refine (HCL.out _ (HV.out.kept HB.out)).mono ?_
    rintro e w3 ⟨v', rfl, ho, hb⟩
    have HO3 := Lib.hid ho
    have HB3 := Lib.hid (below_step HB.out hb HB.out.size)
    have HBZ := Lib.hid hb.size
    clear ho hb
    go_wp2_with fail
    refine (delete_any _ HO3.out hpl (by omega) encC_one HBZ.out).mono ?_
    rintro e w4 ⟨v'', rfl, ho4, hb4⟩
    have HO4 := Lib.hid ho4
    have HB4 := Lib.hid (HB3.out.trans (hb4.mono HB.out.size))
    clear ho4 hb4
    go_wp2_with fail
    go_ret2
    refine ⟨_, by rw [HE.out]; rfl, ?_, HB4.out⟩
    have hlen : (outD l p).length = l.length - 1 := by unfold outD; rw [if_pos HE.out, dropL, List.length_append, List.length_take, List.length_drop]; omega
    have hcs : (outD l p).flatMap encC = (dropL l p).flatMap encC := by unfold outD; rw [if_pos HE.out]
    rw [hlen, hcs, ← drop_cells]
    exact owns_mono HO4.out HB.out.size
end Go.Proofs.Try.Pfx
