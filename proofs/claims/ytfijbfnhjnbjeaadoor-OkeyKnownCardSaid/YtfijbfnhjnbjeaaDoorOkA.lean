/- okey.Range; what the laws of okey ask at their ends (awake). -/
import Derived.Test.YtfijbfnhjnbjeaaDoorOk9
set_option linter.unusedVariables false
set_option linter.unusedSimpArgs false
set_option maxRecDepth 100000
namespace Go.Proofs.Tryd.Ok
open Go.RowKit Go.Cph Go.Cph.Ok Go.Proofs.Tryd.Nu
abbrev MaxAt (m : Int) (w : World) : Prop := w.cell? ⟨0, 0, none⟩ = some (.int .i64 m)
set_option maxHeartbeats 1600000 in
theorem range_any (v : Value) (l : List Pt) (m : Int) (w : World) (h : PtsAt w v l) (hl : l.length ≤ 1000000) (hk : (key l).length ≤ 1000000000) (hm : MaxAt m w) :
    Calls Tryd.prog 22 #[v] w fun e w' => e = .returned (.tuple #[.string (ofBs (key l)), .string (ofBs (key l ++ [3]))]) ∧ Below w.heap.size w w' := by
  have HK := Lib.hid (key_any v l m w h hl hk hm)
  obtain ⟨k, hkk⟩ : ∃ k, k = ofBs (key l) := ⟨_, rfl⟩
  have HQ := Lib.hid (show ofBs (key l ++ [3]) = k ++ ⟨#[3]⟩ from list_eq (by rw [cat_list, hkk]; rfl))
  have hs : k.size ≤ 1000000000 := by rw [hkk, ofBs_size]; exact hk
  have hsi : (k.size : Int) ≤ 1000000000 := by omega
  rw [← hkk] at HK ⊢
  rw [HQ.out]
  clear hkk h hl hk hm
  go_enter Tryd.func22, Tryd.ntmps22
  go_wp2_with fail
  refine HK.out.mono ?_
  rintro e w1 ⟨rfl, hb⟩
  have HB := Lib.hid hb
  clear hb
  go_wp2_with fail
  go_ret2
  exact ⟨rfl, HB.out⟩
def AwPost (w : World) (e : Ending) (w' : World) : Prop := e = .returned (.bool true) ∧ Below w.heap.size w w'
def l0 : List Pt := [⟨false, ⟨#[]⟩, 5⟩, ⟨true, ⟨#[97, 0, 98]⟩, 0⟩]
theorem key_l0 : key l0 = [1, 5, 2, 97, 0, 255, 98, 0, 1] := by decide
theorem parts_l0 : Cph.Ok.parts (key l0) = some l0 := by rw [parts_key]; rfl
theorem cmp_l0 : cmpL (l0.take 1) l0 = -1 := by decide
set_option maxHeartbeats 3200000 in
theorem awake_any (m : Int) (w : World) (hm : MaxAt m w) : Calls Tryd.prog 10 #[] w (AwPost w) := by
  have HM := Lib.hid hm
  have H0 := Lib.hid (World.block_lt_of_cell? _ _ hm)
  have HN5 := Lib.hid (show ∀ W, Calls Tryd.prog 14 #[.int .u64 5] W fun e w' => e = .returned (.agg #[.bool false, .string ⟨#[]⟩, .int .u64 5]) ∧ Below W.heap.size W w' from fun W => num_any 5 W)
  have HST := Lib.hid (show ∀ W, Calls Tryd.prog 15 #[.string ⟨#[97, 0, 98]⟩] W fun e w' => e = .returned (.agg #[.bool true, .string ⟨#[97, 0, 98]⟩, .int .u64 0]) ∧ Below W.heap.size W w' from fun W => str_any ⟨#[97, 0, 98]⟩ W)
  have HKY := Lib.hid (show ∀ W v (h : PtsAt W v l0) (hm : MaxAt m W), Calls Tryd.prog 16 #[v] W fun e w' => e = .returned (.string ⟨#[1, 5, 2, 97, 0, 255, 98, 0, 1]⟩) ∧ Below W.heap.size W w' from fun W v h hm => by
    have := key_any v l0 m W h (by decide) (by rw [key_l0]; decide) hm
    rw [key_l0] at this
    exact this)
  have HPT := Lib.hid (show ∀ W, Calls Tryd.prog 12 #[.string ⟨#[1, 5, 2, 97, 0, 255, 98, 0, 1]⟩] W (PartsPost (some l0) W) from fun W => by
    have := parts_any ⟨#[1, 5, 2, 97, 0, 255, 98, 0, 1]⟩ W (by decide)
    rw [show (⟨#[1, 5, 2, 97, 0, 255, 98, 0, 1]⟩ : ByteArray).data.toList = key l0 from key_l0.symm, parts_l0] at this
    exact this)
  clear hm
  go_enter Tryd.func10, Tryd.ntmps10
  go_wp2_with fail
  refine (HN5.out _).mono ?_
  rintro e w1 ⟨rfl, hb⟩
  have HB1 := Lib.hid hb
  clear hb
  go_wp2_with fail
  refine (HST.out _).mono ?_
  rintro e w2 ⟨rfl, hb⟩
  have HB2 := Lib.hid (below_step HB1.out hb HB1.out.size)
  clear hb
  have hbx : Below w2.heap.size w2 (w2.alloc (.cells #[.bool false, .string ⟨#[]⟩, .int .u64 5, .bool true, .string ⟨#[97, 0, 98]⟩, .int .u64 0] 33)) := (Below.refl _ _).alloc (Nat.le_refl _) _
  have HB3 := Lib.hid (below_step HB2.out hbx HB2.out.size)
  have HP := Lib.hid (show PtsAt (w2.alloc (.cells #[.bool false, .string ⟨#[]⟩, .int .u64 5, .bool true, .string ⟨#[97, 0, 98]⟩, .int .u64 0] 33)) (.slice (some ⟨w2.heap.size, 0, none⟩) 2 2) l0 from
    ⟨⟨_, _, rfl, fun _ => ⟨w2.heap.size, 0, rfl, fun j hj => by
      rw [Nat.zero_add, blk_cell (heap_alloc_new w2 _)]
      have hj6 : j < 6 := by simpa [l0] using hj
      rcases (show j = 0 ∨ j = 1 ∨ j = 2 ∨ j = 3 ∨ j = 4 ∨ j = 5 by omega) with rfl | rfl | rfl | rfl | rfl | rfl <;> rfl⟩⟩, rfl⟩)
  have HM3 := Lib.hid ((HB3.out.cell (p := ⟨0, 0, none⟩) H0.out).trans HM.out)
  clear hbx
  go_wp2_with fail
  refine (HKY.out _ _ HP.out HM3.out).mono ?_
  rintro e w4 ⟨rfl, hb⟩
  have HB4 := Lib.hid (below_step HB3.out hb HB3.out.size)
  clear hb
  go_wp2_with fail
  refine (HPT.out _).mono ?_
  rintro e w5 ⟨⟨v, rfl, ho⟩, hb⟩
  have HB5 := Lib.hid (below_step HB4.out hb HB4.out.size)
  clear hb
  have ho : w5.ownsRow w4.heap.size TP 3 v 2 (l0.flatMap encC) := ho
  obtain ⟨g, cap, rfl, h1, h2, h3, h4, h5⟩ := owns_shape ho (by decide)
  have HS := Lib.hid (show PtsAt w5 (.slice (some ⟨g, 0, none⟩) 2 cap) l0 from Seg.of_owns ho)
  have HS1 := Lib.hid (show PtsAt w5 (.slice (some ⟨g, 0, none⟩) 1 cap) (l0.take 1) from
    ⟨⟨_, _, rfl, fun _ => ⟨g, 0, rfl, fun j hj => by
      have := h4 j (by simp [l0] at hj; omega)
      rw [Nat.zero_add, this]
      have hj3 : j < 3 := by simpa [l0] using hj
      rcases (show j = 0 ∨ j = 1 ∨ j = 2 by omega) with rfl | rfl | rfl <;> rfl⟩⟩, rfl⟩)
  have c2 : w5.cell? ⟨g, 2, none⟩ = some (.int .u64 5) := h4 2 (by decide)
  have c3 : w5.cell? ⟨g, 3, none⟩ = some (.bool true) := h4 3 (by decide)
  have c4 : w5.cell? ⟨g, 4, none⟩ = some (.string ⟨#[97, 0, 98]⟩) := h4 4 (by decide)
  have HCP := Lib.hid (compare_any _ _ _ _ w5 HS1.out HS.out (by decide) (by decide))
  rw [cmp_l0] at HCP
  have k3 : (1 : Int) ≤ (cap : Int) := by omega
  clear ho h1 h2 h3 h4 h5
  go_wp2_with fail
  refine HCP.out.mono ?_
  rintro e w6 ⟨rfl, hb⟩
  have HB6 := Lib.hid (below_step HB5.out hb HB5.out.size)
  clear hb
  go_wp2_with fail
  go_ret
  exact ⟨rfl, HB6.out⟩
end Go.Proofs.Tryd.Ok
