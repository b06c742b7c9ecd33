/- The laws of okey: OkeyKnown's walk. -/
import Derived.Test.YtfijbfnhjnbjeaaDoorOkJ
set_option linter.unusedVariables false
set_option linter.unusedSimpArgs false
set_option maxRecDepth 100000
namespace Go.Proofs.Tryd.Ok
open Go.RowKit Go.Cph Go.Cph.Ok Go.Proofs.Tryd.Nu
def badS : List ByteArray := [⟨#[1]⟩, ⟨#[2, 97]⟩, ⟨#[2, 0, 2]⟩, ⟨#[3]⟩, ⟨#[1, 248, 0]⟩, ⟨#[2, 97, 0]⟩]
theorem bad_none : ∀ s ∈ badS, Cph.Ok.parts s.data.toList = none ∧ s.size ≤ 3 := by
  intro s hs
  simp only [badS, List.mem_cons, List.not_mem_nil, or_false] at hs
  rcases hs with rfl | rfl | rfl | rfl | rfl | rfl
  · exact ⟨parts_none (by simp) rfl, by decide⟩
  · exact ⟨parts_none (by simp) rfl, by decide⟩
  · exact ⟨parts_none (by simp) rfl, by decide⟩
  · exact ⟨parts_none (by simp) rfl, by decide⟩
  · exact ⟨parts_none (by simp) rfl, by decide⟩
  · exact ⟨parts_none (by simp) rfl, by decide⟩
abbrev P5 : Pt := ⟨false, ⟨#[]⟩, 5⟩
abbrev P7 : Pt := ⟨false, ⟨#[]⟩, 7⟩
abbrev Pa : Pt := ⟨true, ⟨#[97]⟩, 0⟩
abbrev Pa0 : Pt := ⟨true, ⟨#[97, 0]⟩, 0⟩
theorem key5 : key [P5] = [1, 5] := by decide
theorem key7 : key [P7] = [1, 7] := by decide
theorem parts5 : Cph.Ok.parts [1, 5] = some [P5] := by rw [← key5, parts_key]; rfl
theorem cmpA5 : cmpL [Pa] [P5] = 1 := by decide
theorem cmpA0 : cmpL [Pa] [Pa0] = -1 := by decide
theorem cmpAA : cmpL [Pa] [Pa] = 0 := by decide
theorem box_pts {w : World} {b : Nat} {p : Pt} {E : TypeId} {fr : Nat × Nat} (h : w.heap[b]? = some (.cells #[.bool p.text, .string p.s, .int .u64 (p.n.toNat : Int)] E fr)) : PtsAt w (.slice (some ⟨b, 0, none⟩) 1 1) [p] :=
  ⟨⟨_, _, rfl, fun _ => ⟨b, 0, rfl, fun j hj => by rw [Nat.zero_add, blk_cell h]; simp⟩⟩, rfl⟩
set_option maxHeartbeats 12800000 in
theorem known_law (m : Int) (w : World) (hm : MaxAt m w) : Calls Tryd.prog 6 #[] w (AwPost w) := by
  have HM := Lib.hid hm
  have HP5 := Lib.hid (show ∀ W, Calls Tryd.prog 12 #[.string ⟨#[1, 5]⟩] W (PartsPost (some [P5]) W) from fun W => by
    have := parts_any ⟨#[1, 5]⟩ W (by decide)
    rw [show (⟨#[1, 5]⟩ : ByteArray).data.toList = [1, 5] from rfl, parts5] at this
    exact this)
  have HP0 := Lib.hid (show ∀ W, Calls Tryd.prog 12 #[.string ⟨#[]⟩] W (PartsPost (some []) W) from fun W => by
    have := parts_any ⟨#[]⟩ W (by decide)
    rw [show (⟨#[]⟩ : ByteArray).data.toList = [] from rfl, parts_nil] at this
    exact this)
  have HPB := Lib.hid (fun (i : Nat) (hi : i < 6) W => (show Calls Tryd.prog 12 #[.string (badS[i]'hi)] W (PartsPost none W) from by
    have hb := bad_none (badS[i]'hi) (List.getElem_mem hi)
    have := parts_any (badS[i]'hi) W (by omega)
    rw [hb.1] at this
    exact this))
  have HK0 := Lib.hid (show ∀ W, MaxAt m W → Calls Tryd.prog 16 #[.slice none 0 0] W fun e w' => e = .returned (.string ⟨#[]⟩) ∧ Below W.heap.size W w' from fun W hm =>
    key_any _ [] m W (Seg.of_owns (World.ownsRow_nil W W.heap.size TP 3)) (by decide) (by decide) hm)
  have HN5 := Lib.hid (show ∀ W, Calls Tryd.prog 14 #[.int .u64 5] W fun e w' => e = .returned (.agg #[.bool false, .string ⟨#[]⟩, .int .u64 5]) ∧ Below W.heap.size W w' from fun W => num_any 5 W)
  have HN7 := Lib.hid (show ∀ W, Calls Tryd.prog 14 #[.int .u64 7] W fun e w' => e = .returned (.agg #[.bool false, .string ⟨#[]⟩, .int .u64 7]) ∧ Below W.heap.size W w' from fun W => num_any 7 W)
  have HSA := Lib.hid (show ∀ W, Calls Tryd.prog 15 #[.string ⟨#[97]⟩] W fun e w' => e = .returned (.agg #[.bool true, .string ⟨#[97]⟩, .int .u64 0]) ∧ Below W.heap.size W w' from fun W => str_any ⟨#[97]⟩ W)
  have HSB := Lib.hid (show ∀ W, Calls Tryd.prog 15 #[.string ⟨#[97, 0]⟩] W fun e w' => e = .returned (.agg #[.bool true, .string ⟨#[97, 0]⟩, .int .u64 0]) ∧ Below W.heap.size W w' from fun W => str_any ⟨#[97, 0]⟩ W)
  have HRG := Lib.hid (show ∀ W v, PtsAt W v [P7] → MaxAt m W → Calls Tryd.prog 22 #[v] W fun e w' => e = .returned (.tuple #[.string ⟨#[1, 7]⟩, .string ⟨#[1, 7, 3]⟩]) ∧ Below W.heap.size W w' from fun W v h hm => by
    have := range_any v [P7] m W h (by decide) (by decide) hm
    rw [key7] at this
    exact this)
  have BE := Lib.hid (Below.refl w.heap.size w)
  clear hm
  go_enter Tryd.func6, Tryd.ntmps6
  go_wp2_with fail
  refine (HP5.out _).mono ?_
  rintro e w1 ⟨⟨v1, rfl, ho⟩, hb⟩
  have HM1 := Lib.hid (cell_kept hb HM.out)
  have BE1 := Lib.hid (below_step BE.out hb BE.out.size)
  clear hb
  have ho : w1.ownsRow w.heap.size TP 3 v1 1 (encC P5) := by simpa using ho
  obtain ⟨g, cap, rfl, h1, h2, h3, h4, h5⟩ := owns_shape ho (by decide)
  have a0 : w1.cell? ⟨g, 0, none⟩ = some (.bool false) := h4 0 (by decide)
  have a1 : w1.cell? ⟨g, 1, none⟩ = some (.string ⟨#[]⟩) := h4 1 (by decide)
  have a2 : w1.cell? ⟨g, 2, none⟩ = some (.int .u64 5) := h4 2 (by decide)
  clear ho h1 h2 h3 h4 h5
  go_wp2_with fail
  refine (HP0.out _).mono ?_
  rintro e w2 ⟨⟨v2, rfl, ho⟩, hb⟩
  have HM2 := Lib.hid (cell_kept hb HM1.out)
  have BE2 := Lib.hid (below_step BE1.out hb BE1.out.size)
  have b0 := cell_kept hb a0
  have b1 := cell_kept hb a1
  have b2 := cell_kept hb a2
  clear hb a0 a1 a2
  have ho : w2.ownsRow w1.heap.size TP 3 v2 0 [] := ho
  obtain ⟨oo, oc, hov⟩ := owns_slice1 ho
  subst hov
  clear ho
  have d0 : ∀ zz : Later w2.heap.size w2, zz.val.cell? ⟨g, 0, none⟩ = some (.bool false) := fun zz => Later.cell b0 (World.block_lt_of_cell? _ _ b0) zz
  have d1 : ∀ zz : Later w2.heap.size w2, zz.val.cell? ⟨g, 1, none⟩ = some (.string ⟨#[]⟩) := fun zz => Later.cell b1 (World.block_lt_of_cell? _ _ b1) zz
  have d2 : ∀ zz : Later w2.heap.size w2, zz.val.cell? ⟨g, 2, none⟩ = some (.int .u64 5) := fun zz => Later.cell b2 (World.block_lt_of_cell? _ _ b2) zz
  have HK0Z := Lib.hid (fun zz : Later w2.heap.size w2 => HK0.out zz.val (Later.cell HM2.out (World.block_lt_of_cell? _ _ HM2.out) zz))
  have hq1 : ∀ W, (binOp .neq 33 (.agg #[.bool false, .string ⟨#[]⟩, .int .u64 5]) (.agg #[.bool false, .string ⟨#[]⟩, .int .u64 5])).run Tryd.prog W = .ok (.bool false) W := fun W => by
    have := run_neqP P5 P5 W
    rw [eqP_refl] at this; exact this
  clear b0 b1 b2
  go_wp2_with fail
  refine wp_region_later w2.heap.size (by kernel_rfl) (by kernel_rfl) ?_
  repeat (go_big_quiet_step (first | (go_at_call 16; exact Later.calls (Nat.le_refl _) (HK0Z.out _)) | (go_at_call 14; exact Later.calls (Nat.le_refl _) (HN5.out _))))
  refine wpQuiet_nil ?_
  rintro w3 ⟨zz, rfl⟩
  have BE3 := Lib.hid (below_step BE2.out zz.prop BE2.out.size)
  have HM3 := Lib.hid (cell_kept zz.prop HM2.out)
  clear d0 d1 d2 hq1 HK0Z
  generalize zz.val = w3 at *
  have hbx : Below w3.heap.size w3 (w3.alloc (.cells #[.string ⟨#[1]⟩, .string ⟨#[2, 97]⟩, .string ⟨#[2, 0, 2]⟩, .string ⟨#[3]⟩, .string ⟨#[1, 248, 0]⟩, .string ⟨#[2, 97, 0]⟩] 9)) := (Below.refl _ _).alloc (Nat.le_refl _) _
  have BE4 := Lib.hid (below_step BE3.out hbx BE3.out.size)
  have HM4 := Lib.hid (cell_kept hbx HM3.out)
  have HS := Lib.hid (heap_alloc_new w3 (.cells #[.string ⟨#[1]⟩, .string ⟨#[2, 97]⟩, .string ⟨#[2, 0, 2]⟩, .string ⟨#[3]⟩, .string ⟨#[1, 248, 0]⟩, .string ⟨#[2, 97, 0]⟩] 9))
  clear hbx
  go_wp2_with fail
  go_loopw [50] (fun vi W => ∃ i : Nat, i ≤ 6 ∧ vi = .int .i64 i ∧ W.heap[w3.heap.size]? = some (.cells #[.string ⟨#[1]⟩, .string ⟨#[2, 97]⟩, .string ⟨#[2, 0, 2]⟩, .string ⟨#[3]⟩, .string ⟨#[1, 248, 0]⟩, .string ⟨#[2, 97, 0]⟩] 9 (0, 0)) ∧ MaxAt m W ∧ Below w.heap.size w W) (fun vi _ => 6 - (intOf vi).toNat)
  case atStart => exact ⟨0, Nat.zero_le _, rfl, HS.out, HM4.out, BE4.out⟩
  case round =>
    obtain ⟨i, hi, rfl, hs, hmr, hb⟩ := hrel
    have HSR := Lib.hid hs
    have HMR := Lib.hid hmr
    have HBR := Lib.hid hb
    by_cases hlt : i < 6
    · have HLT := Lib.hid hlt
      have hc : wr.cell? ⟨w3.heap.size, i, none⟩ = some (.string (badS[i]'hlt)) := by
        rw [blk_cell hs]
        rcases (show i = 0 ∨ i = 1 ∨ i = 2 ∨ i = 3 ∨ i = 4 ∨ i = 5 by omega) with rfl | rfl | rfl | rfl | rfl | rfl <;> rfl
      have HC := Lib.hid (fun W => HPB.out i hlt W)
      obtain ⟨T, hT⟩ : ∃ T, T = badS[i]'hlt := ⟨_, rfl⟩
      rw [← hT] at hc HC
      have q1 : (0 : Int) ≤ (i : Int) := by omega
      have q2 : (i : Int) < 6 := by omega
      have q4 : IntKind.i64.wrap ((i : Int) + 1) = (i : Int) + 1 := by rw [IntKind.wrap_i64]; omega
      clear hs hmr hb hT hlt hi
      go_wp2_with fail
      refine (HC.out _).mono ?_
      rintro e w5 ⟨rfl, hb⟩
      have HSR5 := Lib.hid (blk_kept hb HSR.out)
      have HMR5 := Lib.hid (cell_kept hb HMR.out)
      have HBR5 := Lib.hid (below_step HBR.out hb HBR.out.size)
      clear hb hc
      go_wp2_with fail
      go_roundw
      case rel => exact ⟨i + 1, HLT.out, by go_num, HSR5.out, HMR5.out, HBR5.out⟩
      case measure => have := HLT.out; simp [intOf]; omega
    · have q2 : ¬ (i : Int) < 6 := by omega
      clear hs hmr hb hlt hi
      go_wp2_with fail
      refine (HSA.out _).mono ?_
      rintro e w6 ⟨rfl, hb⟩
      have HM6 := Lib.hid (cell_kept hb HMR.out)
      have HB6 := Lib.hid (below_step HBR.out hb HBR.out.size)
      clear hb
      have hbx : Below w6.heap.size w6 (w6.alloc (boxP Pa)) := (Below.refl _ _).alloc (Nat.le_refl _) _
      have HM7 := Lib.hid (cell_kept hbx HM6.out)
      have HB7 := Lib.hid (below_step HB6.out hbx HB6.out.size)
      have PA := Lib.hid (box_pts (heap_alloc_new w6 (boxP Pa)))
      clear hbx
      go_wp2_with fail
      refine (HN5.out _).mono ?_
      rintro e w8 ⟨rfl, hb⟩
      have HM8 := Lib.hid (cell_kept hb HM7.out)
      have HB8 := Lib.hid (below_step HB7.out hb HB7.out.size)
      have PA8 := Lib.hid (Seg.kept PA.out hb)
      clear hb
      have hbx : Below w8.heap.size w8 (w8.alloc (boxP P5)) := (Below.refl _ _).alloc (Nat.le_refl _) _
      have HM9 := Lib.hid (cell_kept hbx HM8.out)
      have HB9 := Lib.hid (below_step HB8.out hbx HB8.out.size)
      have PA9 := Lib.hid (Seg.kept PA8.out hbx)
      have PF9 := Lib.hid (box_pts (heap_alloc_new w8 (boxP P5)))
      clear hbx
      go_wp2_with fail
      refine (HN7.out _).mono ?_
      rintro e w10 ⟨rfl, hb⟩
      have HM10 := Lib.hid (cell_kept hb HM9.out)
      have HB10 := Lib.hid (below_step HB9.out hb HB9.out.size)
      have PA10 := Lib.hid (Seg.kept PA9.out hb)
      have PF10 := Lib.hid (Seg.kept PF9.out hb)
      clear hb
      have hbx : Below w10.heap.size w10 (w10.alloc (boxP P7)) := (Below.refl _ _).alloc (Nat.le_refl _) _
      have HM11 := Lib.hid (cell_kept hbx HM10.out)
      have HB11 := Lib.hid (below_step HB10.out hbx HB10.out.size)
      have PA11 := Lib.hid (Seg.kept PA10.out hbx)
      have PF11 := Lib.hid (Seg.kept PF10.out hbx)
      have PS11 := Lib.hid (box_pts (heap_alloc_new w10 (boxP P7)))
      clear hbx
      go_wp2_with fail
      refine (HRG.out _ _ PS11.out HM11.out).mono ?_
      rintro e w12 ⟨rfl, hb⟩
      have HM12 := Lib.hid (cell_kept hb HM11.out)
      have HB12 := Lib.hid (below_step HB11.out hb HB11.out.size)
      have PA12 := Lib.hid (Seg.kept PA11.out hb)
      have PF12 := Lib.hid (Seg.kept PF11.out hb)
      clear hb
      have HC1 := Lib.hid (compare_any _ _ [Pa] [P5] w12 PA12.out PF12.out (by decide) (by decide))
      rw [cmpA5] at HC1
      go_wp2_with fail
      refine HC1.out.mono ?_
      rintro e w13 ⟨rfl, hb⟩
      have HM13 := Lib.hid (cell_kept hb HM12.out)
      have HB13 := Lib.hid (below_step HB12.out hb HB12.out.size)
      have PA13 := Lib.hid (Seg.kept PA12.out hb)
      clear hb
      go_wp2_with fail
      refine (HSB.out _).mono ?_
      rintro e w14 ⟨rfl, hb⟩
      have HM14 := Lib.hid (cell_kept hb HM13.out)
      have HB14 := Lib.hid (below_step HB13.out hb HB13.out.size)
      have PA14 := Lib.hid (Seg.kept PA13.out hb)
      clear hb
      have hbx : Below w14.heap.size w14 (w14.alloc (boxP Pa0)) := (Below.refl _ _).alloc (Nat.le_refl _) _
      have HM15 := Lib.hid (cell_kept hbx HM14.out)
      have HB15 := Lib.hid (below_step HB14.out hbx HB14.out.size)
      have PA15 := Lib.hid (Seg.kept PA14.out hbx)
      have PB15 := Lib.hid (box_pts (heap_alloc_new w14 (boxP Pa0)))
      clear hbx
      have HC2 := Lib.hid (compare_any _ _ [Pa] [Pa0] _ PA15.out PB15.out (by decide) (by decide))
      rw [cmpA0] at HC2
      go_wp2_with fail
      refine HC2.out.mono ?_
      rintro e w16 ⟨rfl, hb⟩
      have HM16 := Lib.hid (cell_kept hb HM15.out)
      have HB16 := Lib.hid (below_step HB15.out hb HB15.out.size)
      have PA16 := Lib.hid (Seg.kept PA15.out hb)
      clear hb
      have HC3 := Lib.hid (compare_any _ _ [Pa] [Pa] w16 PA16.out PA16.out (by decide) (by decide))
      rw [cmpAA] at HC3
      go_wp2_with fail
      refine HC3.out.mono ?_
      rintro e w17 ⟨rfl, hb⟩
      have HM17 := Lib.hid (cell_kept hb HM16.out)
      have HB17 := Lib.hid (below_step HB16.out hb HB16.out.size)
      clear hb
      go_wp2_with fail
      refine (awake_any m _ HM17.out).mono ?_
      rintro e w18 ⟨rfl, hb⟩
      have HB18 := Lib.hid (below_step HB17.out hb HB17.out.size)
      clear hb
      go_wp2_with fail
      go_ret
      exact ⟨rfl, HB18.out⟩
end Go.Proofs.Tryd.Ok
