/- Lists of entries put one behind the other. -/
import Derived.Test.YtkeaalacepjadaaDoorVs2
import Derived.Test.YtkeaalacepjadaaDoorVA
set_option linter.unusedVariables false
set_option linter.unusedSimpArgs false
set_option maxRecDepth 100000
namespace Go.Proofs.Tryd.Vr
open Go.RowKit Go.Cph Go.Cph.Skip Go.Cph.So Go.Cph.Ve
variable {C : Cap}

abbrev TbsOf (w : World) (v : Value) (ls : List (List Tb)) : Prop := Lists encC 8 w v ls
def NewRow (w : World) (l : List Tb) (e : Ending) (w' : World) : Prop := ∃ v', e = .returned v' ∧ w'.ownsRow w.heap.size TE 8 v' l.length (l.flatMap encC) ∧ Below w.heap.size w w'
theorem NewRow.ents {w : World} {l : List Tb} {e : Ending} {w' : World} (h : NewRow w l e w') : ∃ v', e = .returned v' ∧ TbsAt w' v' l ∧ Below w.heap.size w w' := by
  obtain ⟨v', h1, h2, h3⟩ := h
  exact ⟨v', h1, Seg.of_owns h2, h3⟩

set_option maxHeartbeats 4000000 in
theorem grow (n : Nat) (w : World) (hn : n ≤ 1000000) : Calls Tryd.prog 51 #[.slice none 0 0, .int .i64 n] w (NewRow w []) := by
  rcases Nat.eq_zero_or_pos n with rfl | h0
  · go_enter Tryd.func51, Tryd.ntmps51
    go_wp2_with fail
    go_ret
    exact ⟨_, rfl, World.ownsRow_nil _ _ _ _, Below.refl _ _⟩
  · obtain ⟨G, w1, hr, ho, hb, hG, hGm⟩ := run_append_make_nil (P := Tryd.prog) w TS 3 TE _ 8 80 .i64 .i64 Tryd.underlying25 Tryd.underlying3 infoE rfl (by decide) n h0 (by omega) (by decide)
    have HR := Lib.hid hr
    have HO := Lib.hid ho
    have HB := Lib.hid hb
    have k1 : ¬ ((n : Int) < 0) := by omega
    have k2 : (0 : Int) < (n : Int) := by omega
    have k3 : ¬ G = 0 := by omega
    have k4 : G ≤ 9223372036854775807 := by unfold maxLen at hGm; omega
    clear hr ho hb hGm hG
    go_enter Tryd.func51, Tryd.ntmps51
    go_wp2_with (at_builtin; refine Lib.wpList_append_run _ rfl (.tmp 20) (.tmp 21) 25 3 rfl _ _ rfl rfl _ _ (HR.out _) ?_)
    go_ret
    exact ⟨_, rfl, HO.out, HB.out⟩

set_option maxHeartbeats 4000000 in
theorem concat (v : Value) (ls : List (List Tb)) (w : World) (h : TbsOf w v ls) (hl : ls.length ≤ 100000) (hn : ls.flatten.length ≤ 1000000) :
    Calls Tryd.prog 32 #[v] w (NewRow w ls.flatten) := by
  obtain ⟨ao, cap, hv⟩ := h.slice
  subst hv
  have HL := Lib.hid h
  clear h
  go_enter Tryd.func32, Tryd.ntmps32
  go_wp2_with fail
  go_loopw [3, 11] (fun vs vi wr => ∃ k s : Nat, k ≤ ls.length ∧ s = (ls.take k).flatten.length ∧ vi = .int .i64 k ∧ vs = .int .i64 s ∧ wr = w) (fun _ vi _ => ls.length - (intOf vi).toNat)
  case atStart => exact ⟨0, 0, Nat.zero_le _, by simp, rfl, rfl, rfl⟩
  case round =>
    obtain ⟨k, s, hk, hs, rfl, rfl, rfl⟩ := hrel
    have hsn : s ≤ ls.flatten.length := by rw [hs]; exact flatten_le _ _
    have HS := Lib.hid hs
    clear hs
    by_cases hlt : k < ls.length
    · obtain ⟨b, off, cap', hve, hcs⟩ := HL.out.cell (by omega)
      cases hve
      obtain ⟨u, hu, hue⟩ := hcs k hlt
      obtain ⟨uo, uc, hu2⟩ := elems_slice hue
      subst hu2
      obtain ⟨m, hm⟩ : ∃ m, m = ls[k].length := ⟨_, rfl⟩
      rw [← hm] at hu hue
      have HN := Lib.hid (show s + m = (ls.take (k + 1)).flatten.length by rw [flatten_take ls hlt, List.length_append, ← HS.out, hm])
      have hsm : s + m ≤ ls.flatten.length := by rw [HN.out]; exact flatten_le _ _
      have k1 : (0 : Int) ≤ (k : Int) := by omega
      have k2 : (k : Int) < (ls.length : Int) := by omega
      have k3 : ¬ ((s : Int) + (m : Int) < 0) := by omega
      clear hcs hue hm
      go_wp2_with fail
      go_roundw
      case rel => exact ⟨k + 1, s + m, hlt, HN.out, by go_num, by go_num, by first | rfl | trivial⟩
      case measure => simp [intOf]; omega
    · obtain rfl : k = ls.length := by omega
      have HS2 := Lib.hid (show s = ls.flatten.length by rw [HS.out, List.take_length])
      have hs6 : s ≤ 1000000 := by omega
      go_wp2_with fail
      refine (grow s _ hs6).mono ?_
      rintro e w1 ⟨v1, rfl, ho, hb⟩
      have HO := Lib.hid ho
      have HB := Lib.hid hb
      have HL1 := Lib.hid (HL.out.kept hb)
      clear ho hb
      go_wp2_with fail
      go_loopw [6, 27] (fun va vi wr2 => ∃ k : Nat, k ≤ ls.length ∧ vi = .int .i64 k ∧ wr2.ownsRow wr.heap.size TE 8 va (ls.take k).flatten.length ((ls.take k).flatten.flatMap encC) ∧ Below wr.heap.size wr wr2) (fun _ vi _ => ls.length - (intOf vi).toNat)
      case atStart => exact ⟨0, Nat.zero_le _, rfl, by simpa using HO.out, HB.out⟩
      case round =>
        obtain ⟨wo, rfl⟩ : ∃ wo : World, wo = wr := ⟨_, rfl⟩
        obtain ⟨k, hk, rfl, ho, hb⟩ := hrel
        have HO2 := Lib.hid ho
        have HB2 := Lib.hid hb
        by_cases hlt : k < ls.length
        · obtain ⟨b, off, cap', hve, hcs⟩ := (HL.out.kept hb).cell (by omega)
          cases hve
          obtain ⟨u, hu, hue⟩ := hcs k hlt
          obtain ⟨uo, uc, hu2⟩ := elems_slice hue
          subst hu2
          have HUE := Lib.hid hue
          have HT := Lib.hid (flatten_take ls hlt)
          have HLN := Lib.hid (show (ls.take k).flatten.length + ls[k].length ≤ 1099511627776 from by
            have := flatten_le ls (k + 1)
            rw [flatten_take ls hlt, List.length_append] at this; omega)
          have k1 : (0 : Int) ≤ (k : Int) := by omega
          have k2 : (k : Int) < (ls.length : Int) := by omega
          have hsz := HB2.out.size
          clear ho hb hcs hue
          go_wp2_with (at_builtin; refine wpList_append_seg rfl (.tmp 31) (.tmp 32) 25 rfl _ TE _ 8 80 Tryd.underlying25 infoE rfl (by decide) _ _ _ rfl HO2.out _ _ _ rfl HUE.out encC_one HLN.out (by decide) hsz ?_; intro v' w' ho hgr _; have HO3 := Lib.hid ho; have HG3 := Lib.hid hgr; clear ho hgr)
          go_roundw
          case rel =>
            refine ⟨k + 1, hlt, by go_num, ?_, HB2.out.grown HG3.out hsz (fun j hj => (HO2.out.lt j hj).1)⟩
            have := HO3.out
            rw [HT.out, List.length_append, List.flatMap_append]
            exact this
          case measure => simp [intOf]; omega
        · obtain rfl : k = ls.length := by omega
          rw [List.take_length] at ho
          have HO3 := Lib.hid ho
          obtain ⟨uo, uc, hu2⟩ := owns_slice1 ho
          subst hu2
          clear ho hb
          go_wp2_with fail
          go_ret
          exact ⟨_, rfl, HO3.out, HB2.out⟩
end Go.Proofs.Tryd.Vr
