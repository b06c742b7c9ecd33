/- The laws of mem: unlike. -/
import Derived.Test.YtkikjbcmdlghnaaDoorKy
set_option linter.unusedVariables false
set_option linter.unusedSimpArgs false
set_option maxRecDepth 100000
namespace Go.Proofs.Tryd.Skm
open Go.RowKit Go.Cph Go.Cph.Skip Go.Cph.Skm Go.Cph.Ok Go.Proofs.Tryd.Ok
def UnlikePost (l : List Pu) (w : World) (e : Ending) (w' : World) : Prop := ∃ v, e = .returned v ∧ w'.ownsRow w.heap.size TU 5 v (unlikeL l).length ((unlikeL l).flatMap encU) ∧ Below w.heap.size w w'
set_option maxHeartbeats 6400000 in
theorem unlike_any (v : Value) (l : List Pu) (w : World) (h : PutsAt w v l) (hl : l.length ≤ 100) :
    Calls Tryd.prog 10 #[v] w (UnlikePost l w) := by
  obtain ⟨ao, cap, rfl⟩ := elems_slice h
  have H := Lib.hid h
  have HL := Lib.hid hl
  clear h hl
  go_enter Tryd.func10, Tryd.ntmps10
  go_wp2_with fail
  go_loopw [3, 4] (fun vo vi W => ∃ (i : Nat) (out : List Pu), i ≤ l.length ∧ vi = .int .i64 i ∧ out = unlikeL (l.take i) ∧ W.ownsRow w.heap.size TU 5 vo out.length (out.flatMap encU) ∧ Below w.heap.size w W) (fun _ vi _ => l.length - (intOf vi).toNat)
  case atStart => exact ⟨0, [], Nat.zero_le _, rfl, rfl, World.ownsRow_nil _ _ _ _, Below.refl _ _⟩
  case round =>
    obtain ⟨i, out, hi, rfl, hout, hown, hbel⟩ := hrel
    have hol : out.length ≤ i := by
      rw [hout]
      have := unlikeL_le (l.take i)
      rw [List.length_take] at this; omega
    obtain ⟨oo, oc, hvo⟩ := owns_slice hown
    subst hvo
    have HOUT := Lib.hid hout
    have HOWN := Lib.hid hown
    have HBE := Lib.hid hbel
    have HOL := Lib.hid hol
    by_cases hlt : i < l.length
    · obtain ⟨b, off, cap', hve, hcs⟩ := puts_cells H.out (by omega)
      injection hve with hx1 hx2 hx3
      subst hx1
      clear hx2 hx3
      obtain ⟨p, hp⟩ : ∃ p, p = l[i]'hlt := ⟨_, rfl⟩
      have hcw := hcs i hlt
      rw [← hp] at hcw
      have HCW := Lib.hid (show ∀ W, Below w.heap.size w W → CellsU W b (off + i * 5) p from fun W hW => hcw.kept hW)
      have HST := Lib.hid (show unlikeL (l.take (i + 1)) = stepU out p from by rw [unlikeL_take l hlt, ← hp, ← hout])
      have d1 := (HCW.out wr HBE.out).c1
      have d3 := (HCW.out wr HBE.out).c3
      have q1 : (0 : Int) ≤ (i : Int) := by omega
      have q2 : (i : Int) < (l.length : Int) := by omega
      have q4 : IntKind.i64.wrap ((i : Int) + 1) = (i : Int) + 1 := by rw [IntKind.wrap_i64]; have := HL.out; omega
      have HLT := Lib.hid hlt
      have hol1 : out.length ≤ 1000 := by have := HL.out; omega
      clear hcs hcw hp hout hown hbel hol hlt
      go_upto_region 5 with (fail)
      go_cut [5] (fun s5 wx => s5 = .bool (bad p) ∧ wx = wr)
      case first =>
        by_cases hg : p.1.2.2.2 = true
        · rw [hg] at d3
          by_cases hz : p.1.2.1.size = 0
          · have j1 := str_nil _ hz
            have hb : bad p = false := by unfold bad; simp [hz]
            have HBP := Lib.hid hb
            clear hg hz hb
            go_wp2_with fail
            go_meet
            case rel => exact ⟨by rw [HBP.out], rfl⟩
          · have j1 := str_some _ hz
            have hb : bad p = true := by unfold bad; simp [hz, hg]
            have HBP := Lib.hid hb
            clear hg hz hb
            go_wp2_with fail
            go_meet
            case rel => exact ⟨by rw [HBP.out], rfl⟩
        · rw [Bool.not_eq_true] at hg
          rw [hg] at d3
          have hb : bad p = false := by unfold bad; simp [hg]
          have HBP := Lib.hid hb
          clear hg hb
          go_wp2_with fail
          go_meet
          case rel => exact ⟨by rw [HBP.out], rfl⟩
      case rest =>
        obtain ⟨rfl, rfl⟩ := hcut
        clear d1 d3
        obtain ⟨bd, hbd⟩ : ∃ bd, bd = bad p := ⟨_, rfl⟩
        rw [← hbd]
        have HBD := Lib.hid hbd
        clear hbd
        go_wp2_with fail
        go_loopw [5, 6] (fun v5 v6 W => ∃ k : Nat, k ≤ out.length ∧ v6 = .int .i64 k ∧ v5 = .bool (bd || (out.take k).any (sameU p)) ∧ Below wc.heap.size wc W) (fun _ v6 _ => out.length - (intOf v6).toNat)
        case atStart => exact ⟨0, Nat.zero_le _, rfl, by simp, Below.refl _ _⟩
        case round =>
          obtain ⟨k, hk, rfl, rfl, hb2⟩ := hrel
          have HW2 := Lib.hid hb2
          obtain ⟨c, hc⟩ : ∃ c, c = (bd || (out.take k).any (sameU p)) := ⟨_, rfl⟩
          have HC := Lib.hid hc
          rw [← hc]
          clear hc
          by_cases hlt : k < out.length
          · have HKL := Lib.hid hlt
            have hel : PutsAt wc (.slice oo out.length oc) out := Seg.of_owns HOWN.out
            obtain ⟨g, go_, gc, hve, hcs⟩ := puts_cells hel (by omega)
            injection hve with hx1 hx2 hx3
            subst hx1
            clear hx2 hx3
            obtain ⟨r, hr⟩ : ∃ r, r = out[k]'hlt := ⟨_, rfl⟩
            have hcr := (hcs k hlt).kept hb2
            rw [← hr] at hcr
            have hcp := HCW.out wr (below_step HBE.out hb2 HBE.out.size)
            have d0 := hcr.c0
            have d2 := hcr.c2
            have f0 := hcp.c0
            have f2 := hcp.c2
            have HNX := Lib.hid (show (bd || (out.take (k + 1)).any (sameU p)) = (c || sameU p r) from by rw [any_take p out hlt, HC.out, hr, Bool.or_assoc])
            have r1 : (0 : Int) ≤ (k : Int) := by omega
            have r2 : (k : Int) < (out.length : Int) := by omega
            have r4 : IntKind.i64.wrap ((k : Int) + 1) = (k : Int) + 1 := by rw [IntKind.wrap_i64]; omega
            clear hel hcs hr hcr hcp hb2 hlt
            cases c with
            | true =>
              go_wp2_with fail
              go_quiet (fail)
              clear d0 d2 f0 f2
              have HB3 := Lib.hid (below_step HW2.out (show Below wr.heap.size wr (wr.drewN nq) from ⟨rfl, rfl, rfl, Nat.le_refl _, fun _ _ => rfl⟩) HW2.out.size)
              generalize wr.drewN nq = wq at *
              go_wp2_with fail
              go_roundw
              case rel => exact ⟨k + 1, HKL.out, by go_num, by rw [HNX.out]; rfl, HB3.out⟩
              case measure => have := HKL.out; simp [intOf]; omega
            | false =>
              by_cases hkey : r.1.1 = p.1.1
              · have j1 : (r.1.1.toList == p.1.1.toList) = true := by rw [beq_toList]; simpa using hkey
                by_cases hseq : r.1.2.2.1 = p.1.2.2.1
                · have j2 : ((r.1.2.2.1.toNat : Int) == (p.1.2.2.1.toNat : Int)) = true := by rw [hseq]; simp
                  have j3 : (r.1.2.2.1.toNat == p.1.2.2.1.toNat) = true := by rw [hseq]; simp
                  have HSM := Lib.hid (show sameU p r = true from by unfold sameU; simp [hkey, hseq])
                  clear hkey hseq
                  go_wp2_with fail
                  go_quiet (fail)
                  clear d0 d2 f0 f2
                  have HB3 := Lib.hid (below_step HW2.out (show Below wr.heap.size wr (wr.drewN nq) from ⟨rfl, rfl, rfl, Nat.le_refl _, fun _ _ => rfl⟩) HW2.out.size)
                  generalize wr.drewN nq = wq at *
                  go_wp2_with fail
                  go_roundw
                  case rel => exact ⟨k + 1, HKL.out, by go_num, by rw [HNX.out, HSM.out]; rfl, HB3.out⟩
                  case measure => have := HKL.out; simp [intOf]; omega
                · have hne : r.1.2.2.1.toNat ≠ p.1.2.2.1.toNat := fun e => hseq (UInt64.toNat_inj.1 e)
                  have j2 : ((r.1.2.2.1.toNat : Int) == (p.1.2.2.1.toNat : Int)) = false := by rw [beq_eq_false_iff_ne]; omega
                  have j3 : (r.1.2.2.1.toNat == p.1.2.2.1.toNat) = false := by rw [beq_eq_false_iff_ne]; exact hne
                  have HSM := Lib.hid (show sameU p r = false from by unfold sameU; simp [hseq])
                  clear hkey hseq hne
                  go_wp2_with fail
                  go_quiet (fail)
                  clear d0 d2 f0 f2
                  have HB3 := Lib.hid (below_step HW2.out (show Below wr.heap.size wr (wr.drewN nq) from ⟨rfl, rfl, rfl, Nat.le_refl _, fun _ _ => rfl⟩) HW2.out.size)
                  generalize wr.drewN nq = wq at *
                  go_wp2_with fail
                  go_roundw
                  case rel => exact ⟨k + 1, HKL.out, by go_num, by rw [HNX.out, HSM.out]; rfl, HB3.out⟩
                  case measure => have := HKL.out; simp [intOf]; omega
              · have j1 : (r.1.1.toList == p.1.1.toList) = false := by rw [beq_toList]; simpa using hkey
                have HSM := Lib.hid (show sameU p r = false from by unfold sameU; simp [hkey])
                clear hkey
                go_wp2_with fail
                go_quiet (fail)
                clear d0 d2 f0 f2
                have HB3 := Lib.hid (below_step HW2.out (show Below wr.heap.size wr (wr.drewN nq) from ⟨rfl, rfl, rfl, Nat.le_refl _, fun _ _ => rfl⟩) HW2.out.size)
                generalize wr.drewN nq = wq at *
                go_wp2_with fail
                go_roundw
                case rel => exact ⟨k + 1, HKL.out, by go_num, by rw [HNX.out, HSM.out]; rfl, HB3.out⟩
                case measure => have := HKL.out; simp [intOf]; omega
          · have hke : k = out.length := by omega
            have HSTEP := Lib.hid (show unlikeL (l.take (i + 1)) = if c = true then out else out ++ [p] from by
              rw [HST.out]
              unfold stepU
              rw [HC.out, HBD.out, hke, List.take_of_length_le (Nat.le_refl _)])
            have hq : ¬ (k : Int) < (out.length : Int) := by omega
            have HBW := Lib.hid (below_step HBE.out hb2 HBE.out.size)
            have HOW2 := Lib.hid (row_kept HOWN.out fun j hj => hb2.block j (HOWN.out.lt j hj).2)
            clear hb2 hlt hke
            cases c with
            | true =>
              go_wp2_with fail
              go_roundw
              case rel => exact ⟨i + 1, out, HLT.out, by go_num, by rw [HSTEP.out]; rfl, HOW2.out, HBW.out⟩
              case measure => have := HLT.out; simp [intOf]; omega
            | false =>
              have hcp := HCW.out wr HBW.out
              have f0 := hcp.c0
              have f1 := hcp.c1
              have f2 := hcp.c2
              have f3 := hcp.c3
              have f4 := hcp.c4
              have hbw : w.heap.size ≤ wr.heap.size := HBW.out.size
              obtain ⟨n, hn⟩ : ∃ n, n = out.length := ⟨_, rfl⟩
              have HNL := Lib.hid hn
              have hn1 : n + 1 ≤ 1099511627776 := by omega
              rw [← hn] at HOW2 hq ⊢
              clear hcp hn
              go_wp2_with (at_builtin; refine wpList_append1 rfl (.tmp 67) (.tmp 72) TUs rfl w.heap.size TU _ 5 56 Tryd.underlying26 infoU rfl (by decide) _ n (out.flatMap encU) (encU p) rfl HOW2.out _ 1 rfl rfl rfl (encU_one p) hn1 (by decide) hbw w.heap.size w HBW.out (Nat.le_refl _) ?_; intro v5 w5 ho5 hg5 hb5 hs5; have HO5 := Lib.hid ho5; have HB5 := Lib.hid hb5; clear ho5 hg5 hb5 hs5)
              go_roundw
              case rel =>
                refine ⟨i + 1, out ++ [p], HLT.out, by go_num, by rw [HSTEP.out]; rfl, ?_, HB5.out⟩
                rw [List.length_append, List.flatMap_append, ← HNL.out]
                exact HO5.out
              case measure => have := HLT.out; simp [intOf]; omega
    · have HE := Lib.hid (show out = unlikeL l from by rw [hout, List.take_of_length_le (by omega)])
      have hq : ¬ (i : Int) < (l.length : Int) := by omega
      clear hout hown hbel hol hlt
      go_wp2_with fail
      go_ret
      exact ⟨_, rfl, by rw [← HE.out]; exact HOWN.out, HBE.out⟩
end Go.Proofs.Tryd.Skm
