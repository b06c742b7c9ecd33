/- Great; the list made of any prefixes. -/
import Derived.Test.YtbhnpndkdhhpfaaPsR
import Derived.Test.YtbhnpndkdhhpfaaPxD2
set_option linter.unusedVariables false
set_option linter.unusedSimpArgs false
namespace Go.Proofs.Try.Pfx
open Go.RowKit Go.Cph Go.Cph.Px

theorem great_any (ao : Option Addr) (n cap : Nat) (w : World) (hn : n ≤ 9223372036854775807) : Calls Try.prog 9 #[.slice ao n cap] w fun e w' => e = .returned (.bool (decide (60 < n))) ∧ w = w' := by
  go_enter Try.func9, Try.ntmps9
  go_wp2_with fail
  go_ret
  exact ⟨ret_bool (by rw [Bool.eq_iff_iff]; simp; omega), rfl⟩
def MadePost (m : List Pf) (w : World) (e : Ending) (w' : World) : Prop := ∃ v', e = .returned v' ∧ PfsAt w' v' m ∧ Below w.heap.size w w'
theorem pfsNil (w : World) : PfsAt w (.slice none 0 0) [] := Seg.nil w 4
set_option maxRecDepth 100000 in
set_option maxHeartbeats 2000000 in
theorem made_any (v : Value) (l : List Pf) (w : World) (h : PfsAt w v l) (hn : l.length ≤ 60) :
    Calls Try.prog 21 #[v] w (MadePost (madeL l) w) := by
  obtain ⟨ao, cap, hv⟩ := elems_slice h
  have HV := Lib.hid h
  subst hv
  clear h
  go_enter Try.func21, Try.ntmps21
  go_wp2_with fail
  go_loopw [3, 4] (fun vo vi wr => ∃ k : Nat, k ≤ l.length ∧ vi = .int .i64 k ∧ PfsAt wr vo (madeL (l.take k)) ∧ Below w.heap.size w wr) (fun _ vi _ => l.length - (intOf vi).toNat)
  case atStart => exact ⟨0, Nat.zero_le _, rfl, pfsNil _, Below.refl _ _⟩
  case round =>
    obtain ⟨k, hk, rfl, hout, hbel⟩ := hrel
    have HO := Lib.hid hout
    have HBE := Lib.hid hbel
    clear hout hbel
    by_cases hlt : k < l.length
    · obtain ⟨b, off, cap', hve, hcs⟩ := pfs_cells HV.out (by omega)
      cases hve
      have hcm := (hcs k hlt).kept HBE.out
      clear hcs
      obtain ⟨q, hq⟩ : ∃ q, q = l[k] := ⟨_, rfl⟩
      rw [← hq] at hcm
      obtain ⟨out, hout⟩ : ∃ o, o = madeL (l.take k) := ⟨_, rfl⟩
      rw [← hout] at HO
      have HSN := Lib.hid (show madeL (l.take (k + 1)) = stepMade out q by rw [List.take_succ_eq_append_getElem hlt, madeL_snoc, ← hout, ← hq])
      have hol : out.length ≤ l.length := by
        rw [hout]
        exact Nat.le_trans (madeL_is _).2.2 (by simp; omega)
      clear hq hout
      have c0 := hcm.c0
      have c1 := hcm.c1
      have c2 := hcm.c2
      have c3 := hcm.c3
      have m1 : (k : Int) < (l.length : Int) := by omega
      clear hcm
      go_wp2_with fail
      refine (put_any _ out q _ HO.out (by omega)).mono ?_
      rintro e w2 ⟨v', rfl, ho, hb⟩
      have HB2 := Lib.hid (below_step HBE.out hb HBE.out.size)
      have HO2 := Lib.hid (HO.out.kept hb)
      have HON := Lib.hid (Seg.of_owns ho)
      clear ho hb c0 c1 c2 c3
      by_cases he : putE out q = 0
      · have HE := Lib.hid he
        rw [he]
        have HX := Lib.hid (show stepMade out q = outP out q by unfold stepMade outP; rw [if_pos he, if_pos he])
        clear he
        go_wp2_with fail
        go_roundw
        case rel => exact ⟨k + 1, hlt, by go_num, by rw [HSN.out, HX.out]; exact HON.out, HB2.out⟩
        case measure => simp [intOf]; omega
      · have z0 : (((putE out q : Nat) : Int) == 0) = false := by simpa using he
        have HX := Lib.hid (show stepMade out q = out by unfold stepMade; rw [if_neg he])
        clear he
        go_wp2_with fail
        go_roundw
        case rel => exact ⟨k + 1, hlt, by go_num, by rw [HSN.out, HX.out]; exact HO2.out, HB2.out⟩
        case measure => simp [intOf]; omega
    · have HX := Lib.hid (show madeL l = madeL (l.take k) by rw [List.take_of_length_le (by omega)])
      go_wp2_with fail
      go_ret
      exact ⟨_, rfl, by rw [HX.out]; exact HO.out, HBE.out⟩
end Go.Proofs.Try.Pfx
