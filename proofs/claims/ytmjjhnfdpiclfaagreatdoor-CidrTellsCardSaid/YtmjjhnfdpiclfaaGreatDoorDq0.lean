/- The document's digits of a prefix. -/
import Derived.Test.YtmjjhnfdpiclfaaGreatDoorMB
import Derived.Test.YtmjjhnfdpiclfaaGreatDoorMU
import Derived.BigQuiet
set_option linter.unusedVariables false
set_option linter.unusedSimpArgs false
set_option maxRecDepth 100000
namespace Go.Proofs.Tryz.Tx
open Go.RowKit Go.Cph Go.Cph.Tx
open Go.Cph.Ok (ofBs)
theorem dig_u8 (d : Nat) (h : d < 10) : IntKind.u8.wrap (48 + (d : Int)) = ((dig d).toNat : Int) := by
  have : ∀ k : Fin 10, IntKind.u8.wrap (48 + (k.val : Int)) = ((dig k.val).toNat : Int) := by decide +kernel
  exact this ⟨d, h⟩
set_option maxHeartbeats 1600000 in
theorem rdigits_step (n : Nat) (hn : n < 1000) (ih : ∀ q, q < n → ∀ w, Calls Tryz.prog 39 #[.int .i64 (q : Int)] w fun e w' => e = .returned (.string (ofBs (digs 10 q))) ∧ Below w.heap.size w w') (w : World) :
    Calls Tryz.prog 39 #[.int .i64 (n : Int)] w fun e w' => e = .returned (.string (ofBs (digs 10 n))) ∧ Below w.heap.size w w' := by
  obtain ⟨d, hd⟩ : ∃ d, d = n % 10 := ⟨_, rfl⟩
  obtain ⟨q, hq⟩ : ∃ q, q = n / 10 := ⟨_, rfl⟩
  have HD := Lib.hid hd
  have HQ := Lib.hid hq
  have hd10 : d < 10 := by omega
  have h1 : Int.tmod (n : Int) 10 = (d : Int) := by rw [Int.tmod_eq_emod_of_nonneg (by omega)]; omega
  have h2 : (n : Int) % 10 = (d : Int) := by omega
  have h3 := dig_u8 d hd10
  have h4 : IntKind.i64.wrap (48 + (d : Int)) = 48 + (d : Int) := by rw [IntKind.wrap_i64]; omega
  obtain ⟨c, hc⟩ : ∃ c, c = dig d := ⟨_, rfl⟩
  have HC := Lib.hid hc
  rw [← hc] at h3
  have hrun := Nu.run_one w (c.toNat : Int) c rfl
  have HB := Lib.hid (show Below w.heap.size w (w.alloc (.cells #[.int .u8 (c.toNat : Int)] 5)) from (Below.refl _ _).alloc (Nat.le_refl _) _)
  by_cases h9 : n < 10
  · have h5 : ¬ (n : Int) > 9 := by omega
    have HV := Lib.hid (show ofBs (digs 10 n) = ⟨#[c]⟩ from by
      rw [digs_small 10 n h9, hc, hd, Nat.mod_eq_of_lt h9]; rfl)
    clear hd hq hc h9 hd10
    go_enter Tryz.func39, Tryz.ntmps39
    go_wp2_with fail
    go_ret
    exact ⟨ret_str HV.out.symm, HB.out⟩
  · have h5 : (n : Int) > 9 := by omega
    have h6 : Int.tdiv (n : Int) 10 = (q : Int) := by rw [Int.tdiv_eq_ediv_of_nonneg (by omega)]; omega
    have h7 : (n : Int) / 10 = (q : Int) := by omega
    have HI := Lib.hid (ih q (by omega))
    have HL := Lib.hid (digs_len 10 q)
    have HV := Lib.hid (show digs 10 n = digs 10 q ++ [c] from by
      rw [digs_big 10 n (by omega) (by omega) (by omega), hc, hd, hq])
    obtain ⟨t, ht⟩ : ∃ t, t = digs 10 q := ⟨_, rfl⟩
    rw [← ht] at HI HL HV
    have h8 : ∀ W, (Op.stringOp .add (ofBs t) ⟨#[c]⟩).run Tryz.prog W = .ok (.string (ofBs (t ++ [c]))) W := cat_run t [c] (by simp; have := HL.out; omega)
    obtain ⟨s1, hs1⟩ : ∃ s, s = ofBs t := ⟨_, rfl⟩
    obtain ⟨s2, hs2⟩ : ∃ s, s = ofBs (t ++ [c]) := ⟨_, rfl⟩
    rw [← hs1] at HI h8
    rw [← hs2] at h8
    have HS := Lib.hid (show ofBs (digs 10 n) = s2 from by rw [HV.out, hs2])
    clear hd hq hc h9 hd10 ht hs1 hs2
    go_enter Tryz.func39, Tryz.ntmps39
    go_wp2_with fail
    refine (HI.out _).mono ?_
    rintro e w2 ⟨rfl, hb⟩
    have HB2 := Lib.hid (below_step HB.out hb HB.out.size)
    clear hb
    go_wp2_with fail
    go_ret
    exact ⟨ret_str HS.out.symm, HB2.out⟩
theorem rdigits (n : Nat) (hn : n < 1000) (w : World) : Calls Tryz.prog 39 #[.int .i64 (n : Int)] w fun e w' => e = .returned (.string (ofBs (digs 10 n))) ∧ Below w.heap.size w w' := by
  induction n using Nat.strongRecOn generalizing w with
  | ind n ih => exact rdigits_step n hn (fun q hq w => ih q hq (by omega) w) w
end Go.Proofs.Tryz.Tx
