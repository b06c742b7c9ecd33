/- RowsRanges: for every input the call returns true, and each argument reads behind it as it read before. No condition. -/
import Derived.Test.YtccopljpceolcabDoorRpU
import Derived.Test.YtccopljpceolcabDoorRoV
import Derived.Test.YtccopljpceolcabDoorCards
import Derived.Test.YtccopljpceolcabDoorTie
import Derived.Test.YtccopljpceolcabDoorDoor
import Derived.Test.YtccopljpceolcabDoorOpen
import Derived.Carry
import Derived.SevenTiedAt
namespace Go.Proofs.YtccopljpceolcabDoor.rowsRanges
open Go.ChangeShapes Go.WideShapes Go.ChangeAt Go.RowKit Go.Cph
open Go.ChangeMaps (open_string shut_string)
set_option linter.unusedVariables false
set_option linter.unusedSimpArgs false
theorem own : ownKnob Tryd.prog.godebug = none := by kernel_rfl
theorem laidOut : laidOutB Tryd.prog = true := by kernel_rfl
set_option maxRecDepth 100000 in
theorem lifted (os : Os) (started : os.Started) (H : Type) (enc : TypeId × Value → H) :
    ReturnsInHanded {} Tryd.checked os 4 .any (fun w args => (Rows.rowsRangesSpec.pre enc Tryd.prog Tryd.f4 [] false w args ∧ laidMetH Tryd.prog Rows.rowsRangesRow.laid w) ∧ sizedMet enc Tryd.prog Tryd.f4 (OpenSpec.ofChange Rows.rowsRangesSpec) false w args) (Rows.rowsRangesSpec.post enc Tryd.prog Tryd.f4 false true false false) := by
  refine Go.Proofs.Tryd.Door.handed_shaped (C := Tryd.checked) (X := fun w _ => laidMetH Tryd.prog Rows.rowsRangesRow.laid w) (fun _ _ _ hh h => h.of_heap hh) own started (by kernel_rfl) Tryd.func4
    (ChangeSpec.witness_shaped (enc := enc) (C := Tryd.checked) (os := os) (X := fun w _ => laidMetH Tryd.prog Rows.rowsRangesRow.laid w) false (World.laidAll Tryd.prog os Rows.rowsRangesRow.laid) #[.agg #[.int .u8 0, .int .u64 0, .int .u64 0, .int .i64 0], .agg #[.int .u8 0, .int .u64 0, .int .u64 0, .int .i64 0], .agg #[.int .u8 0, .int .u64 0, .int .u64 0], .agg #[.int .u8 0, .int .u64 0, .int .u64 0], .agg #[.int .u8 0, .int .u64 0, .int .u64 0], .int .u64 0, .int .u64 0, .string ByteArray.empty] 8 (World.laidAll_os _ _ _)
      (World.shaped_of_ZipB (by kernel_rfl) (by kernel_rfl)) (by kernel_rfl) (by kernel_rfl) (by kernel_rfl)
      (by rw [MakeChecks.laidMetH_plain _ _ _ (by kernel_rfl)]; exact laidMet_laidAll _ (by kernel_rfl) (by kernel_rfl))) ?_
  intro W base args ds gs before hval0 hW hL hsh
  obtain ⟨m, hm⟩ := Go.Proofs.Tryd.Door.maxLen_some hsh
  have hval : ∀ (j : Nat) t v, Tryd.f4.params[j]? = some t → args[j]? = some v → Value.okWide Tryd.prog W .any base t v := hval0
  have hW' := hW
  obtain ⟨p, q, hA0, hV, rfl, hfz, hnd⟩ := hW
  have hA : DataW.TrodAll enc Tryd.prog W 0 (fun _ => true) true Tryd.f4.params.toList args.toList ds p := hA0
  rw [Tryd.params4] at hA hval
  obtain ⟨v0, vs0, d0, ds0, p0, q0, hargs, rfl, rfl, h0, r0⟩ := trodAll_cons hA
  obtain ⟨v1, vs1, d1, ds1, p1, q1, rfl, rfl, rfl, h1, r1⟩ := trodAll_cons r0
  obtain ⟨v2, vs2, d2, ds2, p2, q2, rfl, rfl, rfl, h2, r2⟩ := trodAll_cons r1
  obtain ⟨v3, vs3, d3, ds3, p3, q3, rfl, rfl, rfl, h3, r3⟩ := trodAll_cons r2
  obtain ⟨v4, vs4, d4, ds4, p4, q4, rfl, rfl, rfl, h4, r4⟩ := trodAll_cons r3
  obtain ⟨v5, vs5, d5, ds5, p5, q5, rfl, rfl, rfl, h5, r5⟩ := trodAll_cons r4
  obtain ⟨v6, vs6, d6, ds6, p6, q6, rfl, rfl, rfl, h6, r6⟩ := trodAll_cons r5
  obtain ⟨v7, vs7, d7, ds7, p7, q7, rfl, rfl, rfl, h7, r7⟩ := trodAll_cons r6
  obtain ⟨rfl, rfl, rfl⟩ := trodAll_nil r7
  obtain rfl : args = #[v0, v1, v2, v3, v4, v5, v6, v7] := by cases args; simp_all
  obtain ⟨rfl, rfl⟩ := trodVars_none hV
  have k0 := h0
  have lt0 : ∀ x ∈ p0, x.block < W.heap.size := by obtain ⟨m, hm⟩ := k0; exact DataW.trod_lt m _ _ _ hm
  have k1 := h1
  have lt1 : ∀ x ∈ p1, x.block < W.heap.size := by obtain ⟨m, hm⟩ := k1; exact DataW.trod_lt m _ _ _ hm
  have k2 := h2
  have lt2 : ∀ x ∈ p2, x.block < W.heap.size := by obtain ⟨m, hm⟩ := k2; exact DataW.trod_lt m _ _ _ hm
  have k3 := h3
  have lt3 : ∀ x ∈ p3, x.block < W.heap.size := by obtain ⟨m, hm⟩ := k3; exact DataW.trod_lt m _ _ _ hm
  have k4 := h4
  have lt4 : ∀ x ∈ p4, x.block < W.heap.size := by obtain ⟨m, hm⟩ := k4; exact DataW.trod_lt m _ _ _ hm
  have k5 := h5
  have lt5 : ∀ x ∈ p5, x.block < W.heap.size := by obtain ⟨m, hm⟩ := k5; exact DataW.trod_lt m _ _ _ hm
  have k6 := h6
  have lt6 : ∀ x ∈ p6, x.block < W.heap.size := by obtain ⟨m, hm⟩ := k6; exact DataW.trod_lt m _ _ _ hm
  have k7 := h7
  have lt7 : ∀ x ∈ p7, x.block < W.heap.size := by obtain ⟨m, hm⟩ := k7; exact DataW.trod_lt m _ _ _ hm
  obtain ⟨cs0, hs0, _⟩ := okWide_struct Tryd.underlying42 (hval 0 42 v0 rfl rfl)
  obtain ⟨a0, rfl⟩ := Go.Proofs.Tryd.Pfx.open_pf h0 ⟨cs0, hs0⟩
  clear hs0
  obtain ⟨cs1, hs1, _⟩ := okWide_struct Tryd.underlying42 (hval 1 42 v1 rfl rfl)
  obtain ⟨a1, rfl⟩ := Go.Proofs.Tryd.Pfx.open_pf h1 ⟨cs1, hs1⟩
  clear hs1
  obtain ⟨cs2, hs2, _⟩ := okWide_struct Tryd.underlying40 (hval 2 40 v2 rfl rfl)
  obtain ⟨a2, rfl⟩ := Go.Proofs.Tryd.Pfx.open_ad h2 ⟨cs2, hs2⟩
  clear hs2
  obtain ⟨cs3, hs3, _⟩ := okWide_struct Tryd.underlying40 (hval 3 40 v3 rfl rfl)
  obtain ⟨a3, rfl⟩ := Go.Proofs.Tryd.Pfx.open_ad h3 ⟨cs3, hs3⟩
  clear hs3
  obtain ⟨cs4, hs4, _⟩ := okWide_struct Tryd.underlying40 (hval 4 40 v4 rfl rfl)
  obtain ⟨a4, rfl⟩ := Go.Proofs.Tryd.Pfx.open_ad h4 ⟨cs4, hs4⟩
  clear hs4
  obtain ⟨a5, rfl, rfl, rfl, w5⟩ := open_int Tryd.underlying22 (hval 5 22 v5 rfl rfl) h5
  obtain ⟨a6, rfl, rfl, rfl, w6⟩ := open_int Tryd.underlying22 (hval 6 22 v6 rfl rfl) h6
  obtain ⟨a7, rfl, rfl, rfl, w7⟩ := open_string Tryd.underlying9 (hval 7 9 v7 rfl rfl) h7
  clear hA0 hval0
  refine (Go.Proofs.Tryd.Rows.ranges_law_i a0 a1 a2 a3 a4 a5 a6 a7 m W (Go.Proofs.Tryd.Pfx.u64_of w5) (Go.Proofs.Tryd.Pfx.u64_of w6) hm).mono fun e W' ⟨he, bel⟩ => ?_
  subst he
  exact ⟨_, rfl, _, _, _, [], _, [], hW', trodAll_mk1 (shut_bool Tryd.underlying4 _), (trodAll_cons_mk (Below.trod laidOut (by kernel_rfl) (of_decide_eq_true (by kernel_rfl)) k0 bel lt0) (trodAll_cons_mk (Below.trod laidOut (by kernel_rfl) (of_decide_eq_true (by kernel_rfl)) k1 bel lt1) (trodAll_cons_mk (Below.trod laidOut (by kernel_rfl) (of_decide_eq_true (by kernel_rfl)) k2 bel lt2) (trodAll_cons_mk (Below.trod laidOut (by kernel_rfl) (of_decide_eq_true (by kernel_rfl)) k3 bel lt3) (trodAll_cons_mk (Below.trod laidOut (by kernel_rfl) (of_decide_eq_true (by kernel_rfl)) k4 bel lt4) (trodAll_cons_mk (Below.trod laidOut (by kernel_rfl) (of_decide_eq_true (by kernel_rfl)) k5 bel lt5) (trodAll_cons_mk (Below.trod laidOut (by kernel_rfl) (of_decide_eq_true (by kernel_rfl)) k6 bel lt6) (trodAll_cons_mk (Below.trod laidOut (by kernel_rfl) (of_decide_eq_true (by kernel_rfl)) k7 bel lt7) trodAll_mk0)))))))), rfl, bel.frame _, fun h => by cases h⟩
theorem holds : Rows.RowsRangesSaid :=
  OpenClaim.holds_of_wide 4 Tryd.f4 rfl rfl rfl rfl rfl rfl rfl ⟨rfl, rfl, rfl, rfl, rfl⟩ rfl rfl rfl rfl rfl (by kernel_rfl) Tryd.func4 (by kernel_rfl)
    (of_decide_eq_true (by kernel_rfl)) (by unfold Func.isWrapper; first | (rw [if_pos (by decide +kernel)]; kernel_rfl) | (rw [if_neg (by decide +kernel)]; exact ⟨rfl, rfl⟩))
    (fun os started H enc _ => lifted os started H enc)
theorem proved : Rows.RowsRangesCardSaid :=
  Claim7.holds_tied_plain_at .later [] [.data, .pinned] true (true, "9d5db5ef620a9068569579317b821dd9c4ce5ad73508dcf5cd9a6d9233eee0d9") false holds (fun _ h => by cases h) (by kernel_rfl) (fun _ h => by cases h) rowsRanges_row_tie rfl ⟨rfl, rfl⟩ (by kernel_rfl) rfl
    (fun f fn hf hfn => by
      obtain rfl : f = 4 := Option.some.inj ((show Tryd.prog.funcNamed "copyhold/copyholdlaw23.RowsRanges" = some 4 by kernel_rfl).symm.trans hf) |>.symm
      obtain rfl : fn = Tryd.f4 := (Option.some.inj (Tryd.func4.symm.trans hfn)).symm
      exact ⟨by kernel_rfl, fun j t ht => by
        rw [Tryd.params4] at ht
        have hm : t ∈ [42, 42, 40, 40, 40, 22, 22, 9] := by simpa using Array.mem_of_getElem? ht
        have hall : ([42, 42, 40, 40, 40, 22, 22, 9].all fun u => !Tryd.prog.wantsStandIn u) = true := by kernel_rfl
        exact (show Tryd.prog.wantsStandIn t = false by simpa using List.all_eq_true.1 hall t hm)⟩)
    (by kernel_rfl)
#print axioms proved
end Go.Proofs.YtccopljpceolcabDoor.rowsRanges
