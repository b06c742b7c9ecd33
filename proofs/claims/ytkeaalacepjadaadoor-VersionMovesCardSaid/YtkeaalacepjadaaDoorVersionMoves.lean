/- VersionMoves: for every input the call returns true, and each argument reads behind it as it read before. No condition. -/
import Derived.Test.YtkeaalacepjadaaDoorWe1
import Derived.Test.YtkeaalacepjadaaDoorVy5
import Derived.Test.YtkeaalacepjadaaDoorWenv
import Derived.Test.YtkeaalacepjadaaDoorCards
import Derived.Test.YtkeaalacepjadaaDoorTie
import Derived.Test.YtkeaalacepjadaaDoorDoor
import Derived.Test.YtkeaalacepjadaaDoorOpen
import Derived.Carry
import Derived.SevenTiedAt
namespace Go.Proofs.YtkeaalacepjadaaDoor.versionMoves
open Go.ChangeShapes Go.WideShapes Go.ChangeAt Go.RowKit Go.Cph
open Go.ChangeMaps (open_string shut_string)
set_option linter.unusedVariables false
set_option linter.unusedSimpArgs false
theorem own : ownKnob Tryd.prog.godebug = none := by kernel_rfl
theorem laidOut : laidOutB Tryd.prog = true := by kernel_rfl
set_option maxRecDepth 100000 in
theorem lifted (os : Os) (started : os.Started) (H : Type) (enc : TypeId × Value → H) :
    ReturnsInHanded {} Tryd.checked os 5 .any (fun w args => (Rows.versionMovesSpec.pre enc Tryd.prog Tryd.f5 [] false w args ∧ laidMetH Tryd.prog Rows.versionMovesRow.laid w) ∧ sizedMet enc Tryd.prog Tryd.f5 (OpenSpec.ofChange Rows.versionMovesSpec) false w args) (Rows.versionMovesSpec.post enc Tryd.prog Tryd.f5 false true false false) := by
  refine Go.Proofs.Tryd.Door.handed_shaped (C := Tryd.checked) (X := fun w _ => laidMetH Tryd.prog Rows.versionMovesRow.laid w) (fun _ _ _ hh h => h.of_heap hh) own started (by kernel_rfl) Tryd.func5
    (ChangeSpec.witness_shaped (enc := enc) (C := Tryd.checked) (os := os) (X := fun w _ => laidMetH Tryd.prog Rows.versionMovesRow.laid w) false (World.laidAll Tryd.prog os Rows.versionMovesRow.laid) #[.slice none 0 0] 8 (World.laidAll_os _ _ _)
      (World.shaped_of_ZipB (by kernel_rfl) (by kernel_rfl)) (by kernel_rfl) (by kernel_rfl) (by kernel_rfl)
      (by rw [MakeChecks.laidMetH_plain _ _ _ (by kernel_rfl)]; exact laidMet_laidAll _ (by kernel_rfl) (by kernel_rfl))) ?_
  intro W base args ds gs before hval0 hW hL hsh
  have hval : ∀ (j : Nat) t v, Tryd.f5.params[j]? = some t → args[j]? = some v → Value.okWide Tryd.prog W .any base t v := hval0
  have hW' := hW
  obtain ⟨p, q, hA0, hV, rfl, hfz, hnd⟩ := hW
  have hA : DataW.TrodAll enc Tryd.prog W 0 (fun _ => true) true Tryd.f5.params.toList args.toList ds p := hA0
  rw [Tryd.params5] at hA hval
  obtain ⟨v0, vs0, d0, ds0, p0, q0, hargs, rfl, rfl, h0, r0⟩ := trodAll_cons hA
  obtain ⟨rfl, rfl, rfl⟩ := trodAll_nil r0
  obtain rfl : args = #[v0] := by cases args; simp_all
  obtain ⟨rfl, rfl⟩ := trodVars_none hV
  have k0 := h0
  have lt0 : ∀ x ∈ p0, x.block < W.heap.size := by obtain ⟨m, hm⟩ := k0; exact DataW.trod_lt m _ _ _ hm
  obtain ⟨x0, l0, c0, rfl⟩ := okWide_slice Tryd.underlying22 (hval 0 22 v0 rfl rfl)
  obtain ⟨d0, e0, s0, z0, y0⟩ := Go.Proofs.Tryd.Vr.view_edits2 (by obtain ⟨fuel, hf⟩ := h0; exact ⟨fuel, by simpa [Value.cells] using hf⟩)
  subst z0
  clear hA0 hval0
  refine (Go.Proofs.Tryd.Vr.moves_any e0 d0 x0 c0 W (Go.Proofs.Tryd.Vr.lim_of (by have hL9 := hL; rw [MakeChecks.laidMetH_plain _ _ _ (by kernel_rfl)] at hL9; exact hL9)) y0 s0).mono fun e W' ⟨he, bel⟩ => ?_
  subst he
  exact ⟨_, rfl, _, _, _, [], _, [], hW', trodAll_mk1 (shut_bool Tryd.underlying4 _), (trodAll_cons_mk (Below.trod laidOut (by kernel_rfl) (of_decide_eq_true (by kernel_rfl)) k0 bel lt0) trodAll_mk0), rfl, bel.frame _, fun h => by cases h⟩
theorem holds : Rows.VersionMovesSaid :=
  OpenClaim.holds_of_wide 5 Tryd.f5 rfl rfl rfl rfl rfl rfl rfl ⟨rfl, rfl, rfl, rfl, rfl⟩ rfl rfl rfl rfl rfl (by kernel_rfl) Tryd.func5 (by kernel_rfl)
    (of_decide_eq_true (by kernel_rfl)) (by unfold Func.isWrapper; first | (rw [if_pos (by decide +kernel)]; kernel_rfl) | (rw [if_neg (by decide +kernel)]; exact ⟨rfl, rfl⟩))
    (fun os started H enc _ => lifted os started H enc)
theorem proved : Rows.VersionMovesCardSaid :=
  Claim7.holds_tied_plain_at .later [] [.data] true (true, "aefb58c46982b2e01677956fd615057d9f50492d84b8b00a4e462c4efee74352") false holds (fun _ h => by cases h) (by kernel_rfl) (fun _ h => by cases h) versionMoves_row_tie rfl ⟨rfl, rfl⟩ (by kernel_rfl) rfl
    (fun f fn hf hfn => by
      obtain rfl : f = 5 := Option.some.inj ((show Tryd.prog.funcNamed "copyhold/copyholdlaw14.VersionMoves" = some 5 by kernel_rfl).symm.trans hf) |>.symm
      obtain rfl : fn = Tryd.f5 := (Option.some.inj (Tryd.func5.symm.trans hfn)).symm
      exact ⟨by kernel_rfl, fun j t ht => by
        rw [Tryd.params5] at ht
        have hm : t ∈ [22] := by simpa using Array.mem_of_getElem? ht
        have hall : ([22].all fun u => !Tryd.prog.wantsStandIn u) = true := by kernel_rfl
        exact (show Tryd.prog.wantsStandIn t = false by simpa using List.all_eq_true.1 hall t hm)⟩)
    (by kernel_rfl)
#print axioms proved
end Go.Proofs.YtkeaalacepjadaaDoor.versionMoves
