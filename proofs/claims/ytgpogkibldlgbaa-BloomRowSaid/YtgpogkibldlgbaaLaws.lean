/- The laws' own walks. -/
import Derived.Test.YtgpogkibldlgbaaRMake
import Derived.Test.YtgpogkibldlgbaaAwake
namespace Go.Proofs.Try
open Go.RowKit Go.Cph

theorem StrsAt.later {w w' : World} {v : Value} {ss : List ByteArray} (h : StrsAt w v ss) (hb : Below w.heap.size w w') : StrsAt w' v ss := h.kept hb

theorem law_mays (s key : ByteArray) (w : World) (hs : s.size ≤ maxLen) (hk : key.size ≤ maxLen) :
    Calls Try.prog 5 #[.string s, .string key] w fun e w' => e = .returned (.bool true) ∧ Below w.heap.size w w' := by
  unfold maxLen at hs hk
  by_cases h1 : 4000 < s.size <;> by_cases h2 : 4000 < key.size
  all_goals
    go_enter Try.func5, Try.ntmps5
    go_wp2_with fail
    refine (bmay _ _ _ (by first | omega | (simp; omega)) (by unfold maxLen; first | omega | (simp; omega))).mono ?_
    rintro e w1 ⟨rfl, hb1⟩
    go_wp2_with fail
    refine (rmay _ _ _ (by first | omega | (simp; omega)) (by unfold maxLen; first | omega | (simp; omega))).mono ?_
    rintro e w2 ⟨rfl, hb2⟩
    have hB := below_step hb1 hb2 hb1.size
    have hsz := hB.size
    clear hb1 hb2
    go_wp2_with fail
    refine (awake _).mono ?_
    rintro e w3 ⟨rfl, hb⟩
    replace hB := below_step hB hb hsz
    clear hb
    go_wp2
    go_ret
    exact ⟨rfl, hB⟩

set_option maxHeartbeats 400000 in
theorem law_makes (v : Value) (keys : List ByteArray) (w : World) (hv : StrsAt w v keys) (hn : keys.length ≤ maxLen) (hs : ∀ s ∈ keys, s.size ≤ maxLen) :
    Calls Try.prog 4 #[v] w fun e w' => e = .returned (.bool true) ∧ Below w.heap.size w w' := by
  have hv0 := Lib.hid hv
  obtain ⟨ao, cap, rfl, hv⟩ := hv
  have HS := Lib.hid hs
  have HV := Lib.hid hv
  have hn' := hn
  unfold maxLen at hn'
  clear hs hv
  cases hg : greatB keys
  · obtain ⟨hg1, hg2⟩ := great_no hg
    have HG2 := Lib.hid hg2
    clear hg2
    go_enter Try.func4, Try.ntmps4
    go_wp2_with (go_at_call 13; refine (great _ keys _ hv0.out hn HS.out).mono ?_; rw [hg]; rintro e w1 ⟨rfl, rfl⟩)
    go_loopw [3] (fun i wr => ∃ k : Nat, k ≤ keys.length ∧ i = .int .i64 k ∧ Below w.heap.size w wr) (fun i _ => keys.length - (intOf i).toNat)
    case atStart => exact ⟨0, by omega, rfl, Below.refl _ _⟩
    case round =>
      obtain ⟨k, hk, rfl, hbel⟩ := hrel
      by_cases hlt : k < keys.length
      · obtain ⟨b, off, rfl, hc⟩ := HV.out (by omega)
        have hc' := hc k hlt
        have hlt' := World.block_lt_of_cell? w _ hc'
        have hkey := HS.out keys[k] (List.getElem_mem _)
        clear hc
        obtain ⟨key, hkk⟩ : ∃ key, key = keys[k] := ⟨_, rfl⟩
        rw [← hkk] at hc' hkey
        clear hkk
        have hsz := hbel.size
        have hcell : ∀ x : Later wr.heap.size wr, x.val.cell? ⟨b, off + k, none⟩ = some (.string key) := fun x => Later.cell ((hbel.cell hlt').trans hc') (by simp at hlt' ⊢; omega) x
        go_wp2
        refine wp_region_later wr.heap.size (by kernel_rfl) (by kernel_rfl) ?_
        repeat (quiet_step (first | (go_at_call 9; exact Later.calls (Nat.le_refl _) (bhash key _ hkey)) | (go_at_call 14; exact Later.calls (Nat.le_refl _) ((rhash key _ hkey).mono fun _ _ ⟨a, b⟩ => ⟨a, b ▸ Below.refl _ _⟩))))
        refine wpQuiet_nil ?_
        rintro w2 ⟨x, rfl⟩
        have hb2 := below_step hbel x.prop hsz
        clear hcell
        go_wp2
        go_roundw
        case rel => exact ⟨k + 1, by omega, by go_num, hb2⟩
        case measure => simp [intOf]; omega
      · have hv1 := Lib.hid (StrsAt.later hv0.out hbel)
        have hsz := hbel.size
        go_wp2_with fail
        refine (bmake _ keys _ hv1.out (by omega) HS.out).mono ?_
        rintro e w1 ⟨rfl, hb1⟩
        replace hv1 := Lib.hid (StrsAt.later hv1.out hb1)
        replace hbel := below_step hbel hb1 hsz
        replace hsz := hbel.size
        clear hb1
        go_wp2_with fail
        refine (rmake _ keys _ hv1.out (by omega) HS.out).mono ?_
        rintro e w2 ⟨rfl, hb1⟩
        replace hbel := below_step hbel hb1 hsz
        replace hsz := hbel.size
        clear hb1 hv1
        generalize (⟨(makeL keys).toArray⟩ : ByteArray) = f
        go_wp2_with fail
        refine (awake _).mono ?_
        rintro e w3 ⟨rfl, hb1⟩
        replace hbel := below_step hbel hb1 hsz
        clear hb1
        go_wp2
        go_ret
        exact ⟨rfl, hbel⟩
  · go_enter Try.func4, Try.ntmps4
    go_wp2_with (go_at_call 13; refine (great _ keys _ hv0.out hn HS.out).mono ?_; rw [hg]; rintro e w1 ⟨rfl, rfl⟩)
    refine (awake _).mono ?_
    rintro e w3 ⟨rfl, hb1⟩
    go_wp2
    go_ret
    exact ⟨rfl, hb1⟩
end Go.Proofs.Try
