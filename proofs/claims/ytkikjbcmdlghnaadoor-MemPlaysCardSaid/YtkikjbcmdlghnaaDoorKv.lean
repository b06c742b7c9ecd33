/- What the laws of mem ask at their ends (awake). -/
import Derived.Test.YtkikjbcmdlghnaaDoorKu
set_option linter.unusedVariables false
set_option linter.unusedSimpArgs false
set_option maxRecDepth 100000
namespace Go.Proofs.Tryd.Skm
open Go.RowKit Go.Cph Go.Cph.Skip Go.Cph.Skm Go.Cph.Ok Go.Proofs.Tryd.Ok
def AwPost (w : World) (e : Ending) (w' : World) : Prop := e = .returned (.bool true) ∧ Below w.heap.size w w'
def e1 : Et := (⟨#[97]⟩, ⟨#[49]⟩, 3, false)
def e2 : Et := (⟨#[97]⟩, ⟨#[]⟩, 5, true)
theorem klt_nil (k : ByteArray) : klt k ⟨#[]⟩ = false := by
  unfold klt
  rw [show (⟨#[]⟩ : ByteArray).toList = [] from toList_of []]
  cases k.toList <;> rfl
theorem inR_all (k : ByteArray) : inR ⟨#[]⟩ ⟨#[]⟩ k = true := by
  unfold inR below
  rw [klt_nil]; rfl
theorem aw_at {x : Et} {ok : Bool} (h : AtIs [e1, e2] ⟨#[97]⟩ 4 x ok) : x = e1 ∧ ok = true := by
  rcases h with ⟨_, _, h⟩ | ⟨h1, h2, h3, h4, h5⟩
  · exact absurd (h e1 (by simp) rfl) (by decide)
  · refine ⟨?_, h1⟩
    rcases List.mem_cons.1 h2 with h | h
    · exact h
    · rw [List.mem_singleton.1 h] at h4
      exact absurd h4 (by decide)
theorem aw_range : RangeIs [e1, e2] ⟨#[]⟩ ⟨#[]⟩ [e2, e1] := by
  refine ⟨?_, fun x => ?_⟩
  · refine List.pairwise_cons.2 ⟨fun y hy => ?_, by simp⟩
    rw [List.mem_singleton.1 hy, pl_pl, show e2.1 = e1.1 from rfl, klt_irrefl]
    decide
  · rw [inR_all]
    simp only [List.mem_cons, List.not_mem_nil, or_false, and_true]
    exact Or.comm
set_option maxHeartbeats 6400000 in
theorem awake_any (m : Int) (w : World) (hm : MaxAt m w) : Calls Tryd.prog 7 #[] w (AwPost w) := by
  have HM := Lib.hid hm
  have H0 := Lib.hid (max_lt hm)
  have HP1 := Lib.hid (show ∀ W p, MemIn w.heap.size w p [] W → Calls Tryd.prog 12 #[ptr p, .agg #[.string ⟨#[97]⟩, .string ⟨#[49]⟩, .int .u64 3, .bool false], .int .i64 1] W fun r w' => r = .returned (.int .i64 0) ∧ MemIn w.heap.size w p [e1] w' from fun W p h =>
    put_in e1 1 h (Nat.le_refl _) hm (max_lt hm) (by decide) (by decide) (by decide) (by decide))
  have HP2 := Lib.hid (show ∀ W p, MemIn w.heap.size w p [e1] W → Calls Tryd.prog 12 #[ptr p, .agg #[.string ⟨#[97]⟩, .string ⟨#[]⟩, .int .u64 5, .bool true], .int .i64 2] W fun r w' => r = .returned (.int .i64 0) ∧ MemIn w.heap.size w p [e1, e2] w' from fun W p h => by
    have := put_in e2 2 h (Nat.le_refl _) hm (max_lt hm) (by decide) (by decide) (by decide) (by decide)
    rw [show putE [e1] e2 = [e1, e2] from by decide, show putR [e1] e2 = 0 from by decide] at this
    exact this)
  have HAT := Lib.hid (show ∀ W p, MemIn w.heap.size w p [e1, e2] W → Calls Tryd.prog 13 #[ptr p, .string ⟨#[97]⟩, .int .u64 4] W fun r w' => r = .returned (.tuple #[.agg #[.string ⟨#[97]⟩, .string ⟨#[49]⟩, .int .u64 3, .bool false], .bool true]) ∧ Below W.heap.size W w' from fun W p h =>
    (at_in ⟨#[97]⟩ 4 h (Nat.le_refl _) hm (max_lt hm) (by decide)).mono fun r w' ⟨⟨x, ok, h1, h2⟩, h3⟩ => by
      obtain ⟨rfl, rfl⟩ := aw_at h2
      exact ⟨h1, h3⟩)
  have HRG := Lib.hid (show ∀ W p, MemIn w.heap.size w p [e1, e2] W → Calls Tryd.prog 20 #[ptr p, .string ⟨#[]⟩, .string ⟨#[]⟩] W fun r w' => (∃ g cap, r = .returned (.slice (some ⟨g, 0, none⟩) 2 cap) ∧ w'.cell? ⟨g, 3, none⟩ = some (.bool true)) ∧ Below W.heap.size W w' from fun W p h =>
    (range_in ⟨#[]⟩ ⟨#[]⟩ h (Nat.le_refl _) hm (max_lt hm) (by decide) (by decide)).mono fun r w' ⟨v, l, h1, h2, h3, h4⟩ => by
      obtain rfl := h2.unique aw_range
      obtain ⟨g, cap, rfl, _, _, _, hc, _⟩ := owns_shape h3 (by decide)
      exact ⟨⟨g, cap, h1, (hc 3 (by decide)).trans rfl⟩, h4⟩)
  clear hm
  go_enter Tryd.func7, Tryd.ntmps7
  go_wp2_with fail
  refine (new_in _).mono ?_
  rintro r w1 ⟨p, rfl, hmem⟩
  have M1 := Lib.hid hmem
  clear hmem
  go_wp2_with fail
  refine (HP1.out _ _ M1.out).mono ?_
  rintro r w2 ⟨rfl, hmem⟩
  have M2 := Lib.hid hmem
  clear hmem
  go_wp2_with fail
  refine (HP2.out _ _ M2.out).mono ?_
  rintro r w3 ⟨rfl, hmem⟩
  have M3 := Lib.hid hmem
  clear hmem
  go_wp2_with fail
  refine (HAT.out _ _ M3.out).mono ?_
  rintro r w4 ⟨rfl, hb⟩
  have hbx : Below w4.heap.size w4 (w4.alloc (.cells #[.string ⟨#[97]⟩, .string ⟨#[49]⟩, .int .u64 3, .bool false] TE)) := (Below.refl _ _).alloc (Nat.le_refl _) _
  have M4 := Lib.hid ((M3.out.later (Nat.le_refl _) hb).later (Nat.le_refl _) hbx)
  have HG := Lib.hid (heap_alloc_new w4 (.cells #[.string ⟨#[97]⟩, .string ⟨#[49]⟩, .int .u64 3, .bool false] TE))
  clear hb hbx
  go_wp2_with fail
  refine (HRG.out _ _ M4.out).mono ?_
  rintro r w5 ⟨⟨g, cap, rfl, hc3⟩, hb⟩
  have M5 := Lib.hid (M4.out.later (Nat.le_refl _) hb)
  have HG5 := Lib.hid (blk_kept hb HG.out)
  have c1 : w5.cell? ⟨w4.heap.size, 1, none⟩ = some (.string ⟨#[49]⟩) := by rw [blk_cell HG5.out]; rfl
  obtain ⟨q, hq, _, hlen⟩ := M5.out.list
  have HL := Lib.hid (hlen w5 (Below.refl _ _))
  have j1 : ((⟨#[49]⟩ : ByteArray).toList == (⟨#[49]⟩ : ByteArray).toList) = true := by simp
  clear hb hlen
  go_wp2_with fail
  refine HL.out.mono ?_
  rintro r w6 ⟨rfl, rfl⟩
  go_wp2_with fail
  go_ret
  exact ⟨rfl, M5.out.bel⟩
end Go.Proofs.Tryd.Skm
