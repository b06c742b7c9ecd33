/- MemKnown: its walk. -/
import Derived.Test.YtkikjbcmdlghnaaDoorKw
set_option linter.unusedVariables false
set_option linter.unusedSimpArgs false
set_option maxRecDepth 100000
namespace Go.Proofs.Tryd.Skm
open Go.RowKit Go.Cph Go.Cph.Skip Go.Cph.Skm Go.Cph.Ok Go.Proofs.Tryd.Ok
def e3 : Et := (⟨#[98]⟩, ⟨#[50]⟩, 4, false)
def e4 : Et := (⟨#[98]⟩, ⟨#[55]⟩, 4, false)
def e5 : Et := (⟨#[99]⟩, ⟨#[120]⟩, 9, true)
abbrev es3 : List Et := [e1, e2, e3]
theorem klt_ab : klt ⟨#[97]⟩ ⟨#[98]⟩ = true := by
  unfold klt
  rw [show (⟨#[97]⟩ : ByteArray).toList = [97] from toList_of [97], show (⟨#[98]⟩ : ByteArray).toList = [98] from toList_of [98]]
  decide
theorem klt_ba : klt ⟨#[98]⟩ ⟨#[97]⟩ = false := klt_asymm klt_ab
theorem at_a {n : UInt64} {x y : Et} {ok : Bool} (h : AtIs es3 ⟨#[97]⟩ n x ok) (hy : y ∈ es3) (hk : y.1 = ⟨#[97]⟩) (hn : ¬ n < y.2.2.1) (hall : ∀ z ∈ es3, z.1 = ⟨#[97]⟩ → z.2.2.1 ≤ n → y.2.2.1 ≤ z.2.2.1 → z = y) : x = y ∧ ok = true := by
  rcases h with ⟨_, _, h⟩ | ⟨h1, h2, h3, h4, h5⟩
  · exact absurd (h y hy hk) hn
  · exact ⟨hall x h2 h3 h4 (h5 y hy hk (UInt64.not_lt.1 hn)), h1⟩
theorem at_b {x : Et} {ok : Bool} (h : AtIs es3 ⟨#[98]⟩ 9 x ok) : x = e3 ∧ ok = true := by
  rcases h with ⟨_, _, h⟩ | ⟨h1, h2, h3, h4, h5⟩
  · exact absurd (h e3 (by simp [es3]) rfl) (by decide)
  · refine ⟨?_, h1⟩
    simp only [es3, List.mem_cons, List.not_mem_nil, or_false] at h2
    rcases h2 with rfl | rfl | rfl
    · exact absurd h3 (by decide)
    · exact absurd h3 (by decide)
    · rfl
theorem at_no {x : Et} {ok : Bool} (h : AtIs es3 ⟨#[97]⟩ 2 x ok) : x = zeroV ∧ ok = false := by
  rcases h with ⟨h1, h2, h⟩ | ⟨h1, h2, h3, h4, h5⟩
  · exact ⟨h2, h1⟩
  · exfalso
    simp only [es3, List.mem_cons, List.not_mem_nil, or_false] at h2
    rcases h2 with rfl | rfl | rfl
    · exact absurd h4 (by decide)
    · exact absurd h4 (by decide)
    · exact absurd h3 (by decide)
theorem pl21 : klt (pl e2) (pl e1) = true := by rw [pl_pl, show e2.1 = e1.1 from rfl, klt_irrefl]; decide
theorem pl23 : klt (pl e2) (pl e3) = true := by rw [pl_pl, show klt e2.1 e3.1 = true from klt_ab]; rfl
theorem pl13 : klt (pl e1) (pl e3) = true := by rw [pl_pl, show klt e1.1 e3.1 = true from klt_ab]; rfl
theorem known_all : RangeIs es3 ⟨#[]⟩ ⟨#[]⟩ [e2, e1, e3] := by
  refine ⟨?_, fun x => ?_⟩
  · simp [pl21, pl23, pl13]
  · rw [inR_all]
    simp only [es3, List.mem_cons, List.not_mem_nil, or_false, and_true]
    exact or_left_comm
theorem inA : inR ⟨#[97]⟩ ⟨#[98]⟩ ⟨#[97]⟩ = true := by unfold inR below; rw [klt_irrefl, klt_ab]; rfl
theorem inB : inR ⟨#[97]⟩ ⟨#[98]⟩ ⟨#[98]⟩ = false := by unfold inR below; rw [klt_irrefl, klt_ba]; rfl
theorem known_some : RangeIs es3 ⟨#[97]⟩ ⟨#[98]⟩ [e2, e1] := by
  refine ⟨?_, fun x => ?_⟩
  · simp [pl21]
  · simp only [es3, List.mem_cons, List.not_mem_nil, or_false]
    constructor
    · rintro (rfl | rfl)
      · exact ⟨.inr (.inl rfl), inA⟩
      · exact ⟨.inl rfl, inA⟩
    · rintro ⟨rfl | rfl | rfl, h⟩
      · exact .inr rfl
      · exact .inl rfl
      · rw [show inR ⟨#[97]⟩ ⟨#[98]⟩ e3.1 = false from inB] at h; cases h
set_option maxHeartbeats 12800000 in
theorem known_law (m : Int) (w : World) (hm : MaxAt m w) : Calls Tryd.prog 6 #[] w (AwPost w) := by
  have HM := Lib.hid hm
  have H0 := Lib.hid (max_lt hm)
  have HAW := Lib.hid (show ∀ W, Below w.heap.size w W → Calls Tryd.prog 7 #[] W (AwPost w) from fun W hW => (awake_any m W (max_kept hm hW (max_lt hm))).mono fun e w' h => aw_mono h hW)
  have HP0 := Lib.hid (show ∀ W p, MemIn w.heap.size w p ([] : List Et) W → Calls Tryd.prog 12 #[ptr p, .agg #[.string ⟨#[97]⟩, .string ⟨#[49]⟩, .int .u64 3, .bool false], .int .i64 1] W fun r w' => r = .returned (.int .i64 0) ∧ MemIn w.heap.size w p [e1] w' from fun W p h => by
    have := put_in e1 1 h (Nat.le_refl _) hm (max_lt hm) (by decide) (by decide) (by decide) (by decide)
    rw [show putE ([] : List Et) e1 = [e1] from by decide, show putR ([] : List Et) e1 = 0 from by decide] at this
    exact this)
  have HP1 := Lib.hid (show ∀ W p, MemIn w.heap.size w p [e1] W → Calls Tryd.prog 12 #[ptr p, .agg #[.string ⟨#[97]⟩, .string ⟨#[]⟩, .int .u64 5, .bool true], .int .i64 2] W fun r w' => r = .returned (.int .i64 0) ∧ MemIn w.heap.size w p [e1, e2] w' from fun W p h => by
    have := put_in e2 2 h (Nat.le_refl _) hm (max_lt hm) (by decide) (by decide) (by decide) (by decide)
    rw [show putE [e1] e2 = [e1, e2] from by decide, show putR [e1] e2 = 0 from by decide] at this
    exact this)
  have HP2 := Lib.hid (show ∀ W p, MemIn w.heap.size w p [e1, e2] W → Calls Tryd.prog 12 #[ptr p, .agg #[.string ⟨#[98]⟩, .string ⟨#[50]⟩, .int .u64 4, .bool false], .int .i64 3] W fun r w' => r = .returned (.int .i64 0) ∧ MemIn w.heap.size w p es3 w' from fun W p h => by
    have := put_in e3 3 h (Nat.le_refl _) hm (max_lt hm) (by decide) (by decide) (by decide) (by decide)
    rw [show putE [e1, e2] e3 = es3 from by decide, show putR [e1, e2] e3 = 0 from by decide] at this
    exact this)
  have HP3 := Lib.hid (show ∀ W p, MemIn w.heap.size w p es3 W → Calls Tryd.prog 12 #[ptr p, .agg #[.string ⟨#[98]⟩, .string ⟨#[55]⟩, .int .u64 4, .bool false], .int .i64 1] W fun r w' => r = .returned (.int .i64 5) ∧ MemIn w.heap.size w p es3 w' from fun W p h => by
    have := put_in e4 1 h (Nat.le_refl _) hm (max_lt hm) (by decide) (by decide) (by decide) (by decide)
    rw [show putE es3 e4 = es3 from by decide, show putR es3 e4 = 5 from by decide] at this
    exact this)
  have HP4 := Lib.hid (show ∀ W p, MemIn w.heap.size w p es3 W → Calls Tryd.prog 12 #[ptr p, .agg #[.string ⟨#[99]⟩, .string ⟨#[120]⟩, .int .u64 9, .bool true], .int .i64 1] W fun r w' => r = .returned (.int .i64 1) ∧ MemIn w.heap.size w p es3 w' from fun W p h => by
    have := put_in e5 1 h (Nat.le_refl _) hm (max_lt hm) (by decide) (by decide) (by decide) (by decide)
    rw [show putE es3 e5 = es3 from by decide, show putR es3 e5 = 1 from by decide] at this
    exact this)
  have HA0 := Lib.hid (show ∀ W p, MemIn w.heap.size w p es3 W → Calls Tryd.prog 13 #[ptr p, .string ⟨#[97]⟩, .int .u64 4] W fun r w' => r = .returned (.tuple #[.agg #[.string ⟨#[97]⟩, .string ⟨#[49]⟩, .int .u64 3, .bool false], .bool true]) ∧ Below W.heap.size W w' from fun W p h =>
    (at_in ⟨#[97]⟩ 4 h (Nat.le_refl _) hm (max_lt hm) (by decide)).mono fun r w' ⟨⟨x, ok, h1, h2⟩, h3⟩ => by
      obtain ⟨rfl, rfl⟩ := at_a h2 (y := e1) (by simp [es3]) rfl (by decide) (by decide)
      exact ⟨h1, h3⟩)
  have HA1 := Lib.hid (show ∀ W p, MemIn w.heap.size w p es3 W → Calls Tryd.prog 13 #[ptr p, .string ⟨#[97]⟩, .int .u64 5] W fun r w' => r = .returned (.tuple #[.agg #[.string ⟨#[97]⟩, .string ⟨#[]⟩, .int .u64 5, .bool true], .bool true]) ∧ Below W.heap.size W w' from fun W p h =>
    (at_in ⟨#[97]⟩ 5 h (Nat.le_refl _) hm (max_lt hm) (by decide)).mono fun r w' ⟨⟨x, ok, h1, h2⟩, h3⟩ => by
      obtain ⟨rfl, rfl⟩ := at_a h2 (y := e2) (by simp [es3]) rfl (by decide) (by decide)
      exact ⟨h1, h3⟩)
  have HA2 := Lib.hid (show ∀ W p, MemIn w.heap.size w p es3 W → Calls Tryd.prog 13 #[ptr p, .string ⟨#[97]⟩, .int .u64 2] W fun r w' => r = .returned (.tuple #[.agg #[.string ⟨#[]⟩, .string ⟨#[]⟩, .int .u64 0, .bool false], .bool false]) ∧ Below W.heap.size W w' from fun W p h =>
    (at_in ⟨#[97]⟩ 2 h (Nat.le_refl _) hm (max_lt hm) (by decide)).mono fun r w' ⟨⟨x, ok, h1, h2⟩, h3⟩ => by
      obtain ⟨rfl, rfl⟩ := at_no h2
      exact ⟨h1, h3⟩)
  have HA3 := Lib.hid (show ∀ W p, MemIn w.heap.size w p es3 W → Calls Tryd.prog 13 #[ptr p, .string ⟨#[98]⟩, .int .u64 9] W fun r w' => r = .returned (.tuple #[.agg #[.string ⟨#[98]⟩, .string ⟨#[50]⟩, .int .u64 4, .bool false], .bool true]) ∧ Below W.heap.size W w' from fun W p h =>
    (at_in ⟨#[98]⟩ 9 h (Nat.le_refl _) hm (max_lt hm) (by decide)).mono fun r w' ⟨⟨x, ok, h1, h2⟩, h3⟩ => by
      obtain ⟨rfl, rfl⟩ := at_b h2
      exact ⟨h1, h3⟩)
  have HR0 := Lib.hid (show ∀ W p, MemIn w.heap.size w p es3 W → Calls Tryd.prog 20 #[ptr p, .string ⟨#[]⟩, .string ⟨#[]⟩] W fun r w' => (∃ g cap, r = .returned (.slice (some ⟨g, 0, none⟩) 3 cap) ∧ w'.cell? ⟨g, 2, none⟩ = some (.int .u64 5) ∧ w'.cell? ⟨g, 6, none⟩ = some (.int .u64 3) ∧ w'.cell? ⟨g, 8, none⟩ = some (.string ⟨#[98]⟩)) ∧ Below W.heap.size W w' from fun W p h =>
    (range_in ⟨#[]⟩ ⟨#[]⟩ h (Nat.le_refl _) hm (max_lt hm) (by decide) (by decide)).mono fun r w' ⟨v, l, h1, h2, h3, h4⟩ => by
      obtain rfl := h2.unique known_all
      obtain ⟨g, cap, rfl, _, _, _, hc, _⟩ := owns_shape h3 (by decide)
      exact ⟨⟨g, cap, h1, (hc 2 (by decide)).trans rfl, (hc 6 (by decide)).trans rfl, (hc 8 (by decide)).trans rfl⟩, h4⟩)
  have HR1 := Lib.hid (show ∀ W p, MemIn w.heap.size w p es3 W → Calls Tryd.prog 20 #[ptr p, .string ⟨#[97]⟩, .string ⟨#[98]⟩] W fun r w' => (∃ g cap, r = .returned (.slice (some ⟨g, 0, none⟩) 2 cap)) ∧ Below W.heap.size W w' from fun W p h =>
    (range_in ⟨#[97]⟩ ⟨#[98]⟩ h (Nat.le_refl _) hm (max_lt hm) (by decide) (by decide)).mono fun r w' ⟨v, l, h1, h2, h3, h4⟩ => by
      obtain rfl := h2.unique known_some
      obtain ⟨g, cap, rfl, _, _, _, hc, _⟩ := owns_shape h3 (by decide)
      exact ⟨⟨g, cap, h1⟩, h4⟩)
  have HNW := Lib.hid (show ∀ W p, MemIn w.heap.size w p es3 W → Calls Tryd.prog 16 #[ptr p] W fun r w' => r = .returned (.int .u64 5) ∧ W = w' from fun W p h => newest_in h)
  have HBY := Lib.hid (show ∀ W p, MemIn w.heap.size w p es3 W → Calls Tryd.prog 17 #[ptr p] W fun r w' => r = .returned (.int .i64 5) ∧ W = w' from fun W p h => bytes_in h)
  clear hm
  go_enter Tryd.func6, Tryd.ntmps6
  go_wp2_with fail
  refine (new_in _).mono ?_
  rintro r w1 ⟨p, rfl, hmem⟩
  have M0 := Lib.hid hmem
  clear hmem
  go_wp2_with fail
  refine (HP0.out _ _ M0.out).mono ?_
  rintro r w2 ⟨rfl, hmem⟩
  have M1 := Lib.hid hmem
  clear hmem
  go_wp2_with fail
  refine (HP1.out _ _ M1.out).mono ?_
  rintro r w3 ⟨rfl, hmem⟩
  have M2 := Lib.hid hmem
  clear hmem
  go_wp2_with fail
  refine (HP2.out _ _ M2.out).mono ?_
  rintro r w4 ⟨rfl, hmem⟩
  have M3 := Lib.hid hmem
  clear hmem
  go_wp2_with fail
  refine (HP3.out _ _ M3.out).mono ?_
  rintro r w5 ⟨rfl, hmem⟩
  have M4 := Lib.hid hmem
  clear hmem
  go_wp2_with fail
  refine (HP4.out _ _ M4.out).mono ?_
  rintro r w6 ⟨rfl, hmem⟩
  have M5 := Lib.hid hmem
  clear hmem
  go_wp2_with fail
  refine (HA0.out _ _ M5.out).mono ?_
  rintro r v0 ⟨rfl, hb⟩
  have hbx : Below v0.heap.size v0 (v0.alloc (.cells #[.string ⟨#[97]⟩, .string ⟨#[49]⟩, .int .u64 3, .bool false] TE)) := (Below.refl _ _).alloc (Nat.le_refl _) _
  have N0 := Lib.hid ((M5.out.later (Nat.le_refl _) hb).later (Nat.le_refl _) hbx)
  have G0_0 := Lib.hid (heap_alloc_new v0 (.cells #[.string ⟨#[97]⟩, .string ⟨#[49]⟩, .int .u64 3, .bool false] TE))
  clear hb hbx
  go_wp2_with fail
  refine (HA1.out _ _ N0.out).mono ?_
  rintro r v1 ⟨rfl, hb⟩
  have hbx : Below v1.heap.size v1 (v1.alloc (.cells #[.string ⟨#[97]⟩, .string ⟨#[]⟩, .int .u64 5, .bool true] TE)) := (Below.refl _ _).alloc (Nat.le_refl _) _
  have N1 := Lib.hid ((N0.out.later (Nat.le_refl _) hb).later (Nat.le_refl _) hbx)
  have G1_1 := Lib.hid (heap_alloc_new v1 (.cells #[.string ⟨#[97]⟩, .string ⟨#[]⟩, .int .u64 5, .bool true] TE))
  have G0_1 := Lib.hid (blk_kept hbx (blk_kept hb G0_0.out))
  clear hb hbx
  go_wp2_with fail
  refine (HA2.out _ _ N1.out).mono ?_
  rintro r v2 ⟨rfl, hb⟩
  have hbx : Below v2.heap.size v2 (v2.alloc (.cells #[.string ⟨#[]⟩, .string ⟨#[]⟩, .int .u64 0, .bool false] TE)) := (Below.refl _ _).alloc (Nat.le_refl _) _
  have N2 := Lib.hid ((N1.out.later (Nat.le_refl _) hb).later (Nat.le_refl _) hbx)
  have G2_2 := Lib.hid (heap_alloc_new v2 (.cells #[.string ⟨#[]⟩, .string ⟨#[]⟩, .int .u64 0, .bool false] TE))
  have G0_2 := Lib.hid (blk_kept hbx (blk_kept hb G0_1.out))
  have G1_2 := Lib.hid (blk_kept hbx (blk_kept hb G1_1.out))
  clear hb hbx
  go_wp2_with fail
  refine (HA3.out _ _ N2.out).mono ?_
  rintro r v3 ⟨rfl, hb⟩
  have hbx : Below v3.heap.size v3 (v3.alloc (.cells #[.string ⟨#[98]⟩, .string ⟨#[50]⟩, .int .u64 4, .bool false] TE)) := (Below.refl _ _).alloc (Nat.le_refl _) _
  have N3 := Lib.hid ((N2.out.later (Nat.le_refl _) hb).later (Nat.le_refl _) hbx)
  have G3_3 := Lib.hid (heap_alloc_new v3 (.cells #[.string ⟨#[98]⟩, .string ⟨#[50]⟩, .int .u64 4, .bool false] TE))
  have G0_3 := Lib.hid (blk_kept hbx (blk_kept hb G0_2.out))
  have G1_3 := Lib.hid (blk_kept hbx (blk_kept hb G1_2.out))
  have G2_3 := Lib.hid (blk_kept hbx (blk_kept hb G2_2.out))
  clear hb hbx
  have c0 : (v3.alloc (.cells #[.string ⟨#[98]⟩, .string ⟨#[50]⟩, .int .u64 4, .bool false] TE)).cell? ⟨v0.heap.size, 1, none⟩ = some (.string ⟨#[49]⟩) := by rw [blk_cell G0_3.out]; rfl
  have c1 : (v3.alloc (.cells #[.string ⟨#[98]⟩, .string ⟨#[50]⟩, .int .u64 4, .bool false] TE)).cell? ⟨v1.heap.size, 3, none⟩ = some (.bool true) := by rw [blk_cell G1_3.out]; rfl
  have c3 : (v3.alloc (.cells #[.string ⟨#[98]⟩, .string ⟨#[50]⟩, .int .u64 4, .bool false] TE)).cell? ⟨v3.heap.size, 1, none⟩ = some (.string ⟨#[50]⟩) := by rw [blk_cell G3_3.out]; rfl
  have j1 : ((⟨#[49]⟩ : ByteArray).toList == (⟨#[49]⟩ : ByteArray).toList) = true := by simp
  have j2 : ((⟨#[50]⟩ : ByteArray).toList == (⟨#[50]⟩ : ByteArray).toList) = true := by simp
  have j3 : ((⟨#[98]⟩ : ByteArray).toList == (⟨#[98]⟩ : ByteArray).toList) = true := by simp
  have j4 : ((⟨#[49]⟩ : ByteArray).toList != (⟨#[49]⟩ : ByteArray).toList) = false := by simp
  have j5 : ((⟨#[50]⟩ : ByteArray).toList != (⟨#[50]⟩ : ByteArray).toList) = false := by simp
  go_wp2_with fail
  refine (HR0.out _ _ N3.out).mono ?_
  rintro r u0 ⟨⟨g, cap, rfl, d1, d2, d3⟩, hb⟩
  have N4 := Lib.hid (N3.out.later (Nat.le_refl _) hb)
  have D1 := Lib.hid d1
  have D2 := Lib.hid d2
  have D3 := Lib.hid d3
  clear hb d1 d2 d3
  go_wp2_with fail
  refine (HR1.out _ _ N4.out).mono ?_
  rintro r u1 ⟨⟨g', cap', rfl⟩, hb⟩
  have N5 := Lib.hid (N4.out.later (Nat.le_refl _) hb)
  have d1 := Go.Cph.cell_kept hb D1.out
  have d2 := Go.Cph.cell_kept hb D2.out
  have d3 := Go.Cph.cell_kept hb D3.out
  clear hb
  obtain ⟨q, hq, _, hlen⟩ := N5.out.list
  have HL := Lib.hid (hlen u1 (Below.refl _ _))
  clear hlen
  go_wp2_with fail
  refine (HNW.out _ _ N5.out).mono ?_
  rintro r u2 ⟨rfl, rfl⟩
  go_wp2_with fail
  refine (HBY.out _ _ N5.out).mono ?_
  rintro r u2 ⟨rfl, rfl⟩
  go_wp2_with fail
  refine HL.out.mono ?_
  rintro r u2 ⟨rfl, rfl⟩
  go_wp2_with fail
  refine (HAW.out _ N5.out.bel).mono ?_
  rintro e u3 ⟨rfl, hb⟩
  have B3 := Lib.hid hb
  clear hb
  go_wp2_with fail
  go_ret
  exact ⟨rfl, B3.out⟩
end Go.Proofs.Tryd.Skm
