/- A memory of one's own; what the laws of mem ask at their ends (awake). -/
import Derived.Test.YtkikjbcmdlghnaaDoorKt
set_option linter.unusedVariables false
set_option linter.unusedSimpArgs false
set_option maxRecDepth 100000
namespace Go.Proofs.Tryd.Skm
open Go.RowKit Go.Cph Go.Cph.Skip Go.Cph.Skm Go.Cph.Ok Go.Proofs.Tryd.Ok

theorem mNewest0 (w : World) : Calls Tryd.prog 16 #[.pointer none] w fun e w' => e = .returned (.int .u64 0) ∧ w = w' := by
  go_enter Tryd.func16, Tryd.ntmps16
  go_wp2_with fail
  go_ret
  exact ⟨rfl, rfl⟩
theorem mBytes0 (w : World) : Calls Tryd.prog 17 #[.pointer none] w fun e w' => e = .returned (.int .i64 0) ∧ w = w' := by
  go_enter Tryd.func17, Tryd.ntmps17
  go_wp2_with fail
  go_ret
  exact ⟨rfl, rfl⟩
theorem mNewest {F : Nat → Prop} {p : Nat} {es : List Et} (w : World) (h : IsMem F w p es) : Calls Tryd.prog 16 #[ptr p] w fun e w' => e = .returned (.int .u64 (newest es : Nat)) ∧ w = w' := by
  obtain ⟨q, nx, nodes, v, g1, _⟩ := h.out
  have c1 : w.cell? ⟨p, 1, none⟩ = some (.int .u64 (newest es : Nat)) := by rw [blk_cell g1]; rfl
  clear h g1
  go_enter Tryd.func16, Tryd.ntmps16
  go_wp2_with fail
  go_ret
  exact ⟨rfl, rfl⟩
theorem mBytes {F : Nat → Prop} {p : Nat} {es : List Et} (w : World) (h : IsMem F w p es) : Calls Tryd.prog 17 #[ptr p] w fun e w' => e = .returned (.int .i64 (bytesN es : Nat)) ∧ w = w' := by
  obtain ⟨q, nx, nodes, v, g1, _⟩ := h.out
  have c1 : w.cell? ⟨p, 2, none⟩ = some (.int .i64 (bytesN es : Nat)) := by rw [blk_cell g1]; rfl
  clear h g1
  go_enter Tryd.func17, Tryd.ntmps17
  go_wp2_with fail
  go_ret
  exact ⟨rfl, rfl⟩
/-- A memory that lies beyond B, in a world that is w0's below B. -/
structure MemIn (B : Nat) (w0 : World) (p : Nat) (es : List Et) (W : World) : Prop where
  out : ∃ F : Nat → Prop, IsMem F W p es ∧ ∀ k, F k → B ≤ k
  bel : Below B w0 W
section
variable {B p : Nat} {w0 W W' : World} {es : List Et}
theorem MemIn.later (h : MemIn B w0 p es W) (hB : B ≤ w0.heap.size) (hb : Below W.heap.size W W') : MemIn B w0 p es W' := by
  obtain ⟨F, h1, h2⟩ := h.out
  exact ⟨⟨F, h1.kept hb, h2⟩, h.bel.trans (hb.mono (Nat.le_trans hB h.bel.size))⟩
/-- The list's pointer, and the list's length. -/
theorem MemIn.list (h : MemIn B w0 p es W) : ∃ q, W.cell? ⟨p, 0, none⟩ = some (ptr q) ∧ (∀ W', Below W.heap.size W W' → W'.cell? ⟨p, 0, none⟩ = some (ptr q)) ∧ ∀ W', Below W.heap.size W W' → Calls Tryd.prog 18 #[ptr q] W' fun e w' => e = .returned (.int .i64 (es.length : Nat)) ∧ W' = w' := by
  obtain ⟨F, h1, _⟩ := h.out
  obtain ⟨q, nx, nodes, v, g1, g2, g3, g4, _⟩ := h1.out
  have hc : ∀ W', Below W.heap.size W W' → W'.cell? ⟨p, 0, none⟩ = some (ptr q) := fun W' hb => by rw [blk_cell (blk_kept hb g1)]; rfl
  refine ⟨q, hc W (Below.refl _ _), hc, fun W' hb => ?_⟩
  have := cLen W' (g2.kept hb)
  rw [← g4, List.length_map]
  exact this
end
theorem new_in (w : World) : Calls Tryd.prog 11 #[] w fun e w' => ∃ p, e = .returned (ptr p) ∧ MemIn w.heap.size w p [] w' :=
  (mNew w).mono fun e w' ⟨F, p, h1, h2, h3, h4⟩ => ⟨p, h1, ⟨F, h2, h3⟩, h4⟩
theorem put_in {B p : Nat} {w0 W : World} {es : List Et} (e : Et) (height : Int) {m : Int} (h : MemIn B w0 p es W) (hB : B ≤ w0.heap.size) (hm : MaxAt m w0) (hB0 : 0 < B) (hk : e.1.size ≤ 1000000) (hv : e.2.1.size ≤ 1000000) (hn : es.length ≤ 1000000) (hby : bytesN es ≤ 1000000000) :
    Calls Tryd.prog 12 #[ptr p, encV e, .int .i64 height] W fun r w' => r = .returned (.int .i64 (putR es e)) ∧ MemIn B w0 p (putE es e) w' := by
  obtain ⟨F, h1, h2⟩ := h.out
  refine (mPut e height m W h1 (max_kept hm h.bel hB0) hk hv hn hby).mono ?_
  rintro r w' ⟨F', hr, hmem, ht, hf⟩
  refine ⟨hr, ⟨F', hmem, fun k hk => ?_⟩, h.bel.trans (ht.below (Nat.le_trans hB h.bel.size) h2)⟩
  rcases hf k hk with h3 | h3
  · exact h2 k h3
  · exact Nat.le_trans (Nat.le_trans hB h.bel.size) h3
theorem at_in {B p : Nat} {w0 W : World} {es : List Et} (key : ByteArray) (n : UInt64) {m : Int} (h : MemIn B w0 p es W) (hB : B ≤ w0.heap.size) (hm : MaxAt m w0) (hB0 : 0 < B) (hk : key.size ≤ 1000000) :
    Calls Tryd.prog 13 #[ptr p, .string key, .int .u64 (n.toNat : Int)] W fun r w' => (∃ x ok, r = .returned (.tuple #[encV x, .bool ok]) ∧ AtIs es key n x ok) ∧ Below W.heap.size W w' := by
  obtain ⟨F, h1, h2⟩ := h.out
  exact (mAt key n m W h1 (max_kept hm h.bel hB0) hk).mono fun r w' ⟨x, ok, h3, h4, h5⟩ => ⟨⟨x, ok, h3, h4⟩, h5⟩
theorem range_in {B p : Nat} {w0 W : World} {es : List Et} (from_ to_ : ByteArray) {m : Int} (h : MemIn B w0 p es W) (hB : B ≤ w0.heap.size) (hm : MaxAt m w0) (hB0 : 0 < B) (hk : from_.size ≤ 1000000) (hn : es.length ≤ 1000000) :
    Calls Tryd.prog 20 #[ptr p, .string from_, .string to_] W (RangePost es from_ to_ W) := by
  obtain ⟨F, h1, h2⟩ := h.out
  exact mRange from_ to_ m W h1 (max_kept hm h.bel hB0) hk hn
theorem newest_in {B p : Nat} {w0 W : World} {es : List Et} (h : MemIn B w0 p es W) : Calls Tryd.prog 16 #[ptr p] W fun r w' => r = .returned (.int .u64 (newest es : Nat)) ∧ W = w' := by
  obtain ⟨F, h1, h2⟩ := h.out
  exact mNewest W h1
theorem bytes_in {B p : Nat} {w0 W : World} {es : List Et} (h : MemIn B w0 p es W) : Calls Tryd.prog 17 #[ptr p] W fun r w' => r = .returned (.int .i64 (bytesN es : Nat)) ∧ W = w' := by
  obtain ⟨F, h1, h2⟩ := h.out
  exact mBytes W h1
/-- Two lists that rise and have the same are one. -/
theorem rises_ext {α : Type} {lt : α → α → Bool} (hirr : ∀ a, lt a a = false) (has : ∀ a b, lt a b = true → lt b a = false) : ∀ {xs ys : List α}, (xs.Pairwise fun x y => lt x y = true) → (ys.Pairwise fun x y => lt x y = true) → (∀ x, x ∈ xs ↔ x ∈ ys) → xs = ys
  | [], [], _, _, _ => rfl
  | [], y :: ys, _, _, h => absurd ((h y).2 (by simp)) (by simp)
  | x :: xs, [], _, _, h => absurd ((h x).1 (by simp)) (by simp)
  | x :: xs, y :: ys, hx, hy, h => by
    have hx' := List.pairwise_cons.1 hx
    have hy' := List.pairwise_cons.1 hy
    have e : x = y := by
      rcases List.mem_cons.1 ((h x).1 (by simp)) with h1 | h1
      · exact h1
      · rcases List.mem_cons.1 ((h y).2 (by simp)) with h2 | h2
        · exact h2.symm
        · have a := hy'.1 x h1
          have b := hx'.1 y h2
          rw [has _ _ a] at b; exact absurd b (by simp)
    subst e
    rw [rises_ext hirr has hx'.2 hy'.2 fun z => ?_]
    constructor
    · intro hz
      rcases List.mem_cons.1 ((h z).1 (List.mem_cons_of_mem _ hz)) with rfl | h1
      · have := hx'.1 z hz; rw [hirr] at this; exact absurd this (by simp)
      · exact h1
    · intro hz
      rcases List.mem_cons.1 ((h z).2 (List.mem_cons_of_mem _ hz)) with rfl | h1
      · have := hy'.1 z hz; rw [hirr] at this; exact absurd this (by simp)
      · exact h1
theorem RangeIs.unique {es : List Et} {f t : ByteArray} {l l' : List Et} (h : RangeIs es f t l) (h' : RangeIs es f t l') : l = l' :=
  rises_ext (lt := fun a b => klt (pl a) (pl b)) (fun a => klt_irrefl _) (fun a b h => klt_asymm h) h.sorted h'.sorted fun x => (h.mem x).trans (h'.mem x).symm
end Go.Proofs.Tryd.Skm
