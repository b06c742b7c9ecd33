/- VI: texts put together: Vx0 Vx1. -/
import Derived.Test.YtkeaalacepjadaaDoorVD
import Derived.Test.YtkeaalacepjadaaDoorVu3
import Derived.Test.YtkeaalacepjadaaDoorVH
import Derived.Test.YtkeaalacepjadaaDoorVG
import Derived.Deep.RegionHeld3
/- All the tables of a version, in a row of their own. -/
set_option linter.unusedVariables false
set_option linter.unusedSimpArgs false
set_option maxRecDepth 100000
namespace Go.Proofs.Tryd.Vr
open Go.RowKit Go.Cph Go.Cph.Skip Go.Cph.So Go.Cph.Ve

set_option maxHeartbeats 4000000 in
theorem tablesN_any (v : Vn) (lv : Nat → List Tb) (w : World) (h : VerAt w v lv) (hn : (tabs lv).length ≤ 1000000) :
    Calls Tryd.prog 25 #[encV v] w (NewRow w (tabs lv)) := by
  have HB := Lib.hid (below_of_alloc (w := w) (boxV v))
  have HC := Lib.hid (concat _ _ _ (four_lists (heap_alloc_new w (boxV v)) (h.kept HB.out)) (by simp) (by rw [tabs_flat]; exact hn))
  rw [tabs_flat] at HC
  clear h
  go_enter Tryd.func25, Tryd.ntmps25
  go_wp2_with (go_at_call 32; refine HC.out.mono ?_; rintro e w2 hr; obtain ⟨v', rfl, ho, hb⟩ := hr)
  go_ret
  exact ⟨_, rfl, owns_mono ho HB.out.size, below_step HB.out hb HB.out.size⟩
end Go.Proofs.Tryd.Vr

/- The laws' count, same, table; the edit that a version tells. -/
set_option linter.unusedVariables false
set_option linter.unusedSimpArgs false
set_option maxRecDepth 100000
namespace Go.Proofs.Tryd.Vr
open Go.RowKit Go.Cph Go.Cph.Skip Go.Cph.So Go.Cph.Ve
open Go.Proofs.Tryd.Sq (row_kept1 grown_below grown_set encU encU_len TU TUs infoU)

theorem count_step {l : List Tb} {s : ByteArray} : ∀ (l : List Tb) (n : Nat), n ≤ l.length → (∀ j (hj : j < l.length), j < n → klt s (tF l[j]) = false) → (∀ h : n < l.length, klt s (tF l[n]) = true) → countL l s = n := by
  intro l
  induction l with
  | nil => intro n hn _ _; have : n = 0 := by simpa using hn
           subst this; rfl
  | cons a l ih =>
    intro n hn h1 h2
    unfold countL
    cases n with
    | zero =>
      have := h2 (by simp)
      rw [List.takeWhile_cons_of_neg (by simpa using this)]
      rfl
    | succ n =>
      have ha := h1 0 (by simp) (by omega)
      rw [List.takeWhile_cons_of_pos (by simpa using ha), List.length_cons]
      have := ih n (by simpa using hn) (fun j hj hjn => h1 (j + 1) (by simpa using hj) (by omega)) fun h => h2 (by simpa using h)
      unfold countL at this
      rw [this]

set_option maxHeartbeats 4000000 in
theorem table14_any (n : UInt64) (l : Int) (f g : ByteArray) (w : World) : Calls Tryd.prog 20 #[.int .u64 (n.toNat : Int), .int .i64 l, .string f, .string g] w fun e w' => e = .returned (encT (n, l, 2, 100, f, g, 1, 9)) ∧ Below w.heap.size w w' := by
  have HB := Lib.hid (below_of_alloc (w := w) (.cells #[.int .u64 (n.toNat : Int), .int .i64 l, .int .i64 2, .int .i64 100, .string f, .string g, .int .u64 1, .int .u64 9] TE (0, 0)))
  have HP := Lib.hid (heap_alloc_new w (.cells #[.int .u64 (n.toNat : Int), .int .i64 l, .int .i64 2, .int .i64 100, .string f, .string g, .int .u64 1, .int .u64 9] TE (0, 0)))
  go_enter Tryd.func20, Tryd.ntmps20
  go_wp2_with fail
  exact bodyPost_ret (v := encT (n, l, 2, 100, f, g, 1, 9)) (results_cell_row Tryd.results20 _ _ w.heap.size TE _ (0, 0) _ rfl HP.out Tryd.underlying56 rfl (by kernel_rfl)) rfl ⟨rfl, HB.out⟩
def SameVPost (v u : Vn) (A B : Nat → List Tb) (Q : Prop) (w : World) (e : Ending) (w' : World) : Prop := ∃ b, e = .returned (.bool b) ∧ (b = true ↔ Q) ∧ Below w.heap.size w w'
def SameV (v u : Vn) (A B : Nat → List Tb) : Prop := (∀ k, k < 4 → A k = B k) ∧ v.log = u.log ∧ v.seq = u.seq ∧ v.nxt = u.nxt
theorem u64_bb (x y : UInt64) : ((x.toNat : Int) == (y.toNat : Int)) = decide (x = y) := by
  rw [Bool.eq_iff_iff, beq_iff_eq, decide_eq_true_eq]
  exact ⟨fun h => UInt64.toNat_inj.1 (by omega), fun h => by rw [h]⟩

abbrev boxEZ : Obj := .cells #[.slice none 0 0, .slice none 0 0, .int .u64 0, .int .u64 0, .int .u64 0] TEd (0, 0)
def EditPost (v : Vn) (A : Nat → List Tb) (w : World) (e : Ending) (w' : World) : Prop := ∃ x : Es, e = .returned (encE x) ∧ EdAt w' x (tabs A, [], v.log, v.seq, v.nxt) ∧ Below w.heap.size w w'
abbrev put5 (w : World) (b : Nat) (u : Es) : World := ((((w.setCell ⟨b, 0, none⟩ u.add).setCell ⟨b, 1, none⟩ u.drop).setCell ⟨b, 2, none⟩ (.int .u64 (u.log.toNat : Int))).setCell ⟨b, 3, none⟩ (.int .u64 (u.seq.toNat : Int))).setCell ⟨b, 4, none⟩ (.int .u64 (u.nxt.toNat : Int))
theorem box_put5 {w : World} {b : Nat} {cs : Array Value} (h : w.heap[b]? = some (.cells cs TEd (0, 0))) (hs : cs.size = 5) (u : Es) : (put5 w b u).heap[b]? = some (boxE u) := by
  rw [blk_set (blk_set (blk_set (blk_set (blk_set h 0 _) 1 _) 2 _) 3 _) 4 _]
  obtain ⟨l⟩ := cs
  match l, hs with
  | [a0, a1, a2, a3, a4], _ => rfl
theorem grown_put5 (w : World) (b : Nat) (u : Es) : w.grownBy (put5 w b u) (some b) :=
  ((((grown_set w b 0 _).trans (grown_set _ b 1 _)).trans (grown_set _ b 2 _)).trans (grown_set _ b 3 _)).trans (grown_set _ b 4 _)
theorem owns_cap1 {w : World} {base : Nat} {e : TypeId} {size : Nat} {ao : Option Addr} {n c : Nat} {xs : List Value} (h : w.ownsRow base e size (.slice ao n c) n xs) : n ≤ c := by
  rcases h.2 with ⟨h1, h2⟩ | ⟨g, cap, cur, h1, _, _, h2, _⟩
  · omega
  · cases h1; exact h2
theorem grown_b1 {B : Nat} {a w w' : World} {row : Option Nat} (h : Below B a w) (hg : w.grownBy w' row) (hB : B ≤ a.heap.size) (hr : ∀ k, row = some k → B ≤ k) : Below B a w' := h.grown hg (Nat.le_trans hB h.size) hr

end Go.Proofs.Tryd.Vr
