/- VI: texts put together: Vx0 Vx1. -/
import Derived.Test.YtkeaalacepjadaaVD
import Derived.Test.YtkeaalacepjadaaVu3
import Derived.Test.YtkeaalacepjadaaVH
import Derived.Test.YtkeaalacepjadaaVG
import Derived.Deep.RegionHeld3
/- All the tables of a version, in a row of their own. -/
set_option linter.unusedVariables false
set_option linter.unusedSimpArgs false
set_option maxRecDepth 100000
namespace Go.Proofs.Try.Vr
open Go.RowKit Go.Cph Go.Cph.Skip Go.Cph.So Go.Cph.Ve

set_option maxHeartbeats 4000000 in
theorem tablesN_any (v : Vn) (lv : Nat → List Tb) (w : World) (h : VerAt w v lv) (hn : (tabs lv).length ≤ 1000000) :
    Calls Try.prog 16 #[encV v] w (NewRow w (tabs lv)) := by
  have HB := Lib.hid (below_of_alloc (w := w) (boxV v))
  have HC := Lib.hid (concat _ _ _ (four_lists (heap_alloc_new w (boxV v)) (h.kept HB.out)) (by simp) (by rw [tabs_flat]; exact hn))
  rw [tabs_flat] at HC
  clear h
  go_enter Try.func16, Try.ntmps16
  go_wp2_with (go_at_call 36; refine HC.out.mono ?_; rintro e w2 hr; obtain ⟨v', rfl, ho, hb⟩ := hr)
  go_ret
  exact ⟨_, rfl, owns_mono ho HB.out.size, below_step HB.out hb HB.out.size⟩
end Go.Proofs.Try.Vr

/- The laws' count, same, table; the edit that a version tells. -/
set_option linter.unusedVariables false
set_option linter.unusedSimpArgs false
set_option maxRecDepth 100000
namespace Go.Proofs.Try.Vr
open Go.RowKit Go.Cph Go.Cph.Skip Go.Cph.So Go.Cph.Ve
open Go.Proofs.Try.Sq (row_kept1 grown_below grown_set encU encU_len TU TUs infoU)

theorem count_step {l : List Tb} {s : ByteArray} : ∀ (l : List Tb) (n : Nat), n ≤ l.length → (∀ j (hj : j < l.length), j < n → klt s (tF l[j]) = false) → (∀ h : n < l.length, klt s (tF l[n]) = true) → countL l s = n := by
  intro l
  induction l with
  | nil => intro n hn _ _; have : n = 0 := by simpa using hn
           subst this; rfl
  | cons a l ih =>
    intro n hn h1 h2
    unfold countL
    cases n with
    | zero =>
      have := h2 (by simp)
      rw [List.takeWhile_cons_of_neg (by simpa using this)]
      rfl
    | succ n =>
      have ha := h1 0 (by simp) (by omega)
      rw [List.takeWhile_cons_of_pos (by simpa using ha), List.length_cons]
      have := ih n (by simpa using hn) (fun j hj hjn => h1 (j + 1) (by simpa using hj) (by omega)) fun h => h2 (by simpa using h)
      unfold countL at this
      rw [this]

set_option maxHeartbeats 4000000 in
theorem count_any (v : Value) (l : List Tb) (s : ByteArray) (w : World) (h : TbsAt w v l) (hn : l.length ≤ 1000000) : Calls Try.prog 24 #[v, .string s] w fun e w' => e = .returned (.int .i64 (countL l s : Nat)) ∧ w = w' := by
  obtain ⟨ao, cap, hv⟩ := elems_slice h
  subst hv
  have HT := Lib.hid h
  have HN := Lib.hid hn
  clear h hn
  go_enter Try.func24, Try.ntmps24
  go_wp2_with fail
  go_loopw [5] (fun vi W => ∃ i : Nat, i ≤ l.length ∧ vi = .int .i64 (i : Int) ∧ Hid (∀ j (hj : j < l.length), j < i → klt s (tF l[j]) = false) ∧ W = w) (fun vi _ => l.length - (intOf vi).toNat)
  case atStart => exact ⟨0, Nat.zero_le _, rfl, Lib.hid (fun j hj h0 => absurd h0 (Nat.not_lt_zero _)), rfl⟩
  case round =>
    obtain ⟨i, hi, rfl, HA, rfl⟩ := hrel
    by_cases hlt : i < l.length
    · obtain ⟨b, off, cap', hve, hcs⟩ := tbs_cells HT.out (by omega)
      injection hve with hx1 hx2 hx3
      subst hx1
      have hcx := hcs i hlt
      have HLT := Lib.hid hlt
      obtain ⟨x, hx⟩ : ∃ x, x = l[i]'(HLT.out) := ⟨_, rfl⟩
      have HXX := Lib.hid hx
      rw [← hx] at hcx
      have d4 := hcx.c4
      have j1 : (0 : Int) ≤ (i : Int) := by omega
      have j2 : (i : Int) < (l.length : Int) := by omega
      have j4 : IntKind.i64.wrap ((i : Int) + 1) = (i : Int) + 1 := by have := HN.out; rw [IntKind.wrap_i64]; omega
      have HST := Lib.hid (klt_three x.2.2.2.2.1 s)
      have HYES := Lib.hid (show klt s (tF x) = true → countL l s = i from fun h => count_step (l := l) (s := s) l i hi HA.out fun h2 => by rw [← HXX.out]; exact h)
      have HNX := Lib.hid (show klt s (tF x) = false → ∀ j (hj : j < l.length), j < i + 1 → klt s (tF l[j]) = false from fun h j hj hji => by
        rcases Nat.lt_or_eq_of_le (show j ≤ i by omega) with h2 | h2
        · exact HA.out j hj h2
        · subst h2; rw [← HXX.out]; exact h)
      dsimp only [tF] at HYES HNX
      clear hx2 hx3 hcs hcx hx
      rcases HST.out with ⟨s1, s2, s3⟩ | ⟨s1, s2, s3⟩ | ⟨s1, s2, s3⟩
      · have HA2 := Lib.hid (HNX.out s2)
        unfold klt at s1 s2
        go_wp2_with fail
        go_roundw
        case rel => exact ⟨i + 1, hlt, by first | rfl | (congr 1), HA2, by first | rfl | trivial⟩
        case measure => simp [intOf]; omega
      · have HA2 := Lib.hid (HNX.out s2)
        unfold klt at s1 s2
        go_wp2_with fail
        go_roundw
        case rel => exact ⟨i + 1, hlt, by first | rfl | (congr 1), HA2, by first | rfl | trivial⟩
        case measure => simp [intOf]; omega
      · have HV := Lib.hid (HYES.out s2)
        unfold klt at s1 s2
        go_wp2_with fail
        go_ret
        exact ⟨ret_int (by rw [HV.out]), rfl⟩
    · have hil : i = l.length := by omega
      subst hil
      have i1 : ¬ (l.length : Int) < (l.length : Int) := by omega
      have HV := Lib.hid (show countL l s = l.length from count_step (l := l) (s := s) l _ (Nat.le_refl _) HA.out fun h => absurd h (by omega))
      go_wp2_with fail
      go_ret
      exact ⟨ret_int (by rw [HV.out]), rfl⟩

set_option maxHeartbeats 4000000 in
theorem table14_any (n : UInt64) (l : Int) (f g : ByteArray) (w : World) : Calls Try.prog 27 #[.int .u64 (n.toNat : Int), .int .i64 l, .string f, .string g] w fun e w' => e = .returned (encT (n, l, 2, 100, f, g, 1, 9)) ∧ Below w.heap.size w w' := by
  have HB := Lib.hid (below_of_alloc (w := w) (.cells #[.int .u64 (n.toNat : Int), .int .i64 l, .int .i64 2, .int .i64 100, .string f, .string g, .int .u64 1, .int .u64 9] TE (0, 0)))
  have HP := Lib.hid (heap_alloc_new w (.cells #[.int .u64 (n.toNat : Int), .int .i64 l, .int .i64 2, .int .i64 100, .string f, .string g, .int .u64 1, .int .u64 9] TE (0, 0)))
  go_enter Try.func27, Try.ntmps27
  go_wp2_with fail
  exact bodyPost_ret (v := encT (n, l, 2, 100, f, g, 1, 9)) (results_cell_row Try.results27 _ _ w.heap.size TE _ (0, 0) _ rfl HP.out Try.underlying44 rfl (by kernel_rfl)) rfl ⟨rfl, HB.out⟩
def SameVPost (v u : Vn) (A B : Nat → List Tb) (Q : Prop) (w : World) (e : Ending) (w' : World) : Prop := ∃ b, e = .returned (.bool b) ∧ (b = true ↔ Q) ∧ Below w.heap.size w w'
def SameV (v u : Vn) (A B : Nat → List Tb) : Prop := (∀ k, k < 4 → A k = B k) ∧ v.log = u.log ∧ v.seq = u.seq ∧ v.nxt = u.nxt
theorem u64_bb (x y : UInt64) : ((x.toNat : Int) == (y.toNat : Int)) = decide (x = y) := by
  rw [Bool.eq_iff_iff, beq_iff_eq, decide_eq_true_eq]
  exact ⟨fun h => UInt64.toNat_inj.1 (by omega), fun h => by rw [h]⟩

set_option maxHeartbeats 8000000 in
theorem sameV_any (v u : Vn) (A B : Nat → List Tb) (w : World) (h : VerAt w v A) (g : VerAt w u B) (hn : ∀ k, k < 4 → (A k).length ≤ 1000000) (hm : ∀ k, k < 4 → (B k).length ≤ 1000000) :
    Calls Try.prog 26 #[encV v, encV u] w (SameVPost v u A B (SameV v u A B) w) := by
  have hb2 := bel2 (w := w) (boxV v) (boxV u)
  have HB0 := Lib.hid hb2
  have HX0 := Lib.hid (show ((w.alloc (boxV v)).alloc (boxV u)).heap[w.heap.size]? = some (boxV v) from blk_alloc (heap_alloc_new _ _) _)
  have HY0 := Lib.hid (alloc2_new w (boxV v) (boxV u))
  have HV := Lib.hid h
  have HU := Lib.hid g
  have HN := Lib.hid hn
  have HM := Lib.hid hm
  clear h g hn hm hb2
  go_enter Try.func26, Try.ntmps26
  go_wp2_with fail
  go_loopw [5] (fun vi W => ∃ i : Nat, i ≤ 4 ∧ vi = .int .i64 (i : Int) ∧ Hid (∀ k, k < i → A k = B k) ∧ Hid (W.heap[w.heap.size]? = some (boxV v)) ∧ Hid (W.heap[w.heap.size + 1]? = some (boxV u)) ∧ Hid (Below w.heap.size w W)) (fun vi _ => 4 - (intOf vi).toNat)
  case atStart => exact ⟨0, by omega, rfl, Lib.hid (fun k hk => absurd hk (Nat.not_lt_zero _)), HX0, HY0, HB0⟩
  case round =>
    obtain ⟨i, hi, rfl, HA, HX, HY, HB⟩ := hrel
    clear HX0 HY0 HB0
    by_cases hlt : i < 4
    · have j1 : (i : Int) < 4 := by omega
      have j0 : (0 : Int) ≤ (i : Int) := by omega
      have j4 : IntKind.i64.wrap ((i : Int) + 1) = (i : Int) + 1 := by rw [IntKind.wrap_i64]; omega
      have HI := Lib.hid hlt
      obtain ⟨x, hx⟩ : ∃ x, x = v.lev i := ⟨_, rfl⟩
      obtain ⟨y, hy⟩ : ∃ x, x = u.lev i := ⟨_, rfl⟩
      have HXA := Lib.hid (show ∀ W, Below wr.heap.size wr W → TbsAt W x (A i) from fun W hb => by rw [hx]; exact ((HV.out.at hlt).kept HB.out).kept hb)
      have HYB := Lib.hid (show ∀ W, Below wr.heap.size wr W → TbsAt W y (B i) from fun W hb => by rw [hy]; exact ((HU.out.at hlt).kept HB.out).kept hb)
      have c1 : wr.cell? ⟨w.heap.size, i, none⟩ = some x := by rw [hx]; exact boxV_lev HX.out hlt
      have c2 : wr.cell? ⟨w.heap.size + 1, i, none⟩ = some y := by rw [hy]; exact boxV_lev HY.out hlt
      obtain ⟨c, hc⟩ : ∃ c, c = decide (A i = B i) := ⟨_, rfl⟩
      have HCC := Lib.hid hc
      clear hx hy hc
      go_upto_region 4 with fail
      go_cut [19] (fun v19 W => v19 = .bool (!c) ∧ Hid (Below wr.heap.size wr W))
      case first =>
        go_region_held3 (fun W => W.cell? ⟨w.heap.size, i, none⟩ = some x ∧ W.cell? ⟨w.heap.size + 1, i, none⟩ = some y)
          (go_keep)
          ((go_at_call 22; refine (tables14_any _ _ (A i) (B i) _ (HXA.out _ (Below.refl _ _).drew) (HYB.out _ (Below.refl _ _).drew) (by have := HN.out i HI.out; omega) (by have := HM.out i HI.out; omega)).mono ?_; rintro e w4 ⟨rfl, hb4⟩; rw [← HCC.out]; have HB4 := Lib.hid (below_step (Below.refl wr.heap.size wr).drew hb4 (Nat.le_refl _)); have p1 := cell_kept HB4.out c1; have p2 := cell_kept HB4.out c2; clear hb4))
        all_goals go_wp2_with fail
        all_goals go_meet
        all_goals exact ⟨by first | rfl | trivial, HB4⟩
      case rest =>
        rename World => w5
        obtain ⟨rfl, HB5⟩ := hcut
        have HB6 := Lib.hid (below_step HB.out HB5.out HB.out.size)
        cases c
        · have HNO := Lib.hid (show ¬ SameV v u A B from fun h => by
            have := h.1 i HI.out
            have h2 := HCC.out
            rw [decide_eq_true this] at h2
            cases h2)
          go_wp2_with fail
          go_ret
          exact ⟨false, rfl, ⟨fun h => (Bool.false_ne_true h).elim, fun h => absurd h HNO.out⟩, HB6.out⟩
        · have HA2 := Lib.hid (show ∀ k, k < i + 1 → A k = B k from fun k hk => by
            rcases Nat.lt_or_eq_of_le (show k ≤ i by omega) with h | h
            · exact HA.out k h
            · subst h
              have := HCC.out
              exact of_decide_eq_true this.symm)
          have HX2 := Lib.hid (blk_kept HB5.out HX.out)
          have HY2 := Lib.hid (blk_kept HB5.out HY.out)
          go_wp2_with fail
          go_roundw
          case rel => exact ⟨i + 1, by omega, by first | rfl | (congr 1), HA2, HX2, HY2, HB6⟩
          case measure => simp [intOf]; omega
    · have hi4 : i = 4 := by omega
      subst hi4
      have j1 : ¬ (4 : Int) < 4 := by omega
      have c4 : wr.cell? ⟨w.heap.size, 4, none⟩ = some (.int .u64 (v.log.toNat : Int)) := (blk_cell HX.out 4).trans rfl
      have e4 : wr.cell? ⟨w.heap.size + 1, 4, none⟩ = some (.int .u64 (u.log.toNat : Int)) := (blk_cell HY.out 4).trans rfl
      have c5 : wr.cell? ⟨w.heap.size, 5, none⟩ = some (.int .u64 (v.seq.toNat : Int)) := (blk_cell HX.out 5).trans rfl
      have e5 : wr.cell? ⟨w.heap.size + 1, 5, none⟩ = some (.int .u64 (u.seq.toNat : Int)) := (blk_cell HY.out 5).trans rfl
      have c6 : wr.cell? ⟨w.heap.size, 6, none⟩ = some (.int .u64 (v.nxt.toNat : Int)) := (blk_cell HX.out 6).trans rfl
      have e6 : wr.cell? ⟨w.heap.size + 1, 6, none⟩ = some (.int .u64 (u.nxt.toNat : Int)) := (blk_cell HY.out 6).trans rfl
      have u1 := u64_bb v.log u.log
      have u2 := u64_bb v.seq u.seq
      have u3 := u64_bb v.nxt u.nxt
      have HLD := Lib.hid (show ∀ k, k < 4 → A k = B k from HA.out)
      by_cases p1 : v.log = u.log
      · rw [decide_eq_true p1] at u1
        by_cases p2 : v.seq = u.seq
        · rw [decide_eq_true p2] at u2
          by_cases p3 : v.nxt = u.nxt
          · rw [decide_eq_true p3] at u3
            have HYES := Lib.hid (show SameV v u A B from ⟨HLD.out, p1, p2, p3⟩)
            clear p1 p2 p3
            go_wp2_with fail
            go_ret
            exact ⟨true, rfl, ⟨fun _ => HYES.out, fun _ => rfl⟩, HB.out⟩
          · rw [decide_eq_false p3] at u3
            have HNO := Lib.hid (show ¬ SameV v u A B from fun h => p3 h.2.2.2)
            clear p1 p2 p3
            go_wp2_with fail
            go_ret
            exact ⟨false, rfl, ⟨fun h => (Bool.false_ne_true h).elim, fun h => absurd h HNO.out⟩, HB.out⟩
        · rw [decide_eq_false p2] at u2
          have HNO := Lib.hid (show ¬ SameV v u A B from fun h => p2 h.2.2.1)
          clear p1 p2 u3
          go_wp2_with fail
          go_ret
          exact ⟨false, rfl, ⟨fun h => (Bool.false_ne_true h).elim, fun h => absurd h HNO.out⟩, HB.out⟩
      · rw [decide_eq_false p1] at u1
        have HNO := Lib.hid (show ¬ SameV v u A B from fun h => p1 h.2.1)
        clear p1 u2 u3
        go_wp2_with fail
        go_ret
        exact ⟨false, rfl, ⟨fun h => (Bool.false_ne_true h).elim, fun h => absurd h HNO.out⟩, HB.out⟩
abbrev boxEZ : Obj := .cells #[.slice none 0 0, .slice none 0 0, .int .u64 0, .int .u64 0, .int .u64 0] TEd (0, 0)
def EditPost (v : Vn) (A : Nat → List Tb) (w : World) (e : Ending) (w' : World) : Prop := ∃ x : Es, e = .returned (encE x) ∧ EdAt w' x (tabs A, [], v.log, v.seq, v.nxt) ∧ Below w.heap.size w w'
abbrev put5 (w : World) (b : Nat) (u : Es) : World := ((((w.setCell ⟨b, 0, none⟩ u.add).setCell ⟨b, 1, none⟩ u.drop).setCell ⟨b, 2, none⟩ (.int .u64 (u.log.toNat : Int))).setCell ⟨b, 3, none⟩ (.int .u64 (u.seq.toNat : Int))).setCell ⟨b, 4, none⟩ (.int .u64 (u.nxt.toNat : Int))
theorem box_put5 {w : World} {b : Nat} {cs : Array Value} (h : w.heap[b]? = some (.cells cs TEd (0, 0))) (hs : cs.size = 5) (u : Es) : (put5 w b u).heap[b]? = some (boxE u) := by
  rw [blk_set (blk_set (blk_set (blk_set (blk_set h 0 _) 1 _) 2 _) 3 _) 4 _]
  obtain ⟨l⟩ := cs
  match l, hs with
  | [a0, a1, a2, a3, a4], _ => rfl
theorem grown_put5 (w : World) (b : Nat) (u : Es) : w.grownBy (put5 w b u) (some b) :=
  ((((grown_set w b 0 _).trans (grown_set _ b 1 _)).trans (grown_set _ b 2 _)).trans (grown_set _ b 3 _)).trans (grown_set _ b 4 _)
theorem owns_cap1 {w : World} {base : Nat} {e : TypeId} {size : Nat} {ao : Option Addr} {n c : Nat} {xs : List Value} (h : w.ownsRow base e size (.slice ao n c) n xs) : n ≤ c := by
  rcases h.2 with ⟨h1, h2⟩ | ⟨g, cap, cur, h1, _, _, h2, _⟩
  · omega
  · cases h1; exact h2
theorem grown_b1 {B : Nat} {a w w' : World} {row : Option Nat} (h : Below B a w) (hg : w.grownBy w' row) (hB : B ≤ a.heap.size) (hr : ∀ k, row = some k → B ≤ k) : Below B a w' := h.grown hg (Nat.le_trans hB h.size) hr

set_option maxHeartbeats 8000000 in
theorem edit_any (v : Vn) (A : Nat → List Tb) (w : World) (h : VerAt w v A) (hn : (tabs A).length ≤ 1000000) : Calls Try.prog 25 #[encV v] w (EditPost v A w) := by
  have hb2 := bel2 (w := w) (boxV v) boxEZ
  have HB2 := Lib.hid hb2
  have hx2 : ((w.alloc (boxV v)).alloc boxEZ).heap[w.heap.size]? = some (boxV v) := blk_alloc (heap_alloc_new _ _) _
  have HX2 := Lib.hid hx2
  have HZ2 := Lib.hid (alloc2_new w (boxV v) boxEZ)
  obtain ⟨w2, hw2⟩ : ∃ W : World, W = (w.alloc (boxV v)).alloc boxEZ := ⟨_, rfl⟩
  have c0 : w2.cell? ⟨w.heap.size, 0, none⟩ = some (v.s0) := by rw [hw2]; exact (blk_cell hx2 0).trans rfl
  have c1 : w2.cell? ⟨w.heap.size, 1, none⟩ = some (v.s1) := by rw [hw2]; exact (blk_cell hx2 1).trans rfl
  have c2 : w2.cell? ⟨w.heap.size, 2, none⟩ = some (v.s2) := by rw [hw2]; exact (blk_cell hx2 2).trans rfl
  have c3 : w2.cell? ⟨w.heap.size, 3, none⟩ = some (v.s3) := by rw [hw2]; exact (blk_cell hx2 3).trans rfl
  have c4 : w2.cell? ⟨w.heap.size, 4, none⟩ = some (.int .u64 (v.log.toNat : Int)) := by rw [hw2]; exact (blk_cell hx2 4).trans rfl
  have c5 : w2.cell? ⟨w.heap.size, 5, none⟩ = some (.int .u64 (v.seq.toNat : Int)) := by rw [hw2]; exact (blk_cell hx2 5).trans rfl
  have c6 : w2.cell? ⟨w.heap.size, 6, none⟩ = some (.int .u64 (v.nxt.toNat : Int)) := by rw [hw2]; exact (blk_cell hx2 6).trans rfl
  have HC := Lib.hid (tablesN_any v A w2.drew (by rw [hw2]; exact (h.kept hb2).kept (Below.refl _ _).drew) hn)
  rw [← hw2] at HB2 HX2 HZ2
  clear h hn hb2 hx2
  go_enter Try.func25, Try.ntmps25
  go_wp2_with fail
  rw [← hw2]
  clear hw2
  go_region_held3 (fun W => W.cell? ⟨w.heap.size, 0, none⟩ = some (v.s0) ∧ W.cell? ⟨w.heap.size, 1, none⟩ = some (v.s1) ∧ W.cell? ⟨w.heap.size, 2, none⟩ = some (v.s2) ∧ W.cell? ⟨w.heap.size, 3, none⟩ = some (v.s3) ∧ W.cell? ⟨w.heap.size, 4, none⟩ = some (.int .u64 (v.log.toNat : Int)) ∧ W.cell? ⟨w.heap.size, 5, none⟩ = some (.int .u64 (v.seq.toNat : Int)) ∧ W.cell? ⟨w.heap.size, 6, none⟩ = some (.int .u64 (v.nxt.toNat : Int)))
    (go_keep)
    ((go_at_call 16; refine HC.out.mono ?_; rintro e w3 ⟨x3, rfl, ho3, hb3⟩; obtain ⟨o3, q3, hv3⟩ := owns_slice1 ho3; subst hv3; have HO3 := Lib.hid ho3; have HB3 := Lib.hid (below_step (Below.refl w2.heap.size w2).drew hb3 (Nat.le_refl _)); have HZ3 := Lib.hid (blk_kept HB3.out HZ2.out); have p0 := cell_kept HB3.out c0; have p1 := cell_kept HB3.out c1; have p2 := cell_kept HB3.out c2; have p3 := cell_kept HB3.out c3; have p4 := cell_kept HB3.out c4; have p5 := cell_kept HB3.out c5; have p6 := cell_kept HB3.out c6; have z0 : w3.cell? ⟨w.heap.size + 1, 0, none⟩ = some (.slice none 0 0) := (blk_cell HZ3.out 0).trans rfl; have z1 : w3.cell? ⟨w.heap.size + 1, 1, none⟩ = some (.slice none 0 0) := (blk_cell HZ3.out 1).trans rfl; have z2 : w3.cell? ⟨w.heap.size + 1, 2, none⟩ = some (.int .u64 0) := (blk_cell HZ3.out 2).trans rfl; have z3 : w3.cell? ⟨w.heap.size + 1, 3, none⟩ = some (.int .u64 0) := (blk_cell HZ3.out 3).trans rfl; have z4 : w3.cell? ⟨w.heap.size + 1, 4, none⟩ = some (.int .u64 0) := (blk_cell HZ3.out 4).trans rfl; have zf : ∀ q, w3.frozen? ⟨w.heap.size + 1, q, none⟩ = false := (fun q => (blk_frozen HZ3.out q).trans (by simp)); clear ho3 hb3))
  have HP := Lib.hid (box_put5 HZ3.out (by rfl) (⟨.slice o3 (tabs A).length q3, .slice none 0 0, v.log, v.seq, v.nxt⟩ : Es))
  have HGP := Lib.hid (grown_put5 w3 (w.heap.size + 1) (⟨.slice o3 (tabs A).length q3, .slice none 0 0, v.log, v.seq, v.nxt⟩ : Es))
  have HB4 := Lib.hid (below_step HB2.out HB3.out HB2.out.size)
  have HLT := Lib.hid (show w.heap.size + 1 < w2.heap.size from blk_lt HZ2.out)
  go_wp2_with fail
  refine bodyPost_ret (v := encE (⟨.slice o3 (tabs A).length q3, .slice none 0 0, v.log, v.seq, v.nxt⟩ : Es)) (results_cell_row Try.results25 _ _ (w.heap.size + 1) TEd _ (0, 0) _ rfl HP.out Try.underlying48 rfl (by kernel_rfl)) rfl ⟨(⟨.slice o3 (tabs A).length q3, .slice none 0 0, v.log, v.seq, v.nxt⟩ : Es), rfl, ⟨Seg.of_owns (row_kept1 HO3.out fun p hp => HGP.out.block p (HO3.out.lt p hp).2 fun e => by
    have h1 := (HO3.out.lt p hp).1
    have h2 : p = w.heap.size + 1 := by injection e
    have h3 : w2.heap.size ≤ p := h1
    have := HLT.out
    omega), Seg.nil _ 1, rfl, fun a n c h => by cases h; exact owns_cap1 HO3.out⟩, grown_b1 HB4.out HGP.out (Nat.le_refl _) fun p hp => by cases hp; omega⟩
end Go.Proofs.Try.Vr
