/- A pivot chosen. -/
import Derived.Test.YtkeaalacepjadaaDoorSq5
import Derived.Sort.LotD4
import Derived.Sort.LotD1
set_option linter.unusedVariables false
set_option linter.unusedSimpArgs false
set_option maxRecDepth 100000
namespace Go.Proofs.Tryd.Sq
open Go.RowKit Go.Cph Go.Sort

abbrev boxS (s : Nat) : Obj := .cells #[.int .i64 (s : Int)] 3 (0, 0)
/-- The row, and how many pairs have changed places. -/
structure RoB (w0 : World) (base g n cap : Nat) (d : Array UInt64) (sb s : Nat) (W : World) : Prop where
  ro : Ro w0 base g n cap d W
  box : W.heap[sb]? = some (boxS s)
  far : w0.heap.size ≤ sb
  ne : sb ≠ g
theorem grown_far {w W : World} {r : Option Nat} (h : w.grownBy W r) {p : Addr} (hp : w.heap.size ≤ p.block) (v : Value) : w.grownBy (W.setCell p v) r :=
  ⟨h.os, h.tape, h.output, by simpa using h.size, fun k hk hne => by rw [blk_set_other (by omega)]; exact h.block k hk hne⟩
theorem RoB.later {w0 W W' : World} {base g n cap sb s : Nat} {d : Array UInt64} (h : RoB w0 base g n cap d sb s W) (hb : Below W.heap.size W W') : RoB w0 base g n cap d sb s W' := ⟨h.ro.later hb, blk_kept hb h.box, h.far, h.ne⟩
theorem RoB.put {w0 W : World} {base g n cap sb s : Nat} {d : Array UInt64} (h : RoB w0 base g n cap d sb s W) (k : Nat) : RoB w0 base g n cap d sb k (W.setCell ⟨sb, 0, none⟩ (.int .i64 (k : Int))) :=
  ⟨⟨row_kept1 h.ro.own (fun q hq => by cases hq; exact blk_set_other (Ne.symm h.ne)), grown_far h.ro.grown h.far _, h.ro.len⟩, by rw [blk_set h.box 0]; rfl, h.far, h.ne⟩
def TwoPost (w0 : World) (base g n cap : Nat) (d : Array UInt64) (sb : Nat) (r : Nat × Nat × Nat) (e : Ending) (w' : World) : Prop := e = .returned (.tuple #[.int .i64 (r.1 : Int), .int .i64 (r.2.1 : Int)]) ∧ RoB w0 base g n cap d sb r.2.2 w'
def OnePost (w0 : World) (base g n cap : Nat) (d : Array UInt64) (sb : Nat) (r : Nat × Nat) (e : Ending) (w' : World) : Prop := e = .returned (.int .i64 (r.1 : Int)) ∧ RoB w0 base g n cap d sb r.2 w'
theorem ret_two {x y z u : Int} (h1 : x = y) (h2 : z = u) : Ending.returned (.tuple #[.int .i64 x, .int .i64 z]) = .returned (.tuple #[.int .i64 y, .int .i64 u]) := by rw [h1, h2]

set_option maxHeartbeats 8000000 in
theorem order2_any {base g n cap : Nat} (a b sb s : Nat) (d : Array UInt64) (w0 w : World) (h : RoB w0 base g n cap d sb s w) (ha : a < n) (hb : b < n) (hs : s ≤ 100) (hn : n ≤ 1000000) :
    Calls Tryd.prog 85 #[.slice (some ⟨g, 0, none⟩) n cap, .int .i64 a, .int .i64 b, .pointer (some ⟨sb, 0, none⟩)] w (TwoPost w0 base g n cap d sb (order2 ltU d a b s)) := by
  have HR := Lib.hid h.ro
  have HB := Lib.hid h
  clear h
  go_enter Tryd.func85, Tryd.ntmps85
  obtain ⟨xq, hxq⟩ : ∃ x, x = d[b]! := ⟨_, rfl⟩
  obtain ⟨yq, hyq⟩ : ∃ y, y = d[a]! := ⟨_, rfl⟩
  have cz1 : ∀ zz : Later w.heap.size w, zz.val.cell? ⟨g, b, none⟩ = some (.int .u64 (xq.toNat : Int)) := fun zz => cell_kept zz.prop (by rw [hxq]; exact HR.out.cell (hb))
  have cz2 : ∀ zz : Later w.heap.size w, zz.val.cell? ⟨g, a, none⟩ = some (.int .u64 (yq.toNat : Int)) := fun zz => cell_kept zz.prop (by rw [hyq]; exact HR.out.cell (ha))
  have HLq := Lib.hid (fun W => less_any xq yq W)
  obtain ⟨q, hq⟩ : ∃ b, b = ltU xq yq := ⟨_, rfl⟩
  rw [← hq] at HLq
  rw [hxq, hyq] at hq
  have Hq := Lib.hid hq
  have pz1 : (b : Int) < (n : Int) := by have := hb; omega
  have pz2 : (a : Int) < (n : Int) := by have := ha; omega
  have pz3 : (0 : Int) ≤ (b : Int) := by omega
  have pz4 : (0 : Int) ≤ (a : Int) := by omega
  clear hxq hyq hq
  go_wp2_with fail
  refine wp_region_later w.heap.size (by kernel_rfl) (by kernel_rfl) ?_
  repeat (go_big_quiet_step ((go_at_call 72; exact Later.calls (Nat.le_refl _) (HLq.out _))))
  refine wpQuiet_nil ?_
  rintro w2 ⟨zz, rfl⟩
  have HR2 := Lib.hid (HR.out.later zz.prop)
  have HB2 := Lib.hid (HB.out.later zz.prop)
  clear cz1 cz2 pz1 pz2 pz3 pz4 HLq
  generalize zz.val = w2 at *
  cases q
  · have HE := Lib.hid (show order2 ltU d a b s = (a, b, s) from by unfold order2; rw [if_neg (by rw [← Hq.out]; simp)])
    go_wp2_with fail
    go_ret2
    exact ⟨ret_two (by rw [HE.out]) (by rw [HE.out]), by rw [HE.out]; exact HB2.out⟩
  · have HE := Lib.hid (show order2 ltU d a b s = (b, a, s + 1) from by unfold order2; rw [if_pos (by rw [← Hq.out])])
    have c1 : w2.cell? ⟨sb, 0, none⟩ = some (.int .i64 (s : Int)) := by rw [blk_cell HB2.out.box]; rfl
    have c2 : w2.frozen? ⟨sb, 0, none⟩ = false := by rw [blk_frozen HB2.out.box]; rfl
    have e1 : IntKind.i64.wrap ((s : Int) + 1) = ((s + 1 : Nat) : Int) := by rw [IntKind.wrap_i64]; omega
    have HB3 := Lib.hid (HB2.out.put (s + 1))
    go_wp2_with fail
    go_ret2
    exact ⟨ret_two (by rw [HE.out]) (by rw [HE.out]), by rw [HE.out]; exact HB3.out⟩
theorem order2_lt {d : Array UInt64} {a b s n : Nat} (ha : a < n) (hb : b < n) : (order2 ltU d a b s).1 < n ∧ (order2 ltU d a b s).2.1 < n ∧ (order2 ltU d a b s).2.2 ≤ s + 1 := by
  unfold order2
  split
  · exact ⟨hb, ha, Nat.le_refl _⟩
  · exact ⟨ha, hb, Nat.le_succ _⟩

set_option maxHeartbeats 8000000 in
theorem median_any {base g n cap : Nat} (a b c sb s : Nat) (d : Array UInt64) (w0 w : World) (h : RoB w0 base g n cap d sb s w) (ha : a < n) (hb : b < n) (hc : c < n) (hs : s ≤ 50) (hn : n ≤ 1000000) :
    Calls Tryd.prog 83 #[.slice (some ⟨g, 0, none⟩) n cap, .int .i64 a, .int .i64 b, .int .i64 c, .pointer (some ⟨sb, 0, none⟩)] w (OnePost w0 base g n cap d sb (median ltU d a b c s)) := by
  obtain ⟨⟨a1, b1, s1⟩, h1⟩ : ∃ r, r = order2 ltU d a b s := ⟨_, rfl⟩
  have k1 := order2_lt (d := d) (s := s) ha hb
  rw [← h1] at k1
  obtain ⟨⟨b2, c2, s2⟩, h2⟩ : ∃ r, r = order2 ltU d b1 c s1 := ⟨_, rfl⟩
  have k2 := order2_lt (d := d) (s := s1) k1.2.1 hc
  rw [← h2] at k2
  obtain ⟨⟨a3, b3, s3⟩, h3⟩ : ∃ r, r = order2 ltU d a1 b2 s2 := ⟨_, rfl⟩
  have k3 := order2_lt (d := d) (s := s2) k1.1 k2.1
  rw [← h3] at k3
  have HE := Lib.hid (show median ltU d a b c s = (b3, s3) from by
    unfold median
    simp only
    rw [← h1]
    simp only
    rw [← h2]
    simp only
    rw [← h3])
  obtain ⟨k11, k12, k13⟩ := k1
  obtain ⟨k21, k22, k23⟩ := k2
  obtain ⟨k31, k32, k33⟩ := k3
  dsimp only at k11 k12 k13 k21 k22 k23 k31 k32 k33
  have H1 := Lib.hid (fun W hr => order2_any (base := base) (g := g) (n := n) (cap := cap) a b sb s d w0 W hr ha hb (by omega) hn)
  have H2 := Lib.hid (fun W hr => order2_any (base := base) (g := g) (n := n) (cap := cap) b1 c sb s1 d w0 W hr k12 hc (by omega) hn)
  have H3 := Lib.hid (fun W hr => order2_any (base := base) (g := g) (n := n) (cap := cap) a1 b2 sb s2 d w0 W hr k11 k21 (by omega) hn)
  rw [← h1] at H1
  rw [← h2] at H2
  rw [← h3] at H3
  have HB := Lib.hid h
  clear h h1 h2 h3 k11 k12 k13 k21 k22 k23 k31 k32 k33
  go_enter Tryd.func83, Tryd.ntmps83
  go_wp2_with fail
  refine (H1.out _ HB.out).mono ?_
  rintro e w1 ⟨rfl, hr⟩
  have HB1 := Lib.hid hr
  clear hr
  go_wp2_with fail
  refine (H2.out _ HB1.out).mono ?_
  rintro e w2 ⟨rfl, hr⟩
  have HB2 := Lib.hid hr
  clear hr
  go_wp2_with fail
  refine (H3.out _ HB2.out).mono ?_
  rintro e w3 ⟨rfl, hr⟩
  have HB3 := Lib.hid hr
  clear hr
  go_wp2_with fail
  go_ret
  exact ⟨ret_int (by rw [HE.out]), by rw [HE.out]; exact HB3.out⟩
theorem median_lt {d : Array UInt64} {a b c s n : Nat} (ha : a < n) (hb : b < n) (hc : c < n) : (median ltU d a b c s).1 < n ∧ (median ltU d a b c s).2 ≤ s + 3 := by
  refine ⟨?_, median_count ltU d a b c s⟩
  rcases median_mem ltU d a b c s with h | h | h <;> rw [h] <;> assumption

set_option maxHeartbeats 8000000 in
theorem adjacent_any {base g n cap : Nat} (a sb s : Nat) (d : Array UInt64) (w0 w : World) (h : RoB w0 base g n cap d sb s w) (h0 : 1 ≤ a) (ha : a + 1 < n) (hs : s ≤ 50) (hn : n ≤ 1000000) :
    Calls Tryd.prog 82 #[.slice (some ⟨g, 0, none⟩) n cap, .int .i64 a, .pointer (some ⟨sb, 0, none⟩)] w (OnePost w0 base g n cap d sb (medianAdjacent ltU d a s)) := by
  obtain ⟨p, hp⟩ : ∃ p, p = a - 1 := ⟨_, rfl⟩
  obtain ⟨q, hq⟩ : ∃ q, q = a + 1 := ⟨_, rfl⟩
  have e1 : IntKind.i64.wrap ((a : Int) - 1) = (p : Int) := by rw [IntKind.wrap_i64]; omega
  have e2 : IntKind.i64.wrap ((a : Int) + 1) = (q : Int) := by rw [IntKind.wrap_i64]; omega
  have e3 : (a : Int) - 1 = (p : Int) := by omega
  have e4 : (a : Int) + 1 = (q : Int) := by omega
  have H1 := Lib.hid (median_any (base := base) (g := g) (n := n) (cap := cap) p a q sb s d w0 w h (by omega) (by omega) (by omega) hs hn)
  have HE := Lib.hid (show medianAdjacent ltU d a s = median ltU d p a q s from by rw [hp, hq]; rfl)
  clear h hp hq
  go_enter Tryd.func82, Tryd.ntmps82
  go_wp2_with fail
  refine H1.out.mono ?_
  rintro e w3 ⟨rfl, hr⟩
  have HB3 := Lib.hid hr
  clear hr
  go_wp2_with fail
  go_ret
  exact ⟨ret_int (by rw [HE.out]), by rw [HE.out]; exact HB3.out⟩
def hintI : Hint → Int
  | .unknown => 0
  | .increasing => 1
  | .decreasing => 2
def PivPost (w0 : World) (base g n cap : Nat) (d : Array UInt64) (r : Nat × Hint) (e : Ending) (w' : World) : Prop := e = .returned (.tuple #[.int .i64 (r.1 : Int), .int .i64 (hintI r.2)]) ∧ Ro w0 base g n cap d w'

set_option maxHeartbeats 8000000 in
theorem pivot_any {base g n cap : Nat} (a b : Nat) (d : Array UInt64) (w0 w : World) (h : Ro w0 base g n cap d w) (hab : a + 12 < b) (hb : b ≤ n) (hn : n ≤ 1000000) :
    Calls Tryd.prog 69 #[.slice (some ⟨g, 0, none⟩) n cap, .int .i64 a, .int .i64 b] w (PivPost w0 base g n cap d (choosePivot ltU d a b)) := by
  obtain ⟨l, hl⟩ : ∃ l, l = b - a := ⟨_, rfl⟩
  obtain ⟨q, hq⟩ : ∃ q, q = l / 4 := ⟨_, rfl⟩
  obtain ⟨i0, hi0⟩ : ∃ q, q = a + l / 4 * 1 := ⟨_, rfl⟩
  obtain ⟨j0, hj0⟩ : ∃ q, q = a + l / 4 * 2 := ⟨_, rfl⟩
  obtain ⟨k0, hk0⟩ : ∃ q, q = a + l / 4 * 3 := ⟨_, rfl⟩
  have l1 : IntKind.i64.wrap ((b : Int) - (a : Int)) = (l : Int) := by rw [IntKind.wrap_i64]; omega
  have l1' : (b : Int) - (a : Int) = (l : Int) := by omega
  have l2 : (l : Int) / 4 = (q : Int) := by omega
  have l3 : Int.tdiv (l : Int) 4 = (q : Int) := by rw [Int.tdiv_eq_ediv_of_nonneg (by omega)]; omega
  have m1 : IntKind.i64.wrap ((a : Int) + (q : Int)) = (i0 : Int) := by rw [IntKind.wrap_i64]; omega
  have m1' : (a : Int) + (q : Int) = (i0 : Int) := by omega
  have m2 : IntKind.i64.wrap ((a : Int) + (q : Int) * 2) = (j0 : Int) := by rw [IntKind.wrap_i64]; omega
  have m2' : (a : Int) + (q : Int) * 2 = (j0 : Int) := by omega
  have m3 : IntKind.i64.wrap ((a : Int) + (q : Int) * 3) = (k0 : Int) := by rw [IntKind.wrap_i64]; omega
  have m3' : (a : Int) + (q : Int) * 3 = (k0 : Int) := by omega
  have n1 : IntKind.i64.wrap ((q : Int) * 2) = (q : Int) * 2 := by rw [IntKind.wrap_i64]; omega
  have n2 : IntKind.i64.wrap ((q : Int) * 3) = (q : Int) * 3 := by rw [IntKind.wrap_i64]; omega
  have n3 : (l : Int) ≥ 8 := by omega
  have hin : i0 + 1 < n := by omega
  have hjn : j0 + 1 < n := by omega
  have hkn : k0 + 1 < n := by omega
  have hi1 : 1 ≤ i0 := by omega
  have hj1 : 1 ≤ j0 := by omega
  have hk1 : 1 ≤ k0 := by omega
  have HB0 := Lib.hid (show RoB w0 base g n cap d w.heap.size 0 (w.alloc (boxS 0)) from ⟨h.later ((Below.refl _ _).alloc (Nat.le_refl _) _), heap_alloc_new _ _, h.grown.size, by have := (h.own.lt g rfl).2; omega⟩)
  obtain ⟨r, hr⟩ : ∃ r : Nat × Nat, r = if l ≥ 50 then median ltU d (medianAdjacent ltU d i0 0).1 (medianAdjacent ltU d j0 (medianAdjacent ltU d i0 0).2).1 (medianAdjacent ltU d k0 (medianAdjacent ltU d j0 (medianAdjacent ltU d i0 0).2).2).1 (medianAdjacent ltU d k0 (medianAdjacent ltU d j0 (medianAdjacent ltU d i0 0).2).2).2 else median ltU d i0 j0 k0 0 := ⟨_, rfl⟩
  have HE := Lib.hid (show choosePivot ltU d a b = (r.1, if r.2 = 0 then .increasing else if r.2 = 12 then .decreasing else .unknown) from by
    rw [hr]
    unfold choosePivot
    simp only
    rw [← hl, ← hi0, ← hj0, ← hk0, if_pos (by omega)])
  have HR := Lib.hid hr
  clear hr h hl hi0 hj0 hk0 hq
  go_enter Tryd.func69, Tryd.ntmps69
  by_cases h50 : l ≥ 50
  · have x1 : (l : Int) ≥ 50 := by omega
    obtain ⟨⟨ai, si⟩, e1⟩ : ∃ x, x = medianAdjacent ltU d i0 0 := ⟨_, rfl⟩
    have k1 : ai < n ∧ si ≤ 3 := by have := median_lt (d := d) (a := i0 - 1) (b := i0) (c := i0 + 1) (s := 0) (n := n) (by omega) (by omega) (by omega); rw [show median ltU d (i0 - 1) i0 (i0 + 1) 0 = (ai, si) from e1.symm] at this; exact this
    obtain ⟨⟨aj, sj⟩, e2⟩ : ∃ x, x = medianAdjacent ltU d j0 si := ⟨_, rfl⟩
    have k2 : aj < n ∧ sj ≤ si + 3 := by have := median_lt (d := d) (a := j0 - 1) (b := j0) (c := j0 + 1) (s := si) (n := n) (by omega) (by omega) (by omega); rw [show median ltU d (j0 - 1) j0 (j0 + 1) si = (aj, sj) from e2.symm] at this; exact this
    obtain ⟨⟨ak, sk⟩, e3⟩ : ∃ x, x = medianAdjacent ltU d k0 sj := ⟨_, rfl⟩
    have k3 : ak < n ∧ sk ≤ sj + 3 := by have := median_lt (d := d) (a := k0 - 1) (b := k0) (c := k0 + 1) (s := sj) (n := n) (by omega) (by omega) (by omega); rw [show median ltU d (k0 - 1) k0 (k0 + 1) sj = (ak, sk) from e3.symm] at this; exact this
    obtain ⟨⟨jr, sr⟩, e4⟩ : ∃ x, x = median ltU d ai aj ak sk := ⟨_, rfl⟩
    have k4 : jr < n ∧ sr ≤ sk + 3 := by have := median_lt (d := d) (a := ai) (b := aj) (c := ak) (s := sk) (n := n) k1.1 k2.1 k3.1; rw [← e4] at this; exact this
    have HZ := Lib.hid (show r = (jr, sr) from by rw [HR.out, if_pos h50, ← e1]; simp only; rw [← e2]; simp only; rw [← e3]; simp only; rw [← e4])
    have H1 := Lib.hid (fun W hr => adjacent_any (base := base) (g := g) (n := n) (cap := cap) i0 w.heap.size 0 d w0 W hr hi1 hin (by omega) hn)
    have H2 := Lib.hid (fun W hr => adjacent_any (base := base) (g := g) (n := n) (cap := cap) j0 w.heap.size si d w0 W hr hj1 hjn (by omega) hn)
    have H3 := Lib.hid (fun W hr => adjacent_any (base := base) (g := g) (n := n) (cap := cap) k0 w.heap.size sj d w0 W hr hk1 hkn (by omega) hn)
    have H4 := Lib.hid (fun W hr => median_any (base := base) (g := g) (n := n) (cap := cap) ai aj ak w.heap.size sk d w0 W hr k1.1 k2.1 k3.1 (by omega) hn)
    rw [← e1] at H1
    rw [← e2] at H2
    rw [← e3] at H3
    rw [← e4] at H4
    have hsr : sr ≤ 12 := by omega
    clear e1 e2 e3 e4 k1 k2 k3 k4 h50
    go_wp2_with fail
    refine (H1.out _ HB0.out).mono ?_
    rintro e w1 ⟨rfl, hr⟩
    have HB1 := Lib.hid hr
    clear hr
    go_wp2_with fail
    refine (H2.out _ HB1.out).mono ?_
    rintro e w2 ⟨rfl, hr⟩
    have HB2 := Lib.hid hr
    clear hr
    go_wp2_with fail
    refine (H3.out _ HB2.out).mono ?_
    rintro e w3 ⟨rfl, hr⟩
    have HB3 := Lib.hid hr
    clear hr
    go_wp2_with fail
    refine (H4.out _ HB3.out).mono ?_
    rintro e w4 ⟨rfl, hr⟩
    have HB4 := Lib.hid hr
    clear hr
    have c1 : w4.cell? ⟨w.heap.size, 0, none⟩ = some (.int .i64 (sr : Int)) := by rw [blk_cell HB4.out.box]; rfl
    have HX := Lib.hid (show choosePivot ltU d a b = (jr, if sr = 0 then .increasing else if sr = 12 then .decreasing else .unknown) from by rw [HE.out, HZ.out])
    by_cases s0 : sr = 0
    · have z1 : ((sr : Int) == 0) = true := by simp [s0]
      have HY := Lib.hid (HX.out.trans (by rw [if_pos s0] : _ = (jr, Hint.increasing)))
      clear s0
      go_wp2_with fail
      go_ret2
      exact ⟨ret_two (by rw [HY.out]) (by rw [HY.out]; rfl), HB4.out.ro⟩
    · have z1 : ((sr : Int) == 0) = false := by simp; omega
      by_cases s12 : sr = 12
      · have z2 : ((sr : Int) == 12) = true := by simp [s12]
        have HY := Lib.hid (HX.out.trans (by rw [if_neg s0, if_pos s12] : _ = (jr, Hint.decreasing)))
        clear s12
        clear s0
        go_wp2_with fail
        go_ret2
        exact ⟨ret_two (by rw [HY.out]) (by rw [HY.out]; rfl), HB4.out.ro⟩
      · have z2 : ((sr : Int) == 12) = false := by simp; omega
        have HY := Lib.hid (HX.out.trans (by rw [if_neg s0, if_neg s12] : _ = (jr, Hint.unknown)))
        clear s12
        clear s0
        go_wp2_with fail
        go_ret2
        exact ⟨ret_two (by rw [HY.out]) (by rw [HY.out]; rfl), HB4.out.ro⟩
  · have x1 : ¬ (l : Int) ≥ 50 := by omega
    obtain ⟨⟨jr, sr⟩, e4⟩ : ∃ x, x = median ltU d i0 j0 k0 0 := ⟨_, rfl⟩
    have k4 : jr < n ∧ sr ≤ 0 + 3 := by have := median_lt (d := d) (a := i0) (b := j0) (c := k0) (s := 0) (n := n) (by omega) (by omega) (by omega); rw [← e4] at this; exact this
    have HZ := Lib.hid (show r = (jr, sr) from by rw [HR.out, if_neg h50, ← e4])
    have H4 := Lib.hid (fun W hr => median_any (base := base) (g := g) (n := n) (cap := cap) i0 j0 k0 w.heap.size 0 d w0 W hr (by omega) (by omega) (by omega) (by omega) hn)
    rw [← e4] at H4
    have hsr : sr ≤ 12 := by omega
    clear e4 k4 h50
    go_wp2_with fail
    refine (H4.out _ HB0.out).mono ?_
    rintro e w4 ⟨rfl, hr⟩
    have HB4 := Lib.hid hr
    clear hr
    have c1 : w4.cell? ⟨w.heap.size, 0, none⟩ = some (.int .i64 (sr : Int)) := by rw [blk_cell HB4.out.box]; rfl
    have HX := Lib.hid (show choosePivot ltU d a b = (jr, if sr = 0 then .increasing else if sr = 12 then .decreasing else .unknown) from by rw [HE.out, HZ.out])
    by_cases s0 : sr = 0
    · have z1 : ((sr : Int) == 0) = true := by simp [s0]
      have HY := Lib.hid (HX.out.trans (by rw [if_pos s0] : _ = (jr, Hint.increasing)))
      clear s0
      go_wp2_with fail
      go_ret2
      exact ⟨ret_two (by rw [HY.out]) (by rw [HY.out]; rfl), HB4.out.ro⟩
    · have z1 : ((sr : Int) == 0) = false := by simp; omega
      by_cases s12 : sr = 12
      · have z2 : ((sr : Int) == 12) = true := by simp [s12]
        have HY := Lib.hid (HX.out.trans (by rw [if_neg s0, if_pos s12] : _ = (jr, Hint.decreasing)))
        clear s12
        clear s0
        go_wp2_with fail
        go_ret2
        exact ⟨ret_two (by rw [HY.out]) (by rw [HY.out]; rfl), HB4.out.ro⟩
      · have z2 : ((sr : Int) == 12) = false := by simp; omega
        have HY := Lib.hid (HX.out.trans (by rw [if_neg s0, if_neg s12] : _ = (jr, Hint.unknown)))
        clear s12
        clear s0
        go_wp2_with fail
        go_ret2
        exact ⟨ret_two (by rw [HY.out]) (by rw [HY.out]; rfl), HB4.out.ro⟩
end Go.Proofs.Tryd.Sq
