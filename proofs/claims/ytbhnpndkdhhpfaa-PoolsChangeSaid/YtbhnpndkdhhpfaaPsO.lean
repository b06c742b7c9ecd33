/- The innermost prefix of an address, the one that has a prefix; children. -/
import Derived.Test.YtbhnpndkdhhpfaaPsN
import Derived.Laws.EntriesVeiled
set_option linter.unusedVariables false
set_option linter.unusedSimpArgs false
namespace Go.Proofs.Try.Pfx
open Go.RowKit Go.Cph Go.Cph.Px

set_option maxRecDepth 100000 in
set_option maxHeartbeats 2000000 in
theorem innermost (v : Value) (l : List Pf) (a : Ad) (w : World) (h : PfsAt w v l) (hn : l.length ≤ 1000000) :
    Calls Try.prog 12 #[v, encA a] w (MostPost (fun p => hasP p a) l w) := by
  have hbx : Below w.heap.size w ((w.alloc (.cells #[.int .u8 (a.1.toNat : Int), .int .u64 (a.2.1.toNat : Int), .int .u64 (a.2.2.toNat : Int)] 25)).alloc (.cells #[.int .u8 0, .int .u64 0, .int .u64 0, .int .i64 0] 27)) := ((Below.refl _ _).alloc (Nat.le_refl _) _).alloc (by simp) _
  have HBX := Lib.hid hbx
  have HV := Lib.hid (h.kept hbx)
  have HG1 := Lib.hid (blk_alloc (heap_alloc_new w (.cells #[.int .u8 (a.1.toNat : Int), .int .u64 (a.2.1.toNat : Int), .int .u64 (a.2.2.toNat : Int)] 25)) (.cells #[.int .u8 0, .int .u64 0, .int .u64 0, .int .i64 0] 27))
  have hg2 := heap_alloc_new (w.alloc (.cells #[.int .u8 (a.1.toNat : Int), .int .u64 (a.2.1.toNat : Int), .int .u64 (a.2.2.toNat : Int)] 25)) (.cells #[.int .u8 0, .int .u64 0, .int .u64 0, .int .i64 0] 27)
  rw [World.size_alloc] at hg2
  have HG2 := Lib.hid hg2
  clear h hbx hg2
  obtain ⟨m, hm⟩ : ∃ m, m = mostL (fun p => hasP p a) l := ⟨_, rfl⟩
  have HM := Lib.hid hm
  clear hm
  go_enter Try.func12, Try.ntmps12
  go_wp2_with fail
  generalize (w.alloc (.cells #[.int .u8 (a.1.toNat : Int), .int .u64 (a.2.1.toNat : Int), .int .u64 (a.2.2.toNat : Int)] 25)).alloc (.cells #[.int .u8 0, .int .u64 0, .int .u64 0, .int .i64 0] 27) = w0 at *
  refine (mostHas v l a w.heap.size _ HV.out hn HG1.out).mono ?_
  rintro e w1 ⟨rfl, hb⟩
  rw [← HM.out]
  have HB := Lib.hid (below_step HBX.out hb HBX.out.size)
  have hk := blk_kept hb HG2.out
  have HK := Lib.hid (blk_set (blk_set (blk_set (blk_set hk 0 (.int .u8 ((m.getD zeroP).1.1.toNat : Int))) 1 (.int .u64 ((m.getD zeroP).1.2.1.toNat : Int))) 2 (.int .u64 ((m.getD zeroP).1.2.2.toNat : Int))) 3 (.int .i64 (m.getD zeroP).2))
  have hz := boxP (p := zeroP) hk
  have d0 := hz.c0
  have d1 := hz.c1
  have d2 := hz.c2
  have d3 := hz.c3
  have hfr : ∀ j, w1.frozen? ⟨w.heap.size + 1, j, none⟩ = false := fun j => by rw [blk_frozen hk]; simp
  have HB2 := Lib.hid ((((HB.out.setCell (p := ⟨w.heap.size + 1, 0, none⟩) (by simp) (.int .u8 ((m.getD zeroP).1.1.toNat : Int))).setCell (p := ⟨w.heap.size + 1, 1, none⟩) (by simp) (.int .u64 ((m.getD zeroP).1.2.1.toNat : Int))).setCell (p := ⟨w.heap.size + 1, 2, none⟩) (by simp) (.int .u64 ((m.getD zeroP).1.2.2.toNat : Int))).setCell (p := ⟨w.heap.size + 1, 3, none⟩) (by simp) (.int .i64 (m.getD zeroP).2))
  clear hb hk hz
  go_wp2_with fail
  clear d0 d1 d2 d3 hfr
  generalize (((w1.setCell ⟨w.heap.size + 1, 0, none⟩ (.int .u8 ((m.getD zeroP).1.1.toNat : Int))).setCell ⟨w.heap.size + 1, 1, none⟩ (.int .u64 ((m.getD zeroP).1.2.1.toNat : Int))).setCell ⟨w.heap.size + 1, 2, none⟩ (.int .u64 ((m.getD zeroP).1.2.2.toNat : Int))).setCell ⟨w.heap.size + 1, 3, none⟩ (.int .i64 (m.getD zeroP).2) = w4 at *
  have hx4 := boxP (p := m.getD zeroP) HK.out
  have c0 := hx4.c0
  have c1 := hx4.c1
  have c2 := hx4.c2
  have c3 := hx4.c3
  exact bodyPost_ret (v := .tuple #[encP (m.getD zeroP), .bool m.isSome]) (by simp [results, Try.results12, go_sem, c0, c1, c2, c3]) rfl ⟨by rw [HM.out], HB2.out⟩

set_option maxRecDepth 100000 in
set_option maxHeartbeats 2000000 in
theorem whole (v : Value) (l : List Pf) (p : Pf) (w : World) (h : PfsAt w v l) (hn : l.length ≤ 1000000) :
    Calls Try.prog 15 #[v, encP p] w (MostPost (fun q => within p q) l w) := by
  have hbx : Below w.heap.size w ((w.alloc (.cells #[.int .u8 (p.1.1.toNat : Int), .int .u64 (p.1.2.1.toNat : Int), .int .u64 (p.1.2.2.toNat : Int), .int .i64 p.2] 27)).alloc (.cells #[.int .u8 0, .int .u64 0, .int .u64 0, .int .i64 0] 27)) := ((Below.refl _ _).alloc (Nat.le_refl _) _).alloc (by simp) _
  have HBX := Lib.hid hbx
  have HV := Lib.hid (h.kept hbx)
  have HG1 := Lib.hid (blk_alloc (heap_alloc_new w (.cells #[.int .u8 (p.1.1.toNat : Int), .int .u64 (p.1.2.1.toNat : Int), .int .u64 (p.1.2.2.toNat : Int), .int .i64 p.2] 27)) (.cells #[.int .u8 0, .int .u64 0, .int .u64 0, .int .i64 0] 27))
  have hg2 := heap_alloc_new (w.alloc (.cells #[.int .u8 (p.1.1.toNat : Int), .int .u64 (p.1.2.1.toNat : Int), .int .u64 (p.1.2.2.toNat : Int), .int .i64 p.2] 27)) (.cells #[.int .u8 0, .int .u64 0, .int .u64 0, .int .i64 0] 27)
  rw [World.size_alloc] at hg2
  have HG2 := Lib.hid hg2
  clear h hbx hg2
  obtain ⟨m, hm⟩ : ∃ m, m = mostL (fun q => within p q) l := ⟨_, rfl⟩
  have HM := Lib.hid hm
  clear hm
  go_enter Try.func15, Try.ntmps15
  go_wp2_with fail
  generalize (w.alloc (.cells #[.int .u8 (p.1.1.toNat : Int), .int .u64 (p.1.2.1.toNat : Int), .int .u64 (p.1.2.2.toNat : Int), .int .i64 p.2] 27)).alloc (.cells #[.int .u8 0, .int .u64 0, .int .u64 0, .int .i64 0] 27) = w0 at *
  refine (mostIn v l p _ HV.out hn).mono ?_
  rintro e w1 ⟨rfl, hb⟩
  rw [← HM.out]
  have HB := Lib.hid (below_step HBX.out hb HBX.out.size)
  have hk := blk_kept hb HG2.out
  have HK := Lib.hid (blk_set (blk_set (blk_set (blk_set hk 0 (.int .u8 ((m.getD zeroP).1.1.toNat : Int))) 1 (.int .u64 ((m.getD zeroP).1.2.1.toNat : Int))) 2 (.int .u64 ((m.getD zeroP).1.2.2.toNat : Int))) 3 (.int .i64 (m.getD zeroP).2))
  have hz := boxP (p := zeroP) hk
  have d0 := hz.c0
  have d1 := hz.c1
  have d2 := hz.c2
  have d3 := hz.c3
  have hfr : ∀ j, w1.frozen? ⟨w.heap.size + 1, j, none⟩ = false := fun j => by rw [blk_frozen hk]; simp
  have HB2 := Lib.hid ((((HB.out.setCell (p := ⟨w.heap.size + 1, 0, none⟩) (by simp) (.int .u8 ((m.getD zeroP).1.1.toNat : Int))).setCell (p := ⟨w.heap.size + 1, 1, none⟩) (by simp) (.int .u64 ((m.getD zeroP).1.2.1.toNat : Int))).setCell (p := ⟨w.heap.size + 1, 2, none⟩) (by simp) (.int .u64 ((m.getD zeroP).1.2.2.toNat : Int))).setCell (p := ⟨w.heap.size + 1, 3, none⟩) (by simp) (.int .i64 (m.getD zeroP).2))
  clear hb hk hz
  go_wp2_with fail
  clear d0 d1 d2 d3 hfr
  generalize (((w1.setCell ⟨w.heap.size + 1, 0, none⟩ (.int .u8 ((m.getD zeroP).1.1.toNat : Int))).setCell ⟨w.heap.size + 1, 1, none⟩ (.int .u64 ((m.getD zeroP).1.2.1.toNat : Int))).setCell ⟨w.heap.size + 1, 2, none⟩ (.int .u64 ((m.getD zeroP).1.2.2.toNat : Int))).setCell ⟨w.heap.size + 1, 3, none⟩ (.int .i64 (m.getD zeroP).2) = w4 at *
  have hx4 := boxP (p := m.getD zeroP) HK.out
  have c0 := hx4.c0
  have c1 := hx4.c1
  have c2 := hx4.c2
  have c3 := hx4.c3
  exact bodyPost_ret (v := .tuple #[encP (m.getD zeroP), .bool m.isSome]) (by simp [results, Try.results15, go_sem, c0, c1, c2, c3]) rfl ⟨by rw [HM.out], HB2.out⟩

set_option maxHeartbeats 1000000 in
theorem insideFn (q p : Pf) (w : World) : Calls Try.prog 40 #[encP q, encP p] w fun e w' => e = .returned (.bool (inside q p)) ∧ Below w.heap.size w w' := by
  have HW := Lib.hid (within_any q p)
  have hbx : Below w.heap.size w ((w.alloc (.cells #[.int .u8 (q.1.1.toNat : Int), .int .u64 (q.1.2.1.toNat : Int), .int .u64 (q.1.2.2.toNat : Int), .int .i64 q.2] 27)).alloc (.cells #[.int .u8 (p.1.1.toNat : Int), .int .u64 (p.1.2.1.toNat : Int), .int .u64 (p.1.2.2.toNat : Int), .int .i64 p.2] 27)) := ((Below.refl _ _).alloc (Nat.le_refl _) _).alloc (by simp) _
  have HBX := Lib.hid hbx
  clear hbx
  by_cases he : q = p
  · subst he
    have HV := Lib.hid (show inside q q = false by simp [inside])
    go_enter Try.func40, Try.ntmps40
    go_wp2_with fail
    go_ret
    exact ⟨ret_bool HV.out.symm, HBX.out⟩
  · have HV := Lib.hid (show inside q p = within q p by simp [inside, he])
    have hcs : ((q.1.1.toNat : Int) == p.1.1.toNat) = false ∨ (((q.1.1.toNat : Int) == p.1.1.toNat) = true ∧ ((q.1.2.1.toNat : Int) == p.1.2.1.toNat) = false) ∨
        (((q.1.1.toNat : Int) == p.1.1.toNat) = true ∧ ((q.1.2.1.toNat : Int) == p.1.2.1.toNat) = true ∧ ((q.1.2.2.toNat : Int) == p.1.2.2.toNat) = false) ∨
        (((q.1.1.toNat : Int) == p.1.1.toNat) = true ∧ ((q.1.2.1.toNat : Int) == p.1.2.1.toNat) = true ∧ ((q.1.2.2.toNat : Int) == p.1.2.2.toNat) = true ∧ (q.2 == p.2) = false) := by
      have h : ¬ ((q.1.1.toNat : Int) = p.1.1.toNat ∧ (q.1.2.1.toNat : Int) = p.1.2.1.toNat ∧ (q.1.2.2.toNat : Int) = p.1.2.2.toNat ∧ q.2 = p.2) := fun h => he (beq_iff_eq.1 ((pf_eq q p).2 h))
      simp only [beq_iff_eq, beq_eq_false_iff_ne, ne_eq]
      omega
    clear he
    rcases hcs with b0 | ⟨b0, b1⟩ | ⟨b0, b1, b2⟩ | ⟨b0, b1, b2, b3⟩
    all_goals
      go_enter Try.func40, Try.ntmps40
      go_wp2_with (go_at_call 23; refine (HW.out _).mono ?_; rintro e w1 ⟨rfl, hb⟩; have HB := Lib.hid (below_step HBX.out hb HBX.out.size); clear hb)
      go_ret
      exact ⟨ret_bool HV.out.symm, HB.out⟩

/-- What a closure over lists looks at: a function's box, two prefixes' boxes. -/
structure Cap (p q : Pf) (b6 b3 b8 : Nat) (w : World) : Prop where
  fn : w.cell? ⟨b6, 0, none⟩ = some (.func (.func 40) #[] #[])
  pp : CellsOf w b3 0 p
  qq : CellsOf w b8 0 q
theorem Cap.kept {p q : Pf} {b6 b3 b8 : Nat} {w w' : World} (h : Cap p q b6 b3 b8 w) (hb : Below w.heap.size w w') : Cap p q b6 b3 b8 w' := ⟨cell_kept hb h.fn, h.pp.kept hb, h.qq.kept hb⟩
def deeperB (p q r : Pf) : Bool := inside r p && inside q r
set_option maxHeartbeats 2000000 in
theorem deeperFn (p q r : Pf) (b6 b3 b8 : Nat) (w : World) (h : Cap p q b6 b3 b8 w) :
    Calls Try.prog 42 #[encP r, .pointer (some ⟨b6, 0, none⟩), .pointer (some ⟨b3, 0, none⟩), .pointer (some ⟨b8, 0, none⟩)] w fun e w' => e = .returned (.bool (deeperB p q r)) ∧ Below w.heap.size w w' := by
  have hbx : Below w.heap.size w (w.alloc (.cells #[.int .u8 (r.1.1.toNat : Int), .int .u64 (r.1.2.1.toNat : Int), .int .u64 (r.1.2.2.toNat : Int), .int .i64 r.2] 27)) := (Below.refl _ _).alloc (Nat.le_refl _) _
  have HBX := Lib.hid hbx
  have HR := Lib.hid (boxP (p := r) (heap_alloc_new w (.cells #[.int .u8 (r.1.1.toNat : Int), .int .u64 (r.1.2.1.toNat : Int), .int .u64 (r.1.2.2.toNat : Int), .int .i64 r.2] 27)))
  have hc := h.kept hbx
  have HC := Lib.hid hc
  have H1 := Lib.hid (insideFn r p)
  have H2 := Lib.hid (insideFn q r)
  obtain ⟨a, ha⟩ : ∃ a, a = inside r p := ⟨_, rfl⟩
  obtain ⟨b, hb⟩ : ∃ a, a = inside q r := ⟨_, rfl⟩
  have HV := Lib.hid (show deeperB p q r = (a && b) by rw [ha, hb]; rfl)
  have HA := Lib.hid ha
  have HB := Lib.hid hb
  clear ha hb hbx h
  have hfn := hc.fn
  have hpp := hc.pp
  have hrr := HR.out
  have p0 := hpp.c0
  have p1 := hpp.c1
  have p2 := hpp.c2
  have p3 := hpp.c3
  have r0 := hrr.c0
  have r1 := hrr.c1
  have r2 := hrr.c2
  have r3 := hrr.c3
  clear hc hpp hrr
  cases a
  · go_enter Try.func42, Try.ntmps42
    go_wp2_with fail
    refine (H1.out _).mono ?_
    rintro e w1 ⟨rfl, hb⟩
    rw [← HA.out]
    have HB1 := Lib.hid (below_step HBX.out hb HBX.out.size)
    clear hb hfn p0 p1 p2 p3 r0 r1 r2 r3
    go_wp2_with fail
    go_ret
    exact ⟨ret_bool (by rw [HV.out]; rfl), HB1.out⟩
  · go_enter Try.func42, Try.ntmps42
    go_wp2_with fail
    refine (H1.out _).mono ?_
    rintro e w1 ⟨rfl, hb⟩
    rw [← HA.out]
    have HB1 := Lib.hid (below_step HBX.out hb HBX.out.size)
    have hc1 := HC.out.kept hb
    have hr1 := HR.out.kept hb
    clear hb hfn p0 p1 p2 p3 r0 r1 r2 r3
    have hfn := hc1.fn
    have hqq := hc1.qq
    have d0 := hqq.c0
    have d1 := hqq.c1
    have d2 := hqq.c2
    have d3 := hqq.c3
    have g0 := hr1.c0
    have g1 := hr1.c1
    have g2 := hr1.c2
    have g3 := hr1.c3
    clear hc1 hr1 hqq
    go_wp2_with fail
    refine (H2.out _).mono ?_
    rintro e w2 ⟨rfl, hb⟩
    rw [← HB.out]
    have HB2 := Lib.hid (below_step HB1.out hb HB1.out.size)
    clear hb hfn d0 d1 d2 d3 g0 g1 g2 g3
    go_wp2_with fail
    go_ret
    exact ⟨ret_bool (by rw [HV.out]; rfl), HB2.out⟩
def IdxPost (such : Pf → Bool) (l : List Pf) (w : World) (e : Ending) (w' : World) : Prop := (∃ n : Int, e = .returned (.int .i64 n) ∧ decide (0 ≤ n) = l.any such) ∧ Below w.heap.size w w'
set_option maxRecDepth 100000 in
set_option maxHeartbeats 2000000 in
theorem indexFn (v : Value) (l : List Pf) (p q : Pf) (b6 b3 b8 : Nat) (w : World) (h : PfsAt w v l) (hn : l.length ≤ 1000000) (hcap : Cap p q b6 b3 b8 w) :
    Calls Try.prog 54 #[v, .func (.func 42) #[] #[.pointer (some ⟨b6, 0, none⟩), .pointer (some ⟨b3, 0, none⟩), .pointer (some ⟨b8, 0, none⟩)]] w (IdxPost (deeperB p q) l w) := by
  obtain ⟨ao, cap, hv⟩ := elems_slice h
  have HV := Lib.hid h
  subst hv
  have HC := Lib.hid hcap
  clear h hcap
  go_enter Try.func54, Try.ntmps54
  go_wp2_with fail
  go_loopw [8] (fun vi wr => ∃ k : Nat, k ≤ l.length ∧ vi = .int .i64 k ∧ (l.take k).any (deeperB p q) = false ∧ Below w.heap.size w wr) (fun vi _ => l.length - (intOf vi).toNat)
  case atStart => exact ⟨0, Nat.zero_le _, rfl, rfl, Below.refl _ _⟩
  case round =>
    obtain ⟨k, hk, rfl, hall, hbel⟩ := hrel
    have HALL := Lib.hid hall
    have HBE := Lib.hid hbel
    clear hall hbel
    by_cases hlt : k < l.length
    · obtain ⟨b, off, cap', hve, hcs⟩ := pfs_cells HV.out (by omega)
      cases hve
      have hcm := (hcs k hlt).kept HBE.out
      clear hcs
      obtain ⟨r, hr⟩ : ∃ q, q = l[k] := ⟨_, rfl⟩
      rw [← hr] at hcm
      have HSN := Lib.hid (show (l.take (k + 1)).any (deeperB p q) = deeperB p q r by rw [List.take_succ_eq_append_getElem hlt, List.any_append, HALL.out, ← hr]; simp)
      have HIN := Lib.hid (show r ∈ l from hr ▸ List.getElem_mem hlt)
      clear hr
      have c0 := hcm.c0
      have c1 := hcm.c1
      have c2 := hcm.c2
      have c3 := hcm.c3
      have m1 : (k : Int) < (l.length : Int) := by omega
      clear hcm
      go_wp2_with fail
      refine (deeperFn p q r b6 b3 b8 _ (HC.out.kept HBE.out)).mono ?_
      rintro e w2 ⟨rfl, hb⟩
      have HB2 := Lib.hid (below_step HBE.out hb HBE.out.size)
      clear hb c0 c1 c2 c3
      obtain ⟨d, hd⟩ : ∃ d, d = deeperB p q r := ⟨_, rfl⟩
      rw [← hd]
      have HD := Lib.hid hd
      clear hd
      cases d
      · go_wp2_with fail
        go_roundw
        case rel => exact ⟨k + 1, hlt, by go_num, by rw [HSN.out, ← HD.out], HB2.out⟩
        case measure => simp [intOf]; omega
      · have HX := Lib.hid (show l.any (deeperB p q) = true from List.any_eq_true.2 ⟨r, HIN.out, HD.out.symm⟩)
        go_wp2_with fail
        go_ret
        exact ⟨⟨_, rfl, by rw [HX.out]; simp⟩, HB2.out⟩
    · have HX := Lib.hid (show l.any (deeperB p q) = false by have := HALL.out; rwa [List.take_of_length_le (by omega)] at this)
      go_wp2_with fail
      go_ret
      exact ⟨⟨_, rfl, by rw [HX.out]; simp⟩, HBE.out⟩
set_option maxHeartbeats 1000000 in
theorem containsFn (v : Value) (l : List Pf) (p q : Pf) (b6 b3 b8 : Nat) (w : World) (h : PfsAt w v l) (hn : l.length ≤ 1000000) (hcap : Cap p q b6 b3 b8 w) :
    Calls Try.prog 41 #[v, .func (.func 42) #[] #[.pointer (some ⟨b6, 0, none⟩), .pointer (some ⟨b3, 0, none⟩), .pointer (some ⟨b8, 0, none⟩)]] w fun e w' => e = .returned (.bool (l.any (deeperB p q))) ∧ Below w.heap.size w w' := by
  have HI := Lib.hid (indexFn v l p q b6 b3 b8 w h hn hcap)
  clear h hcap
  go_enter Try.func41, Try.ntmps41
  go_wp2_with fail
  refine HI.out.mono ?_
  rintro e w1 ⟨⟨n, rfl, hn1⟩, hb⟩
  have HN := Lib.hid hn1
  have HB := Lib.hid hb
  clear hn1 hb
  go_wp2_with fail
  go_ret
  exact ⟨ret_bool HN.out, HB.out⟩
end Go.Proofs.Try.Pfx
