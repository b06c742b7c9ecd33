/- PoolsOne: the walk. -/
import Derived.Test.YtbhnpndkdhhpfaaPsU
set_option linter.unusedVariables false
set_option linter.unusedSimpArgs false
namespace Go.Proofs.Try.Pfx
open Go.RowKit Go.Cph Go.Cph.Px

/-- The same, by another name. -/
def zeroY : Pf := zeroP
/-- What lies in memory. -/
structure Env (w : World) (m : List Pf) (p : Pf) (a : Ad) (x y : Pf) (mv : Value) (b8 b10 : Nat) (W : World) : Prop where
  b4 : W.heap[w.heap.size]? = some (.cells #[.int .u8 (p.1.1.toNat : Int), .int .u64 (p.1.2.1.toNat : Int), .int .u64 (p.1.2.2.toNat : Int), .int .i64 p.2] 27 (0, 0))
  b5 : W.heap[w.heap.size + 1]? = some (.cells #[.int .u8 (a.1.toNat : Int), .int .u64 (a.2.1.toNat : Int), .int .u64 (a.2.2.toNat : Int)] 25 (0, 0))
  b8 : W.heap[b8]? = some (.cells #[.int .u8 (x.1.1.toNat : Int), .int .u64 (x.1.2.1.toNat : Int), .int .u64 (x.1.2.2.toNat : Int), .int .i64 x.2] 27 (0, 0))
  b10 : W.heap[b10]? = some (.cells #[.int .u8 (y.1.1.toNat : Int), .int .u64 (y.1.2.1.toNat : Int), .int .u64 (y.1.2.2.toNat : Int), .int .i64 y.2] 27 (0, 0))
  ml : PfsAt W mv m
  bel : Below w.heap.size w W
theorem Env.kept {w : World} {m : List Pf} {p : Pf} {a : Ad} {x y : Pf} {mv : Value} {b8 b10 : Nat} {W W' : World} (h : Env w m p a x y mv b8 b10 W) (hb : Below W.heap.size W W') : Env w m p a x y mv b8 b10 W' :=
  ⟨blk_kept hb h.b4, blk_kept hb h.b5, blk_kept hb h.b8, blk_kept hb h.b10, h.ml.kept hb, below_step h.bel hb h.bel.size⟩

set_option maxRecDepth 100000 in
set_option maxHeartbeats 8000000 in
theorem one_11 (ao : Option Addr) (cap : Nat) (l : List Pf) (p : Pf) (a : Ad) (x : Pf) (y : Pf) (w : World) (h : PfsAt w (.slice ao l.length cap) l) (hn : l.length ≤ 60)
    (hmx : mostL (fun q => hasP q a) (madeL l) = some x) (hmy : mostL (fun q => within p q) (madeL l) = some y) :
    Calls Try.prog 4 #[.slice ao l.length cap, encP p, encA a] w (AwPost w) := by
  have HV := Lib.hid h
  obtain ⟨m, hm⟩ : ∃ m, m = madeL l := ⟨_, rfl⟩
  rw [← hm] at hmx hmy
  have hml : m.length ≤ l.length := by rw [hm]; exact (madeL_is l).2.2
  have HM := Lib.hid hm
  have HMX := Lib.hid hmx
  have HMY := Lib.hid hmy
  clear h hm hmx hmy
  have hb0 : Below w.heap.size w ((w.alloc (.cells #[.int .u8 (p.1.1.toNat : Int), .int .u64 (p.1.2.1.toNat : Int), .int .u64 (p.1.2.2.toNat : Int), .int .i64 p.2] 27)).alloc (.cells #[.int .u8 (a.1.toNat : Int), .int .u64 (a.2.1.toNat : Int), .int .u64 (a.2.2.toNat : Int)] 25)) := ((Below.refl _ _).alloc (Nat.le_refl _) _).alloc (by simp) _
  have HG4 := Lib.hid (blk_alloc (heap_alloc_new w (.cells #[.int .u8 (p.1.1.toNat : Int), .int .u64 (p.1.2.1.toNat : Int), .int .u64 (p.1.2.2.toNat : Int), .int .i64 p.2] 27)) (.cells #[.int .u8 (a.1.toNat : Int), .int .u64 (a.2.1.toNat : Int), .int .u64 (a.2.2.toNat : Int)] 25))
  have hg5 := heap_alloc_new (w.alloc (.cells #[.int .u8 (p.1.1.toNat : Int), .int .u64 (p.1.2.1.toNat : Int), .int .u64 (p.1.2.2.toNat : Int), .int .i64 p.2] 27)) (.cells #[.int .u8 (a.1.toNat : Int), .int .u64 (a.2.1.toNat : Int), .int .u64 (a.2.2.toNat : Int)] 25)
  rw [World.size_alloc] at hg5
  have HG5 := Lib.hid hg5
  have HB0 := Lib.hid hb0
  have HNG := Lib.hid (show decide (60 < l.length) = false by simp; omega)
  have hgr := great_any ao l.length cap
  have HGR := Lib.hid hgr
  clear hb0 hg5 hgr
  go_enter Try.func4, Try.ntmps4
  go_wp2_with fail
  generalize (w.alloc (.cells #[.int .u8 (p.1.1.toNat : Int), .int .u64 (p.1.2.1.toNat : Int), .int .u64 (p.1.2.2.toNat : Int), .int .i64 p.2] 27)).alloc (.cells #[.int .u8 (a.1.toNat : Int), .int .u64 (a.2.1.toNat : Int), .int .u64 (a.2.2.toNat : Int)] 25) = w0 at *
  refine (HGR.out _ (by omega)).mono ?_
  rintro e w0' ⟨rfl, rfl⟩
  rw [HNG.out]
  go_wp2_with fail
  refine (made_any _ l _ (HV.out.kept HB0.out) hn).mono ?_
  rintro e w1 ⟨mv, rfl, hmv, hb⟩
  rw [← HM.out] at hmv
  obtain ⟨mo, mcap, hmo⟩ := elems_slice hmv
  subst hmo
  have HMV := Lib.hid hmv
  have HB1 := Lib.hid (below_step HB0.out hb HB0.out.size)
  have H4 := Lib.hid (blk_kept hb HG4.out)
  have H5 := Lib.hid (blk_kept hb HG5.out)
  have a0 : w1.cell? ⟨(w.heap.size + 1), 0, none⟩ = some (.int .u8 (a.1.toNat : Int)) := by rw [blk_cell H5.out]; rfl
  have a1 : w1.cell? ⟨(w.heap.size + 1), 1, none⟩ = some (.int .u64 (a.2.1.toNat : Int)) := by rw [blk_cell H5.out]; rfl
  have a2 : w1.cell? ⟨(w.heap.size + 1), 2, none⟩ = some (.int .u64 (a.2.2.toNat : Int)) := by rw [blk_cell H5.out]; rfl
  clear hb hmv
  go_wp2_with fail
  refine (innermost _ m a _ HMV.out (by omega)).mono ?_
  rintro e w2 ⟨rfl, hb⟩
  rw [HMX.out]
  have HMV2 := Lib.hid (HMV.out.kept hb)
  have HB2 := Lib.hid (below_step HB1.out hb HB1.out.size)
  have H42 := Lib.hid (blk_kept hb H4.out)
  have H52 := Lib.hid (blk_kept hb H5.out)
  clear hb a0 a1 a2
  have p0 : w2.cell? ⟨w.heap.size, 0, none⟩ = some (.int .u8 (p.1.1.toNat : Int)) := by rw [blk_cell H42.out]; rfl
  have p1 : w2.cell? ⟨w.heap.size, 1, none⟩ = some (.int .u64 (p.1.2.1.toNat : Int)) := by rw [blk_cell H42.out]; rfl
  have p2 : w2.cell? ⟨w.heap.size, 2, none⟩ = some (.int .u64 (p.1.2.2.toNat : Int)) := by rw [blk_cell H42.out]; rfl
  have p3 : w2.cell? ⟨w.heap.size, 3, none⟩ = some (.int .i64 p.2) := by rw [blk_cell H42.out]; rfl
  have hk0 : w.heap.size < w2.heap.size := blk_lt H42.out
  go_wp2_with fail
  clear p0 p1 p2 p3 hk0
  have hbx : Below w2.heap.size w2 (w2.alloc (.cells #[(.int .u8 (x.1.1.toNat : Int)), (.int .u64 (x.1.2.1.toNat : Int)), (.int .u64 (x.1.2.2.toNat : Int)), (.int .i64 x.2)] 27)) := (Below.refl _ _).alloc (Nat.le_refl _) _
  have HX1 := Lib.hid (heap_alloc_new w2 (.cells #[(.int .u8 (x.1.1.toNat : Int)), (.int .u64 (x.1.2.1.toNat : Int)), (.int .u64 (x.1.2.2.toNat : Int)), (.int .i64 x.2)] 27))
  have HMV3 := Lib.hid (HMV2.out.kept hbx)
  have HB3 := Lib.hid (below_step HB2.out hbx HB2.out.size)
  have H43 := Lib.hid (blk_kept hbx H42.out)
  have H53 := Lib.hid (blk_kept hbx H52.out)
  clear hbx
  obtain ⟨b8, hb8⟩ : ∃ b, b = w2.heap.size := ⟨_, rfl⟩
  rw [← hb8] at HX1 ⊢
  clear hb8
  generalize w2.alloc (.cells #[(.int .u8 (x.1.1.toNat : Int)), (.int .u64 (x.1.2.1.toNat : Int)), (.int .u64 (x.1.2.2.toNat : Int)), (.int .i64 x.2)] 27) = w3 at *
  refine (whole _ m p _ HMV3.out (by omega)).mono ?_
  rintro e w4 ⟨rfl, hb⟩
  rw [HMY.out]
  have HMV4 := Lib.hid (HMV3.out.kept hb)
  have HB4 := Lib.hid (below_step HB3.out hb HB3.out.size)
  have H44 := Lib.hid (blk_kept hb H43.out)
  have H54 := Lib.hid (blk_kept hb H53.out)
  have HX2 := Lib.hid (blk_kept hb HX1.out)
  clear hb
  obtain ⟨w5, hw5⟩ : ∃ w5, w5 = w4.alloc (.cells #[(.int .u8 (y.1.1.toNat : Int)), (.int .u64 (y.1.2.1.toNat : Int)), (.int .u64 (y.1.2.2.toNat : Int)), (.int .i64 y.2)] 27) := ⟨_, rfl⟩
  obtain ⟨b10, hb10⟩ : ∃ b, b = w4.heap.size := ⟨_, rfl⟩
  have hbx : Below w4.heap.size w4 w5 := by rw [hw5]; exact (Below.refl _ _).alloc (Nat.le_refl _) _
  have HE5 := Lib.hid (show Env w m p a x y (.slice mo m.length mcap) b8 b10 w5 from ⟨blk_kept hbx H44.out, blk_kept hbx H54.out, blk_kept hbx HX2.out, by rw [hw5, hb10]; exact heap_alloc_new _ _, HMV4.out.kept hbx, below_step HB4.out hbx HB4.out.size⟩)
  have HW5 := Lib.hid hw5
  have HB10 := Lib.hid hb10
  have hk1 : w.heap.size < w4.heap.size := blk_lt H44.out
  have hk2 : w.heap.size + 1 < w4.heap.size := blk_lt H54.out
  have hk3 : b8 < w4.heap.size := blk_lt HX2.out
  have p0 : w4.cell? ⟨w.heap.size, 0, none⟩ = some (.int .u8 (p.1.1.toNat : Int)) := by rw [blk_cell H44.out]; rfl
  have p1 : w4.cell? ⟨w.heap.size, 1, none⟩ = some (.int .u64 (p.1.2.1.toNat : Int)) := by rw [blk_cell H44.out]; rfl
  have p2 : w4.cell? ⟨w.heap.size, 2, none⟩ = some (.int .u64 (p.1.2.2.toNat : Int)) := by rw [blk_cell H44.out]; rfl
  have p3 : w4.cell? ⟨w.heap.size, 3, none⟩ = some (.int .i64 p.2) := by rw [blk_cell H44.out]; rfl
  have a0 : w4.cell? ⟨(w.heap.size + 1), 0, none⟩ = some (.int .u8 (a.1.toNat : Int)) := by rw [blk_cell H54.out]; rfl
  have a1 : w4.cell? ⟨(w.heap.size + 1), 1, none⟩ = some (.int .u64 (a.2.1.toNat : Int)) := by rw [blk_cell H54.out]; rfl
  have a2 : w4.cell? ⟨(w.heap.size + 1), 2, none⟩ = some (.int .u64 (a.2.2.toNat : Int)) := by rw [blk_cell H54.out]; rfl
  have x0 : w4.cell? ⟨b8, 0, none⟩ = some (.int .u8 (x.1.1.toNat : Int)) := by rw [blk_cell HX2.out]; rfl
  have x1 : w4.cell? ⟨b8, 1, none⟩ = some (.int .u64 (x.1.2.1.toNat : Int)) := by rw [blk_cell HX2.out]; rfl
  have x2 : w4.cell? ⟨b8, 2, none⟩ = some (.int .u64 (x.1.2.2.toNat : Int)) := by rw [blk_cell HX2.out]; rfl
  have x3 : w4.cell? ⟨b8, 3, none⟩ = some (.int .i64 x.2) := by rw [blk_cell HX2.out]; rfl
  clear hbx hw5 hb10
  go_wp2_with fail
  rw [← HW5.out, ← HB10.out]
  clear p0 p1 p2 p3 a0 a1 a2 x0 x1 x2 x3 hk1 hk2 hk3
  have HXA := Lib.hid (show hasP x a = true from (one_mem HMX.out).2)
  refine (hasP_any x a _).mono ?_
  rintro e w6 ⟨rfl, hb⟩
  rw [HXA.out]
  have HE6 := Lib.hid (HE5.out.kept hb)
  clear hb
  have p0 : w6.cell? ⟨w.heap.size, 0, none⟩ = some (.int .u8 (p.1.1.toNat : Int)) := by rw [blk_cell HE6.out.b4]; rfl
  have p1 : w6.cell? ⟨w.heap.size, 1, none⟩ = some (.int .u64 (p.1.2.1.toNat : Int)) := by rw [blk_cell HE6.out.b4]; rfl
  have p2 : w6.cell? ⟨w.heap.size, 2, none⟩ = some (.int .u64 (p.1.2.2.toNat : Int)) := by rw [blk_cell HE6.out.b4]; rfl
  have p3 : w6.cell? ⟨w.heap.size, 3, none⟩ = some (.int .i64 p.2) := by rw [blk_cell HE6.out.b4]; rfl
  have a0 : w6.cell? ⟨(w.heap.size + 1), 0, none⟩ = some (.int .u8 (a.1.toNat : Int)) := by rw [blk_cell HE6.out.b5]; rfl
  have a1 : w6.cell? ⟨(w.heap.size + 1), 1, none⟩ = some (.int .u64 (a.2.1.toNat : Int)) := by rw [blk_cell HE6.out.b5]; rfl
  have a2 : w6.cell? ⟨(w.heap.size + 1), 2, none⟩ = some (.int .u64 (a.2.2.toNat : Int)) := by rw [blk_cell HE6.out.b5]; rfl
  have x0 : w6.cell? ⟨b8, 0, none⟩ = some (.int .u8 (x.1.1.toNat : Int)) := by rw [blk_cell HE6.out.b8]; rfl
  have x1 : w6.cell? ⟨b8, 1, none⟩ = some (.int .u64 (x.1.2.1.toNat : Int)) := by rw [blk_cell HE6.out.b8]; rfl
  have x2 : w6.cell? ⟨b8, 2, none⟩ = some (.int .u64 (x.1.2.2.toNat : Int)) := by rw [blk_cell HE6.out.b8]; rfl
  have x3 : w6.cell? ⟨b8, 3, none⟩ = some (.int .i64 x.2) := by rw [blk_cell HE6.out.b8]; rfl
  have y0 : w6.cell? ⟨b10, 0, none⟩ = some (.int .u8 (y.1.1.toNat : Int)) := by rw [blk_cell HE6.out.b10]; rfl
  have y1 : w6.cell? ⟨b10, 1, none⟩ = some (.int .u64 (y.1.2.1.toNat : Int)) := by rw [blk_cell HE6.out.b10]; rfl
  have y2 : w6.cell? ⟨b10, 2, none⟩ = some (.int .u64 (y.1.2.2.toNat : Int)) := by rw [blk_cell HE6.out.b10]; rfl
  have y3 : w6.cell? ⟨b10, 3, none⟩ = some (.int .i64 y.2) := by rw [blk_cell HE6.out.b10]; rfl
  go_wp2_with fail
  clear p0 p1 p2 p3 a0 a1 a2 x0 x1 x2 x3 y0 y1 y2 y3
  have HPY := Lib.hid (show within p y = true from (one_mem HMY.out).2)
  refine (within_any p y _).mono ?_
  rintro e w7 ⟨rfl, hb⟩
  rw [HPY.out]
  have HE7 := Lib.hid (HE6.out.kept hb)
  clear hb
  have p0 : w7.cell? ⟨w.heap.size, 0, none⟩ = some (.int .u8 (p.1.1.toNat : Int)) := by rw [blk_cell HE7.out.b4]; rfl
  have p1 : w7.cell? ⟨w.heap.size, 1, none⟩ = some (.int .u64 (p.1.2.1.toNat : Int)) := by rw [blk_cell HE7.out.b4]; rfl
  have p2 : w7.cell? ⟨w.heap.size, 2, none⟩ = some (.int .u64 (p.1.2.2.toNat : Int)) := by rw [blk_cell HE7.out.b4]; rfl
  have p3 : w7.cell? ⟨w.heap.size, 3, none⟩ = some (.int .i64 p.2) := by rw [blk_cell HE7.out.b4]; rfl
  have a0 : w7.cell? ⟨(w.heap.size + 1), 0, none⟩ = some (.int .u8 (a.1.toNat : Int)) := by rw [blk_cell HE7.out.b5]; rfl
  have a1 : w7.cell? ⟨(w.heap.size + 1), 1, none⟩ = some (.int .u64 (a.2.1.toNat : Int)) := by rw [blk_cell HE7.out.b5]; rfl
  have a2 : w7.cell? ⟨(w.heap.size + 1), 2, none⟩ = some (.int .u64 (a.2.2.toNat : Int)) := by rw [blk_cell HE7.out.b5]; rfl
  have x0 : w7.cell? ⟨b8, 0, none⟩ = some (.int .u8 (x.1.1.toNat : Int)) := by rw [blk_cell HE7.out.b8]; rfl
  have x1 : w7.cell? ⟨b8, 1, none⟩ = some (.int .u64 (x.1.2.1.toNat : Int)) := by rw [blk_cell HE7.out.b8]; rfl
  have x2 : w7.cell? ⟨b8, 2, none⟩ = some (.int .u64 (x.1.2.2.toNat : Int)) := by rw [blk_cell HE7.out.b8]; rfl
  have x3 : w7.cell? ⟨b8, 3, none⟩ = some (.int .i64 x.2) := by rw [blk_cell HE7.out.b8]; rfl
  have y0 : w7.cell? ⟨b10, 0, none⟩ = some (.int .u8 (y.1.1.toNat : Int)) := by rw [blk_cell HE7.out.b10]; rfl
  have y1 : w7.cell? ⟨b10, 1, none⟩ = some (.int .u64 (y.1.2.1.toNat : Int)) := by rw [blk_cell HE7.out.b10]; rfl
  have y2 : w7.cell? ⟨b10, 2, none⟩ = some (.int .u64 (y.1.2.2.toNat : Int)) := by rw [blk_cell HE7.out.b10]; rfl
  have y3 : w7.cell? ⟨b10, 3, none⟩ = some (.int .i64 y.2) := by rw [blk_cell HE7.out.b10]; rfl
  go_wp2_with fail
  clear p0 p1 p2 p3 a0 a1 a2 x0 x1 x2 x3 y0 y1 y2 y3
  go_loopw [12, 13, 14] (fun v12 v13 v14 wr => ∃ k : Nat, k ≤ m.length ∧ v14 = .int .i64 k ∧ v12 = .bool ((m.take k).any (fun q => q == x)) ∧ v13 = .bool ((m.take k).any (fun q => q == y)) ∧ Env w m p a x y (.slice mo m.length mcap) b8 b10 wr) (fun _ _ vi _ => m.length - (intOf vi).toNat)
  case atStart => exact ⟨0, Nat.zero_le _, rfl, rfl, rfl, HE7.out⟩
  case round =>
    obtain ⟨k, hk, rfl, rfl, rfl, henv⟩ := hrel
    have HE := Lib.hid henv
    clear henv
    obtain ⟨mine, hmine⟩ : ∃ b, b = (m.take k).any (fun q => q == x) := ⟨_, rfl⟩
    obtain ⟨its, hits⟩ : ∃ b, b = (m.take k).any (fun q => q == y) := ⟨_, rfl⟩
    rw [← hmine, ← hits]
    have HMI := Lib.hid hmine
    have HIT := Lib.hid hits
    clear hmine hits
    by_cases hlt : k < m.length
    · obtain ⟨b, off, cap', hve, hcs⟩ := pfs_cells HE.out.ml (by omega)
      cases hve
      have HCS := Lib.hid (hcs k hlt)
      clear hcs
      obtain ⟨q, hq⟩ : ∃ q, q = m[k] := ⟨_, rfl⟩
      rw [← hq] at HCS
      have HQM := Lib.hid (show q ∈ m from hq ▸ List.getElem_mem hlt)
      have HS1 := Lib.hid (show (m.take (k + 1)).any (fun q => q == x) = (mine || (q == x)) by rw [List.take_succ_eq_append_getElem hlt, List.any_append, ← HMI.out, ← hq]; simp)
      have HS2 := Lib.hid (show (m.take (k + 1)).any (fun q => q == y) = (its || (q == y)) by rw [List.take_succ_eq_append_getElem hlt, List.any_append, ← HIT.out, ← hq]; simp)
      clear hq
      obtain ⟨hI, hhI⟩ : ∃ b, b = hasP q a := ⟨_, rfl⟩
      obtain ⟨pI, hpI⟩ : ∃ b, b = within p q := ⟨_, rfl⟩
      have HQA := Lib.hid (fun W => (hasP_any q a W))
      have HPQ := Lib.hid (fun W => (within_any p q W))
      rw [← hhI] at HQA
      rw [← hpI] at HPQ
      have HXQ := Lib.hid (fun (h : hI = true) W => (show Calls Try.prog 23 #[encP x, encP q] W fun e w' => e = .returned (.bool true) ∧ Below W.heap.size W w' from by have := within_any x q W; rwa [one_has HMX.out HQM.out (by rw [← hhI]; exact h)] at this))
      have HYQ := Lib.hid (fun (h : pI = true) W => (show Calls Try.prog 23 #[encP y, encP q] W fun e w' => e = .returned (.bool true) ∧ Below W.heap.size W w' from by have := within_any y q W; rwa [one_in HMY.out HQM.out (by rw [← hpI]; exact h)] at this))
      clear hhI hpI
      have hcs := HCS.out
      have q0 := hcs.c0
      have q1 := hcs.c1
      have q2 := hcs.c2
      have q3 := hcs.c3
      have hqx := fun w => (show (binOp .eql 27 (encP q) (.agg #[(.int .u8 (x.1.1.toNat : Int)), (.int .u64 (x.1.2.1.toNat : Int)), (.int .u64 (x.1.2.2.toNat : Int)), (.int .i64 x.2)])).run Try.prog w = .ok (.bool (q == x)) w from run_eqlP q x w)
      have hqy := fun w => (show (binOp .eql 27 (encP q) (.agg #[(.int .u8 (y.1.1.toNat : Int)), (.int .u64 (y.1.2.1.toNat : Int)), (.int .u64 (y.1.2.2.toNat : Int)), (.int .i64 y.2)])).run Try.prog w = .ok (.bool (q == y)) w from run_eqlP q y w)
      have HQX := Lib.hid hqx
      have HQY := Lib.hid hqy
      clear hqx hqy
      obtain ⟨ex, hex⟩ : ∃ b, b = (q == x) := ⟨_, rfl⟩
      obtain ⟨ey, hey⟩ : ∃ b, b = (q == y) := ⟨_, rfl⟩
      rw [← hex] at HQX HS1
      rw [← hey] at HQY HS2
      clear hex hey
      have m0 : (0 : Int) ≤ (k : Int) := by omega
      have m1 : (k : Int) < (m.length : Int) := by omega
      have p0 : wr.cell? ⟨w.heap.size, 0, none⟩ = some (.int .u8 (p.1.1.toNat : Int)) := by rw [blk_cell HE.out.b4]; rfl
      have p1 : wr.cell? ⟨w.heap.size, 1, none⟩ = some (.int .u64 (p.1.2.1.toNat : Int)) := by rw [blk_cell HE.out.b4]; rfl
      have p2 : wr.cell? ⟨w.heap.size, 2, none⟩ = some (.int .u64 (p.1.2.2.toNat : Int)) := by rw [blk_cell HE.out.b4]; rfl
      have p3 : wr.cell? ⟨w.heap.size, 3, none⟩ = some (.int .i64 p.2) := by rw [blk_cell HE.out.b4]; rfl
      have a0 : wr.cell? ⟨(w.heap.size + 1), 0, none⟩ = some (.int .u8 (a.1.toNat : Int)) := by rw [blk_cell HE.out.b5]; rfl
      have a1 : wr.cell? ⟨(w.heap.size + 1), 1, none⟩ = some (.int .u64 (a.2.1.toNat : Int)) := by rw [blk_cell HE.out.b5]; rfl
      have a2 : wr.cell? ⟨(w.heap.size + 1), 2, none⟩ = some (.int .u64 (a.2.2.toNat : Int)) := by rw [blk_cell HE.out.b5]; rfl
      have x0 : wr.cell? ⟨b8, 0, none⟩ = some (.int .u8 (x.1.1.toNat : Int)) := by rw [blk_cell HE.out.b8]; rfl
      have x1 : wr.cell? ⟨b8, 1, none⟩ = some (.int .u64 (x.1.2.1.toNat : Int)) := by rw [blk_cell HE.out.b8]; rfl
      have x2 : wr.cell? ⟨b8, 2, none⟩ = some (.int .u64 (x.1.2.2.toNat : Int)) := by rw [blk_cell HE.out.b8]; rfl
      have x3 : wr.cell? ⟨b8, 3, none⟩ = some (.int .i64 x.2) := by rw [blk_cell HE.out.b8]; rfl
      have y0 : wr.cell? ⟨b10, 0, none⟩ = some (.int .u8 (y.1.1.toNat : Int)) := by rw [blk_cell HE.out.b10]; rfl
      have y1 : wr.cell? ⟨b10, 1, none⟩ = some (.int .u64 (y.1.2.1.toNat : Int)) := by rw [blk_cell HE.out.b10]; rfl
      have y2 : wr.cell? ⟨b10, 2, none⟩ = some (.int .u64 (y.1.2.2.toNat : Int)) := by rw [blk_cell HE.out.b10]; rfl
      have y3 : wr.cell? ⟨b10, 3, none⟩ = some (.int .i64 y.2) := by rw [blk_cell HE.out.b10]; rfl
      have Lq0 : ∀ zz : Later wr.heap.size wr, zz.val.cell? ⟨b, off + k * 4, none⟩ = some (.int .u8 (q.1.1.toNat : Int)) := fun zz => Later.cell q0 (World.block_lt_of_cell? _ _ q0) zz
      have Lq1 : ∀ zz : Later wr.heap.size wr, zz.val.cell? ⟨b, off + k * 4 + 1, none⟩ = some (.int .u64 (q.1.2.1.toNat : Int)) := fun zz => Later.cell q1 (World.block_lt_of_cell? _ _ q1) zz
      have Lq2 : ∀ zz : Later wr.heap.size wr, zz.val.cell? ⟨b, off + k * 4 + 2, none⟩ = some (.int .u64 (q.1.2.2.toNat : Int)) := fun zz => Later.cell q2 (World.block_lt_of_cell? _ _ q2) zz
      have Lq3 : ∀ zz : Later wr.heap.size wr, zz.val.cell? ⟨b, off + k * 4 + 3, none⟩ = some (.int .i64 q.2) := fun zz => Later.cell q3 (World.block_lt_of_cell? _ _ q3) zz
      have Lp0 : ∀ zz : Later wr.heap.size wr, zz.val.cell? ⟨w.heap.size, 0, none⟩ = some (.int .u8 (p.1.1.toNat : Int)) := fun zz => Later.cell p0 (World.block_lt_of_cell? _ _ p0) zz
      have Lp1 : ∀ zz : Later wr.heap.size wr, zz.val.cell? ⟨w.heap.size, 1, none⟩ = some (.int .u64 (p.1.2.1.toNat : Int)) := fun zz => Later.cell p1 (World.block_lt_of_cell? _ _ p1) zz
      have Lp2 : ∀ zz : Later wr.heap.size wr, zz.val.cell? ⟨w.heap.size, 2, none⟩ = some (.int .u64 (p.1.2.2.toNat : Int)) := fun zz => Later.cell p2 (World.block_lt_of_cell? _ _ p2) zz
      have Lp3 : ∀ zz : Later wr.heap.size wr, zz.val.cell? ⟨w.heap.size, 3, none⟩ = some (.int .i64 p.2) := fun zz => Later.cell p3 (World.block_lt_of_cell? _ _ p3) zz
      have La0 : ∀ zz : Later wr.heap.size wr, zz.val.cell? ⟨(w.heap.size + 1), 0, none⟩ = some (.int .u8 (a.1.toNat : Int)) := fun zz => Later.cell a0 (World.block_lt_of_cell? _ _ a0) zz
      have La1 : ∀ zz : Later wr.heap.size wr, zz.val.cell? ⟨(w.heap.size + 1), 1, none⟩ = some (.int .u64 (a.2.1.toNat : Int)) := fun zz => Later.cell a1 (World.block_lt_of_cell? _ _ a1) zz
      have La2 : ∀ zz : Later wr.heap.size wr, zz.val.cell? ⟨(w.heap.size + 1), 2, none⟩ = some (.int .u64 (a.2.2.toNat : Int)) := fun zz => Later.cell a2 (World.block_lt_of_cell? _ _ a2) zz
      have Lx0 : ∀ zz : Later wr.heap.size wr, zz.val.cell? ⟨b8, 0, none⟩ = some (.int .u8 (x.1.1.toNat : Int)) := fun zz => Later.cell x0 (World.block_lt_of_cell? _ _ x0) zz
      have Lx1 : ∀ zz : Later wr.heap.size wr, zz.val.cell? ⟨b8, 1, none⟩ = some (.int .u64 (x.1.2.1.toNat : Int)) := fun zz => Later.cell x1 (World.block_lt_of_cell? _ _ x1) zz
      have Lx2 : ∀ zz : Later wr.heap.size wr, zz.val.cell? ⟨b8, 2, none⟩ = some (.int .u64 (x.1.2.2.toNat : Int)) := fun zz => Later.cell x2 (World.block_lt_of_cell? _ _ x2) zz
      have Lx3 : ∀ zz : Later wr.heap.size wr, zz.val.cell? ⟨b8, 3, none⟩ = some (.int .i64 x.2) := fun zz => Later.cell x3 (World.block_lt_of_cell? _ _ x3) zz
      have Ly0 : ∀ zz : Later wr.heap.size wr, zz.val.cell? ⟨b10, 0, none⟩ = some (.int .u8 (y.1.1.toNat : Int)) := fun zz => Later.cell y0 (World.block_lt_of_cell? _ _ y0) zz
      have Ly1 : ∀ zz : Later wr.heap.size wr, zz.val.cell? ⟨b10, 1, none⟩ = some (.int .u64 (y.1.2.1.toNat : Int)) := fun zz => Later.cell y1 (World.block_lt_of_cell? _ _ y1) zz
      have Ly2 : ∀ zz : Later wr.heap.size wr, zz.val.cell? ⟨b10, 2, none⟩ = some (.int .u64 (y.1.2.2.toNat : Int)) := fun zz => Later.cell y2 (World.block_lt_of_cell? _ _ y2) zz
      have Ly3 : ∀ zz : Later wr.heap.size wr, zz.val.cell? ⟨b10, 3, none⟩ = some (.int .i64 y.2) := fun zz => Later.cell y3 (World.block_lt_of_cell? _ _ y3) zz
      clear p0 p1 p2 p3 a0 a1 a2 x0 x1 x2 x3 y0 y1 y2 y3 q0 q1 q2 q3 hcs
      cases hI <;> cases pI
      all_goals
        try (have HXQ1 := Lib.hid (HXQ.out rfl))
        try (have HYQ1 := Lib.hid (HYQ.out rfl))
        go_wp2_with fail
        refine wp_region_later wr.heap.size (by kernel_rfl) (by kernel_rfl) ?_
        repeat (go_big_quiet_step ((first | (go_at_call 22; exact Later.calls (Nat.le_refl _) (HQA.out _)) | (go_at_call 23; with_reducible exact Later.calls (Nat.le_refl _) (HPQ.out _)) | (go_at_call 23; with_reducible exact Later.calls (Nat.le_refl _) (HXQ1.out _)) | (go_at_call 23; with_reducible exact Later.calls (Nat.le_refl _) (HYQ1.out _)))))
        refine wpQuiet_nil ?_
        rintro w7 ⟨xx, rfl⟩
        have HE7 := Lib.hid (HE.out.kept xx.prop)
        have hcs := HCS.out.kept xx.prop
        clear Lp0 Lp1 Lp2 Lp3 La0 La1 La2 Lx0 Lx1 Lx2 Lx3 Ly0 Ly1 Ly2 Ly3 Lq0 Lq1 Lq2 Lq3
        generalize xx.val = w8 at *
        have q0 := hcs.c0
        have q1 := hcs.c1
        have q2 := hcs.c2
        have q3 := hcs.c3
        have x0 : w8.cell? ⟨b8, 0, none⟩ = some (.int .u8 (x.1.1.toNat : Int)) := by rw [blk_cell HE7.out.b8]; rfl
        have x1 : w8.cell? ⟨b8, 1, none⟩ = some (.int .u64 (x.1.2.1.toNat : Int)) := by rw [blk_cell HE7.out.b8]; rfl
        have x2 : w8.cell? ⟨b8, 2, none⟩ = some (.int .u64 (x.1.2.2.toNat : Int)) := by rw [blk_cell HE7.out.b8]; rfl
        have x3 : w8.cell? ⟨b8, 3, none⟩ = some (.int .i64 x.2) := by rw [blk_cell HE7.out.b8]; rfl
        have y0 : w8.cell? ⟨b10, 0, none⟩ = some (.int .u8 (y.1.1.toNat : Int)) := by rw [blk_cell HE7.out.b10]; rfl
        have y1 : w8.cell? ⟨b10, 1, none⟩ = some (.int .u64 (y.1.2.1.toNat : Int)) := by rw [blk_cell HE7.out.b10]; rfl
        have y2 : w8.cell? ⟨b10, 2, none⟩ = some (.int .u64 (y.1.2.2.toNat : Int)) := by rw [blk_cell HE7.out.b10]; rfl
        have y3 : w8.cell? ⟨b10, 3, none⟩ = some (.int .i64 y.2) := by rw [blk_cell HE7.out.b10]; rfl
        have hqx := HQX.out
        have hqy := HQY.out
        clear hcs
        cases mine <;> cases its
        all_goals
          go_wp2_with fail
          go_quiet (fail)
          go_wp2_with fail
          go_quiet (fail)
          clear hqx hqy q0 q1 q2 q3 x0 x1 x2 x3 y0 y1 y2 y3
          go_wp2_with fail
          go_roundw
          case rel => exact ⟨k + 1, hlt, by go_num, by rw [HS1.out]; rfl, by rw [HS2.out]; rfl, HE7.out.kept ⟨rfl, rfl, rfl, Nat.le_refl _, fun _ _ => rfl⟩⟩
          case measure => simp [intOf]; omega
    · obtain rfl : k = m.length := by omega
      have hmt : mine = true := by rw [HMI.out, List.take_length]; exact List.any_eq_true.2 ⟨x, (one_mem HMX.out).1, by simp⟩
      subst hmt
      have hit : its = true := by rw [HIT.out, List.take_length]; exact List.any_eq_true.2 ⟨y, (one_mem HMY.out).1, by simp⟩
      subst hit
      have hqq := fun w => (show (binOp .eql 27 (.agg #[(.int .u8 (x.1.1.toNat : Int)), (.int .u64 (x.1.2.1.toNat : Int)), (.int .u64 (x.1.2.2.toNat : Int)), (.int .i64 x.2)]) (.agg #[(.int .u8 (x.1.1.toNat : Int)), (.int .u64 (x.1.2.1.toNat : Int)), (.int .u64 (x.1.2.2.toNat : Int)), (.int .i64 x.2)])).run Try.prog w = .ok (.bool true) w from by
        have := run_eqlP x x w
        rw [beq_self_eq_true] at this
        exact this)
      have HQQ := Lib.hid hqq
      clear hqq
      have a0 : wr.cell? ⟨(w.heap.size + 1), 0, none⟩ = some (.int .u8 (a.1.toNat : Int)) := by rw [blk_cell HE.out.b5]; rfl
      have a1 : wr.cell? ⟨(w.heap.size + 1), 1, none⟩ = some (.int .u64 (a.2.1.toNat : Int)) := by rw [blk_cell HE.out.b5]; rfl
      have a2 : wr.cell? ⟨(w.heap.size + 1), 2, none⟩ = some (.int .u64 (a.2.2.toNat : Int)) := by rw [blk_cell HE.out.b5]; rfl
      by_cases h4 : a.1 = 4
      · have z4 : ((a.1.toNat : Int) == 4) = true := int_u8_eq (c := 4) h4
        have HWD := Lib.hid (show mostL (fun q => within (a, 32) q) m = some x by
          have e : width a.1 = 32 := by unfold width; rw [if_pos h4]
          have := one_whole a m
          rw [e] at this
          exact this.trans HMX.out)
        clear h4
        go_wp2_with fail
        refine (whole _ m (a, 32) _ HE.out.ml (by omega)).mono ?_
        rintro e w9 ⟨rfl, hb⟩
        rw [HWD.out]
        have HE9 := Lib.hid (HE.out.kept hb)
        clear hb a0 a1 a2
        have x0 : w9.cell? ⟨b8, 0, none⟩ = some (.int .u8 (x.1.1.toNat : Int)) := by rw [blk_cell HE9.out.b8]; rfl
        have x1 : w9.cell? ⟨b8, 1, none⟩ = some (.int .u64 (x.1.2.1.toNat : Int)) := by rw [blk_cell HE9.out.b8]; rfl
        have x2 : w9.cell? ⟨b8, 2, none⟩ = some (.int .u64 (x.1.2.2.toNat : Int)) := by rw [blk_cell HE9.out.b8]; rfl
        have x3 : w9.cell? ⟨b8, 3, none⟩ = some (.int .i64 x.2) := by rw [blk_cell HE9.out.b8]; rfl
        have hk8 : b8 < w9.heap.size := blk_lt HE9.out.b8
        have hqq := HQQ.out
        go_wp2_with fail
        have HB9 := Lib.hid (HE9.out.bel.alloc HE9.out.bel.size (.cells #[(.int .u8 (x.1.1.toNat : Int)), (.int .u64 (x.1.2.1.toNat : Int)), (.int .u64 (x.1.2.2.toNat : Int)), (.int .i64 x.2)] 27))
        clear x0 x1 x2 x3 hqq hk8
        refine (awake _).mono ?_
        rintro e w10 ⟨rfl, hb⟩
        have HBF := Lib.hid (below_step HB9.out hb HB9.out.size)
        clear hb
        go_wp2_with fail
        go_ret
        exact ⟨rfl, HBF.out⟩
      · have z4 : ((a.1.toNat : Int) == 4) = false := int_u8_ne (c := 4) h4
        have HWD := Lib.hid (show mostL (fun q => within (a, 128) q) m = some x by
          have e : width a.1 = 128 := by unfold width; rw [if_neg h4]
          have := one_whole a m
          rw [e] at this
          exact this.trans HMX.out)
        clear h4
        go_wp2_with fail
        refine (whole _ m (a, 128) _ HE.out.ml (by omega)).mono ?_
        rintro e w9 ⟨rfl, hb⟩
        rw [HWD.out]
        have HE9 := Lib.hid (HE.out.kept hb)
        clear hb a0 a1 a2
        have x0 : w9.cell? ⟨b8, 0, none⟩ = some (.int .u8 (x.1.1.toNat : Int)) := by rw [blk_cell HE9.out.b8]; rfl
        have x1 : w9.cell? ⟨b8, 1, none⟩ = some (.int .u64 (x.1.2.1.toNat : Int)) := by rw [blk_cell HE9.out.b8]; rfl
        have x2 : w9.cell? ⟨b8, 2, none⟩ = some (.int .u64 (x.1.2.2.toNat : Int)) := by rw [blk_cell HE9.out.b8]; rfl
        have x3 : w9.cell? ⟨b8, 3, none⟩ = some (.int .i64 x.2) := by rw [blk_cell HE9.out.b8]; rfl
        have hk8 : b8 < w9.heap.size := blk_lt HE9.out.b8
        have hqq := HQQ.out
        go_wp2_with fail
        have HB9 := Lib.hid (HE9.out.bel.alloc HE9.out.bel.size (.cells #[(.int .u8 (x.1.1.toNat : Int)), (.int .u64 (x.1.2.1.toNat : Int)), (.int .u64 (x.1.2.2.toNat : Int)), (.int .i64 x.2)] 27))
        clear x0 x1 x2 x3 hqq hk8
        refine (awake _).mono ?_
        rintro e w10 ⟨rfl, hb⟩
        have HBF := Lib.hid (below_step HB9.out hb HB9.out.size)
        clear hb
        go_wp2_with fail
        go_ret
        exact ⟨rfl, HBF.out⟩

set_option maxRecDepth 100000 in
set_option maxHeartbeats 8000000 in
theorem one_10 (ao : Option Addr) (cap : Nat) (l : List Pf) (p : Pf) (a : Ad) (x : Pf) (w : World) (h : PfsAt w (.slice ao l.length cap) l) (hn : l.length ≤ 60)
    (hmx : mostL (fun q => hasP q a) (madeL l) = some x) (hmy : mostL (fun q => within p q) (madeL l) = none) :
    Calls Try.prog 4 #[.slice ao l.length cap, encP p, encA a] w (AwPost w) := by
  have HV := Lib.hid h
  obtain ⟨m, hm⟩ : ∃ m, m = madeL l := ⟨_, rfl⟩
  rw [← hm] at hmx hmy
  have hml : m.length ≤ l.length := by rw [hm]; exact (madeL_is l).2.2
  have HM := Lib.hid hm
  have HMX := Lib.hid hmx
  have HMY := Lib.hid hmy
  clear h hm hmx hmy
  have hb0 : Below w.heap.size w ((w.alloc (.cells #[.int .u8 (p.1.1.toNat : Int), .int .u64 (p.1.2.1.toNat : Int), .int .u64 (p.1.2.2.toNat : Int), .int .i64 p.2] 27)).alloc (.cells #[.int .u8 (a.1.toNat : Int), .int .u64 (a.2.1.toNat : Int), .int .u64 (a.2.2.toNat : Int)] 25)) := ((Below.refl _ _).alloc (Nat.le_refl _) _).alloc (by simp) _
  have HG4 := Lib.hid (blk_alloc (heap_alloc_new w (.cells #[.int .u8 (p.1.1.toNat : Int), .int .u64 (p.1.2.1.toNat : Int), .int .u64 (p.1.2.2.toNat : Int), .int .i64 p.2] 27)) (.cells #[.int .u8 (a.1.toNat : Int), .int .u64 (a.2.1.toNat : Int), .int .u64 (a.2.2.toNat : Int)] 25))
  have hg5 := heap_alloc_new (w.alloc (.cells #[.int .u8 (p.1.1.toNat : Int), .int .u64 (p.1.2.1.toNat : Int), .int .u64 (p.1.2.2.toNat : Int), .int .i64 p.2] 27)) (.cells #[.int .u8 (a.1.toNat : Int), .int .u64 (a.2.1.toNat : Int), .int .u64 (a.2.2.toNat : Int)] 25)
  rw [World.size_alloc] at hg5
  have HG5 := Lib.hid hg5
  have HB0 := Lib.hid hb0
  have HNG := Lib.hid (show decide (60 < l.length) = false by simp; omega)
  have hgr := great_any ao l.length cap
  have HGR := Lib.hid hgr
  clear hb0 hg5 hgr
  go_enter Try.func4, Try.ntmps4
  go_wp2_with fail
  generalize (w.alloc (.cells #[.int .u8 (p.1.1.toNat : Int), .int .u64 (p.1.2.1.toNat : Int), .int .u64 (p.1.2.2.toNat : Int), .int .i64 p.2] 27)).alloc (.cells #[.int .u8 (a.1.toNat : Int), .int .u64 (a.2.1.toNat : Int), .int .u64 (a.2.2.toNat : Int)] 25) = w0 at *
  refine (HGR.out _ (by omega)).mono ?_
  rintro e w0' ⟨rfl, rfl⟩
  rw [HNG.out]
  go_wp2_with fail
  refine (made_any _ l _ (HV.out.kept HB0.out) hn).mono ?_
  rintro e w1 ⟨mv, rfl, hmv, hb⟩
  rw [← HM.out] at hmv
  obtain ⟨mo, mcap, hmo⟩ := elems_slice hmv
  subst hmo
  have HMV := Lib.hid hmv
  have HB1 := Lib.hid (below_step HB0.out hb HB0.out.size)
  have H4 := Lib.hid (blk_kept hb HG4.out)
  have H5 := Lib.hid (blk_kept hb HG5.out)
  have a0 : w1.cell? ⟨(w.heap.size + 1), 0, none⟩ = some (.int .u8 (a.1.toNat : Int)) := by rw [blk_cell H5.out]; rfl
  have a1 : w1.cell? ⟨(w.heap.size + 1), 1, none⟩ = some (.int .u64 (a.2.1.toNat : Int)) := by rw [blk_cell H5.out]; rfl
  have a2 : w1.cell? ⟨(w.heap.size + 1), 2, none⟩ = some (.int .u64 (a.2.2.toNat : Int)) := by rw [blk_cell H5.out]; rfl
  clear hb hmv
  go_wp2_with fail
  refine (innermost _ m a _ HMV.out (by omega)).mono ?_
  rintro e w2 ⟨rfl, hb⟩
  rw [HMX.out]
  have HMV2 := Lib.hid (HMV.out.kept hb)
  have HB2 := Lib.hid (below_step HB1.out hb HB1.out.size)
  have H42 := Lib.hid (blk_kept hb H4.out)
  have H52 := Lib.hid (blk_kept hb H5.out)
  clear hb a0 a1 a2
  have p0 : w2.cell? ⟨w.heap.size, 0, none⟩ = some (.int .u8 (p.1.1.toNat : Int)) := by rw [blk_cell H42.out]; rfl
  have p1 : w2.cell? ⟨w.heap.size, 1, none⟩ = some (.int .u64 (p.1.2.1.toNat : Int)) := by rw [blk_cell H42.out]; rfl
  have p2 : w2.cell? ⟨w.heap.size, 2, none⟩ = some (.int .u64 (p.1.2.2.toNat : Int)) := by rw [blk_cell H42.out]; rfl
  have p3 : w2.cell? ⟨w.heap.size, 3, none⟩ = some (.int .i64 p.2) := by rw [blk_cell H42.out]; rfl
  have hk0 : w.heap.size < w2.heap.size := blk_lt H42.out
  go_wp2_with fail
  clear p0 p1 p2 p3 hk0
  have hbx : Below w2.heap.size w2 (w2.alloc (.cells #[(.int .u8 (x.1.1.toNat : Int)), (.int .u64 (x.1.2.1.toNat : Int)), (.int .u64 (x.1.2.2.toNat : Int)), (.int .i64 x.2)] 27)) := (Below.refl _ _).alloc (Nat.le_refl _) _
  have HX1 := Lib.hid (heap_alloc_new w2 (.cells #[(.int .u8 (x.1.1.toNat : Int)), (.int .u64 (x.1.2.1.toNat : Int)), (.int .u64 (x.1.2.2.toNat : Int)), (.int .i64 x.2)] 27))
  have HMV3 := Lib.hid (HMV2.out.kept hbx)
  have HB3 := Lib.hid (below_step HB2.out hbx HB2.out.size)
  have H43 := Lib.hid (blk_kept hbx H42.out)
  have H53 := Lib.hid (blk_kept hbx H52.out)
  clear hbx
  obtain ⟨b8, hb8⟩ : ∃ b, b = w2.heap.size := ⟨_, rfl⟩
  rw [← hb8] at HX1 ⊢
  clear hb8
  generalize w2.alloc (.cells #[(.int .u8 (x.1.1.toNat : Int)), (.int .u64 (x.1.2.1.toNat : Int)), (.int .u64 (x.1.2.2.toNat : Int)), (.int .i64 x.2)] 27) = w3 at *
  refine (whole _ m p _ HMV3.out (by omega)).mono ?_
  rintro e w4 ⟨rfl, hb⟩
  rw [HMY.out]
  rw [show (encP ((Option.none : Option Pf).getD zeroP)) = (.agg #[.int .u8 0, .int .u64 0, .int .u64 0, .int .i64 0] : Value) from rfl]
  have HMV4 := Lib.hid (HMV3.out.kept hb)
  have HB4 := Lib.hid (below_step HB3.out hb HB3.out.size)
  have H44 := Lib.hid (blk_kept hb H43.out)
  have H54 := Lib.hid (blk_kept hb H53.out)
  have HX2 := Lib.hid (blk_kept hb HX1.out)
  clear hb
  obtain ⟨w5, hw5⟩ : ∃ w5, w5 = w4.alloc (.cells #[(.int .u8 0), (.int .u64 0), (.int .u64 0), (.int .i64 0)] 27) := ⟨_, rfl⟩
  obtain ⟨b10, hb10⟩ : ∃ b, b = w4.heap.size := ⟨_, rfl⟩
  have hbx : Below w4.heap.size w4 w5 := by rw [hw5]; exact (Below.refl _ _).alloc (Nat.le_refl _) _
  have HE5 := Lib.hid (show Env w m p a x zeroY (.slice mo m.length mcap) b8 b10 w5 from ⟨blk_kept hbx H44.out, blk_kept hbx H54.out, blk_kept hbx HX2.out, by rw [hw5, hb10]; exact heap_alloc_new _ _, HMV4.out.kept hbx, below_step HB4.out hbx HB4.out.size⟩)
  have HW5 := Lib.hid hw5
  have HB10 := Lib.hid hb10
  have hk1 : w.heap.size < w4.heap.size := blk_lt H44.out
  have hk2 : w.heap.size + 1 < w4.heap.size := blk_lt H54.out
  have hk3 : b8 < w4.heap.size := blk_lt HX2.out
  have p0 : w4.cell? ⟨w.heap.size, 0, none⟩ = some (.int .u8 (p.1.1.toNat : Int)) := by rw [blk_cell H44.out]; rfl
  have p1 : w4.cell? ⟨w.heap.size, 1, none⟩ = some (.int .u64 (p.1.2.1.toNat : Int)) := by rw [blk_cell H44.out]; rfl
  have p2 : w4.cell? ⟨w.heap.size, 2, none⟩ = some (.int .u64 (p.1.2.2.toNat : Int)) := by rw [blk_cell H44.out]; rfl
  have p3 : w4.cell? ⟨w.heap.size, 3, none⟩ = some (.int .i64 p.2) := by rw [blk_cell H44.out]; rfl
  have a0 : w4.cell? ⟨(w.heap.size + 1), 0, none⟩ = some (.int .u8 (a.1.toNat : Int)) := by rw [blk_cell H54.out]; rfl
  have a1 : w4.cell? ⟨(w.heap.size + 1), 1, none⟩ = some (.int .u64 (a.2.1.toNat : Int)) := by rw [blk_cell H54.out]; rfl
  have a2 : w4.cell? ⟨(w.heap.size + 1), 2, none⟩ = some (.int .u64 (a.2.2.toNat : Int)) := by rw [blk_cell H54.out]; rfl
  have x0 : w4.cell? ⟨b8, 0, none⟩ = some (.int .u8 (x.1.1.toNat : Int)) := by rw [blk_cell HX2.out]; rfl
  have x1 : w4.cell? ⟨b8, 1, none⟩ = some (.int .u64 (x.1.2.1.toNat : Int)) := by rw [blk_cell HX2.out]; rfl
  have x2 : w4.cell? ⟨b8, 2, none⟩ = some (.int .u64 (x.1.2.2.toNat : Int)) := by rw [blk_cell HX2.out]; rfl
  have x3 : w4.cell? ⟨b8, 3, none⟩ = some (.int .i64 x.2) := by rw [blk_cell HX2.out]; rfl
  clear hbx hw5 hb10
  go_wp2_with fail
  rw [← HW5.out, ← HB10.out]
  clear p0 p1 p2 p3 a0 a1 a2 x0 x1 x2 x3 hk1 hk2 hk3
  have HXA := Lib.hid (show hasP x a = true from (one_mem HMX.out).2)
  refine (hasP_any x a _).mono ?_
  rintro e w6 ⟨rfl, hb⟩
  rw [HXA.out]
  have HE6 := Lib.hid (HE5.out.kept hb)
  clear hb
  have p0 : w6.cell? ⟨w.heap.size, 0, none⟩ = some (.int .u8 (p.1.1.toNat : Int)) := by rw [blk_cell HE6.out.b4]; rfl
  have p1 : w6.cell? ⟨w.heap.size, 1, none⟩ = some (.int .u64 (p.1.2.1.toNat : Int)) := by rw [blk_cell HE6.out.b4]; rfl
  have p2 : w6.cell? ⟨w.heap.size, 2, none⟩ = some (.int .u64 (p.1.2.2.toNat : Int)) := by rw [blk_cell HE6.out.b4]; rfl
  have p3 : w6.cell? ⟨w.heap.size, 3, none⟩ = some (.int .i64 p.2) := by rw [blk_cell HE6.out.b4]; rfl
  have a0 : w6.cell? ⟨(w.heap.size + 1), 0, none⟩ = some (.int .u8 (a.1.toNat : Int)) := by rw [blk_cell HE6.out.b5]; rfl
  have a1 : w6.cell? ⟨(w.heap.size + 1), 1, none⟩ = some (.int .u64 (a.2.1.toNat : Int)) := by rw [blk_cell HE6.out.b5]; rfl
  have a2 : w6.cell? ⟨(w.heap.size + 1), 2, none⟩ = some (.int .u64 (a.2.2.toNat : Int)) := by rw [blk_cell HE6.out.b5]; rfl
  have x0 : w6.cell? ⟨b8, 0, none⟩ = some (.int .u8 (x.1.1.toNat : Int)) := by rw [blk_cell HE6.out.b8]; rfl
  have x1 : w6.cell? ⟨b8, 1, none⟩ = some (.int .u64 (x.1.2.1.toNat : Int)) := by rw [blk_cell HE6.out.b8]; rfl
  have x2 : w6.cell? ⟨b8, 2, none⟩ = some (.int .u64 (x.1.2.2.toNat : Int)) := by rw [blk_cell HE6.out.b8]; rfl
  have x3 : w6.cell? ⟨b8, 3, none⟩ = some (.int .i64 x.2) := by rw [blk_cell HE6.out.b8]; rfl
  have y0 : w6.cell? ⟨b10, 0, none⟩ = some (.int .u8 0) := by rw [blk_cell HE6.out.b10]; rfl
  have y1 : w6.cell? ⟨b10, 1, none⟩ = some (.int .u64 0) := by rw [blk_cell HE6.out.b10]; rfl
  have y2 : w6.cell? ⟨b10, 2, none⟩ = some (.int .u64 0) := by rw [blk_cell HE6.out.b10]; rfl
  have y3 : w6.cell? ⟨b10, 3, none⟩ = some (.int .i64 0) := by rw [blk_cell HE6.out.b10]; rfl
  go_wp2_with fail
  clear p0 p1 p2 p3 a0 a1 a2 x0 x1 x2 x3 y0 y1 y2 y3
  go_loopw [12, 13, 14] (fun v12 v13 v14 wr => ∃ k : Nat, k ≤ m.length ∧ v14 = .int .i64 k ∧ v12 = .bool ((m.take k).any (fun q => q == x)) ∧ v13 = .bool ((m.take k).any (fun q => q == zeroY)) ∧ Env w m p a x zeroY (.slice mo m.length mcap) b8 b10 wr) (fun _ _ vi _ => m.length - (intOf vi).toNat)
  case atStart => exact ⟨0, Nat.zero_le _, rfl, rfl, rfl, HE6.out⟩
  case round =>
    obtain ⟨k, hk, rfl, rfl, rfl, henv⟩ := hrel
    have HE := Lib.hid henv
    clear henv
    obtain ⟨mine, hmine⟩ : ∃ b, b = (m.take k).any (fun q => q == x) := ⟨_, rfl⟩
    obtain ⟨its, hits⟩ : ∃ b, b = (m.take k).any (fun q => q == zeroY) := ⟨_, rfl⟩
    rw [← hmine, ← hits]
    have HMI := Lib.hid hmine
    have HIT := Lib.hid hits
    clear hmine hits
    by_cases hlt : k < m.length
    · obtain ⟨b, off, cap', hve, hcs⟩ := pfs_cells HE.out.ml (by omega)
      cases hve
      have HCS := Lib.hid (hcs k hlt)
      clear hcs
      obtain ⟨q, hq⟩ : ∃ q, q = m[k] := ⟨_, rfl⟩
      rw [← hq] at HCS
      have HQM := Lib.hid (show q ∈ m from hq ▸ List.getElem_mem hlt)
      have HS1 := Lib.hid (show (m.take (k + 1)).any (fun q => q == x) = (mine || (q == x)) by rw [List.take_succ_eq_append_getElem hlt, List.any_append, ← HMI.out, ← hq]; simp)
      have HS2 := Lib.hid (show (m.take (k + 1)).any (fun q => q == zeroY) = (its || (q == zeroY)) by rw [List.take_succ_eq_append_getElem hlt, List.any_append, ← HIT.out, ← hq]; simp)
      clear hq
      obtain ⟨hI, hhI⟩ : ∃ b, b = hasP q a := ⟨_, rfl⟩
      obtain ⟨pI, hpI⟩ : ∃ b, b = within p q := ⟨_, rfl⟩
      have HQA := Lib.hid (fun W => (hasP_any q a W))
      have HPQ := Lib.hid (fun W => (within_any p q W))
      rw [← hhI] at HQA
      rw [← hpI] at HPQ
      have HXQ := Lib.hid (fun (h : hI = true) W => (show Calls Try.prog 23 #[encP x, encP q] W fun e w' => e = .returned (.bool true) ∧ Below W.heap.size W w' from by have := within_any x q W; rwa [one_has HMX.out HQM.out (by rw [← hhI]; exact h)] at this))
      have pI0 : pI = false := by rw [hpI]; exact one_none HMY.out HQM.out
      clear hhI hpI
      have hcs := HCS.out
      have q0 := hcs.c0
      have q1 := hcs.c1
      have q2 := hcs.c2
      have q3 := hcs.c3
      have hqx := fun w => (show (binOp .eql 27 (encP q) (.agg #[(.int .u8 (x.1.1.toNat : Int)), (.int .u64 (x.1.2.1.toNat : Int)), (.int .u64 (x.1.2.2.toNat : Int)), (.int .i64 x.2)])).run Try.prog w = .ok (.bool (q == x)) w from run_eqlP q x w)
      have hqy := fun w => (show (binOp .eql 27 (encP q) (.agg #[(.int .u8 0), (.int .u64 0), (.int .u64 0), (.int .i64 0)])).run Try.prog w = .ok (.bool (q == zeroY)) w from run_eqlP q zeroY w)
      have HQX := Lib.hid hqx
      have HQY := Lib.hid hqy
      clear hqx hqy
      obtain ⟨ex, hex⟩ : ∃ b, b = (q == x) := ⟨_, rfl⟩
      obtain ⟨ey, hey⟩ : ∃ b, b = (q == zeroY) := ⟨_, rfl⟩
      rw [← hex] at HQX HS1
      rw [← hey] at HQY HS2
      clear hex hey
      have m0 : (0 : Int) ≤ (k : Int) := by omega
      have m1 : (k : Int) < (m.length : Int) := by omega
      have p0 : wr.cell? ⟨w.heap.size, 0, none⟩ = some (.int .u8 (p.1.1.toNat : Int)) := by rw [blk_cell HE.out.b4]; rfl
      have p1 : wr.cell? ⟨w.heap.size, 1, none⟩ = some (.int .u64 (p.1.2.1.toNat : Int)) := by rw [blk_cell HE.out.b4]; rfl
      have p2 : wr.cell? ⟨w.heap.size, 2, none⟩ = some (.int .u64 (p.1.2.2.toNat : Int)) := by rw [blk_cell HE.out.b4]; rfl
      have p3 : wr.cell? ⟨w.heap.size, 3, none⟩ = some (.int .i64 p.2) := by rw [blk_cell HE.out.b4]; rfl
      have a0 : wr.cell? ⟨(w.heap.size + 1), 0, none⟩ = some (.int .u8 (a.1.toNat : Int)) := by rw [blk_cell HE.out.b5]; rfl
      have a1 : wr.cell? ⟨(w.heap.size + 1), 1, none⟩ = some (.int .u64 (a.2.1.toNat : Int)) := by rw [blk_cell HE.out.b5]; rfl
      have a2 : wr.cell? ⟨(w.heap.size + 1), 2, none⟩ = some (.int .u64 (a.2.2.toNat : Int)) := by rw [blk_cell HE.out.b5]; rfl
      have x0 : wr.cell? ⟨b8, 0, none⟩ = some (.int .u8 (x.1.1.toNat : Int)) := by rw [blk_cell HE.out.b8]; rfl
      have x1 : wr.cell? ⟨b8, 1, none⟩ = some (.int .u64 (x.1.2.1.toNat : Int)) := by rw [blk_cell HE.out.b8]; rfl
      have x2 : wr.cell? ⟨b8, 2, none⟩ = some (.int .u64 (x.1.2.2.toNat : Int)) := by rw [blk_cell HE.out.b8]; rfl
      have x3 : wr.cell? ⟨b8, 3, none⟩ = some (.int .i64 x.2) := by rw [blk_cell HE.out.b8]; rfl
      have y0 : wr.cell? ⟨b10, 0, none⟩ = some (.int .u8 0) := by rw [blk_cell HE.out.b10]; rfl
      have y1 : wr.cell? ⟨b10, 1, none⟩ = some (.int .u64 0) := by rw [blk_cell HE.out.b10]; rfl
      have y2 : wr.cell? ⟨b10, 2, none⟩ = some (.int .u64 0) := by rw [blk_cell HE.out.b10]; rfl
      have y3 : wr.cell? ⟨b10, 3, none⟩ = some (.int .i64 0) := by rw [blk_cell HE.out.b10]; rfl
      have Lq0 : ∀ zz : Later wr.heap.size wr, zz.val.cell? ⟨b, off + k * 4, none⟩ = some (.int .u8 (q.1.1.toNat : Int)) := fun zz => Later.cell q0 (World.block_lt_of_cell? _ _ q0) zz
      have Lq1 : ∀ zz : Later wr.heap.size wr, zz.val.cell? ⟨b, off + k * 4 + 1, none⟩ = some (.int .u64 (q.1.2.1.toNat : Int)) := fun zz => Later.cell q1 (World.block_lt_of_cell? _ _ q1) zz
      have Lq2 : ∀ zz : Later wr.heap.size wr, zz.val.cell? ⟨b, off + k * 4 + 2, none⟩ = some (.int .u64 (q.1.2.2.toNat : Int)) := fun zz => Later.cell q2 (World.block_lt_of_cell? _ _ q2) zz
      have Lq3 : ∀ zz : Later wr.heap.size wr, zz.val.cell? ⟨b, off + k * 4 + 3, none⟩ = some (.int .i64 q.2) := fun zz => Later.cell q3 (World.block_lt_of_cell? _ _ q3) zz
      have Lp0 : ∀ zz : Later wr.heap.size wr, zz.val.cell? ⟨w.heap.size, 0, none⟩ = some (.int .u8 (p.1.1.toNat : Int)) := fun zz => Later.cell p0 (World.block_lt_of_cell? _ _ p0) zz
      have Lp1 : ∀ zz : Later wr.heap.size wr, zz.val.cell? ⟨w.heap.size, 1, none⟩ = some (.int .u64 (p.1.2.1.toNat : Int)) := fun zz => Later.cell p1 (World.block_lt_of_cell? _ _ p1) zz
      have Lp2 : ∀ zz : Later wr.heap.size wr, zz.val.cell? ⟨w.heap.size, 2, none⟩ = some (.int .u64 (p.1.2.2.toNat : Int)) := fun zz => Later.cell p2 (World.block_lt_of_cell? _ _ p2) zz
      have Lp3 : ∀ zz : Later wr.heap.size wr, zz.val.cell? ⟨w.heap.size, 3, none⟩ = some (.int .i64 p.2) := fun zz => Later.cell p3 (World.block_lt_of_cell? _ _ p3) zz
      have La0 : ∀ zz : Later wr.heap.size wr, zz.val.cell? ⟨(w.heap.size + 1), 0, none⟩ = some (.int .u8 (a.1.toNat : Int)) := fun zz => Later.cell a0 (World.block_lt_of_cell? _ _ a0) zz
      have La1 : ∀ zz : Later wr.heap.size wr, zz.val.cell? ⟨(w.heap.size + 1), 1, none⟩ = some (.int .u64 (a.2.1.toNat : Int)) := fun zz => Later.cell a1 (World.block_lt_of_cell? _ _ a1) zz
      have La2 : ∀ zz : Later wr.heap.size wr, zz.val.cell? ⟨(w.heap.size + 1), 2, none⟩ = some (.int .u64 (a.2.2.toNat : Int)) := fun zz => Later.cell a2 (World.block_lt_of_cell? _ _ a2) zz
      have Lx0 : ∀ zz : Later wr.heap.size wr, zz.val.cell? ⟨b8, 0, none⟩ = some (.int .u8 (x.1.1.toNat : Int)) := fun zz => Later.cell x0 (World.block_lt_of_cell? _ _ x0) zz
      have Lx1 : ∀ zz : Later wr.heap.size wr, zz.val.cell? ⟨b8, 1, none⟩ = some (.int .u64 (x.1.2.1.toNat : Int)) := fun zz => Later.cell x1 (World.block_lt_of_cell? _ _ x1) zz
      have Lx2 : ∀ zz : Later wr.heap.size wr, zz.val.cell? ⟨b8, 2, none⟩ = some (.int .u64 (x.1.2.2.toNat : Int)) := fun zz => Later.cell x2 (World.block_lt_of_cell? _ _ x2) zz
      have Lx3 : ∀ zz : Later wr.heap.size wr, zz.val.cell? ⟨b8, 3, none⟩ = some (.int .i64 x.2) := fun zz => Later.cell x3 (World.block_lt_of_cell? _ _ x3) zz
      have Ly0 : ∀ zz : Later wr.heap.size wr, zz.val.cell? ⟨b10, 0, none⟩ = some (.int .u8 0) := fun zz => Later.cell y0 (World.block_lt_of_cell? _ _ y0) zz
      have Ly1 : ∀ zz : Later wr.heap.size wr, zz.val.cell? ⟨b10, 1, none⟩ = some (.int .u64 0) := fun zz => Later.cell y1 (World.block_lt_of_cell? _ _ y1) zz
      have Ly2 : ∀ zz : Later wr.heap.size wr, zz.val.cell? ⟨b10, 2, none⟩ = some (.int .u64 0) := fun zz => Later.cell y2 (World.block_lt_of_cell? _ _ y2) zz
      have Ly3 : ∀ zz : Later wr.heap.size wr, zz.val.cell? ⟨b10, 3, none⟩ = some (.int .i64 0) := fun zz => Later.cell y3 (World.block_lt_of_cell? _ _ y3) zz
      clear p0 p1 p2 p3 a0 a1 a2 x0 x1 x2 x3 y0 y1 y2 y3 q0 q1 q2 q3 hcs
      subst pI0
      cases hI
      all_goals
        try (have HXQ1 := Lib.hid (HXQ.out rfl))
        go_wp2_with fail
        refine wp_region_later wr.heap.size (by kernel_rfl) (by kernel_rfl) ?_
        repeat (go_big_quiet_step ((first | (go_at_call 22; exact Later.calls (Nat.le_refl _) (HQA.out _)) | (go_at_call 23; with_reducible exact Later.calls (Nat.le_refl _) (HPQ.out _)) | (go_at_call 23; with_reducible exact Later.calls (Nat.le_refl _) (HXQ1.out _)))))
        refine wpQuiet_nil ?_
        rintro w7 ⟨xx, rfl⟩
        have HE7 := Lib.hid (HE.out.kept xx.prop)
        have hcs := HCS.out.kept xx.prop
        clear Lp0 Lp1 Lp2 Lp3 La0 La1 La2 Lx0 Lx1 Lx2 Lx3 Ly0 Ly1 Ly2 Ly3 Lq0 Lq1 Lq2 Lq3
        generalize xx.val = w8 at *
        have q0 := hcs.c0
        have q1 := hcs.c1
        have q2 := hcs.c2
        have q3 := hcs.c3
        have x0 : w8.cell? ⟨b8, 0, none⟩ = some (.int .u8 (x.1.1.toNat : Int)) := by rw [blk_cell HE7.out.b8]; rfl
        have x1 : w8.cell? ⟨b8, 1, none⟩ = some (.int .u64 (x.1.2.1.toNat : Int)) := by rw [blk_cell HE7.out.b8]; rfl
        have x2 : w8.cell? ⟨b8, 2, none⟩ = some (.int .u64 (x.1.2.2.toNat : Int)) := by rw [blk_cell HE7.out.b8]; rfl
        have x3 : w8.cell? ⟨b8, 3, none⟩ = some (.int .i64 x.2) := by rw [blk_cell HE7.out.b8]; rfl
        have y0 : w8.cell? ⟨b10, 0, none⟩ = some (.int .u8 0) := by rw [blk_cell HE7.out.b10]; rfl
        have y1 : w8.cell? ⟨b10, 1, none⟩ = some (.int .u64 0) := by rw [blk_cell HE7.out.b10]; rfl
        have y2 : w8.cell? ⟨b10, 2, none⟩ = some (.int .u64 0) := by rw [blk_cell HE7.out.b10]; rfl
        have y3 : w8.cell? ⟨b10, 3, none⟩ = some (.int .i64 0) := by rw [blk_cell HE7.out.b10]; rfl
        have hqx := HQX.out
        have hqy := HQY.out
        clear hcs
        cases mine <;> cases its
        all_goals
          go_wp2_with fail
          go_quiet (fail)
          go_wp2_with fail
          go_quiet (fail)
          clear hqx hqy q0 q1 q2 q3 x0 x1 x2 x3 y0 y1 y2 y3
          go_wp2_with fail
          go_roundw
          case rel => exact ⟨k + 1, hlt, by go_num, by rw [HS1.out]; rfl, by rw [HS2.out]; rfl, HE7.out.kept ⟨rfl, rfl, rfl, Nat.le_refl _, fun _ _ => rfl⟩⟩
          case measure => simp [intOf]; omega
    · obtain rfl : k = m.length := by omega
      have hmt : mine = true := by rw [HMI.out, List.take_length]; exact List.any_eq_true.2 ⟨x, (one_mem HMX.out).1, by simp⟩
      subst hmt
      have hqq := fun w => (show (binOp .eql 27 (.agg #[(.int .u8 (x.1.1.toNat : Int)), (.int .u64 (x.1.2.1.toNat : Int)), (.int .u64 (x.1.2.2.toNat : Int)), (.int .i64 x.2)]) (.agg #[(.int .u8 (x.1.1.toNat : Int)), (.int .u64 (x.1.2.1.toNat : Int)), (.int .u64 (x.1.2.2.toNat : Int)), (.int .i64 x.2)])).run Try.prog w = .ok (.bool true) w from by
        have := run_eqlP x x w
        rw [beq_self_eq_true] at this
        exact this)
      have HQQ := Lib.hid hqq
      clear hqq
      have a0 : wr.cell? ⟨(w.heap.size + 1), 0, none⟩ = some (.int .u8 (a.1.toNat : Int)) := by rw [blk_cell HE.out.b5]; rfl
      have a1 : wr.cell? ⟨(w.heap.size + 1), 1, none⟩ = some (.int .u64 (a.2.1.toNat : Int)) := by rw [blk_cell HE.out.b5]; rfl
      have a2 : wr.cell? ⟨(w.heap.size + 1), 2, none⟩ = some (.int .u64 (a.2.2.toNat : Int)) := by rw [blk_cell HE.out.b5]; rfl
      by_cases h4 : a.1 = 4
      · have z4 : ((a.1.toNat : Int) == 4) = true := int_u8_eq (c := 4) h4
        have HWD := Lib.hid (show mostL (fun q => within (a, 32) q) m = some x by
          have e : width a.1 = 32 := by unfold width; rw [if_pos h4]
          have := one_whole a m
          rw [e] at this
          exact this.trans HMX.out)
        clear h4
        go_wp2_with fail
        refine (whole _ m (a, 32) _ HE.out.ml (by omega)).mono ?_
        rintro e w9 ⟨rfl, hb⟩
        rw [HWD.out]
        have HE9 := Lib.hid (HE.out.kept hb)
        clear hb a0 a1 a2
        have x0 : w9.cell? ⟨b8, 0, none⟩ = some (.int .u8 (x.1.1.toNat : Int)) := by rw [blk_cell HE9.out.b8]; rfl
        have x1 : w9.cell? ⟨b8, 1, none⟩ = some (.int .u64 (x.1.2.1.toNat : Int)) := by rw [blk_cell HE9.out.b8]; rfl
        have x2 : w9.cell? ⟨b8, 2, none⟩ = some (.int .u64 (x.1.2.2.toNat : Int)) := by rw [blk_cell HE9.out.b8]; rfl
        have x3 : w9.cell? ⟨b8, 3, none⟩ = some (.int .i64 x.2) := by rw [blk_cell HE9.out.b8]; rfl
        have hk8 : b8 < w9.heap.size := blk_lt HE9.out.b8
        have hqq := HQQ.out
        go_wp2_with fail
        have HB9 := Lib.hid (HE9.out.bel.alloc HE9.out.bel.size (.cells #[(.int .u8 (x.1.1.toNat : Int)), (.int .u64 (x.1.2.1.toNat : Int)), (.int .u64 (x.1.2.2.toNat : Int)), (.int .i64 x.2)] 27))
        clear x0 x1 x2 x3 hqq hk8
        refine (awake _).mono ?_
        rintro e w10 ⟨rfl, hb⟩
        have HBF := Lib.hid (below_step HB9.out hb HB9.out.size)
        clear hb
        go_wp2_with fail
        go_ret
        exact ⟨rfl, HBF.out⟩
      · have z4 : ((a.1.toNat : Int) == 4) = false := int_u8_ne (c := 4) h4
        have HWD := Lib.hid (show mostL (fun q => within (a, 128) q) m = some x by
          have e : width a.1 = 128 := by unfold width; rw [if_neg h4]
          have := one_whole a m
          rw [e] at this
          exact this.trans HMX.out)
        clear h4
        go_wp2_with fail
        refine (whole _ m (a, 128) _ HE.out.ml (by omega)).mono ?_
        rintro e w9 ⟨rfl, hb⟩
        rw [HWD.out]
        have HE9 := Lib.hid (HE.out.kept hb)
        clear hb a0 a1 a2
        have x0 : w9.cell? ⟨b8, 0, none⟩ = some (.int .u8 (x.1.1.toNat : Int)) := by rw [blk_cell HE9.out.b8]; rfl
        have x1 : w9.cell? ⟨b8, 1, none⟩ = some (.int .u64 (x.1.2.1.toNat : Int)) := by rw [blk_cell HE9.out.b8]; rfl
        have x2 : w9.cell? ⟨b8, 2, none⟩ = some (.int .u64 (x.1.2.2.toNat : Int)) := by rw [blk_cell HE9.out.b8]; rfl
        have x3 : w9.cell? ⟨b8, 3, none⟩ = some (.int .i64 x.2) := by rw [blk_cell HE9.out.b8]; rfl
        have hk8 : b8 < w9.heap.size := blk_lt HE9.out.b8
        have hqq := HQQ.out
        go_wp2_with fail
        have HB9 := Lib.hid (HE9.out.bel.alloc HE9.out.bel.size (.cells #[(.int .u8 (x.1.1.toNat : Int)), (.int .u64 (x.1.2.1.toNat : Int)), (.int .u64 (x.1.2.2.toNat : Int)), (.int .i64 x.2)] 27))
        clear x0 x1 x2 x3 hqq hk8
        refine (awake _).mono ?_
        rintro e w10 ⟨rfl, hb⟩
        have HBF := Lib.hid (below_step HB9.out hb HB9.out.size)
        clear hb
        go_wp2_with fail
        go_ret
        exact ⟨rfl, HBF.out⟩

set_option maxRecDepth 100000 in
set_option maxHeartbeats 8000000 in
theorem one_01 (ao : Option Addr) (cap : Nat) (l : List Pf) (p : Pf) (a : Ad) (y : Pf) (w : World) (h : PfsAt w (.slice ao l.length cap) l) (hn : l.length ≤ 60)
    (hmx : mostL (fun q => hasP q a) (madeL l) = none) (hmy : mostL (fun q => within p q) (madeL l) = some y) :
    Calls Try.prog 4 #[.slice ao l.length cap, encP p, encA a] w (AwPost w) := by
  have HV := Lib.hid h
  obtain ⟨m, hm⟩ : ∃ m, m = madeL l := ⟨_, rfl⟩
  rw [← hm] at hmx hmy
  have hml : m.length ≤ l.length := by rw [hm]; exact (madeL_is l).2.2
  have HM := Lib.hid hm
  have HMX := Lib.hid hmx
  have HMY := Lib.hid hmy
  clear h hm hmx hmy
  have hb0 : Below w.heap.size w ((w.alloc (.cells #[.int .u8 (p.1.1.toNat : Int), .int .u64 (p.1.2.1.toNat : Int), .int .u64 (p.1.2.2.toNat : Int), .int .i64 p.2] 27)).alloc (.cells #[.int .u8 (a.1.toNat : Int), .int .u64 (a.2.1.toNat : Int), .int .u64 (a.2.2.toNat : Int)] 25)) := ((Below.refl _ _).alloc (Nat.le_refl _) _).alloc (by simp) _
  have HG4 := Lib.hid (blk_alloc (heap_alloc_new w (.cells #[.int .u8 (p.1.1.toNat : Int), .int .u64 (p.1.2.1.toNat : Int), .int .u64 (p.1.2.2.toNat : Int), .int .i64 p.2] 27)) (.cells #[.int .u8 (a.1.toNat : Int), .int .u64 (a.2.1.toNat : Int), .int .u64 (a.2.2.toNat : Int)] 25))
  have hg5 := heap_alloc_new (w.alloc (.cells #[.int .u8 (p.1.1.toNat : Int), .int .u64 (p.1.2.1.toNat : Int), .int .u64 (p.1.2.2.toNat : Int), .int .i64 p.2] 27)) (.cells #[.int .u8 (a.1.toNat : Int), .int .u64 (a.2.1.toNat : Int), .int .u64 (a.2.2.toNat : Int)] 25)
  rw [World.size_alloc] at hg5
  have HG5 := Lib.hid hg5
  have HB0 := Lib.hid hb0
  have HNG := Lib.hid (show decide (60 < l.length) = false by simp; omega)
  have hgr := great_any ao l.length cap
  have HGR := Lib.hid hgr
  clear hb0 hg5 hgr
  go_enter Try.func4, Try.ntmps4
  go_wp2_with fail
  generalize (w.alloc (.cells #[.int .u8 (p.1.1.toNat : Int), .int .u64 (p.1.2.1.toNat : Int), .int .u64 (p.1.2.2.toNat : Int), .int .i64 p.2] 27)).alloc (.cells #[.int .u8 (a.1.toNat : Int), .int .u64 (a.2.1.toNat : Int), .int .u64 (a.2.2.toNat : Int)] 25) = w0 at *
  refine (HGR.out _ (by omega)).mono ?_
  rintro e w0' ⟨rfl, rfl⟩
  rw [HNG.out]
  go_wp2_with fail
  refine (made_any _ l _ (HV.out.kept HB0.out) hn).mono ?_
  rintro e w1 ⟨mv, rfl, hmv, hb⟩
  rw [← HM.out] at hmv
  obtain ⟨mo, mcap, hmo⟩ := elems_slice hmv
  subst hmo
  have HMV := Lib.hid hmv
  have HB1 := Lib.hid (below_step HB0.out hb HB0.out.size)
  have H4 := Lib.hid (blk_kept hb HG4.out)
  have H5 := Lib.hid (blk_kept hb HG5.out)
  have a0 : w1.cell? ⟨(w.heap.size + 1), 0, none⟩ = some (.int .u8 (a.1.toNat : Int)) := by rw [blk_cell H5.out]; rfl
  have a1 : w1.cell? ⟨(w.heap.size + 1), 1, none⟩ = some (.int .u64 (a.2.1.toNat : Int)) := by rw [blk_cell H5.out]; rfl
  have a2 : w1.cell? ⟨(w.heap.size + 1), 2, none⟩ = some (.int .u64 (a.2.2.toNat : Int)) := by rw [blk_cell H5.out]; rfl
  clear hb hmv
  go_wp2_with fail
  refine (innermost _ m a _ HMV.out (by omega)).mono ?_
  rintro e w2 ⟨rfl, hb⟩
  rw [HMX.out]
  rw [show (encP ((Option.none : Option Pf).getD zeroP)) = (.agg #[.int .u8 0, .int .u64 0, .int .u64 0, .int .i64 0] : Value) from rfl]
  have HMV2 := Lib.hid (HMV.out.kept hb)
  have HB2 := Lib.hid (below_step HB1.out hb HB1.out.size)
  have H42 := Lib.hid (blk_kept hb H4.out)
  have H52 := Lib.hid (blk_kept hb H5.out)
  clear hb a0 a1 a2
  have p0 : w2.cell? ⟨w.heap.size, 0, none⟩ = some (.int .u8 (p.1.1.toNat : Int)) := by rw [blk_cell H42.out]; rfl
  have p1 : w2.cell? ⟨w.heap.size, 1, none⟩ = some (.int .u64 (p.1.2.1.toNat : Int)) := by rw [blk_cell H42.out]; rfl
  have p2 : w2.cell? ⟨w.heap.size, 2, none⟩ = some (.int .u64 (p.1.2.2.toNat : Int)) := by rw [blk_cell H42.out]; rfl
  have p3 : w2.cell? ⟨w.heap.size, 3, none⟩ = some (.int .i64 p.2) := by rw [blk_cell H42.out]; rfl
  have hk0 : w.heap.size < w2.heap.size := blk_lt H42.out
  go_wp2_with fail
  clear p0 p1 p2 p3 hk0
  have hbx : Below w2.heap.size w2 (w2.alloc (.cells #[(.int .u8 0), (.int .u64 0), (.int .u64 0), (.int .i64 0)] 27)) := (Below.refl _ _).alloc (Nat.le_refl _) _
  have HX1 := Lib.hid (heap_alloc_new w2 (.cells #[(.int .u8 0), (.int .u64 0), (.int .u64 0), (.int .i64 0)] 27))
  have HMV3 := Lib.hid (HMV2.out.kept hbx)
  have HB3 := Lib.hid (below_step HB2.out hbx HB2.out.size)
  have H43 := Lib.hid (blk_kept hbx H42.out)
  have H53 := Lib.hid (blk_kept hbx H52.out)
  clear hbx
  obtain ⟨b8, hb8⟩ : ∃ b, b = w2.heap.size := ⟨_, rfl⟩
  rw [← hb8] at HX1 ⊢
  clear hb8
  generalize w2.alloc (.cells #[(.int .u8 0), (.int .u64 0), (.int .u64 0), (.int .i64 0)] 27) = w3 at *
  refine (whole _ m p _ HMV3.out (by omega)).mono ?_
  rintro e w4 ⟨rfl, hb⟩
  rw [HMY.out]
  have HMV4 := Lib.hid (HMV3.out.kept hb)
  have HB4 := Lib.hid (below_step HB3.out hb HB3.out.size)
  have H44 := Lib.hid (blk_kept hb H43.out)
  have H54 := Lib.hid (blk_kept hb H53.out)
  have HX2 := Lib.hid (blk_kept hb HX1.out)
  clear hb
  obtain ⟨w5, hw5⟩ : ∃ w5, w5 = w4.alloc (.cells #[(.int .u8 (y.1.1.toNat : Int)), (.int .u64 (y.1.2.1.toNat : Int)), (.int .u64 (y.1.2.2.toNat : Int)), (.int .i64 y.2)] 27) := ⟨_, rfl⟩
  obtain ⟨b10, hb10⟩ : ∃ b, b = w4.heap.size := ⟨_, rfl⟩
  have hbx : Below w4.heap.size w4 w5 := by rw [hw5]; exact (Below.refl _ _).alloc (Nat.le_refl _) _
  have HE5 := Lib.hid (show Env w m p a zeroP y (.slice mo m.length mcap) b8 b10 w5 from ⟨blk_kept hbx H44.out, blk_kept hbx H54.out, blk_kept hbx HX2.out, by rw [hw5, hb10]; exact heap_alloc_new _ _, HMV4.out.kept hbx, below_step HB4.out hbx HB4.out.size⟩)
  have HW5 := Lib.hid hw5
  have HB10 := Lib.hid hb10
  have hk1 : w.heap.size < w4.heap.size := blk_lt H44.out
  have hk2 : w.heap.size + 1 < w4.heap.size := blk_lt H54.out
  have hk3 : b8 < w4.heap.size := blk_lt HX2.out
  have p0 : w4.cell? ⟨w.heap.size, 0, none⟩ = some (.int .u8 (p.1.1.toNat : Int)) := by rw [blk_cell H44.out]; rfl
  have p1 : w4.cell? ⟨w.heap.size, 1, none⟩ = some (.int .u64 (p.1.2.1.toNat : Int)) := by rw [blk_cell H44.out]; rfl
  have p2 : w4.cell? ⟨w.heap.size, 2, none⟩ = some (.int .u64 (p.1.2.2.toNat : Int)) := by rw [blk_cell H44.out]; rfl
  have p3 : w4.cell? ⟨w.heap.size, 3, none⟩ = some (.int .i64 p.2) := by rw [blk_cell H44.out]; rfl
  have a0 : w4.cell? ⟨(w.heap.size + 1), 0, none⟩ = some (.int .u8 (a.1.toNat : Int)) := by rw [blk_cell H54.out]; rfl
  have a1 : w4.cell? ⟨(w.heap.size + 1), 1, none⟩ = some (.int .u64 (a.2.1.toNat : Int)) := by rw [blk_cell H54.out]; rfl
  have a2 : w4.cell? ⟨(w.heap.size + 1), 2, none⟩ = some (.int .u64 (a.2.2.toNat : Int)) := by rw [blk_cell H54.out]; rfl
  have x0 : w4.cell? ⟨b8, 0, none⟩ = some (.int .u8 0) := by rw [blk_cell HX2.out]; rfl
  have x1 : w4.cell? ⟨b8, 1, none⟩ = some (.int .u64 0) := by rw [blk_cell HX2.out]; rfl
  have x2 : w4.cell? ⟨b8, 2, none⟩ = some (.int .u64 0) := by rw [blk_cell HX2.out]; rfl
  have x3 : w4.cell? ⟨b8, 3, none⟩ = some (.int .i64 0) := by rw [blk_cell HX2.out]; rfl
  clear hbx hw5 hb10
  go_wp2_with fail
  rw [← HW5.out, ← HB10.out]
  clear p0 p1 p2 p3 a0 a1 a2 x0 x1 x2 x3 hk1 hk2 hk3
  have HPY := Lib.hid (show within p y = true from (one_mem HMY.out).2)
  refine (within_any p y _).mono ?_
  rintro e w6 ⟨rfl, hb⟩
  rw [HPY.out]
  have HE6 := Lib.hid (HE5.out.kept hb)
  clear hb
  have p0 : w6.cell? ⟨w.heap.size, 0, none⟩ = some (.int .u8 (p.1.1.toNat : Int)) := by rw [blk_cell HE6.out.b4]; rfl
  have p1 : w6.cell? ⟨w.heap.size, 1, none⟩ = some (.int .u64 (p.1.2.1.toNat : Int)) := by rw [blk_cell HE6.out.b4]; rfl
  have p2 : w6.cell? ⟨w.heap.size, 2, none⟩ = some (.int .u64 (p.1.2.2.toNat : Int)) := by rw [blk_cell HE6.out.b4]; rfl
  have p3 : w6.cell? ⟨w.heap.size, 3, none⟩ = some (.int .i64 p.2) := by rw [blk_cell HE6.out.b4]; rfl
  have a0 : w6.cell? ⟨(w.heap.size + 1), 0, none⟩ = some (.int .u8 (a.1.toNat : Int)) := by rw [blk_cell HE6.out.b5]; rfl
  have a1 : w6.cell? ⟨(w.heap.size + 1), 1, none⟩ = some (.int .u64 (a.2.1.toNat : Int)) := by rw [blk_cell HE6.out.b5]; rfl
  have a2 : w6.cell? ⟨(w.heap.size + 1), 2, none⟩ = some (.int .u64 (a.2.2.toNat : Int)) := by rw [blk_cell HE6.out.b5]; rfl
  have x0 : w6.cell? ⟨b8, 0, none⟩ = some (.int .u8 0) := by rw [blk_cell HE6.out.b8]; rfl
  have x1 : w6.cell? ⟨b8, 1, none⟩ = some (.int .u64 0) := by rw [blk_cell HE6.out.b8]; rfl
  have x2 : w6.cell? ⟨b8, 2, none⟩ = some (.int .u64 0) := by rw [blk_cell HE6.out.b8]; rfl
  have x3 : w6.cell? ⟨b8, 3, none⟩ = some (.int .i64 0) := by rw [blk_cell HE6.out.b8]; rfl
  have y0 : w6.cell? ⟨b10, 0, none⟩ = some (.int .u8 (y.1.1.toNat : Int)) := by rw [blk_cell HE6.out.b10]; rfl
  have y1 : w6.cell? ⟨b10, 1, none⟩ = some (.int .u64 (y.1.2.1.toNat : Int)) := by rw [blk_cell HE6.out.b10]; rfl
  have y2 : w6.cell? ⟨b10, 2, none⟩ = some (.int .u64 (y.1.2.2.toNat : Int)) := by rw [blk_cell HE6.out.b10]; rfl
  have y3 : w6.cell? ⟨b10, 3, none⟩ = some (.int .i64 y.2) := by rw [blk_cell HE6.out.b10]; rfl
  go_wp2_with fail
  clear p0 p1 p2 p3 a0 a1 a2 x0 x1 x2 x3 y0 y1 y2 y3
  go_loopw [12, 13, 14] (fun v12 v13 v14 wr => ∃ k : Nat, k ≤ m.length ∧ v14 = .int .i64 k ∧ v12 = .bool ((m.take k).any (fun q => q == zeroP)) ∧ v13 = .bool ((m.take k).any (fun q => q == y)) ∧ Env w m p a zeroP y (.slice mo m.length mcap) b8 b10 wr) (fun _ _ vi _ => m.length - (intOf vi).toNat)
  case atStart => exact ⟨0, Nat.zero_le _, rfl, rfl, rfl, HE6.out⟩
  case round =>
    obtain ⟨k, hk, rfl, rfl, rfl, henv⟩ := hrel
    have HE := Lib.hid henv
    clear henv
    obtain ⟨mine, hmine⟩ : ∃ b, b = (m.take k).any (fun q => q == zeroP) := ⟨_, rfl⟩
    obtain ⟨its, hits⟩ : ∃ b, b = (m.take k).any (fun q => q == y) := ⟨_, rfl⟩
    rw [← hmine, ← hits]
    have HMI := Lib.hid hmine
    have HIT := Lib.hid hits
    clear hmine hits
    by_cases hlt : k < m.length
    · obtain ⟨b, off, cap', hve, hcs⟩ := pfs_cells HE.out.ml (by omega)
      cases hve
      have HCS := Lib.hid (hcs k hlt)
      clear hcs
      obtain ⟨q, hq⟩ : ∃ q, q = m[k] := ⟨_, rfl⟩
      rw [← hq] at HCS
      have HQM := Lib.hid (show q ∈ m from hq ▸ List.getElem_mem hlt)
      have HS1 := Lib.hid (show (m.take (k + 1)).any (fun q => q == zeroP) = (mine || (q == zeroP)) by rw [List.take_succ_eq_append_getElem hlt, List.any_append, ← HMI.out, ← hq]; simp)
      have HS2 := Lib.hid (show (m.take (k + 1)).any (fun q => q == y) = (its || (q == y)) by rw [List.take_succ_eq_append_getElem hlt, List.any_append, ← HIT.out, ← hq]; simp)
      clear hq
      obtain ⟨hI, hhI⟩ : ∃ b, b = hasP q a := ⟨_, rfl⟩
      obtain ⟨pI, hpI⟩ : ∃ b, b = within p q := ⟨_, rfl⟩
      have HQA := Lib.hid (fun W => (hasP_any q a W))
      have HPQ := Lib.hid (fun W => (within_any p q W))
      rw [← hhI] at HQA
      rw [← hpI] at HPQ
      have hI0 : hI = false := by rw [hhI]; exact one_none HMX.out HQM.out
      have HYQ := Lib.hid (fun (h : pI = true) W => (show Calls Try.prog 23 #[encP y, encP q] W fun e w' => e = .returned (.bool true) ∧ Below W.heap.size W w' from by have := within_any y q W; rwa [one_in HMY.out HQM.out (by rw [← hpI]; exact h)] at this))
      clear hhI hpI
      have hcs := HCS.out
      have q0 := hcs.c0
      have q1 := hcs.c1
      have q2 := hcs.c2
      have q3 := hcs.c3
      have hqx := fun w => (show (binOp .eql 27 (encP q) (.agg #[(.int .u8 0), (.int .u64 0), (.int .u64 0), (.int .i64 0)])).run Try.prog w = .ok (.bool (q == zeroP)) w from run_eqlP q zeroP w)
      have hqy := fun w => (show (binOp .eql 27 (encP q) (.agg #[(.int .u8 (y.1.1.toNat : Int)), (.int .u64 (y.1.2.1.toNat : Int)), (.int .u64 (y.1.2.2.toNat : Int)), (.int .i64 y.2)])).run Try.prog w = .ok (.bool (q == y)) w from run_eqlP q y w)
      have HQX := Lib.hid hqx
      have HQY := Lib.hid hqy
      clear hqx hqy
      obtain ⟨ex, hex⟩ : ∃ b, b = (q == zeroP) := ⟨_, rfl⟩
      obtain ⟨ey, hey⟩ : ∃ b, b = (q == y) := ⟨_, rfl⟩
      rw [← hex] at HQX HS1
      rw [← hey] at HQY HS2
      clear hex hey
      have m0 : (0 : Int) ≤ (k : Int) := by omega
      have m1 : (k : Int) < (m.length : Int) := by omega
      have p0 : wr.cell? ⟨w.heap.size, 0, none⟩ = some (.int .u8 (p.1.1.toNat : Int)) := by rw [blk_cell HE.out.b4]; rfl
      have p1 : wr.cell? ⟨w.heap.size, 1, none⟩ = some (.int .u64 (p.1.2.1.toNat : Int)) := by rw [blk_cell HE.out.b4]; rfl
      have p2 : wr.cell? ⟨w.heap.size, 2, none⟩ = some (.int .u64 (p.1.2.2.toNat : Int)) := by rw [blk_cell HE.out.b4]; rfl
      have p3 : wr.cell? ⟨w.heap.size, 3, none⟩ = some (.int .i64 p.2) := by rw [blk_cell HE.out.b4]; rfl
      have a0 : wr.cell? ⟨(w.heap.size + 1), 0, none⟩ = some (.int .u8 (a.1.toNat : Int)) := by rw [blk_cell HE.out.b5]; rfl
      have a1 : wr.cell? ⟨(w.heap.size + 1), 1, none⟩ = some (.int .u64 (a.2.1.toNat : Int)) := by rw [blk_cell HE.out.b5]; rfl
      have a2 : wr.cell? ⟨(w.heap.size + 1), 2, none⟩ = some (.int .u64 (a.2.2.toNat : Int)) := by rw [blk_cell HE.out.b5]; rfl
      have x0 : wr.cell? ⟨b8, 0, none⟩ = some (.int .u8 0) := by rw [blk_cell HE.out.b8]; rfl
      have x1 : wr.cell? ⟨b8, 1, none⟩ = some (.int .u64 0) := by rw [blk_cell HE.out.b8]; rfl
      have x2 : wr.cell? ⟨b8, 2, none⟩ = some (.int .u64 0) := by rw [blk_cell HE.out.b8]; rfl
      have x3 : wr.cell? ⟨b8, 3, none⟩ = some (.int .i64 0) := by rw [blk_cell HE.out.b8]; rfl
      have y0 : wr.cell? ⟨b10, 0, none⟩ = some (.int .u8 (y.1.1.toNat : Int)) := by rw [blk_cell HE.out.b10]; rfl
      have y1 : wr.cell? ⟨b10, 1, none⟩ = some (.int .u64 (y.1.2.1.toNat : Int)) := by rw [blk_cell HE.out.b10]; rfl
      have y2 : wr.cell? ⟨b10, 2, none⟩ = some (.int .u64 (y.1.2.2.toNat : Int)) := by rw [blk_cell HE.out.b10]; rfl
      have y3 : wr.cell? ⟨b10, 3, none⟩ = some (.int .i64 y.2) := by rw [blk_cell HE.out.b10]; rfl
      have Lq0 : ∀ zz : Later wr.heap.size wr, zz.val.cell? ⟨b, off + k * 4, none⟩ = some (.int .u8 (q.1.1.toNat : Int)) := fun zz => Later.cell q0 (World.block_lt_of_cell? _ _ q0) zz
      have Lq1 : ∀ zz : Later wr.heap.size wr, zz.val.cell? ⟨b, off + k * 4 + 1, none⟩ = some (.int .u64 (q.1.2.1.toNat : Int)) := fun zz => Later.cell q1 (World.block_lt_of_cell? _ _ q1) zz
      have Lq2 : ∀ zz : Later wr.heap.size wr, zz.val.cell? ⟨b, off + k * 4 + 2, none⟩ = some (.int .u64 (q.1.2.2.toNat : Int)) := fun zz => Later.cell q2 (World.block_lt_of_cell? _ _ q2) zz
      have Lq3 : ∀ zz : Later wr.heap.size wr, zz.val.cell? ⟨b, off + k * 4 + 3, none⟩ = some (.int .i64 q.2) := fun zz => Later.cell q3 (World.block_lt_of_cell? _ _ q3) zz
      have Lp0 : ∀ zz : Later wr.heap.size wr, zz.val.cell? ⟨w.heap.size, 0, none⟩ = some (.int .u8 (p.1.1.toNat : Int)) := fun zz => Later.cell p0 (World.block_lt_of_cell? _ _ p0) zz
      have Lp1 : ∀ zz : Later wr.heap.size wr, zz.val.cell? ⟨w.heap.size, 1, none⟩ = some (.int .u64 (p.1.2.1.toNat : Int)) := fun zz => Later.cell p1 (World.block_lt_of_cell? _ _ p1) zz
      have Lp2 : ∀ zz : Later wr.heap.size wr, zz.val.cell? ⟨w.heap.size, 2, none⟩ = some (.int .u64 (p.1.2.2.toNat : Int)) := fun zz => Later.cell p2 (World.block_lt_of_cell? _ _ p2) zz
      have Lp3 : ∀ zz : Later wr.heap.size wr, zz.val.cell? ⟨w.heap.size, 3, none⟩ = some (.int .i64 p.2) := fun zz => Later.cell p3 (World.block_lt_of_cell? _ _ p3) zz
      have La0 : ∀ zz : Later wr.heap.size wr, zz.val.cell? ⟨(w.heap.size + 1), 0, none⟩ = some (.int .u8 (a.1.toNat : Int)) := fun zz => Later.cell a0 (World.block_lt_of_cell? _ _ a0) zz
      have La1 : ∀ zz : Later wr.heap.size wr, zz.val.cell? ⟨(w.heap.size + 1), 1, none⟩ = some (.int .u64 (a.2.1.toNat : Int)) := fun zz => Later.cell a1 (World.block_lt_of_cell? _ _ a1) zz
      have La2 : ∀ zz : Later wr.heap.size wr, zz.val.cell? ⟨(w.heap.size + 1), 2, none⟩ = some (.int .u64 (a.2.2.toNat : Int)) := fun zz => Later.cell a2 (World.block_lt_of_cell? _ _ a2) zz
      have Lx0 : ∀ zz : Later wr.heap.size wr, zz.val.cell? ⟨b8, 0, none⟩ = some (.int .u8 0) := fun zz => Later.cell x0 (World.block_lt_of_cell? _ _ x0) zz
      have Lx1 : ∀ zz : Later wr.heap.size wr, zz.val.cell? ⟨b8, 1, none⟩ = some (.int .u64 0) := fun zz => Later.cell x1 (World.block_lt_of_cell? _ _ x1) zz
      have Lx2 : ∀ zz : Later wr.heap.size wr, zz.val.cell? ⟨b8, 2, none⟩ = some (.int .u64 0) := fun zz => Later.cell x2 (World.block_lt_of_cell? _ _ x2) zz
      have Lx3 : ∀ zz : Later wr.heap.size wr, zz.val.cell? ⟨b8, 3, none⟩ = some (.int .i64 0) := fun zz => Later.cell x3 (World.block_lt_of_cell? _ _ x3) zz
      have Ly0 : ∀ zz : Later wr.heap.size wr, zz.val.cell? ⟨b10, 0, none⟩ = some (.int .u8 (y.1.1.toNat : Int)) := fun zz => Later.cell y0 (World.block_lt_of_cell? _ _ y0) zz
      have Ly1 : ∀ zz : Later wr.heap.size wr, zz.val.cell? ⟨b10, 1, none⟩ = some (.int .u64 (y.1.2.1.toNat : Int)) := fun zz => Later.cell y1 (World.block_lt_of_cell? _ _ y1) zz
      have Ly2 : ∀ zz : Later wr.heap.size wr, zz.val.cell? ⟨b10, 2, none⟩ = some (.int .u64 (y.1.2.2.toNat : Int)) := fun zz => Later.cell y2 (World.block_lt_of_cell? _ _ y2) zz
      have Ly3 : ∀ zz : Later wr.heap.size wr, zz.val.cell? ⟨b10, 3, none⟩ = some (.int .i64 y.2) := fun zz => Later.cell y3 (World.block_lt_of_cell? _ _ y3) zz
      clear p0 p1 p2 p3 a0 a1 a2 x0 x1 x2 x3 y0 y1 y2 y3 q0 q1 q2 q3 hcs
      subst hI0
      cases pI
      all_goals
        try (have HYQ1 := Lib.hid (HYQ.out rfl))
        go_wp2_with fail
        refine wp_region_later wr.heap.size (by kernel_rfl) (by kernel_rfl) ?_
        repeat (go_big_quiet_step ((first | (go_at_call 22; exact Later.calls (Nat.le_refl _) (HQA.out _)) | (go_at_call 23; with_reducible exact Later.calls (Nat.le_refl _) (HPQ.out _)) | (go_at_call 23; with_reducible exact Later.calls (Nat.le_refl _) (HYQ1.out _)))))
        refine wpQuiet_nil ?_
        rintro w7 ⟨xx, rfl⟩
        have HE7 := Lib.hid (HE.out.kept xx.prop)
        have hcs := HCS.out.kept xx.prop
        clear Lp0 Lp1 Lp2 Lp3 La0 La1 La2 Lx0 Lx1 Lx2 Lx3 Ly0 Ly1 Ly2 Ly3 Lq0 Lq1 Lq2 Lq3
        generalize xx.val = w8 at *
        have q0 := hcs.c0
        have q1 := hcs.c1
        have q2 := hcs.c2
        have q3 := hcs.c3
        have x0 : w8.cell? ⟨b8, 0, none⟩ = some (.int .u8 0) := by rw [blk_cell HE7.out.b8]; rfl
        have x1 : w8.cell? ⟨b8, 1, none⟩ = some (.int .u64 0) := by rw [blk_cell HE7.out.b8]; rfl
        have x2 : w8.cell? ⟨b8, 2, none⟩ = some (.int .u64 0) := by rw [blk_cell HE7.out.b8]; rfl
        have x3 : w8.cell? ⟨b8, 3, none⟩ = some (.int .i64 0) := by rw [blk_cell HE7.out.b8]; rfl
        have y0 : w8.cell? ⟨b10, 0, none⟩ = some (.int .u8 (y.1.1.toNat : Int)) := by rw [blk_cell HE7.out.b10]; rfl
        have y1 : w8.cell? ⟨b10, 1, none⟩ = some (.int .u64 (y.1.2.1.toNat : Int)) := by rw [blk_cell HE7.out.b10]; rfl
        have y2 : w8.cell? ⟨b10, 2, none⟩ = some (.int .u64 (y.1.2.2.toNat : Int)) := by rw [blk_cell HE7.out.b10]; rfl
        have y3 : w8.cell? ⟨b10, 3, none⟩ = some (.int .i64 y.2) := by rw [blk_cell HE7.out.b10]; rfl
        have hqx := HQX.out
        have hqy := HQY.out
        clear hcs
        cases mine <;> cases its
        all_goals
          go_wp2_with fail
          go_quiet (fail)
          go_wp2_with fail
          go_quiet (fail)
          clear hqx hqy q0 q1 q2 q3 x0 x1 x2 x3 y0 y1 y2 y3
          go_wp2_with fail
          go_roundw
          case rel => exact ⟨k + 1, hlt, by go_num, by rw [HS1.out]; rfl, by rw [HS2.out]; rfl, HE7.out.kept ⟨rfl, rfl, rfl, Nat.le_refl _, fun _ _ => rfl⟩⟩
          case measure => simp [intOf]; omega
    · obtain rfl : k = m.length := by omega
      have hit : its = true := by rw [HIT.out, List.take_length]; exact List.any_eq_true.2 ⟨y, (one_mem HMY.out).1, by simp⟩
      subst hit
      have hqq := fun w => (show (binOp .eql 27 (.agg #[(.int .u8 0), (.int .u64 0), (.int .u64 0), (.int .i64 0)]) (.agg #[(.int .u8 0), (.int .u64 0), (.int .u64 0), (.int .i64 0)])).run Try.prog w = .ok (.bool true) w from by
        have := run_eqlP zeroP zeroP w
        rw [beq_self_eq_true] at this
        exact this)
      have HQQ := Lib.hid hqq
      clear hqq
      have a0 : wr.cell? ⟨(w.heap.size + 1), 0, none⟩ = some (.int .u8 (a.1.toNat : Int)) := by rw [blk_cell HE.out.b5]; rfl
      have a1 : wr.cell? ⟨(w.heap.size + 1), 1, none⟩ = some (.int .u64 (a.2.1.toNat : Int)) := by rw [blk_cell HE.out.b5]; rfl
      have a2 : wr.cell? ⟨(w.heap.size + 1), 2, none⟩ = some (.int .u64 (a.2.2.toNat : Int)) := by rw [blk_cell HE.out.b5]; rfl
      by_cases h4 : a.1 = 4
      · have z4 : ((a.1.toNat : Int) == 4) = true := int_u8_eq (c := 4) h4
        have HWD := Lib.hid (show mostL (fun q => within (a, 32) q) m = none by
          have e : width a.1 = 32 := by unfold width; rw [if_pos h4]
          have := one_whole a m
          rw [e] at this
          exact this.trans HMX.out)
        clear h4
        go_wp2_with fail
        refine (whole _ m (a, 32) _ HE.out.ml (by omega)).mono ?_
        rintro e w9 ⟨rfl, hb⟩
        rw [HWD.out]
        rw [show (encP ((Option.none : Option Pf).getD zeroP)) = (.agg #[.int .u8 0, .int .u64 0, .int .u64 0, .int .i64 0] : Value) from rfl]
        have HE9 := Lib.hid (HE.out.kept hb)
        clear hb a0 a1 a2
        have x0 : w9.cell? ⟨b8, 0, none⟩ = some (.int .u8 0) := by rw [blk_cell HE9.out.b8]; rfl
        have x1 : w9.cell? ⟨b8, 1, none⟩ = some (.int .u64 0) := by rw [blk_cell HE9.out.b8]; rfl
        have x2 : w9.cell? ⟨b8, 2, none⟩ = some (.int .u64 0) := by rw [blk_cell HE9.out.b8]; rfl
        have x3 : w9.cell? ⟨b8, 3, none⟩ = some (.int .i64 0) := by rw [blk_cell HE9.out.b8]; rfl
        have hk8 : b8 < w9.heap.size := blk_lt HE9.out.b8
        have hqq := HQQ.out
        go_wp2_with fail
        have HB9 := Lib.hid (HE9.out.bel.alloc HE9.out.bel.size (.cells #[(.int .u8 0), (.int .u64 0), (.int .u64 0), (.int .i64 0)] 27))
        clear x0 x1 x2 x3 hqq hk8
        refine (awake _).mono ?_
        rintro e w10 ⟨rfl, hb⟩
        have HBF := Lib.hid (below_step HB9.out hb HB9.out.size)
        clear hb
        go_wp2_with fail
        go_ret
        exact ⟨rfl, HBF.out⟩
      · have z4 : ((a.1.toNat : Int) == 4) = false := int_u8_ne (c := 4) h4
        have HWD := Lib.hid (show mostL (fun q => within (a, 128) q) m = none by
          have e : width a.1 = 128 := by unfold width; rw [if_neg h4]
          have := one_whole a m
          rw [e] at this
          exact this.trans HMX.out)
        clear h4
        go_wp2_with fail
        refine (whole _ m (a, 128) _ HE.out.ml (by omega)).mono ?_
        rintro e w9 ⟨rfl, hb⟩
        rw [HWD.out]
        rw [show (encP ((Option.none : Option Pf).getD zeroP)) = (.agg #[.int .u8 0, .int .u64 0, .int .u64 0, .int .i64 0] : Value) from rfl]
        have HE9 := Lib.hid (HE.out.kept hb)
        clear hb a0 a1 a2
        have x0 : w9.cell? ⟨b8, 0, none⟩ = some (.int .u8 0) := by rw [blk_cell HE9.out.b8]; rfl
        have x1 : w9.cell? ⟨b8, 1, none⟩ = some (.int .u64 0) := by rw [blk_cell HE9.out.b8]; rfl
        have x2 : w9.cell? ⟨b8, 2, none⟩ = some (.int .u64 0) := by rw [blk_cell HE9.out.b8]; rfl
        have x3 : w9.cell? ⟨b8, 3, none⟩ = some (.int .i64 0) := by rw [blk_cell HE9.out.b8]; rfl
        have hk8 : b8 < w9.heap.size := blk_lt HE9.out.b8
        have hqq := HQQ.out
        go_wp2_with fail
        have HB9 := Lib.hid (HE9.out.bel.alloc HE9.out.bel.size (.cells #[(.int .u8 0), (.int .u64 0), (.int .u64 0), (.int .i64 0)] 27))
        clear x0 x1 x2 x3 hqq hk8
        refine (awake _).mono ?_
        rintro e w10 ⟨rfl, hb⟩
        have HBF := Lib.hid (below_step HB9.out hb HB9.out.size)
        clear hb
        go_wp2_with fail
        go_ret
        exact ⟨rfl, HBF.out⟩

set_option maxRecDepth 100000 in
set_option maxHeartbeats 8000000 in
theorem one_00 (ao : Option Addr) (cap : Nat) (l : List Pf) (p : Pf) (a : Ad) (w : World) (h : PfsAt w (.slice ao l.length cap) l) (hn : l.length ≤ 60)
    (hmx : mostL (fun q => hasP q a) (madeL l) = none) (hmy : mostL (fun q => within p q) (madeL l) = none) :
    Calls Try.prog 4 #[.slice ao l.length cap, encP p, encA a] w (AwPost w) := by
  have HV := Lib.hid h
  obtain ⟨m, hm⟩ : ∃ m, m = madeL l := ⟨_, rfl⟩
  rw [← hm] at hmx hmy
  have hml : m.length ≤ l.length := by rw [hm]; exact (madeL_is l).2.2
  have HM := Lib.hid hm
  have HMX := Lib.hid hmx
  have HMY := Lib.hid hmy
  clear h hm hmx hmy
  have hb0 : Below w.heap.size w ((w.alloc (.cells #[.int .u8 (p.1.1.toNat : Int), .int .u64 (p.1.2.1.toNat : Int), .int .u64 (p.1.2.2.toNat : Int), .int .i64 p.2] 27)).alloc (.cells #[.int .u8 (a.1.toNat : Int), .int .u64 (a.2.1.toNat : Int), .int .u64 (a.2.2.toNat : Int)] 25)) := ((Below.refl _ _).alloc (Nat.le_refl _) _).alloc (by simp) _
  have HG4 := Lib.hid (blk_alloc (heap_alloc_new w (.cells #[.int .u8 (p.1.1.toNat : Int), .int .u64 (p.1.2.1.toNat : Int), .int .u64 (p.1.2.2.toNat : Int), .int .i64 p.2] 27)) (.cells #[.int .u8 (a.1.toNat : Int), .int .u64 (a.2.1.toNat : Int), .int .u64 (a.2.2.toNat : Int)] 25))
  have hg5 := heap_alloc_new (w.alloc (.cells #[.int .u8 (p.1.1.toNat : Int), .int .u64 (p.1.2.1.toNat : Int), .int .u64 (p.1.2.2.toNat : Int), .int .i64 p.2] 27)) (.cells #[.int .u8 (a.1.toNat : Int), .int .u64 (a.2.1.toNat : Int), .int .u64 (a.2.2.toNat : Int)] 25)
  rw [World.size_alloc] at hg5
  have HG5 := Lib.hid hg5
  have HB0 := Lib.hid hb0
  have HNG := Lib.hid (show decide (60 < l.length) = false by simp; omega)
  have hgr := great_any ao l.length cap
  have HGR := Lib.hid hgr
  clear hb0 hg5 hgr
  go_enter Try.func4, Try.ntmps4
  go_wp2_with fail
  generalize (w.alloc (.cells #[.int .u8 (p.1.1.toNat : Int), .int .u64 (p.1.2.1.toNat : Int), .int .u64 (p.1.2.2.toNat : Int), .int .i64 p.2] 27)).alloc (.cells #[.int .u8 (a.1.toNat : Int), .int .u64 (a.2.1.toNat : Int), .int .u64 (a.2.2.toNat : Int)] 25) = w0 at *
  refine (HGR.out _ (by omega)).mono ?_
  rintro e w0' ⟨rfl, rfl⟩
  rw [HNG.out]
  go_wp2_with fail
  refine (made_any _ l _ (HV.out.kept HB0.out) hn).mono ?_
  rintro e w1 ⟨mv, rfl, hmv, hb⟩
  rw [← HM.out] at hmv
  obtain ⟨mo, mcap, hmo⟩ := elems_slice hmv
  subst hmo
  have HMV := Lib.hid hmv
  have HB1 := Lib.hid (below_step HB0.out hb HB0.out.size)
  have H4 := Lib.hid (blk_kept hb HG4.out)
  have H5 := Lib.hid (blk_kept hb HG5.out)
  have a0 : w1.cell? ⟨(w.heap.size + 1), 0, none⟩ = some (.int .u8 (a.1.toNat : Int)) := by rw [blk_cell H5.out]; rfl
  have a1 : w1.cell? ⟨(w.heap.size + 1), 1, none⟩ = some (.int .u64 (a.2.1.toNat : Int)) := by rw [blk_cell H5.out]; rfl
  have a2 : w1.cell? ⟨(w.heap.size + 1), 2, none⟩ = some (.int .u64 (a.2.2.toNat : Int)) := by rw [blk_cell H5.out]; rfl
  clear hb hmv
  go_wp2_with fail
  refine (innermost _ m a _ HMV.out (by omega)).mono ?_
  rintro e w2 ⟨rfl, hb⟩
  rw [HMX.out]
  rw [show (encP ((Option.none : Option Pf).getD zeroP)) = (.agg #[.int .u8 0, .int .u64 0, .int .u64 0, .int .i64 0] : Value) from rfl]
  have HMV2 := Lib.hid (HMV.out.kept hb)
  have HB2 := Lib.hid (below_step HB1.out hb HB1.out.size)
  have H42 := Lib.hid (blk_kept hb H4.out)
  have H52 := Lib.hid (blk_kept hb H5.out)
  clear hb a0 a1 a2
  have p0 : w2.cell? ⟨w.heap.size, 0, none⟩ = some (.int .u8 (p.1.1.toNat : Int)) := by rw [blk_cell H42.out]; rfl
  have p1 : w2.cell? ⟨w.heap.size, 1, none⟩ = some (.int .u64 (p.1.2.1.toNat : Int)) := by rw [blk_cell H42.out]; rfl
  have p2 : w2.cell? ⟨w.heap.size, 2, none⟩ = some (.int .u64 (p.1.2.2.toNat : Int)) := by rw [blk_cell H42.out]; rfl
  have p3 : w2.cell? ⟨w.heap.size, 3, none⟩ = some (.int .i64 p.2) := by rw [blk_cell H42.out]; rfl
  have hk0 : w.heap.size < w2.heap.size := blk_lt H42.out
  go_wp2_with fail
  clear p0 p1 p2 p3 hk0
  have hbx : Below w2.heap.size w2 (w2.alloc (.cells #[(.int .u8 0), (.int .u64 0), (.int .u64 0), (.int .i64 0)] 27)) := (Below.refl _ _).alloc (Nat.le_refl _) _
  have HX1 := Lib.hid (heap_alloc_new w2 (.cells #[(.int .u8 0), (.int .u64 0), (.int .u64 0), (.int .i64 0)] 27))
  have HMV3 := Lib.hid (HMV2.out.kept hbx)
  have HB3 := Lib.hid (below_step HB2.out hbx HB2.out.size)
  have H43 := Lib.hid (blk_kept hbx H42.out)
  have H53 := Lib.hid (blk_kept hbx H52.out)
  clear hbx
  obtain ⟨b8, hb8⟩ : ∃ b, b = w2.heap.size := ⟨_, rfl⟩
  rw [← hb8] at HX1 ⊢
  clear hb8
  generalize w2.alloc (.cells #[(.int .u8 0), (.int .u64 0), (.int .u64 0), (.int .i64 0)] 27) = w3 at *
  refine (whole _ m p _ HMV3.out (by omega)).mono ?_
  rintro e w4 ⟨rfl, hb⟩
  rw [HMY.out]
  rw [show (encP ((Option.none : Option Pf).getD zeroP)) = (.agg #[.int .u8 0, .int .u64 0, .int .u64 0, .int .i64 0] : Value) from rfl]
  have HMV4 := Lib.hid (HMV3.out.kept hb)
  have HB4 := Lib.hid (below_step HB3.out hb HB3.out.size)
  have H44 := Lib.hid (blk_kept hb H43.out)
  have H54 := Lib.hid (blk_kept hb H53.out)
  have HX2 := Lib.hid (blk_kept hb HX1.out)
  clear hb
  obtain ⟨w5, hw5⟩ : ∃ w5, w5 = w4.alloc (.cells #[(.int .u8 0), (.int .u64 0), (.int .u64 0), (.int .i64 0)] 27) := ⟨_, rfl⟩
  obtain ⟨b10, hb10⟩ : ∃ b, b = w4.heap.size := ⟨_, rfl⟩
  have hbx : Below w4.heap.size w4 w5 := by rw [hw5]; exact (Below.refl _ _).alloc (Nat.le_refl _) _
  have HE5 := Lib.hid (show Env w m p a zeroP zeroY (.slice mo m.length mcap) b8 b10 w5 from ⟨blk_kept hbx H44.out, blk_kept hbx H54.out, blk_kept hbx HX2.out, by rw [hw5, hb10]; exact heap_alloc_new _ _, HMV4.out.kept hbx, below_step HB4.out hbx HB4.out.size⟩)
  have HW5 := Lib.hid hw5
  have HB10 := Lib.hid hb10
  have hk1 : w.heap.size < w4.heap.size := blk_lt H44.out
  have hk2 : w.heap.size + 1 < w4.heap.size := blk_lt H54.out
  have hk3 : b8 < w4.heap.size := blk_lt HX2.out
  have p0 : w4.cell? ⟨w.heap.size, 0, none⟩ = some (.int .u8 (p.1.1.toNat : Int)) := by rw [blk_cell H44.out]; rfl
  have p1 : w4.cell? ⟨w.heap.size, 1, none⟩ = some (.int .u64 (p.1.2.1.toNat : Int)) := by rw [blk_cell H44.out]; rfl
  have p2 : w4.cell? ⟨w.heap.size, 2, none⟩ = some (.int .u64 (p.1.2.2.toNat : Int)) := by rw [blk_cell H44.out]; rfl
  have p3 : w4.cell? ⟨w.heap.size, 3, none⟩ = some (.int .i64 p.2) := by rw [blk_cell H44.out]; rfl
  have a0 : w4.cell? ⟨(w.heap.size + 1), 0, none⟩ = some (.int .u8 (a.1.toNat : Int)) := by rw [blk_cell H54.out]; rfl
  have a1 : w4.cell? ⟨(w.heap.size + 1), 1, none⟩ = some (.int .u64 (a.2.1.toNat : Int)) := by rw [blk_cell H54.out]; rfl
  have a2 : w4.cell? ⟨(w.heap.size + 1), 2, none⟩ = some (.int .u64 (a.2.2.toNat : Int)) := by rw [blk_cell H54.out]; rfl
  have x0 : w4.cell? ⟨b8, 0, none⟩ = some (.int .u8 0) := by rw [blk_cell HX2.out]; rfl
  have x1 : w4.cell? ⟨b8, 1, none⟩ = some (.int .u64 0) := by rw [blk_cell HX2.out]; rfl
  have x2 : w4.cell? ⟨b8, 2, none⟩ = some (.int .u64 0) := by rw [blk_cell HX2.out]; rfl
  have x3 : w4.cell? ⟨b8, 3, none⟩ = some (.int .i64 0) := by rw [blk_cell HX2.out]; rfl
  clear hbx hw5 hb10
  go_wp2_with fail
  rw [← HW5.out, ← HB10.out]
  clear p0 p1 p2 p3 a0 a1 a2 x0 x1 x2 x3 hk1 hk2 hk3
  go_loopw [12, 13, 14] (fun v12 v13 v14 wr => ∃ k : Nat, k ≤ m.length ∧ v14 = .int .i64 k ∧ v12 = .bool ((m.take k).any (fun q => q == zeroP)) ∧ v13 = .bool ((m.take k).any (fun q => q == zeroY)) ∧ Env w m p a zeroP zeroY (.slice mo m.length mcap) b8 b10 wr) (fun _ _ vi _ => m.length - (intOf vi).toNat)
  case atStart => exact ⟨0, Nat.zero_le _, rfl, rfl, rfl, HE5.out⟩
  case round =>
    obtain ⟨k, hk, rfl, rfl, rfl, henv⟩ := hrel
    have HE := Lib.hid henv
    clear henv
    obtain ⟨mine, hmine⟩ : ∃ b, b = (m.take k).any (fun q => q == zeroP) := ⟨_, rfl⟩
    obtain ⟨its, hits⟩ : ∃ b, b = (m.take k).any (fun q => q == zeroY) := ⟨_, rfl⟩
    rw [← hmine, ← hits]
    have HMI := Lib.hid hmine
    have HIT := Lib.hid hits
    clear hmine hits
    by_cases hlt : k < m.length
    · obtain ⟨b, off, cap', hve, hcs⟩ := pfs_cells HE.out.ml (by omega)
      cases hve
      have HCS := Lib.hid (hcs k hlt)
      clear hcs
      obtain ⟨q, hq⟩ : ∃ q, q = m[k] := ⟨_, rfl⟩
      rw [← hq] at HCS
      have HQM := Lib.hid (show q ∈ m from hq ▸ List.getElem_mem hlt)
      have HS1 := Lib.hid (show (m.take (k + 1)).any (fun q => q == zeroP) = (mine || (q == zeroP)) by rw [List.take_succ_eq_append_getElem hlt, List.any_append, ← HMI.out, ← hq]; simp)
      have HS2 := Lib.hid (show (m.take (k + 1)).any (fun q => q == zeroY) = (its || (q == zeroY)) by rw [List.take_succ_eq_append_getElem hlt, List.any_append, ← HIT.out, ← hq]; simp)
      clear hq
      obtain ⟨hI, hhI⟩ : ∃ b, b = hasP q a := ⟨_, rfl⟩
      obtain ⟨pI, hpI⟩ : ∃ b, b = within p q := ⟨_, rfl⟩
      have HQA := Lib.hid (fun W => (hasP_any q a W))
      have HPQ := Lib.hid (fun W => (within_any p q W))
      rw [← hhI] at HQA
      rw [← hpI] at HPQ
      have hI0 : hI = false := by rw [hhI]; exact one_none HMX.out HQM.out
      have pI0 : pI = false := by rw [hpI]; exact one_none HMY.out HQM.out
      clear hhI hpI
      have hcs := HCS.out
      have q0 := hcs.c0
      have q1 := hcs.c1
      have q2 := hcs.c2
      have q3 := hcs.c3
      have hqx := fun w => (show (binOp .eql 27 (encP q) (.agg #[(.int .u8 0), (.int .u64 0), (.int .u64 0), (.int .i64 0)])).run Try.prog w = .ok (.bool (q == zeroP)) w from run_eqlP q zeroP w)
      have hqy := fun w => (show (binOp .eql 27 (encP q) (.agg #[(.int .u8 0), (.int .u64 0), (.int .u64 0), (.int .i64 0)])).run Try.prog w = .ok (.bool (q == zeroY)) w from run_eqlP q zeroY w)
      have HQX := Lib.hid hqx
      have HQY := Lib.hid hqy
      clear hqx hqy
      obtain ⟨ex, hex⟩ : ∃ b, b = (q == zeroP) := ⟨_, rfl⟩
      obtain ⟨ey, hey⟩ : ∃ b, b = (q == zeroY) := ⟨_, rfl⟩
      rw [← hex] at HQX HS1
      rw [← hey] at HQY HS2
      have hxy : ey = ex := by rw [hex, hey]; rfl
      clear hex hey
      subst hxy
      have m0 : (0 : Int) ≤ (k : Int) := by omega
      have m1 : (k : Int) < (m.length : Int) := by omega
      have p0 : wr.cell? ⟨w.heap.size, 0, none⟩ = some (.int .u8 (p.1.1.toNat : Int)) := by rw [blk_cell HE.out.b4]; rfl
      have p1 : wr.cell? ⟨w.heap.size, 1, none⟩ = some (.int .u64 (p.1.2.1.toNat : Int)) := by rw [blk_cell HE.out.b4]; rfl
      have p2 : wr.cell? ⟨w.heap.size, 2, none⟩ = some (.int .u64 (p.1.2.2.toNat : Int)) := by rw [blk_cell HE.out.b4]; rfl
      have p3 : wr.cell? ⟨w.heap.size, 3, none⟩ = some (.int .i64 p.2) := by rw [blk_cell HE.out.b4]; rfl
      have a0 : wr.cell? ⟨(w.heap.size + 1), 0, none⟩ = some (.int .u8 (a.1.toNat : Int)) := by rw [blk_cell HE.out.b5]; rfl
      have a1 : wr.cell? ⟨(w.heap.size + 1), 1, none⟩ = some (.int .u64 (a.2.1.toNat : Int)) := by rw [blk_cell HE.out.b5]; rfl
      have a2 : wr.cell? ⟨(w.heap.size + 1), 2, none⟩ = some (.int .u64 (a.2.2.toNat : Int)) := by rw [blk_cell HE.out.b5]; rfl
      have x0 : wr.cell? ⟨b8, 0, none⟩ = some (.int .u8 0) := by rw [blk_cell HE.out.b8]; rfl
      have x1 : wr.cell? ⟨b8, 1, none⟩ = some (.int .u64 0) := by rw [blk_cell HE.out.b8]; rfl
      have x2 : wr.cell? ⟨b8, 2, none⟩ = some (.int .u64 0) := by rw [blk_cell HE.out.b8]; rfl
      have x3 : wr.cell? ⟨b8, 3, none⟩ = some (.int .i64 0) := by rw [blk_cell HE.out.b8]; rfl
      have y0 : wr.cell? ⟨b10, 0, none⟩ = some (.int .u8 0) := by rw [blk_cell HE.out.b10]; rfl
      have y1 : wr.cell? ⟨b10, 1, none⟩ = some (.int .u64 0) := by rw [blk_cell HE.out.b10]; rfl
      have y2 : wr.cell? ⟨b10, 2, none⟩ = some (.int .u64 0) := by rw [blk_cell HE.out.b10]; rfl
      have y3 : wr.cell? ⟨b10, 3, none⟩ = some (.int .i64 0) := by rw [blk_cell HE.out.b10]; rfl
      have Lq0 : ∀ zz : Later wr.heap.size wr, zz.val.cell? ⟨b, off + k * 4, none⟩ = some (.int .u8 (q.1.1.toNat : Int)) := fun zz => Later.cell q0 (World.block_lt_of_cell? _ _ q0) zz
      have Lq1 : ∀ zz : Later wr.heap.size wr, zz.val.cell? ⟨b, off + k * 4 + 1, none⟩ = some (.int .u64 (q.1.2.1.toNat : Int)) := fun zz => Later.cell q1 (World.block_lt_of_cell? _ _ q1) zz
      have Lq2 : ∀ zz : Later wr.heap.size wr, zz.val.cell? ⟨b, off + k * 4 + 2, none⟩ = some (.int .u64 (q.1.2.2.toNat : Int)) := fun zz => Later.cell q2 (World.block_lt_of_cell? _ _ q2) zz
      have Lq3 : ∀ zz : Later wr.heap.size wr, zz.val.cell? ⟨b, off + k * 4 + 3, none⟩ = some (.int .i64 q.2) := fun zz => Later.cell q3 (World.block_lt_of_cell? _ _ q3) zz
      have Lp0 : ∀ zz : Later wr.heap.size wr, zz.val.cell? ⟨w.heap.size, 0, none⟩ = some (.int .u8 (p.1.1.toNat : Int)) := fun zz => Later.cell p0 (World.block_lt_of_cell? _ _ p0) zz
      have Lp1 : ∀ zz : Later wr.heap.size wr, zz.val.cell? ⟨w.heap.size, 1, none⟩ = some (.int .u64 (p.1.2.1.toNat : Int)) := fun zz => Later.cell p1 (World.block_lt_of_cell? _ _ p1) zz
      have Lp2 : ∀ zz : Later wr.heap.size wr, zz.val.cell? ⟨w.heap.size, 2, none⟩ = some (.int .u64 (p.1.2.2.toNat : Int)) := fun zz => Later.cell p2 (World.block_lt_of_cell? _ _ p2) zz
      have Lp3 : ∀ zz : Later wr.heap.size wr, zz.val.cell? ⟨w.heap.size, 3, none⟩ = some (.int .i64 p.2) := fun zz => Later.cell p3 (World.block_lt_of_cell? _ _ p3) zz
      have La0 : ∀ zz : Later wr.heap.size wr, zz.val.cell? ⟨(w.heap.size + 1), 0, none⟩ = some (.int .u8 (a.1.toNat : Int)) := fun zz => Later.cell a0 (World.block_lt_of_cell? _ _ a0) zz
      have La1 : ∀ zz : Later wr.heap.size wr, zz.val.cell? ⟨(w.heap.size + 1), 1, none⟩ = some (.int .u64 (a.2.1.toNat : Int)) := fun zz => Later.cell a1 (World.block_lt_of_cell? _ _ a1) zz
      have La2 : ∀ zz : Later wr.heap.size wr, zz.val.cell? ⟨(w.heap.size + 1), 2, none⟩ = some (.int .u64 (a.2.2.toNat : Int)) := fun zz => Later.cell a2 (World.block_lt_of_cell? _ _ a2) zz
      have Lx0 : ∀ zz : Later wr.heap.size wr, zz.val.cell? ⟨b8, 0, none⟩ = some (.int .u8 0) := fun zz => Later.cell x0 (World.block_lt_of_cell? _ _ x0) zz
      have Lx1 : ∀ zz : Later wr.heap.size wr, zz.val.cell? ⟨b8, 1, none⟩ = some (.int .u64 0) := fun zz => Later.cell x1 (World.block_lt_of_cell? _ _ x1) zz
      have Lx2 : ∀ zz : Later wr.heap.size wr, zz.val.cell? ⟨b8, 2, none⟩ = some (.int .u64 0) := fun zz => Later.cell x2 (World.block_lt_of_cell? _ _ x2) zz
      have Lx3 : ∀ zz : Later wr.heap.size wr, zz.val.cell? ⟨b8, 3, none⟩ = some (.int .i64 0) := fun zz => Later.cell x3 (World.block_lt_of_cell? _ _ x3) zz
      have Ly0 : ∀ zz : Later wr.heap.size wr, zz.val.cell? ⟨b10, 0, none⟩ = some (.int .u8 0) := fun zz => Later.cell y0 (World.block_lt_of_cell? _ _ y0) zz
      have Ly1 : ∀ zz : Later wr.heap.size wr, zz.val.cell? ⟨b10, 1, none⟩ = some (.int .u64 0) := fun zz => Later.cell y1 (World.block_lt_of_cell? _ _ y1) zz
      have Ly2 : ∀ zz : Later wr.heap.size wr, zz.val.cell? ⟨b10, 2, none⟩ = some (.int .u64 0) := fun zz => Later.cell y2 (World.block_lt_of_cell? _ _ y2) zz
      have Ly3 : ∀ zz : Later wr.heap.size wr, zz.val.cell? ⟨b10, 3, none⟩ = some (.int .i64 0) := fun zz => Later.cell y3 (World.block_lt_of_cell? _ _ y3) zz
      clear p0 p1 p2 p3 a0 a1 a2 x0 x1 x2 x3 y0 y1 y2 y3 q0 q1 q2 q3 hcs
      subst hI0
      subst pI0
      all_goals
        go_wp2_with fail
        refine wp_region_later wr.heap.size (by kernel_rfl) (by kernel_rfl) ?_
        repeat (go_big_quiet_step ((first | (go_at_call 22; exact Later.calls (Nat.le_refl _) (HQA.out _)) | (go_at_call 23; with_reducible exact Later.calls (Nat.le_refl _) (HPQ.out _)))))
        refine wpQuiet_nil ?_
        rintro w7 ⟨xx, rfl⟩
        have HE7 := Lib.hid (HE.out.kept xx.prop)
        have hcs := HCS.out.kept xx.prop
        clear Lp0 Lp1 Lp2 Lp3 La0 La1 La2 Lx0 Lx1 Lx2 Lx3 Ly0 Ly1 Ly2 Ly3 Lq0 Lq1 Lq2 Lq3
        generalize xx.val = w8 at *
        have q0 := hcs.c0
        have q1 := hcs.c1
        have q2 := hcs.c2
        have q3 := hcs.c3
        have x0 : w8.cell? ⟨b8, 0, none⟩ = some (.int .u8 0) := by rw [blk_cell HE7.out.b8]; rfl
        have x1 : w8.cell? ⟨b8, 1, none⟩ = some (.int .u64 0) := by rw [blk_cell HE7.out.b8]; rfl
        have x2 : w8.cell? ⟨b8, 2, none⟩ = some (.int .u64 0) := by rw [blk_cell HE7.out.b8]; rfl
        have x3 : w8.cell? ⟨b8, 3, none⟩ = some (.int .i64 0) := by rw [blk_cell HE7.out.b8]; rfl
        have y0 : w8.cell? ⟨b10, 0, none⟩ = some (.int .u8 0) := by rw [blk_cell HE7.out.b10]; rfl
        have y1 : w8.cell? ⟨b10, 1, none⟩ = some (.int .u64 0) := by rw [blk_cell HE7.out.b10]; rfl
        have y2 : w8.cell? ⟨b10, 2, none⟩ = some (.int .u64 0) := by rw [blk_cell HE7.out.b10]; rfl
        have y3 : w8.cell? ⟨b10, 3, none⟩ = some (.int .i64 0) := by rw [blk_cell HE7.out.b10]; rfl
        have hqx := HQX.out
        have hqy := HQY.out
        clear hcs
        cases mine <;> cases its
        all_goals
          go_wp2_with fail
          go_quiet (fail)
          go_wp2_with fail
          go_quiet (fail)
          clear hqx hqy q0 q1 q2 q3 x0 x1 x2 x3 y0 y1 y2 y3
          go_wp2_with fail
          go_roundw
          case rel => exact ⟨k + 1, hlt, by go_num, by rw [HS1.out]; rfl, by rw [HS2.out]; rfl, HE7.out.kept ⟨rfl, rfl, rfl, Nat.le_refl _, fun _ _ => rfl⟩⟩
          case measure => simp [intOf]; omega
    · obtain rfl : k = m.length := by omega
      have hqq := fun w => (show (binOp .eql 27 (.agg #[(.int .u8 0), (.int .u64 0), (.int .u64 0), (.int .i64 0)]) (.agg #[(.int .u8 0), (.int .u64 0), (.int .u64 0), (.int .i64 0)])).run Try.prog w = .ok (.bool true) w from by
        have := run_eqlP zeroP zeroP w
        rw [beq_self_eq_true] at this
        exact this)
      have HQQ := Lib.hid hqq
      clear hqq
      have a0 : wr.cell? ⟨(w.heap.size + 1), 0, none⟩ = some (.int .u8 (a.1.toNat : Int)) := by rw [blk_cell HE.out.b5]; rfl
      have a1 : wr.cell? ⟨(w.heap.size + 1), 1, none⟩ = some (.int .u64 (a.2.1.toNat : Int)) := by rw [blk_cell HE.out.b5]; rfl
      have a2 : wr.cell? ⟨(w.heap.size + 1), 2, none⟩ = some (.int .u64 (a.2.2.toNat : Int)) := by rw [blk_cell HE.out.b5]; rfl
      by_cases h4 : a.1 = 4
      · have z4 : ((a.1.toNat : Int) == 4) = true := int_u8_eq (c := 4) h4
        have HWD := Lib.hid (show mostL (fun q => within (a, 32) q) m = none by
          have e : width a.1 = 32 := by unfold width; rw [if_pos h4]
          have := one_whole a m
          rw [e] at this
          exact this.trans HMX.out)
        clear h4
        go_wp2_with fail
        refine (whole _ m (a, 32) _ HE.out.ml (by omega)).mono ?_
        rintro e w9 ⟨rfl, hb⟩
        rw [HWD.out]
        rw [show (encP ((Option.none : Option Pf).getD zeroP)) = (.agg #[.int .u8 0, .int .u64 0, .int .u64 0, .int .i64 0] : Value) from rfl]
        have HE9 := Lib.hid (HE.out.kept hb)
        clear hb a0 a1 a2
        have x0 : w9.cell? ⟨b8, 0, none⟩ = some (.int .u8 0) := by rw [blk_cell HE9.out.b8]; rfl
        have x1 : w9.cell? ⟨b8, 1, none⟩ = some (.int .u64 0) := by rw [blk_cell HE9.out.b8]; rfl
        have x2 : w9.cell? ⟨b8, 2, none⟩ = some (.int .u64 0) := by rw [blk_cell HE9.out.b8]; rfl
        have x3 : w9.cell? ⟨b8, 3, none⟩ = some (.int .i64 0) := by rw [blk_cell HE9.out.b8]; rfl
        have hk8 : b8 < w9.heap.size := blk_lt HE9.out.b8
        have hqq := HQQ.out
        go_wp2_with fail
        have HB9 := Lib.hid (HE9.out.bel.alloc HE9.out.bel.size (.cells #[(.int .u8 0), (.int .u64 0), (.int .u64 0), (.int .i64 0)] 27))
        clear x0 x1 x2 x3 hqq hk8
        refine (awake _).mono ?_
        rintro e w10 ⟨rfl, hb⟩
        have HBF := Lib.hid (below_step HB9.out hb HB9.out.size)
        clear hb
        go_wp2_with fail
        go_ret
        exact ⟨rfl, HBF.out⟩
      · have z4 : ((a.1.toNat : Int) == 4) = false := int_u8_ne (c := 4) h4
        have HWD := Lib.hid (show mostL (fun q => within (a, 128) q) m = none by
          have e : width a.1 = 128 := by unfold width; rw [if_neg h4]
          have := one_whole a m
          rw [e] at this
          exact this.trans HMX.out)
        clear h4
        go_wp2_with fail
        refine (whole _ m (a, 128) _ HE.out.ml (by omega)).mono ?_
        rintro e w9 ⟨rfl, hb⟩
        rw [HWD.out]
        rw [show (encP ((Option.none : Option Pf).getD zeroP)) = (.agg #[.int .u8 0, .int .u64 0, .int .u64 0, .int .i64 0] : Value) from rfl]
        have HE9 := Lib.hid (HE.out.kept hb)
        clear hb a0 a1 a2
        have x0 : w9.cell? ⟨b8, 0, none⟩ = some (.int .u8 0) := by rw [blk_cell HE9.out.b8]; rfl
        have x1 : w9.cell? ⟨b8, 1, none⟩ = some (.int .u64 0) := by rw [blk_cell HE9.out.b8]; rfl
        have x2 : w9.cell? ⟨b8, 2, none⟩ = some (.int .u64 0) := by rw [blk_cell HE9.out.b8]; rfl
        have x3 : w9.cell? ⟨b8, 3, none⟩ = some (.int .i64 0) := by rw [blk_cell HE9.out.b8]; rfl
        have hk8 : b8 < w9.heap.size := blk_lt HE9.out.b8
        have hqq := HQQ.out
        go_wp2_with fail
        have HB9 := Lib.hid (HE9.out.bel.alloc HE9.out.bel.size (.cells #[(.int .u8 0), (.int .u64 0), (.int .u64 0), (.int .i64 0)] 27))
        clear x0 x1 x2 x3 hqq hk8
        refine (awake _).mono ?_
        rintro e w10 ⟨rfl, hb⟩
        have HBF := Lib.hid (below_step HB9.out hb HB9.out.size)
        clear hb
        go_wp2_with fail
        go_ret
        exact ⟨rfl, HBF.out⟩
end Go.Proofs.Try.Pfx
