/- The program's Least; what the laws of gap use: Great, a4, a6, span, given, same. -/
import Derived.Test.YtmnfddmjlkkcoaaGr5
set_option linter.unusedVariables false
set_option linter.unusedSimpArgs false
namespace Go.Proofs.Try.Gp
open Go.RowKit Go.Cph Go.Cph.Px Go.Cph.Gp Go.Cph.So
open Pfx (encA)
def LeastPostP (a b : Ad) (P : Nat → Prop) (w : World) (e : Ending) (w' : World) : Prop := (∃ r, e = .returned (encAB r) ∧ LeastIs a b P r) ∧ Below w.heap.size w w'
abbrev box0a : Obj := .cells #[.int .u8 0, .int .u64 0, .int .u64 0] 25 (0, 0)
theorem put_box0a {W : World} {g : Nat} (h : W.heap[g]? = some box0a) (a : Ad) : (putA W g 0 a).heap[g]? = some (boxA a) := blk_set (blk_set (blk_set h 0 _) 1 _) 2 _
/-- The boxes of Least's call: from, to, the result's. -/
structure St3 (w : World) (n : Nat) (a b : Ad) (W : World) : Prop where
  ga : W.heap[n]? = some (boxA a)
  gb : W.heap[n + 1]? = some (boxA b)
  gr : W.heap[n + 1 + 1]? = some box0a
  bel : Below n w W
theorem St3.later {w W W' : World} {n : Nat} {a b : Ad} (h : St3 w n a b W) (hb : Below W.heap.size W W') : St3 w n a b W' :=
  ⟨blk_kept hb h.ga, blk_kept hb h.gb, blk_kept hb h.gr, below_step h.bel hb (by have := blk_lt h.gr; omega)⟩

set_option maxRecDepth 100000 in
set_option maxHeartbeats 8000000 in
theorem least_any (a b : Ad) (v : Value) (ls : List (List Sp)) (w : World) (h : SpsOf w v ls) (hl : ls.length ≤ 100000) (hn : ls.flatten.length ≤ 1000000) :
    Calls Try.prog 18 #[encA a, encA b, v] w (LeastPostP a b (covS ls.flatten) w) := by
  have HF := Lib.hid (fun (W : World) (hb : Below w.heap.size w W) => free_any a b v ls W (h.kept hb) hl hn)
  have HST := Lib.hid (show St3 w w.heap.size a b (((w.alloc (boxA a)).alloc (boxA b)).alloc box0a) from by
    have h1 := heap_alloc_new (w.alloc (boxA a)) (boxA b)
    have h2 := heap_alloc_new ((w.alloc (boxA a)).alloc (boxA b)) box0a
    simp only [World.size_alloc] at h1 h2
    exact ⟨blk_alloc (blk_alloc (heap_alloc_new w (boxA a)) _) _, blk_alloc h1 _, h2, (((Below.refl _ _).alloc (Nat.le_refl _) _).alloc (by simp) _).alloc (by simp; omega) _⟩)
  obtain ⟨n, hn⟩ : ∃ n, n = w.heap.size := ⟨_, rfl⟩
  have HN := Lib.hid hn
  clear hn h hl
  go_enter Try.func18, Try.ntmps18
  go_upto_region 1 with (fail)
  generalize ((w.alloc (boxA a)).alloc (boxA b)).alloc box0a = w1 at *
  rw [← HN.out] at HF HST ⊢
  have f0 := box_n0 HST.out.ga
  have f1 := box_n1 HST.out.ga
  have f2 := box_n2 HST.out.ga
  have g0 := box_n0 HST.out.gb
  have g1 := box_n1 HST.out.gb
  have g2 := box_n2 HST.out.gb
  go_wp2_with fail
  clear f0 f1 f2 g0 g1 g2
  refine (HF.out _ HST.out.bel).mono ?_
  rintro e w2 ⟨l, hset, hln, v1, rfl, ho, hb⟩
  have HS2 := Lib.hid (HST.out.later hb)
  cases l with
  | nil =>
    obtain ⟨o1, c1, rfl⟩ := owns_slice1 ho
    have HLI := Lib.hid (show LeastIs a b _ (zeroA, false) from LeastIs.of_set hset)
    clear ho hb hset hln HF
    have fz : ∀ j, w2.frozen? ⟨n + 1 + 1, j, none⟩ = false := fun j => by rw [blk_frozen HS2.out.gr]; simp
    have r0 : w2.cell? ⟨n + 1 + 1, 0, none⟩ = some (.int .u8 0) := by rw [blk_cell HS2.out.gr]; rfl
    have r1 : w2.cell? ⟨n + 1 + 1, 1, none⟩ = some (.int .u64 0) := by rw [blk_cell HS2.out.gr]; rfl
    have r2 : w2.cell? ⟨n + 1 + 1, 2, none⟩ = some (.int .u64 0) := by rw [blk_cell HS2.out.gr]; rfl
    go_wp2_with fail
    have HQ := Lib.hid (show (((w2.setCell ⟨n + 1 + 1, 0, none⟩ (.int .u8 0)).setCell ⟨n + 1 + 1, 1, none⟩ (.int .u64 0)).setCell ⟨n + 1 + 1, 2, none⟩ (.int .u64 0)).heap[n + 1 + 1]? = some (boxA zeroA) from put_box0a HS2.out.gr zeroA)
    have HBQ := Lib.hid (show Below n w (((w2.setCell ⟨n + 1 + 1, 0, none⟩ (.int .u8 0)).setCell ⟨n + 1 + 1, 1, none⟩ (.int .u64 0)).setCell ⟨n + 1 + 1, 2, none⟩ (.int .u64 0)) from put_below (o := 0) HS2.out.bel (show n ≤ n + 1 + 1 by omega) zeroA)
    clear r0 r1 r2 fz
    generalize ((w2.setCell ⟨n + 1 + 1, 0, none⟩ (.int .u8 0)).setCell ⟨n + 1 + 1, 1, none⟩ (.int .u64 0)).setCell ⟨n + 1 + 1, 2, none⟩ (.int .u64 0) = w9 at *
    have c0 : w9.cell? ⟨n + 1 + 1, 0, none⟩ = some (.int .u8 0) := box_n0 HQ.out
    have c1 : w9.cell? ⟨n + 1 + 1, 1, none⟩ = some (.int .u64 0) := box_n1 HQ.out
    have c2 : w9.cell? ⟨n + 1 + 1, 2, none⟩ = some (.int .u64 0) := box_n2 HQ.out
    exact bodyPost_ret (v := .tuple #[.agg #[.int .u8 0, .int .u64 0, .int .u64 0], .bool false]) (by simp [results, Try.results18, go_sem, c0, c1, c2]) rfl ⟨⟨(zeroA, false), rfl, HLI.out⟩, by rw [← HN.out]; exact HBQ.out⟩
  | cons s l =>
    have HLI := Lib.hid (show LeastIs a b _ (s.1, true) from LeastIs.of_set hset)
    obtain ⟨g, cap, hve, hg1, hg2, hg3, hcs, -⟩ := owns_shape ho (by simp)
    subst hve
    have hcx := own_cells ho rfl (i := 0) (x := s) (by simp)
    have d0 : w2.cell? ⟨g, 0, none⟩ = some (.int .u8 (s.1.1.toNat : Int)) := by have := hcx.c0; simpa using this
    have d1 : w2.cell? ⟨g, 1, none⟩ = some (.int .u64 (s.1.2.1.toNat : Int)) := by have := hcx.c1; simpa using this
    have d2 : w2.cell? ⟨g, 2, none⟩ = some (.int .u64 (s.1.2.2.toNat : Int)) := by have := hcx.c2; simpa using this
    obtain ⟨m, hm⟩ : ∃ m, m = (s :: l).length := ⟨_, rfl⟩
    rw [← hm]
    have k1 : ((m : Int) == 0) = false := by rw [hm]; simp <;> omega
    have k2 : (0 : Int) < (m : Int) := by rw [hm]; simp <;> omega
    clear hm hcx hcs ho hb hset hln hg1 hg2 hg3 HF
    have fz : ∀ j, w2.frozen? ⟨n + 1 + 1, j, none⟩ = false := fun j => by rw [blk_frozen HS2.out.gr]; simp
    have r0 : w2.cell? ⟨n + 1 + 1, 0, none⟩ = some (.int .u8 0) := by rw [blk_cell HS2.out.gr]; rfl
    have r1 : w2.cell? ⟨n + 1 + 1, 1, none⟩ = some (.int .u64 0) := by rw [blk_cell HS2.out.gr]; rfl
    have r2 : w2.cell? ⟨n + 1 + 1, 2, none⟩ = some (.int .u64 0) := by rw [blk_cell HS2.out.gr]; rfl
    go_wp2_with fail
    have HQ := Lib.hid (show (((w2.setCell ⟨n + 1 + 1, 0, none⟩ (.int .u8 (s.1.1.toNat : Int))).setCell ⟨n + 1 + 1, 1, none⟩ (.int .u64 (s.1.2.1.toNat : Int))).setCell ⟨n + 1 + 1, 2, none⟩ (.int .u64 (s.1.2.2.toNat : Int))).heap[n + 1 + 1]? = some (boxA s.1) from put_box0a HS2.out.gr s.1)
    have HBQ := Lib.hid (show Below n w (((w2.setCell ⟨n + 1 + 1, 0, none⟩ (.int .u8 (s.1.1.toNat : Int))).setCell ⟨n + 1 + 1, 1, none⟩ (.int .u64 (s.1.2.1.toNat : Int))).setCell ⟨n + 1 + 1, 2, none⟩ (.int .u64 (s.1.2.2.toNat : Int))) from put_below (o := 0) HS2.out.bel (show n ≤ n + 1 + 1 by omega) s.1)
    clear r0 r1 r2 fz
    generalize ((w2.setCell ⟨n + 1 + 1, 0, none⟩ (.int .u8 (s.1.1.toNat : Int))).setCell ⟨n + 1 + 1, 1, none⟩ (.int .u64 (s.1.2.1.toNat : Int))).setCell ⟨n + 1 + 1, 2, none⟩ (.int .u64 (s.1.2.2.toNat : Int)) = w9 at *
    have c0 : w9.cell? ⟨n + 1 + 1, 0, none⟩ = some (.int .u8 (s.1.1.toNat : Int)) := box_n0 HQ.out
    have c1 : w9.cell? ⟨n + 1 + 1, 1, none⟩ = some (.int .u64 (s.1.2.1.toNat : Int)) := box_n1 HQ.out
    have c2 : w9.cell? ⟨n + 1 + 1, 2, none⟩ = some (.int .u64 (s.1.2.2.toNat : Int)) := box_n2 HQ.out
    exact bodyPost_ret (v := .tuple #[.agg #[.int .u8 (s.1.1.toNat : Int), .int .u64 (s.1.2.1.toNat : Int), .int .u64 (s.1.2.2.toNat : Int)], .bool true]) (by simp [results, Try.results18, go_sem, c0, c1, c2]) rfl ⟨⟨(s.1, true), rfl, HLI.out⟩, by rw [← HN.out]; exact HBQ.out⟩
structure Small (ls : List (List Sp)) : Prop where
  num : ls.length ≤ 4
  each : ∀ l ∈ ls, l.length ≤ 20
def GreatPost (ls : List (List Sp)) (w : World) (e : Ending) (w' : World) : Prop := ∃ r : Bool, e = .returned (.bool r) ∧ (r = false → Small ls) ∧ Below w.heap.size w w'

set_option maxRecDepth 100000 in
set_option maxHeartbeats 8000000 in
theorem great_any (v : Value) (ls : List (List Sp)) (w : World) (h : SpsOf w v ls) (hlm : ls.length ≤ 9223372036854775807) (hls : ∀ l ∈ ls, l.length ≤ maxLen) :
    Calls Try.prog 9 #[v] w (GreatPost ls w) := by
  obtain ⟨ao, cap, hv⟩ := h.slice
  subst hv
  have HL := Lib.hid h
  have HLS := Lib.hid hls
  clear h hls
  by_cases hbig : 4 < ls.length
  · have k0 : (4 : Int) < (ls.length : Int) := by omega
    go_enter Try.func9, Try.ntmps9
    go_wp2_with fail
    go_ret
    exact ⟨true, rfl, (fun h => nomatch h), Below.refl _ _⟩
  · have k0 : ¬ (4 : Int) < (ls.length : Int) := by omega
    have HNB := Lib.hid hbig
    clear hlm
    go_enter Try.func9, Try.ntmps9
    go_wp2_with fail
    clear k0
    go_loopw [3] (fun vi wr => ∃ i : Nat, i ≤ ls.length ∧ vi = .int .i64 i ∧ (∀ j (h : j < ls.length), j < i → ls[j].length ≤ 20) ∧ Below w.heap.size w wr) (fun vi _ => ls.length - (intOf vi).toNat)
    case atStart => exact ⟨0, Nat.zero_le _, rfl, fun j h hj => by omega, Below.refl _ _⟩
    case round =>
      obtain ⟨i, hi, rfl, hall, hbel⟩ := hrel
      have HALL := Lib.hid hall
      have HBE := Lib.hid hbel
      by_cases hlt : i < ls.length
      · obtain ⟨b, off, cap', hve, hcs⟩ := HL.out.cell (by omega)
        cases hve
        obtain ⟨u, hu2, hue⟩ := hcs i hlt
        obtain ⟨g, hg⟩ : ∃ g, g = ls[i] := ⟨_, rfl⟩
        have hgm : g.length ≤ maxLen := HLS.out g (by rw [hg]; exact List.getElem_mem _)
        unfold maxLen at hgm
        rw [← hg] at hue
        obtain ⟨uo, uc, hub⟩ := elems_slice hue
        subst hub
        have hu : wr.cell? ⟨b, off + i, none⟩ = some (.slice uo g.length uc) := (hbel.cell (World.block_lt_of_cell? _ _ hu2)).trans hu2
        have HG := Lib.hid hg
        have HLT := Lib.hid hlt
        have k1 : (0 : Int) ≤ (i : Int) := by omega
        have k2 : (i : Int) < (ls.length : Int) := by omega
        have k4 : IntKind.i64.wrap ((i : Int) + 1) = (i : Int) + 1 := by rw [IntKind.wrap_i64]; omega
        clear hall hbel hcs hue hu2 hg
        by_cases h60 : 20 < g.length
        · have k3 : (20 : Int) < (g.length : Int) := by omega
          clear h60
          go_wp2_with fail
          go_ret
          exact ⟨true, rfl, (fun h => nomatch h), HBE.out⟩
        · have k3 : ¬ (20 : Int) < (g.length : Int) := by omega
          have H60 := Lib.hid h60
          clear h60
          go_wp2_with fail
          go_roundw
          case rel =>
            refine ⟨i + 1, HLT.out, by go_num, fun j hj hji => ?_, HBE.out⟩
            by_cases e : j = i
            · subst e; rw [← HG.out]; have := H60.out; omega
            · exact HALL.out j hj (by omega)
          case measure => have := HLT.out; simp [intOf]; omega
      · obtain rfl : i = ls.length := by omega
        have k2 : ¬ (ls.length : Int) < (ls.length : Int) := by omega
        clear hall hbel hi hlt
        go_wp2_with fail
        go_ret
        exact ⟨false, rfl, fun _ => ⟨by have := HNB.out; omega, fun l hl => by
          obtain ⟨j, hj, rfl⟩ := List.getElem_of_mem hl
          exact HALL.out j hj hj⟩, HBE.out⟩
theorem Small.flat {ls : List (List Sp)} (h : Small ls) : ls.flatten.length ≤ 80 := by
  have hs : ∀ ls : List (List Sp), (∀ l ∈ ls, l.length ≤ 20) → ls.flatten.length ≤ 20 * ls.length := by
    intro ls
    induction ls with
    | nil => intro _; simp
    | cons l ls ih =>
      intro hc
      have h1 := ih (fun x hx => hc x (List.mem_cons_of_mem _ hx))
      have h2 := hc l (by simp)
      rw [List.flatten_cons, List.length_append, List.length_cons]
      omega
  have := hs ls h.each
  have := h.num
  omega

set_option maxRecDepth 100000 in
set_option maxHeartbeats 4000000 in
theorem a4_any (x : Int) (n : UInt64) (hx : IntKind.u64.wrap (167772160 + x) = (n.toNat : Int)) (w : World) : Calls Try.prog 27 #[.int .u64 x] w fun e w' => e = .returned (encA (4, 0, n)) ∧ Below w.heap.size w w' := by
  have HX := Lib.hid hx
  clear hx
  have k := HX.out
  clear HX
  go_enter Try.func27, Try.ntmps27
  go_wp2_with fail
  have hq := heap_alloc_new w (.cells #[.int .u8 4, .int .u64 0, .int .u64 (n.toNat : Int)] 25)
  have HBQ := Lib.hid (show Below w.heap.size w (w.alloc (.cells #[.int .u8 4, .int .u64 0, .int .u64 (n.toNat : Int)] 25)) from (Below.refl _ _).alloc (Nat.le_refl _) _)
  generalize w.alloc (.cells #[.int .u8 4, .int .u64 0, .int .u64 (n.toNat : Int)] 25) = w9 at *
  have c0 : w9.cell? ⟨w.heap.size, 0, none⟩ = some (.int .u8 4) := by rw [blk_cell hq]; rfl
  have c1 : w9.cell? ⟨w.heap.size, 1, none⟩ = some (.int .u64 0) := by rw [blk_cell hq]; rfl
  have c2 : w9.cell? ⟨w.heap.size, 2, none⟩ = some (.int .u64 (n.toNat : Int)) := by rw [blk_cell hq]; rfl
  exact bodyPost_ret (v := .agg #[.int .u8 4, .int .u64 0, .int .u64 (n.toNat : Int)]) (by simp [results, Try.results27, go_sem, c0, c1, c2]) rfl ⟨rfl, HBQ.out⟩

set_option maxRecDepth 100000 in
set_option maxHeartbeats 4000000 in
theorem a6_any (x : Int) (n : UInt64) (hx : IntKind.u64.wrap (18446744073709551615 - x) = (n.toNat : Int)) (w : World) : Calls Try.prog 28 #[.int .u64 x] w fun e w' => e = .returned (encA (6, MX, n)) ∧ Below w.heap.size w w' := by
  have HX := Lib.hid hx
  clear hx
  have k := HX.out
  clear HX
  go_enter Try.func28, Try.ntmps28
  go_wp2_with fail
  have hq := heap_alloc_new w (.cells #[.int .u8 6, .int .u64 18446744073709551615, .int .u64 (n.toNat : Int)] 25)
  have HBQ := Lib.hid (show Below w.heap.size w (w.alloc (.cells #[.int .u8 6, .int .u64 18446744073709551615, .int .u64 (n.toNat : Int)] 25)) from (Below.refl _ _).alloc (Nat.le_refl _) _)
  generalize w.alloc (.cells #[.int .u8 6, .int .u64 18446744073709551615, .int .u64 (n.toNat : Int)] 25) = w9 at *
  have c0 : w9.cell? ⟨w.heap.size, 0, none⟩ = some (.int .u8 6) := by rw [blk_cell hq]; rfl
  have c1 : w9.cell? ⟨w.heap.size, 1, none⟩ = some (.int .u64 18446744073709551615) := by rw [blk_cell hq]; rfl
  have c2 : w9.cell? ⟨w.heap.size, 2, none⟩ = some (.int .u64 (n.toNat : Int)) := by rw [blk_cell hq]; rfl
  exact bodyPost_ret (v := .agg #[.int .u8 6, .int .u64 18446744073709551615, .int .u64 (n.toNat : Int)]) (by simp [results, Try.results28, go_sem, c0, c1, c2]) rfl ⟨rfl, HBQ.out⟩

set_option maxRecDepth 100000 in
set_option maxHeartbeats 4000000 in
theorem span_any (x y : Int) (n m : UInt64) (hx : IntKind.u64.wrap (167772160 + x) = (n.toNat : Int)) (hy : IntKind.u64.wrap (167772160 + y) = (m.toNat : Int)) (w : World) :
    Calls Try.prog 26 #[.int .u64 x, .int .u64 y] w fun e w' => e = .returned (encP ((4, 0, n), (4, 0, m))) ∧ Below w.heap.size w w' := by
  have H1 := Lib.hid (fun W => a4_any x n hx W)
  have H2 := Lib.hid (fun W => a4_any y m hy W)
  have HBX := Lib.hid (show Below w.heap.size w (w.alloc (.cells #[.int .u8 0, .int .u64 0, .int .u64 0, .int .u8 0, .int .u64 0, .int .u64 0] TE)) from (Below.refl _ _).alloc (Nat.le_refl _) _)
  have HG := Lib.hid (heap_alloc_new w (.cells #[.int .u8 0, .int .u64 0, .int .u64 0, .int .u8 0, .int .u64 0, .int .u64 0] TE))
  clear hx hy
  go_enter Try.func26, Try.ntmps26
  go_wp2_with fail
  refine (H1.out _).mono ?_
  rintro e w1 ⟨rfl, hb⟩
  have HB1 := Lib.hid (below_step HBX.out hb HBX.out.size)
  have HG1 := Lib.hid (blk_kept hb HG.out)
  clear hb
  go_wp2_with fail
  refine (H2.out _).mono ?_
  rintro e w2 ⟨rfl, hb⟩
  have HB2 := Lib.hid (below_step HB1.out hb HB1.out.size)
  have HG2 := Lib.hid (blk_kept hb HG1.out)
  clear hb
  have fz : ∀ j, w2.frozen? ⟨w.heap.size, j, none⟩ = false := fun j => by rw [blk_frozen HG2.out]; simp
  have r0 : w2.cell? ⟨w.heap.size, 0, none⟩ = some (.int .u8 0) := by rw [blk_cell HG2.out]; rfl
  have r1 : w2.cell? ⟨w.heap.size, 1, none⟩ = some (.int .u64 0) := by rw [blk_cell HG2.out]; rfl
  have r2 : w2.cell? ⟨w.heap.size, 2, none⟩ = some (.int .u64 0) := by rw [blk_cell HG2.out]; rfl
  have r3 : w2.cell? ⟨w.heap.size, 3, none⟩ = some (.int .u8 0) := by rw [blk_cell HG2.out]; rfl
  have r4 : w2.cell? ⟨w.heap.size, 4, none⟩ = some (.int .u64 0) := by rw [blk_cell HG2.out]; rfl
  have r5 : w2.cell? ⟨w.heap.size, 5, none⟩ = some (.int .u64 0) := by rw [blk_cell HG2.out]; rfl
  go_wp2_with fail
  have HQ := Lib.hid (show ((((((w2.setCell ⟨w.heap.size, 0, none⟩ (.int .u8 4)).setCell ⟨w.heap.size, 1, none⟩ (.int .u64 0)).setCell ⟨w.heap.size, 2, none⟩ (.int .u64 (n.toNat : Int))).setCell ⟨w.heap.size, 3, none⟩ (.int .u8 4)).setCell ⟨w.heap.size, 4, none⟩ (.int .u64 0)).setCell ⟨w.heap.size, 5, none⟩ (.int .u64 (m.toNat : Int))).heap[w.heap.size]? = some (.cells #[.int .u8 4, .int .u64 0, .int .u64 (n.toNat : Int), .int .u8 4, .int .u64 0, .int .u64 (m.toNat : Int)] TE (0, 0)) from blk_set (blk_set (blk_set (blk_set (blk_set (blk_set HG2.out 0 _) 1 _) 2 _) 3 _) 4 _) 5 _)
  have HBQ := Lib.hid (show Below w.heap.size w ((((((w2.setCell ⟨w.heap.size, 0, none⟩ (.int .u8 4)).setCell ⟨w.heap.size, 1, none⟩ (.int .u64 0)).setCell ⟨w.heap.size, 2, none⟩ (.int .u64 (n.toNat : Int))).setCell ⟨w.heap.size, 3, none⟩ (.int .u8 4)).setCell ⟨w.heap.size, 4, none⟩ (.int .u64 0)).setCell ⟨w.heap.size, 5, none⟩ (.int .u64 (m.toNat : Int))) from (((((HB2.out.setCell (p := ⟨w.heap.size, 0, none⟩) (Nat.le_refl _) _).setCell (p := ⟨w.heap.size, 1, none⟩) (Nat.le_refl _) _).setCell (p := ⟨w.heap.size, 2, none⟩) (Nat.le_refl _) _).setCell (p := ⟨w.heap.size, 3, none⟩) (Nat.le_refl _) _).setCell (p := ⟨w.heap.size, 4, none⟩) (Nat.le_refl _) _).setCell (p := ⟨w.heap.size, 5, none⟩) (Nat.le_refl _) _)
  clear r0 r1 r2 r3 r4 r5 fz
  generalize (((((w2.setCell ⟨w.heap.size, 0, none⟩ (.int .u8 4)).setCell ⟨w.heap.size, 1, none⟩ (.int .u64 0)).setCell ⟨w.heap.size, 2, none⟩ (.int .u64 (n.toNat : Int))).setCell ⟨w.heap.size, 3, none⟩ (.int .u8 4)).setCell ⟨w.heap.size, 4, none⟩ (.int .u64 0)).setCell ⟨w.heap.size, 5, none⟩ (.int .u64 (m.toNat : Int)) = w9 at *
  have c0 : w9.cell? ⟨w.heap.size, 0, none⟩ = some (.int .u8 4) := by rw [blk_cell HQ.out]; rfl
  have c1 : w9.cell? ⟨w.heap.size, 1, none⟩ = some (.int .u64 0) := by rw [blk_cell HQ.out]; rfl
  have c2 : w9.cell? ⟨w.heap.size, 2, none⟩ = some (.int .u64 (n.toNat : Int)) := by rw [blk_cell HQ.out]; rfl
  have c3 : w9.cell? ⟨w.heap.size, 3, none⟩ = some (.int .u8 4) := by rw [blk_cell HQ.out]; rfl
  have c4 : w9.cell? ⟨w.heap.size, 4, none⟩ = some (.int .u64 0) := by rw [blk_cell HQ.out]; rfl
  have c5 : w9.cell? ⟨w.heap.size, 5, none⟩ = some (.int .u64 (m.toNat : Int)) := by rw [blk_cell HQ.out]; rfl
  exact bodyPost_ret (v := .agg #[.int .u8 4, .int .u64 0, .int .u64 (n.toNat : Int), .int .u8 4, .int .u64 0, .int .u64 (m.toNat : Int)]) (by simp [results, Try.results26, go_sem, c0, c1, c2, c3, c4, c5]) rfl ⟨rfl, HBQ.out⟩

set_option maxRecDepth 100000 in
set_option maxHeartbeats 8000000 in
theorem given_any (v : Value) (ls : List (List Sp)) (w : World) (h : SpsOf w v ls) (hl : ls.length ≤ 1000000) (hn : ls.flatten.length ≤ 2000000) :
    Calls Try.prog 11 #[v] w (NewRowR w ls.flatten) := by
  obtain ⟨ao, cap, hv⟩ := h.slice
  subst hv
  have HL := Lib.hid h
  have HNN := Lib.hid hn
  clear h hn
  go_enter Try.func11, Try.ntmps11
  go_wp2_with fail
  go_loopw [3, 4] (fun vo vi W => ∃ i : Nat, i ≤ ls.length ∧ vi = .int .i64 i ∧ W.ownsRow w.heap.size TEr 6 vo (ls.take i).flatten.length ((ls.take i).flatten.flatMap encC) ∧ Below w.heap.size w W) (fun _ vi _ => ls.length - (intOf vi).toNat)
  case atStart => exact ⟨0, Nat.zero_le _, rfl, World.ownsRow_nil _ _ _ _, Below.refl _ _⟩
  case round =>
    obtain ⟨i, hi, rfl, ho, hbel⟩ := hrel
    have HO := Lib.hid ho
    have HBE := Lib.hid hbel
    by_cases hlt : i < ls.length
    · obtain ⟨b, off, cap', hve, hcs⟩ := HL.out.cell (by omega)
      cases hve
      obtain ⟨u, hu2, hue⟩ := hcs i hlt
      obtain ⟨g, hg⟩ : ∃ g, g = ls[i] := ⟨_, rfl⟩
      have HFL := Lib.hid (show (ls.take i).flatten.length + g.length ≤ 2000000 from by
        have h1 := flatten_le ls (i + 1)
        rw [flatten_take ls hlt, List.length_append, ← hg] at h1
        have := HNN.out; omega)
      have HFT := Lib.hid (show (ls.take (i + 1)).flatten = (ls.take i).flatten ++ g from by rw [flatten_take ls hlt, hg])
      obtain ⟨A, hA⟩ : ∃ A, A = (ls.take i).flatten := ⟨_, rfl⟩
      rw [← hA] at HO HFL HFT
      obtain ⟨oo, oc, hov⟩ := owns_slice1 HO.out
      subst hov
      rw [← hg] at hue
      obtain ⟨uo, uc, hub⟩ := elems_slice hue
      subst hub
      have HUE := Lib.hid hue
      have HU2 := Lib.hid hu2
      have hu : wr.cell? ⟨b, off + i, none⟩ = some (.slice uo g.length uc) := (hbel.cell (World.block_lt_of_cell? _ _ hu2)).trans hu2
      have HLT := Lib.hid hlt
      have k1 : (0 : Int) ≤ (i : Int) := by omega
      have k2 : (i : Int) < (ls.length : Int) := by omega
      have k4 : IntKind.i64.wrap ((i : Int) + 1) = (i : Int) + 1 := by rw [IntKind.wrap_i64]; omega
      clear ho hbel hcs hue hu2 hg hA hi hlt
      obtain ⟨wo, hwo⟩ : ∃ wo : World, wo = wr := ⟨_, rfl⟩
      have HWO := Lib.hid hwo
      clear hwo
      go_wp2_with fail
      clear hu
      go_loopw [3, 5] (fun vo vk W => ∃ k : Nat, k ≤ g.length ∧ vk = .int .i64 k ∧ W.ownsRow w.heap.size TEr 6 vo (A.length + k) ((A ++ g.take k).flatMap encC) ∧ Below w.heap.size w W) (fun _ vk _ => g.length - (intOf vk).toNat)
      case atStart => exact ⟨0, Nat.zero_le _, rfl, by simpa using HO.out, HBE.out⟩
      case round =>
        obtain ⟨k, hk, rfl, ho, hbel⟩ := hrel
        obtain ⟨o2, c2, hov⟩ := owns_slice1 ho
        subst hov
        have HO2 := Lib.hid ho
        have HB2 := Lib.hid hbel
        have hu : wr.cell? ⟨b, off + i, none⟩ = some (.slice uo g.length uc) := (hbel.cell (World.block_lt_of_cell? _ _ HU2.out)).trans HU2.out
        by_cases hkl : k < g.length
        · obtain ⟨gb, go_, gc, hub, hgc⟩ := sps_cells HUE.out (by omega)
          injection hub with hu1 _ hu3
          subst hu1
          obtain rfl : gc = uc := hu3.symm
          have hcx := (hgc k hkl).kept hbel
          obtain ⟨x, hx⟩ : ∃ x, x = g[k]'hkl := ⟨_, rfl⟩
          rw [← hx] at hcx
          have HTK := Lib.hid (show (A ++ g.take (k + 1)) = (A ++ g.take k) ++ [x] from by rw [List.take_succ_eq_append_getElem hkl, ← hx, List.append_assoc])
          have HKL := Lib.hid hkl
          have j1 : (0 : Int) ≤ (k : Int) := by omega
          have j2 : (k : Int) < (g.length : Int) := by omega
          have j4 : IntKind.i64.wrap ((k : Int) + 1) = (k : Int) + 1 := by rw [IntKind.wrap_i64]; have := HFL.out; omega
          have HL9 := Lib.hid (show A.length + k + 1 ≤ 1099511627776 by have := HFL.out; omega)
          have HBX := Lib.hid (show Below wr.heap.size wr (wr.alloc (boxS x)) from (Below.refl _ _).alloc (Nat.le_refl _) _)
          have HB3 := Lib.hid (below_step HB2.out HBX.out HB2.out.size)
          have HO3 := Lib.hid (row_kept1 HO2.out fun q hq => HBX.out.block q (HO2.out.lt q hq).2)
          have HZ9 := Lib.hid (show w.heap.size ≤ (wr.alloc (boxS x)).heap.size from HB3.out.size)
          have d0 := hcx.c0
          have d1 := hcx.c1
          have d2 := hcx.c2
          have d3 := hcx.c3
          have d4 := hcx.c4
          have d5 := hcx.c5
          clear ho hbel hgc hcx hx hkl hk
          go_wp2_with (at_builtin; refine wpList_append1 rfl (.tmp 29) (.tmp 35) 29 rfl w.heap.size TEr _ 6 48 Try.underlying29 infoR rfl (by decide) _ (A.length + k) _ (encC x) rfl HO3.out _ 1 (by rw [World.size_alloc]; rfl) rfl rfl (encC_one1 x) HL9.out (by decide) HZ9.out w.heap.size w HB3.out (Nat.le_refl _) ?_; intro v5 w5 ho5 hgr5 hb5 hsz5; have HO5 := Lib.hid ho5; have HB5 := Lib.hid hb5; clear ho5 hgr5 hb5 hsz5 d0 d1 d2 d3 d4 d5 hu)
          go_roundw
          case rel =>
            refine ⟨k + 1, HKL.out, by go_num, ?_, HB5.out⟩
            rw [HTK.out, List.flatMap_append]
            simpa [Nat.add_assoc] using HO5.out
          case measure => have := HKL.out; simp [intOf]; omega
        · obtain rfl : k = g.length := by omega
          have j2 : ¬ (g.length : Int) < (g.length : Int) := by omega
          have HO4 := Lib.hid (show wr.ownsRow w.heap.size TEr 6 (.slice o2 (A.length + g.length) c2) (A.length + g.length) ((A ++ g).flatMap encC) from by have := HO2.out; rwa [List.take_length] at this)
          clear ho hbel hkl hk
          go_wp2_with fail
          go_roundw
          case rel => exact ⟨i + 1, HLT.out, by go_num, by rw [HFT.out, List.length_append]; exact HO4.out, HB2.out⟩
          case measure => have := HLT.out; simp [intOf]; omega
    · obtain rfl : i = ls.length := by omega
      have k2 : ¬ (ls.length : Int) < (ls.length : Int) := by omega
      rw [List.take_length] at HO
      clear ho hbel hi hlt
      go_wp2_with fail
      go_ret
      exact ⟨_, rfl, HO.out, HBE.out⟩

set_option maxRecDepth 100000 in
set_option maxHeartbeats 4000000 in
theorem same_any (v v' : Value) (l m : List Sp) (w : World) (h : SpsAt w v l) (h' : SpsAt w v' m) (hl : l.length ≤ 1000000) (hm : m.length ≤ 10000000) :
    Calls Try.prog 14 #[v, v'] w fun e w' => e = .returned (.bool (l == m)) ∧ Below w.heap.size w w' := by
  obtain ⟨ao, cap, hv⟩ := elems_slice h
  subst hv
  have HBX := Lib.hid (show Below w.heap.size w (w.alloc (.cells #[.slice ao l.length cap] TS)) from (Below.refl _ _).alloc (Nat.le_refl _) _)
  have HLO := Lib.hid (show SpsOf (w.alloc (.cells #[.slice ao l.length cap] TS)) (.slice (some ⟨w.heap.size, 0, none⟩) 1 1) [l] from Lists.one (heap_alloc_new w (.cells #[.slice ao l.length cap] TS)) (h.kept HBX.out))
  have HG := Lib.hid (given_any _ [l] _ HLO.out (by simp) (by simp; omega))
  have HM := Lib.hid (fun W (hb : Below w.heap.size w W) => h'.kept hb)
  rw [show [l].flatten = l by simp] at HG
  have HLL := Lib.hid hl
  have HMM := Lib.hid hm
  clear h h' hl hm
  go_enter Try.func14, Try.ntmps14
  go_wp2_with fail
  refine HG.out.mono ?_
  rintro e w1 ⟨v1, rfl, ho, hb⟩
  have HB1 := Lib.hid (below_step HBX.out hb HBX.out.size)
  have HS := Lib.hid (rsame_any v1 v' l m w1 (Seg.of_owns ho) (HM.out _ HB1.out) (by have := HLL.out; omega) HMM.out)
  clear ho hb
  go_wp2_with fail
  refine HS.out.mono ?_
  rintro e w2 ⟨rfl, hb⟩
  have HB2 := Lib.hid (below_step HB1.out hb HB1.out.size)
  clear hb
  go_wp2_with fail
  go_ret
  exact ⟨rfl, HB2.out⟩
end Go.Proofs.Try.Gp
