/- The laws of gap: what awake tells. -/
import Derived.Test.YtmnfddmjlkkcoaaGw1
import Derived.Test.YtmnfddmjlkkcoaaGp4
import Derived.Test.YtmnfddmjlkkcoaaGw0
import Derived.Deep.RegionHeld3
set_option linter.unusedVariables false
set_option linter.unusedSimpArgs false
namespace Go.Proofs.Try.Gp
open Go.RowKit Go.Cph Go.Cph.Px Go.Cph.Gp Go.Cph.So
open Pfx (encA)

theorem sps_block {w : World} {b : Nat} {l : List Sp} {E : TypeId} {fr : Nat × Nat} {cur : Array Value} (h : w.heap[b]? = some (.cells cur E fr)) (hc : cur.toList = l.flatMap encC) (n c : Nat) (hn : n = l.length) : SpsAt w (.slice (some ⟨b, 0, none⟩) n c) l := by
  subst hn
  refine ⟨⟨_, _, rfl, fun _ => ⟨b, 0, rfl, fun j _ => ?_⟩⟩, flat_length encC_len l⟩
  rw [Nat.zero_add, blk_cell h, ← hc, Array.getElem?_toList]
theorem lists_block {w : World} {b : Nat} {ls : List (List Sp)} {E : TypeId} {fr : Nat × Nat} {cur : Array Value} (h : w.heap[b]? = some (.cells cur E fr)) (hl : cur.size = ls.length) (he : ∀ j (h : j < cur.size) (k : j < ls.length), SpsAt w cur[j] ls[j]) (n c : Nat) (hn : n = ls.length) : SpsOf w (.slice (some ⟨b, 0, none⟩) n c) ls := by
  subst hn
  refine ⟨cur.toList, by simpa using hl, ⟨⟨_, _, rfl, fun _ => ⟨b, 0, rfl, fun j hj => ?_⟩⟩, by simpa using hl⟩, fun j hj hk => ?_⟩
  · rw [Nat.zero_add, blk_cell h, Array.getElem?_toList]
  · have := he j (by simpa using hj) hk
    simpa using this
def AwPost (w : World) (e : Ending) (w' : World) : Prop := e = .returned (.bool true) ∧ Below w.heap.size w w'

set_option maxRecDepth 100000 in
set_option maxHeartbeats 32000000 in
theorem awake_any (w : World) : Calls Try.prog 10 #[] w (AwPost w) := by
  obtain ⟨p57, hp57⟩ : ∃ p : Sp, p = (A4 167772165, A4 167772167) := ⟨_, rfl⟩
  obtain ⟨p02, hp02⟩ : ∃ p : Sp, p = (A4 167772160, A4 167772162) := ⟨_, rfl⟩
  obtain ⟨p33, hp33⟩ : ∃ p : Sp, p = (A4 167772163, A4 167772163) := ⟨_, rfl⟩
  obtain ⟨p03, hp03⟩ : ∃ p : Sp, p = (A4 167772160, A4 167772163) := ⟨_, rfl⟩
  obtain ⟨p44, hp44⟩ : ∃ p : Sp, p = (A4 167772164, A4 167772164) := ⟨_, rfl⟩
  obtain ⟨p810, hp810⟩ : ∃ p : Sp, p = (A4 167772168, A4 167772170) := ⟨_, rfl⟩
  have H57 := Lib.hid (show ∀ W, Calls Try.prog 26 #[.int .u64 5, .int .u64 7] W (fun e w' => e = .returned (encP p57) ∧ Below W.heap.size W w') from fun W => by rw [hp57]; exact span_any 5 7 167772165 167772167 (by decide) (by decide) W)
  have H02 := Lib.hid (show ∀ W, Calls Try.prog 26 #[.int .u64 0, .int .u64 2] W (fun e w' => e = .returned (encP p02) ∧ Below W.heap.size W w') from fun W => by rw [hp02]; exact span_any 0 2 167772160 167772162 (by decide) (by decide) W)
  have H33 := Lib.hid (show ∀ W, Calls Try.prog 26 #[.int .u64 3, .int .u64 3] W (fun e w' => e = .returned (encP p33) ∧ Below W.heap.size W w') from fun W => by rw [hp33]; exact span_any 3 3 167772163 167772163 (by decide) (by decide) W)
  have H03 := Lib.hid (show ∀ W, Calls Try.prog 26 #[.int .u64 0, .int .u64 3] W (fun e w' => e = .returned (encP p03) ∧ Below W.heap.size W w') from fun W => by rw [hp03]; exact span_any 0 3 167772160 167772163 (by decide) (by decide) W)
  obtain ⟨a0, ha0⟩ : ∃ a : Ad, a = A4 167772160 := ⟨_, rfl⟩
  have HA0 := Lib.hid (show ∀ W, Calls Try.prog 27 #[.int .u64 0] W (fun e w' => e = .returned (encA a0) ∧ Below W.heap.size W w') from fun W => by rw [ha0]; exact a4_any 0 167772160 (by decide) W)
  obtain ⟨a10, ha10⟩ : ∃ a : Ad, a = A4 167772170 := ⟨_, rfl⟩
  have HA10 := Lib.hid (show ∀ W, Calls Try.prog 27 #[.int .u64 10] W (fun e w' => e = .returned (encA a10) ∧ Below W.heap.size W w') from fun W => by rw [ha10]; exact a4_any 10 167772170 (by decide) W)
  obtain ⟨a4, ha4⟩ : ∃ a : Ad, a = A4 167772164 := ⟨_, rfl⟩
  have HA4 := Lib.hid (show ∀ W, Calls Try.prog 27 #[.int .u64 4] W (fun e w' => e = .returned (encA a4) ∧ Below W.heap.size W w') from fun W => by rw [ha4]; exact a4_any 4 167772164 (by decide) W)
  have HE1 := Lib.hid (show LeastIs a0 a10 (covS [p57, p02, p33]) (a4, true) from by rw [ha0, ha10, ha4, hp57, hp02, hp33]; exact LeastIs.of_set ex_free1)
  have HE2 := Lib.hid (show IsSet [p03, p57] (covS [p57, p02, p33]) from by rw [hp03, hp57, hp02, hp33]; exact ex_join1)
  have HE3 := Lib.hid (show IsSet [p44, p810] (FreeP a0 a10 (covS [p03, p57])) from by rw [ha0, ha10, hp44, hp810, hp03, hp57]; exact ex_free2)
  clear hp57 hp02 hp33 hp03 hp44 hp810 ha0 ha10 ha4
  have HB0 := Lib.hid (Below.refl w.heap.size w)
  go_enter Try.func10, Try.ntmps10
  go_wp2_with fail
  refine (HA0.out _).mono ?_
  rintro e w1 ⟨rfl, hb⟩
  have HB1 := Lib.hid (below_step HB0.out hb HB0.out.size)
  clear hb
  go_wp2_with fail
  refine (HA10.out _).mono ?_
  rintro e w2 ⟨rfl, hb⟩
  have HB2 := Lib.hid (below_step HB1.out hb HB1.out.size)
  clear hb
  go_wp2_with fail
  refine (H57.out _).mono ?_
  rintro e w3 ⟨rfl, hb⟩
  have HB3 := Lib.hid (below_step HB2.out hb HB2.out.size)
  clear hb
  go_wp2_with fail
  refine (H02.out _).mono ?_
  rintro e w4 ⟨rfl, hb⟩
  have HB4 := Lib.hid (below_step HB3.out hb HB3.out.size)
  clear hb
  have HBL4 := Lib.hid (show Below w.heap.size w (w4.alloc (.cells (encC p57 ++ encC p02).toArray TE)) from HB4.out.alloc HB4.out.size _)
  have HG4 := Lib.hid (heap_alloc_new w4 (.cells (encC p57 ++ encC p02).toArray TE))
  go_wp2_with fail
  refine (H33.out _).mono ?_
  rintro e w5 ⟨rfl, hb⟩
  have HB5 := Lib.hid (below_step HBL4.out hb HBL4.out.size)
  have HG5 := Lib.hid (blk_kept hb HG4.out)
  clear hb
  have HBL := Lib.hid (show Below w.heap.size w ((w5.alloc (.cells (encC p33).toArray TE)).alloc (.cells #[.slice (some ⟨w4.heap.size, 0, none⟩) 2 2, .slice (some ⟨w5.heap.size, 0, none⟩) 1 1] TS)) from (HB5.out.alloc HB5.out.size _).alloc (HB5.out.alloc HB5.out.size _).size _)
  have HLO := Lib.hid (show SpsOf ((w5.alloc (.cells (encC p33).toArray TE)).alloc (.cells #[.slice (some ⟨w4.heap.size, 0, none⟩) 2 2, .slice (some ⟨w5.heap.size, 0, none⟩) 1 1] TS)) (.slice (some ⟨w5.heap.size + 1, 0, none⟩) 2 2) [[p57, p02], [p33]] from by
    have g1 := heap_alloc_new (w5.alloc (.cells (encC p33).toArray TE)) (.cells #[.slice (some ⟨w4.heap.size, 0, none⟩) 2 2, .slice (some ⟨w5.heap.size, 0, none⟩) 1 1] TS)
    rw [World.size_alloc] at g1
    refine lists_block g1 rfl (fun j hj hk => ?_) 2 2 rfl
    rcases (show j = 0 ∨ j = 1 by simp at hj; omega) with rfl | rfl
    · exact sps_block (l := [p57, p02]) (blk_alloc (blk_alloc HG5.out _) _) rfl 2 2 rfl
    · exact sps_block (l := [p33]) (blk_alloc (heap_alloc_new w5 _) _) rfl 1 1 rfl)
  have HX := Lib.hid (least_any a0 a10 _ _ _ HLO.out (by simp) (by simp))
  go_wp2_with fail
  refine HX.out.mono ?_
  rintro e w6 ⟨⟨r, rfl, hr⟩, hb⟩
  obtain rfl : r = (a4, true) := hr.unique HE1.out fun n => Iff.rfl
  have HB6 := Lib.hid (below_step HBL.out hb HBL.out.size)
  have HBX := Lib.hid (show Below w6.heap.size w6 (w6.alloc (boxA a4)) from (Below.refl _ _).alloc (Nat.le_refl _) _)
  have HQ := Lib.hid (heap_alloc_new w6 (boxA a4))
  have HB7 := Lib.hid (below_step HB6.out HBX.out HB6.out.size)
  clear hb hr HX HLO HBL HB3 HB4 HB5 HG4 HG5 HBL4 HB1 HB2 HBX HE1
  go_wp2_with fail
  generalize w6.alloc (boxA a4) = w7 at *
  obtain ⟨bq, hbq⟩ : ∃ b, b = w6.heap.size := ⟨_, rfl⟩
  rw [← hbq] at HQ ⊢
  clear hbq
  refine (H57.out _).mono ?_
  rintro e w8 ⟨rfl, hb⟩
  have HQ8 := Lib.hid (blk_kept hb HQ.out)
  have HB8 := Lib.hid (below_step HB7.out hb HB7.out.size)
  clear hb
  go_wp2_with fail
  refine (H02.out _).mono ?_
  rintro e w9 ⟨rfl, hb⟩
  have HQ9 := Lib.hid (blk_kept hb HQ8.out)
  have HB9 := Lib.hid (below_step HB8.out hb HB8.out.size)
  clear hb
  have HBL9 := Lib.hid (show Below w.heap.size w (w9.alloc (.cells (encC p57 ++ encC p02).toArray TE)) from HB9.out.alloc HB9.out.size _)
  have HG9 := Lib.hid (heap_alloc_new w9 (.cells (encC p57 ++ encC p02).toArray TE))
  go_wp2_with fail
  refine (H33.out _).mono ?_
  rintro e w10 ⟨rfl, hb⟩
  have HB10 := Lib.hid (below_step HBL9.out hb HBL9.out.size)
  have HG10 := Lib.hid (blk_kept hb HG9.out)
  have HQ10 := Lib.hid (blk_kept hb (blk_alloc HQ9.out _))
  clear hb
  have HBL := Lib.hid (show Below w.heap.size w ((w10.alloc (.cells (encC p33).toArray TE)).alloc (.cells #[.slice (some ⟨w9.heap.size, 0, none⟩) 2 2, .slice (some ⟨w10.heap.size, 0, none⟩) 1 1] TS)) from (HB10.out.alloc HB10.out.size _).alloc (HB10.out.alloc HB10.out.size _).size _)
  have HLO := Lib.hid (show SpsOf ((w10.alloc (.cells (encC p33).toArray TE)).alloc (.cells #[.slice (some ⟨w9.heap.size, 0, none⟩) 2 2, .slice (some ⟨w10.heap.size, 0, none⟩) 1 1] TS)) (.slice (some ⟨w10.heap.size + 1, 0, none⟩) 2 2) [[p57, p02], [p33]] from by
    have g1 := heap_alloc_new (w10.alloc (.cells (encC p33).toArray TE)) (.cells #[.slice (some ⟨w9.heap.size, 0, none⟩) 2 2, .slice (some ⟨w10.heap.size, 0, none⟩) 1 1] TS)
    rw [World.size_alloc] at g1
    refine lists_block g1 rfl (fun j hj hk => ?_) 2 2 rfl
    rcases (show j = 0 ∨ j = 1 by simp at hj; omega) with rfl | rfl
    · exact sps_block (l := [p57, p02]) (blk_alloc (blk_alloc HG10.out _) _) rfl 2 2 rfl
    · exact sps_block (l := [p33]) (blk_alloc (heap_alloc_new w10 _) _) rfl 1 1 rfl)
  have HX := Lib.hid (join_any _ _ _ HLO.out (by simp) (by simp))
  go_wp2_with fail
  refine HX.out.mono ?_
  rintro e w11 ⟨l, hset, hl, v1, rfl, ho, hb⟩
  obtain rfl : l = [p03, p57] := hset.unique HE2.out fun n => Iff.rfl
  have HQ11 := Lib.hid (blk_kept hb (blk_alloc (blk_alloc HQ10.out _) _))
  have HB11 := Lib.hid (below_step HBL.out hb HBL.out.size)
  obtain ⟨g, gc, hve, hg1, hg2, hg3, hcs, -⟩ := owns_shape ho (by simp)
  subst hve
  have HSE := Lib.hid (show ∀ W, Below w11.heap.size w11 W → SpsAt W (.slice (some ⟨g, 0, none⟩) 2 gc) [p03, p57] from fun W hbb => (Seg.of_owns ho).kept hbb)
  have hcx := own_cells ho rfl (i := 0) (x := p03) (by simp)
  have HC := Lib.hid (show ∀ W, Below w11.heap.size w11 W → W.cell? ⟨bq, 0, none⟩ = some (.int .u8 (a4.1.toNat : Int)) ∧ W.cell? ⟨bq, 1, none⟩ = some (.int .u64 (a4.2.1.toNat : Int)) ∧ W.cell? ⟨bq, 2, none⟩ = some (.int .u64 (a4.2.2.toNat : Int)) ∧ W.cell? ⟨g, 0, none⟩ = some (.int .u8 (p03.1.1.toNat : Int)) ∧ W.cell? ⟨g, 1, none⟩ = some (.int .u64 (p03.1.2.1.toNat : Int)) ∧ W.cell? ⟨g, 2, none⟩ = some (.int .u64 (p03.1.2.2.toNat : Int)) ∧ W.cell? ⟨g, 3, none⟩ = some (.int .u8 (p03.2.1.toNat : Int)) ∧ W.cell? ⟨g, 4, none⟩ = some (.int .u64 (p03.2.2.1.toNat : Int)) ∧ W.cell? ⟨g, 5, none⟩ = some (.int .u64 (p03.2.2.2.toNat : Int)) from fun W hbb => by
    have h := hcx.kept hbb
    have q := blk_kept hbb HQ11.out
    have e0 : 0 * 6 = 0 := rfl
    exact ⟨box_n0 q, box_n1 q, box_n2 q, by simpa using h.c0, by simpa using h.c1, by simpa using h.c2, by simpa using h.c3, by simpa using h.c4, by simpa using h.c5⟩)
  have HD := Lib.hid (show Below w11.heap.size w11 w11.drew from (Below.refl _ _).drew)
  have HFR := Lib.hid (show ∀ W k, Below w11.heap.size w11 W → W.heap[k]? = some (.cells #[.slice (some ⟨g, 0, none⟩) 2 gc] TS) → Calls Try.prog 13 #[encA a0, encA a10, .slice (some ⟨k, 0, none⟩) 1 1] W (SetPost W (FreeP a0 a10 (covS [p03, p57])) 3) from fun W k hbb hk => by
    have := free_any a0 a10 (.slice (some ⟨k, 0, none⟩) 1 1) [[p03, p57]] W (Lists.one hk (HSE.out W hbb)) (by simp) (by simp)
    simpa using this)
  clear hset hl ho hb hg1 hg2 hg3 hcs hcx HX HLO HBL HB7 HB8 HB9 HB10 HBL9 HG9 HG10 HQ HQ8 HQ9 HQ10 HE2
  rw [show [p03, p57].length = 2 from rfl]
  have c0 := (HC.out _ HD.out).1
  have c1 := (HC.out _ HD.out).2.1
  have c2 := (HC.out _ HD.out).2.2.1
  have c3 := (HC.out _ HD.out).2.2.2.1
  have c4 := (HC.out _ HD.out).2.2.2.2.1
  have c5 := (HC.out _ HD.out).2.2.2.2.2.1
  have c6 := (HC.out _ HD.out).2.2.2.2.2.2.1
  have c7 := (HC.out _ HD.out).2.2.2.2.2.2.2.1
  have c8 := (HC.out _ HD.out).2.2.2.2.2.2.2.2
  have q1 := fun W => run_eqlAa a4 a4 W
  have q2 := fun W => run_eqlS p03 p03 W
  rw [beq_self_eq_true] at q1 q2
  go_wp2_with fail
  go_region_held3 (fun W => W.cell? ⟨bq, 0, none⟩ = some (.int .u8 (a4.1.toNat : Int)) ∧ W.cell? ⟨bq, 1, none⟩ = some (.int .u64 (a4.2.1.toNat : Int)) ∧ W.cell? ⟨bq, 2, none⟩ = some (.int .u64 (a4.2.2.toNat : Int)) ∧ W.cell? ⟨g, 0, none⟩ = some (.int .u8 (p03.1.1.toNat : Int)) ∧ W.cell? ⟨g, 1, none⟩ = some (.int .u64 (p03.1.2.1.toNat : Int)) ∧ W.cell? ⟨g, 2, none⟩ = some (.int .u64 (p03.1.2.2.toNat : Int)) ∧ W.cell? ⟨g, 3, none⟩ = some (.int .u8 (p03.2.1.toNat : Int)) ∧ W.cell? ⟨g, 4, none⟩ = some (.int .u64 (p03.2.2.1.toNat : Int)) ∧ W.cell? ⟨g, 5, none⟩ = some (.int .u64 (p03.2.2.2.toNat : Int))) (go_keep)
    (first
      | (go_at_call 27; (with_reducible refine (HA4.out _).mono ?_); rintro e u1 ⟨rfl, hb⟩; have B1 := Lib.hid (below_step HD.out hb HD.out.size); have d0 := (HC.out _ B1.out).1; have d1 := (HC.out _ B1.out).2.1; have d2 := (HC.out _ B1.out).2.2.1; have d3 := (HC.out _ B1.out).2.2.2.1; have d4 := (HC.out _ B1.out).2.2.2.2.1; have d5 := (HC.out _ B1.out).2.2.2.2.2.1; have d6 := (HC.out _ B1.out).2.2.2.2.2.2.1; have d7 := (HC.out _ B1.out).2.2.2.2.2.2.2.1; have d8 := (HC.out _ B1.out).2.2.2.2.2.2.2.2)
      | (go_at_call 26; (with_reducible refine (H03.out _).mono ?_); rintro e u2 ⟨rfl, hb⟩; have B2 := Lib.hid (below_step B1.out hb B1.out.size); have f0 := (HC.out _ B2.out).1; have f1 := (HC.out _ B2.out).2.1; have f2 := (HC.out _ B2.out).2.2.1; have f3 := (HC.out _ B2.out).2.2.2.1; have f4 := (HC.out _ B2.out).2.2.2.2.1; have f5 := (HC.out _ B2.out).2.2.2.2.2.1; have f6 := (HC.out _ B2.out).2.2.2.2.2.2.1; have f7 := (HC.out _ B2.out).2.2.2.2.2.2.2.1; have f8 := (HC.out _ B2.out).2.2.2.2.2.2.2.2)
      | (go_at_call 27; (with_reducible refine (HA0.out _).mono ?_); rintro e u3 ⟨rfl, hb⟩; (have B3 := Lib.hid (show Below w11.heap.size w11 u3 from by first | exact below_step B2.out hb B2.out.size | exact below_step (B2.out.alloc B2.out.size _) hb (B2.out.alloc B2.out.size _).size)); (try (have K3 := Lib.hid (show u3.heap[u2.heap.size]? = some (.cells #[.slice (some ⟨g, 0, none⟩) 2 gc] TS) from blk_kept hb (heap_alloc_new _ _)))); have h0 := (HC.out _ B3.out).1; have h1 := (HC.out _ B3.out).2.1; have h2 := (HC.out _ B3.out).2.2.1; have h3 := (HC.out _ B3.out).2.2.2.1; have h4 := (HC.out _ B3.out).2.2.2.2.1; have h5 := (HC.out _ B3.out).2.2.2.2.2.1; have h6 := (HC.out _ B3.out).2.2.2.2.2.2.1; have h7 := (HC.out _ B3.out).2.2.2.2.2.2.2.1; have h8 := (HC.out _ B3.out).2.2.2.2.2.2.2.2)
      | (go_at_call 27; (with_reducible refine (HA10.out _).mono ?_); rintro e u4 ⟨rfl, hb⟩; (have B4 := Lib.hid (show Below w11.heap.size w11 u4 from by first | exact below_step B3.out hb B3.out.size | exact below_step (B3.out.alloc B3.out.size _) hb (B3.out.alloc B3.out.size _).size)); (try (have K4 := Lib.hid (show u4.heap[u2.heap.size]? = some (.cells #[.slice (some ⟨g, 0, none⟩) 2 gc] TS) from blk_kept hb K3.out))); (try (have K5 := Lib.hid (show u4.heap[u3.heap.size]? = some (.cells #[.slice (some ⟨g, 0, none⟩) 2 gc] TS) from blk_kept hb (heap_alloc_new _ _)))); have j0 := (HC.out _ B4.out).1; have j1 := (HC.out _ B4.out).2.1; have j2 := (HC.out _ B4.out).2.2.1; have j3 := (HC.out _ B4.out).2.2.2.1; have j4 := (HC.out _ B4.out).2.2.2.2.1; have j5 := (HC.out _ B4.out).2.2.2.2.2.1; have j6 := (HC.out _ B4.out).2.2.2.2.2.2.1; have j7 := (HC.out _ B4.out).2.2.2.2.2.2.2.1; have j8 := (HC.out _ B4.out).2.2.2.2.2.2.2.2)
      | (go_at_call 13; (first
          | (refine (HFR.out _ _ B4.out K4.out).mono ?_; rintro e u5 ⟨l5, hset5, -, v5, rfl, ho5, hb⟩; have B5 := Lib.hid (below_step B4.out hb B4.out.size))
          | (refine (HFR.out _ _ B4.out K5.out).mono ?_; rintro e u5 ⟨l5, hset5, -, v5, rfl, ho5, hb⟩; have B5 := Lib.hid (below_step B4.out hb B4.out.size))
          | (refine (HFR.out _ _ (B4.out.alloc B4.out.size _) (heap_alloc_new _ _)).mono ?_; rintro e u5 ⟨l5, hset5, -, v5, rfl, ho5, hb⟩; have B5 := Lib.hid (below_step (B4.out.alloc B4.out.size _) hb (B4.out.alloc B4.out.size _).size))); (obtain rfl : l5 = [p44, p810] := hset5.unique HE3.out (fun n => Iff.rfl)); obtain ⟨o5, c5', hv5⟩ := owns_slice1 ho5; subst hv5; rw [show [p44, p810].length = 2 from rfl]; clear hset5 ho5 hb; have m0 := (HC.out _ B5.out).1; have m1 := (HC.out _ B5.out).2.1; have m2 := (HC.out _ B5.out).2.2.1; have m3 := (HC.out _ B5.out).2.2.2.1; have m4 := (HC.out _ B5.out).2.2.2.2.1; have m5 := (HC.out _ B5.out).2.2.2.2.2.1; have m6 := (HC.out _ B5.out).2.2.2.2.2.2.1; have m7 := (HC.out _ B5.out).2.2.2.2.2.2.2.1; have m8 := (HC.out _ B5.out).2.2.2.2.2.2.2.2))
  all_goals
    go_wp2_with fail
    go_ret
    exact ⟨rfl, below_step HB11.out B5.out HB11.out.size⟩
end Go.Proofs.Try.Gp
