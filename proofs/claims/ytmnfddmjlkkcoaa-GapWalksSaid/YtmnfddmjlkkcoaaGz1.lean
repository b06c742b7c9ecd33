/- GapLeast: its walk. -/
import Derived.Test.YtmnfddmjlkkcoaaGw2
import Derived.Test.YtmnfddmjlkkcoaaGv1
import Derived.Deep.DeepCutAuto
set_option linter.unusedVariables false
set_option linter.unusedSimpArgs false
namespace Go.Proofs.Try.Gp
open Go.RowKit Go.Cph Go.Cph.Px Go.Cph.Gp Go.Cph.So
open Pfx (encA)
theorem rbox_z0 {w : World} {b : Nat} (h : w.heap[b]? = some (.cells #[.int .u8 0, .int .u64 0, .int .u64 0] 36 (0, 0))) : w.cell? ⟨b, 0, none⟩ = some (.int .u8 0) := by rw [blk_cell h]; rfl
theorem rbox_z1 {w : World} {b : Nat} (h : w.heap[b]? = some (.cells #[.int .u8 0, .int .u64 0, .int .u64 0] 36 (0, 0))) : w.cell? ⟨b, 1, none⟩ = some (.int .u64 0) := by rw [blk_cell h]; rfl
theorem rbox_z2 {w : World} {b : Nat} (h : w.heap[b]? = some (.cells #[.int .u8 0, .int .u64 0, .int .u64 0] 36 (0, 0))) : w.cell? ⟨b, 2, none⟩ = some (.int .u64 0) := by rw [blk_cell h]; rfl
theorem rbox_zf {w : World} {b : Nat} (h : w.heap[b]? = some (.cells #[.int .u8 0, .int .u64 0, .int .u64 0] 36 (0, 0))) : ∀ j, w.frozen? ⟨b, j, none⟩ = false := fun j => by rw [blk_frozen h]; simp
theorem Small.len {ls : List (List Sp)} (h : Small ls) : ls.length ≤ 1000000 := by have := h.num; omega
theorem Small.one {ls : List (List Sp)} (h : Small ls) {i : Nat} (hi : i < ls.length) : ls[i].length ≤ 20 := h.each _ (List.getElem_mem hi)

set_option maxRecDepth 100000 in
set_option maxHeartbeats 32000000 in
theorem least_law (a b : Ad) (v : Value) (ls : List (List Sp)) (w : World) (h : SpsOf w v ls) (hlm : ls.length ≤ 9223372036854775807) (hls : ∀ l ∈ ls, l.length ≤ 9223372036854775807) :
    Calls Try.prog 5 #[v, encA a, encA b] w (AwPost w) := by
  obtain ⟨ao, cap, hv⟩ := h.slice
  subst hv
  have hg1 := heap_alloc_new (w.alloc (boxA a)) (boxA b)
  rw [World.size_alloc] at hg1
  have GA := Lib.hid (show ((w.alloc (boxA a)).alloc (boxA b)).heap[w.heap.size]? = some (boxA a) from blk_alloc (heap_alloc_new _ _) _)
  have GB := Lib.hid hg1
  have BE := Lib.hid (show Below w.heap.size w ((w.alloc (boxA a)).alloc (boxA b)) from ((Below.refl _ _).alloc (Nat.le_refl _) _).alloc (by simp) _)
  have LS := Lib.hid (h.kept BE.out)
  have HGR := Lib.hid (great_any _ ls _ LS.out hlm (by unfold maxLen; exact hls))
  obtain ⟨n, hn⟩ : ∃ n, n = w.heap.size := ⟨_, rfl⟩
  have HN := Lib.hid hn
  have GA := Lib.hid (by have := GA.out; rw [← hn] at this; exact this)
  have GB := Lib.hid (by have := GB.out; rw [← hn] at this; exact this)
  clear hn hg1 h hlm hls
  go_enter Try.func5, Try.ntmps5
  go_wp2_with fail
  generalize (w.alloc (boxA a)).alloc (boxA b) = w1 at *
  rw [← HN.out]
  refine HGR.out.mono ?_
  rintro e w2 ⟨r, rfl, hsm, hb⟩
  have GA1 := Lib.hid (blk_kept hb GA.out)
  have GB1 := Lib.hid (blk_kept hb GB.out)
  have BE1 := Lib.hid (below_step BE.out hb BE.out.size)
  have LS1 := Lib.hid (LS.out.kept hb)
  clear hb HGR
  cases r
  · have HSM := Lib.hid (hsm rfl)
    clear hsm
    have f0 := box_n0 GA1.out
    have f1 := box_n1 GA1.out
    have f2 := box_n2 GA1.out
    have g0 := box_n0 GB1.out
    have g1 := box_n1 GB1.out
    have g2 := box_n2 GB1.out
    go_wp2_with fail
    clear f0 f1 f2 g0 g1 g2
    refine (least_any a b _ ls _ LS1.out (by have := HSM.out.num; omega) (by have := HSM.out.flat; omega)).mono ?_
    rintro e w3 ⟨⟨r, rfl, hr⟩, hb⟩
    have HLE := Lib.hid hr
    obtain ⟨x, ok⟩ := r
    have GA2 := Lib.hid (blk_kept hb GA1.out)
    have GB2 := Lib.hid (blk_kept hb GB1.out)
    have BE2 := Lib.hid (below_step BE1.out hb BE1.out.size)
    have LS2 := Lib.hid (LS1.out.kept hb)
    clear hb hr
    have hbx : Below w3.heap.size w3 (w3.alloc (boxA x)) := (Below.refl _ _).alloc (Nat.le_refl _) _
    have GA3 := Lib.hid (blk_kept hbx GA2.out)
    have GB3 := Lib.hid (blk_kept hbx GB2.out)
    have BE3 := Lib.hid (below_step BE2.out hbx BE2.out.size)
    have LS3 := Lib.hid (LS2.out.kept hbx)
    have GX := Lib.hid (heap_alloc_new w3 (boxA x))
    clear hbx
    go_upto_region 4 with (fail)
    obtain ⟨bx, hbx⟩ : ∃ k, k = w3.heap.size := ⟨_, rfl⟩
    rw [← hbx] at GX ⊢
    clear hbx
    generalize w3.alloc (boxA x) = w4 at *
    obtain ⟨w5, hw5⟩ : ∃ w5, w5 = w4.drew := ⟨_, rfl⟩
    clear hw5 w5
    have HC := Lib.hid (show ∀ W, Below w4.heap.size w4 W → W.cell? ⟨n, 0, none⟩ = some (.int .u8 (a.1.toNat : Int)) ∧ W.cell? ⟨n, 1, none⟩ = some (.int .u64 (a.2.1.toNat : Int)) ∧ W.cell? ⟨n, 2, none⟩ = some (.int .u64 (a.2.2.toNat : Int)) ∧ W.cell? ⟨n + 1, 0, none⟩ = some (.int .u8 (b.1.toNat : Int)) ∧ W.cell? ⟨n + 1, 1, none⟩ = some (.int .u64 (b.2.1.toNat : Int)) ∧ W.cell? ⟨n + 1, 2, none⟩ = some (.int .u64 (b.2.2.toNat : Int)) from fun W hbb => by
      have q := blk_kept hbb GA3.out
      have r := blk_kept hbb GB3.out
      exact ⟨box_n0 q, box_n1 q, box_n2 q, box_n0 r, box_n1 r, box_n2 r⟩)
    have HD := Lib.hid (show Below w4.heap.size w4 w4.drew from (Below.refl _ _).drew)
    have HGV := Lib.hid (show ∀ W, Below w4.heap.size w4 W → _ from fun W hbb => given_any _ ls W (LS3.out.kept hbb) HSM.out.len (by have := HSM.out.flat; omega))
    go_cut [9, 10] (fun s9 s10 wx => ∃ k, s9 = .pointer (some ⟨k, 0, none⟩) ∧ s10 = .bool ok ∧ wx.heap[k]? = some (boxAr x) ∧ Below w4.heap.size w4 wx)
    case first =>
      have n1 : w4.heap.size ≠ n := by have := blk_lt GA3.out; omega
      have n2 : w4.heap.size ≠ n + 1 := by have := blk_lt GB3.out; omega
      have n3 : n ≠ w4.heap.size := fun e => n1 e.symm
      have n4 : n + 1 ≠ w4.heap.size := fun e => n2 e.symm
      have c0 := (HC.out _ HD.out).1
      have c1 := (HC.out _ HD.out).2.1
      have c2 := (HC.out _ HD.out).2.2.1
      have c3 := (HC.out _ HD.out).2.2.2.1
      have c4 := (HC.out _ HD.out).2.2.2.2.1
      have c5 := (HC.out _ HD.out).2.2.2.2.2
      have L0 := Lib.hid (show Below w4.heap.size w4 ((w4.alloc (.cells #[.int .u8 0, .int .u64 0, .int .u64 0] 36)).drew) from ((Below.refl _ _).alloc (Nat.le_refl _) _).drew)
      have cc0 := (HC.out _ L0.out).1
      have cc1 := (HC.out _ L0.out).2.1
      have cc2 := (HC.out _ L0.out).2.2.1
      have cc3 := (HC.out _ L0.out).2.2.2.1
      have cc4 := (HC.out _ L0.out).2.2.2.2.1
      have cc5 := (HC.out _ L0.out).2.2.2.2.2
      go_region_held3 (fun W => W.cell? ⟨n, 0, none⟩ = some (.int .u8 (a.1.toNat : Int)) ∧ W.cell? ⟨n, 1, none⟩ = some (.int .u64 (a.2.1.toNat : Int)) ∧ W.cell? ⟨n, 2, none⟩ = some (.int .u64 (a.2.2.toNat : Int)) ∧ W.cell? ⟨n + 1, 0, none⟩ = some (.int .u8 (b.1.toNat : Int)) ∧ W.cell? ⟨n + 1, 1, none⟩ = some (.int .u64 (b.2.1.toNat : Int)) ∧ W.cell? ⟨n + 1, 2, none⟩ = some (.int .u64 (b.2.2.toNat : Int))) (go_keep)
        (first
          | (go_at_call 11; (first
              | ((with_reducible refine (HGV.out _ HD.out).mono ?_); rintro e u1 ⟨v1, rfl, ho1, hb⟩; have B1 := Lib.hid (below_step HD.out hb HD.out.size))
              | (refine (HGV.out _ (HD.out.alloc HD.out.size _)).mono ?_; rintro e u1 ⟨v1, rfl, ho1, hb⟩; have B1 := Lib.hid (below_step (HD.out.alloc HD.out.size _) hb (HD.out.alloc HD.out.size _).size); have K1 := Lib.hid (show u1.heap[w4.heap.size]? = some (.cells #[.int .u8 0, .int .u64 0, .int .u64 0] 36) from blk_kept hb (heap_alloc_new w4.drew _)))); have HV1 := Lib.hid (show SpsAt u1 v1 ls.flatten from Seg.of_owns ho1); clear ho1 hb; have d0 := (HC.out _ B1.out).1; have d1 := (HC.out _ B1.out).2.1; have d2 := (HC.out _ B1.out).2.2.1; have d3 := (HC.out _ B1.out).2.2.2.1; have d4 := (HC.out _ B1.out).2.2.2.2.1; have d5 := (HC.out _ B1.out).2.2.2.2.2; have L1 := Lib.hid (show Below w4.heap.size w4 (u1.alloc (.cells #[.int .u8 0, .int .u64 0, .int .u64 0] 36)) from B1.out.alloc B1.out.size _); have dd0 := (HC.out _ L1.out).1; have dd1 := (HC.out _ L1.out).2.1; have dd2 := (HC.out _ L1.out).2.2.1; have dd3 := (HC.out _ L1.out).2.2.2.1; have dd4 := (HC.out _ L1.out).2.2.2.2.1; have dd5 := (HC.out _ L1.out).2.2.2.2.2; have m1 : u1.heap.size ≠ n := (by have := B1.out.size; have := blk_lt GA3.out; omega); have m2 : u1.heap.size ≠ n + 1 := (by have := B1.out.size; have := blk_lt GB3.out; omega); have m3 : n ≠ u1.heap.size := (fun e => m1 e.symm); have m4 : n + 1 ≠ u1.heap.size := (fun e => m2 e.symm))
          | (go_at_call 22; (first
              | ((with_reducible refine (rleast_any v1 ls.flatten a b u1 HV1.out (by have := HSM.out.flat; omega)).mono ?_); rintro e u2 ⟨⟨r2, rfl, hr2⟩, hb⟩; have B2 := Lib.hid (below_step B1.out hb B1.out.size); try (have K2 := Lib.hid (blk_kept hb K1.out)))
              | (refine (rleast_any v1 ls.flatten a b (u1.alloc (.cells #[.int .u8 0, .int .u64 0, .int .u64 0] 36)) (HV1.out.kept ((Below.refl _ _).alloc (Nat.le_refl _) _)) (by have := HSM.out.flat; omega)).mono ?_; rintro e u2 ⟨⟨r2, rfl, hr2⟩, hb⟩; have B2 := Lib.hid (below_step (B1.out.alloc B1.out.size _) hb (B1.out.alloc B1.out.size _).size); have K2 := Lib.hid (show u2.heap[u1.heap.size]? = some (.cells #[.int .u8 0, .int .u64 0, .int .u64 0] 36) from blk_kept hb (heap_alloc_new u1 _)))); (obtain rfl : r2 = (x, ok) := hr2.unique HLE.out (fun n => Iff.rfl)); clear hr2 hb; have f0 := (HC.out _ B2.out).1; have f1 := (HC.out _ B2.out).2.1; have f2 := (HC.out _ B2.out).2.2.1; have f3 := (HC.out _ B2.out).2.2.2.1; have f4 := (HC.out _ B2.out).2.2.2.2.1; have f5 := (HC.out _ B2.out).2.2.2.2.2; have L2 := Lib.hid (show Below w4.heap.size w4 (u2.alloc (.cells #[.int .u8 0, .int .u64 0, .int .u64 0] 36)) from B2.out.alloc B2.out.size _); have ff0 := (HC.out _ L2.out).1; have ff1 := (HC.out _ L2.out).2.1; have ff2 := (HC.out _ L2.out).2.2.1; have ff3 := (HC.out _ L2.out).2.2.2.1; have ff4 := (HC.out _ L2.out).2.2.2.2.1; have ff5 := (HC.out _ L2.out).2.2.2.2.2; have o1 : u2.heap.size ≠ n := (by have := B2.out.size; have := blk_lt GA3.out; omega); have o2 : u2.heap.size ≠ n + 1 := (by have := B2.out.size; have := blk_lt GB3.out; omega); have o3 : n ≠ u2.heap.size := (fun e => o1 e.symm); have o4 : n + 1 ≠ u2.heap.size := (fun e => o2 e.symm); try (have y0 := rbox_z0 K2.out; have y1 := rbox_z1 K2.out; have y2 := rbox_z2 K2.out; have fz := rbox_zf K2.out)))
      all_goals
        go_wp2_with fail
        go_meet
        case rel => first
          | exact ⟨_, rfl, rfl, heap_alloc_new _ _, B2.out.alloc B2.out.size _⟩
          | exact ⟨_, rfl, rfl, put_box0 K2.out x, put_below (o := 0) B2.out (by first | exact Nat.le_refl _ | exact B1.out.size) x⟩
    case rest =>
      obtain ⟨by_, rfl, rfl, hgy, hbel⟩ := hcut
      have GA4 := Lib.hid (blk_kept hbel GA3.out)
      have GB4 := Lib.hid (blk_kept hbel GB3.out)
      have BE4 := Lib.hid (below_step BE3.out hbel BE3.out.size)
      have LS4 := Lib.hid (LS3.out.kept hbel)
      have GX4 := Lib.hid (blk_kept hbel GX.out)
      have GY4 := Lib.hid hgy
      clear hbel hgy HC HD HGV HLE
      have f0 := box_n0 GA4.out
      have f1 := box_n1 GA4.out
      have f2 := box_n2 GA4.out
      have g0 := box_n0 GB4.out
      have g1 := box_n1 GB4.out
      have g2 := box_n2 GB4.out
      have hbx : Below wc.heap.size wc (wc.alloc (boxS (a, b))) := (Below.refl _ _).alloc (Nat.le_refl _) _
      have GA5 := Lib.hid (blk_kept hbx GA4.out)
      have GB5 := Lib.hid (blk_kept hbx GB4.out)
      have BE5 := Lib.hid (below_step BE4.out hbx BE4.out.size)
      have LS5 := Lib.hid (LS4.out.kept hbx)
      have GX5 := Lib.hid (blk_kept hbx GX4.out)
      have GY5 := Lib.hid (blk_kept hbx GY4.out)
      have GS := Lib.hid (heap_alloc_new wc (boxS (a, b)))
      clear hbx
      go_upto_region 6 with (fail)
      clear f0 f1 f2 g0 g1 g2
      obtain ⟨bs, hbs⟩ : ∃ k, k = wc.heap.size := ⟨_, rfl⟩
      rw [← hbs] at GS ⊢
      clear hbs
      generalize wc.alloc (boxS (a, b)) = w6 at *
      have f0 := box_n0 GA5.out
      have f1 := box_n1 GA5.out
      have f2 := box_n2 GA5.out
      have g0 := box_n0 GB5.out
      have g1 := box_n1 GB5.out
      have g2 := box_n2 GB5.out
      have hbx : Below w6.heap.size w6 (w6.alloc (boxSr (a, b))) := (Below.refl _ _).alloc (Nat.le_refl _) _
      have GA6 := Lib.hid (blk_kept hbx GA5.out)
      have GB6 := Lib.hid (blk_kept hbx GB5.out)
      have BE6 := Lib.hid (below_step BE5.out hbx BE5.out.size)
      have LS6 := Lib.hid (LS5.out.kept hbx)
      have GX6 := Lib.hid (blk_kept hbx GX5.out)
      have GY6 := Lib.hid (blk_kept hbx GY5.out)
      have GS6 := Lib.hid (blk_kept hbx GS.out)
      have GR := Lib.hid (heap_alloc_new w6 (boxSr (a, b)))
      clear hbx
      go_upto_region 7 with (fail)
      clear f0 f1 f2 g0 g1 g2
      obtain ⟨br, hbr⟩ : ∃ k, k = w6.heap.size := ⟨_, rfl⟩
      rw [← hbr] at GR ⊢
      clear hbr
      generalize w6.alloc (boxSr (a, b)) = w7 at *
      have d0 : ∀ zz : Later w7.heap.size w7, zz.val.cell? ⟨bs, 0, none⟩ = some (.int .u8 ((a, b).1.1.toNat : Int)) := fun zz => Later.cell (box_s0 GS6.out) (blk_lt GS6.out) zz
      have d1 : ∀ zz : Later w7.heap.size w7, zz.val.cell? ⟨bs, 1, none⟩ = some (.int .u64 ((a, b).1.2.1.toNat : Int)) := fun zz => Later.cell (box_s1 GS6.out) (blk_lt GS6.out) zz
      have d2 : ∀ zz : Later w7.heap.size w7, zz.val.cell? ⟨bs, 2, none⟩ = some (.int .u64 ((a, b).1.2.2.toNat : Int)) := fun zz => Later.cell (box_s2 GS6.out) (blk_lt GS6.out) zz
      have d3 : ∀ zz : Later w7.heap.size w7, zz.val.cell? ⟨bs, 3, none⟩ = some (.int .u8 ((a, b).2.1.toNat : Int)) := fun zz => Later.cell (box_s3 GS6.out) (blk_lt GS6.out) zz
      have d4 : ∀ zz : Later w7.heap.size w7, zz.val.cell? ⟨bs, 4, none⟩ = some (.int .u64 ((a, b).2.2.1.toNat : Int)) := fun zz => Later.cell (box_s4 GS6.out) (blk_lt GS6.out) zz
      have d5 : ∀ zz : Later w7.heap.size w7, zz.val.cell? ⟨bs, 5, none⟩ = some (.int .u64 ((a, b).2.2.2.toNat : Int)) := fun zz => Later.cell (box_s5 GS6.out) (blk_lt GS6.out) zz
      have e0 : ∀ zz : Later w7.heap.size w7, zz.val.cell? ⟨br, 0, none⟩ = some (.int .u8 ((a, b).1.1.toNat : Int)) := fun zz => Later.cell (rbox_s0 GR.out) (blk_lt GR.out) zz
      have e1 : ∀ zz : Later w7.heap.size w7, zz.val.cell? ⟨br, 1, none⟩ = some (.int .u64 ((a, b).1.2.1.toNat : Int)) := fun zz => Later.cell (rbox_s1 GR.out) (blk_lt GR.out) zz
      have e2 : ∀ zz : Later w7.heap.size w7, zz.val.cell? ⟨br, 2, none⟩ = some (.int .u64 ((a, b).1.2.2.toNat : Int)) := fun zz => Later.cell (rbox_s2 GR.out) (blk_lt GR.out) zz
      have e3 : ∀ zz : Later w7.heap.size w7, zz.val.cell? ⟨br, 3, none⟩ = some (.int .u8 ((a, b).2.1.toNat : Int)) := fun zz => Later.cell (rbox_s3 GR.out) (blk_lt GR.out) zz
      have e4 : ∀ zz : Later w7.heap.size w7, zz.val.cell? ⟨br, 4, none⟩ = some (.int .u64 ((a, b).2.2.1.toNat : Int)) := fun zz => Later.cell (rbox_s4 GR.out) (blk_lt GR.out) zz
      have e5 : ∀ zz : Later w7.heap.size w7, zz.val.cell? ⟨br, 5, none⟩ = some (.int .u64 ((a, b).2.2.2.toNat : Int)) := fun zz => Later.cell (rbox_s5 GR.out) (blk_lt GR.out) zz
      have f0 : ∀ zz : Later w7.heap.size w7, zz.val.cell? ⟨bx, 0, none⟩ = some (.int .u8 (x.1.toNat : Int)) := fun zz => Later.cell (box_n0 GX6.out) (blk_lt GX6.out) zz
      have f1 : ∀ zz : Later w7.heap.size w7, zz.val.cell? ⟨bx, 1, none⟩ = some (.int .u64 (x.2.1.toNat : Int)) := fun zz => Later.cell (box_n1 GX6.out) (blk_lt GX6.out) zz
      have f2 : ∀ zz : Later w7.heap.size w7, zz.val.cell? ⟨bx, 2, none⟩ = some (.int .u64 (x.2.2.toNat : Int)) := fun zz => Later.cell (box_n2 GX6.out) (blk_lt GX6.out) zz
      have g0 : ∀ zz : Later w7.heap.size w7, zz.val.cell? ⟨by_, 0, none⟩ = some (.int .u8 (x.1.toNat : Int)) := fun zz => Later.cell (rbox_n0 GY6.out) (blk_lt GY6.out) zz
      have g1 : ∀ zz : Later w7.heap.size w7, zz.val.cell? ⟨by_, 1, none⟩ = some (.int .u64 (x.2.1.toNat : Int)) := fun zz => Later.cell (rbox_n1 GY6.out) (blk_lt GY6.out) zz
      have g2 : ∀ zz : Later w7.heap.size w7, zz.val.cell? ⟨by_, 2, none⟩ = some (.int .u64 (x.2.2.toNat : Int)) := fun zz => Later.cell (rbox_n2 GY6.out) (blk_lt GY6.out) zz
      have HR1 := Lib.hid (fun W => right_sp (a, b) W)
      have HR2 := Lib.hid (fun W => rright_sp (a, b) W)
      obtain ⟨p, hp⟩ : ∃ p, p = rightS (a, b) := ⟨_, rfl⟩
      rw [← hp] at HR1 HR2
      clear hp
      go_cut [53] (fun s wx => s = .bool false ∧ Below w7.heap.size w7 wx)
      case first =>
        have q : ∀ W, (binOp .neq 36 (encA x) (encA x)).run Try.prog W = .ok (.bool false) W := fun W => by
          have := run_neqAr x x W
          rwa [beq_self_eq_true] at this
        cases p <;> cases ok
        all_goals
          refine wp_region_later w7.heap.size (by kernel_rfl) (by kernel_rfl) ?_
          repeat (go_big_quiet_step (first | (go_at_call 20; exact Later.calls (Nat.le_refl _) (HR1.out _)) | (go_at_call 23; exact Later.calls (Nat.le_refl _) (HR2.out _))))
          refine wpQuiet_nil ?_
          rintro wq ⟨zz, rfl⟩
          have HZ := Lib.hid zz.prop
          clear q d0 d1 d2 d3 d4 d5 e0 e1 e2 e3 e4 e5 f0 f1 f2 g0 g1 g2
          generalize zz.val = wq at *
          go_wp2_with fail
          go_meet
          case rel => exact ⟨rfl, HZ.out⟩
      case rest =>
        obtain ⟨rfl, hbel⟩ := hcut
        clear d0 d1 d2 d3 d4 d5 e0 e1 e2 e3 e4 e5 f0 f1 f2 g0 g1 g2 HR1 HR2
        have BE7 := Lib.hid (below_step BE6.out hbel BE6.out.size)
        have LS7 := Lib.hid (LS6.out.kept hbel)
        have GS7 := Lib.hid (blk_kept hbel GS6.out)
        have GR7 := Lib.hid (blk_kept hbel GR.out)
        clear hbel
        go_wp2_with fail
        go_loopw [13] (fun vi W => ∃ i : Nat, i ≤ ls.length ∧ vi = .int .i64 i ∧ Below wc.heap.size wc W) (fun vi _ => ls.length - (intOf vi).toNat)
        case atStart => exact ⟨0, Nat.zero_le _, rfl, Below.refl _ _⟩
        case round =>
          obtain ⟨i, hi, rfl, hbel⟩ := hrel
          have HB := Lib.hid hbel
          by_cases hlt : i < ls.length
          · have HLT := Lib.hid hlt
            obtain ⟨b', off, cap', hve, hcs⟩ := LS7.out.cell (by omega)
            injection hve with hx1 hx2 hx3
            subst hx1
            clear hx2 hx3
            obtain ⟨u, hu2, hue⟩ := hcs i hlt
            obtain ⟨g, hg⟩ : ∃ g, g = ls[i] := ⟨_, rfl⟩
            have HG20 := Lib.hid (show g.length ≤ 20 from by rw [hg]; exact HSM.out.one hlt)
            replace hue : SpsAt wc u g := by rw [hg]; exact hue
            obtain ⟨uo, uc, hub⟩ := elems_slice hue
            subst hub
            have HUE := Lib.hid hue
            have HU2 := Lib.hid hu2
            have k1 : (0 : Int) ≤ (i : Int) := by omega
            have k2 : (i : Int) < (ls.length : Int) := by omega
            have k4 : IntKind.i64.wrap ((i : Int) + 1) = (i : Int) + 1 := by rw [IntKind.wrap_i64]; have := HSM.out.num; omega
            clear hbel hcs hue hu2 hg hi hlt
            go_wp2_with fail
            go_loopw [14] (fun vk W => ∃ k : Nat, k ≤ g.length ∧ vk = .int .i64 k ∧ Below wc.heap.size wc W) (fun vk _ => g.length - (intOf vk).toNat)
            case atStart => exact ⟨0, Nat.zero_le _, rfl, HB.out⟩
            case round =>
              obtain ⟨k, hk, rfl, hbel⟩ := hrel
              have HB2 := Lib.hid hbel
              have hu := (hbel.cell (World.block_lt_of_cell? _ _ HU2.out)).trans HU2.out
              by_cases hkl : k < g.length
              · obtain ⟨gb, go_, gc, hub, hgc⟩ := sps_cells HUE.out (by omega)
                injection hub with hu1 _ hu3
                subst hu1
                obtain rfl : gc = uc := hu3.symm
                have hcx := (hgc k hkl).kept hbel
                obtain ⟨x, hx⟩ : ∃ x, x = g[k]'hkl := ⟨_, rfl⟩
                rw [← hx] at hcx
                have HKL := Lib.hid hkl
                have j1 : (0 : Int) ≤ (k : Int) := by omega
                have j2 : (k : Int) < (g.length : Int) := by omega
                have j4 : IntKind.i64.wrap ((k : Int) + 1) = (k : Int) + 1 := by rw [IntKind.wrap_i64]; have := HG20.out; omega
                have HS3 := Lib.hid (blk_kept hbel GS7.out)
                have HR3 := Lib.hid (blk_kept hbel GR7.out)
                have d0 : ∀ zz : Later wr.heap.size wr, zz.val.cell? ⟨gb, go_ + k * 6, none⟩ = some (.int .u8 (x.1.1.toNat : Int)) := fun zz => Later.cell hcx.c0 (World.block_lt_of_cell? _ _ hcx.c0) zz
                have d1 : ∀ zz : Later wr.heap.size wr, zz.val.cell? ⟨gb, go_ + k * 6 + 1, none⟩ = some (.int .u64 (x.1.2.1.toNat : Int)) := fun zz => Later.cell hcx.c1 (World.block_lt_of_cell? _ _ hcx.c1) zz
                have d2 : ∀ zz : Later wr.heap.size wr, zz.val.cell? ⟨gb, go_ + k * 6 + 2, none⟩ = some (.int .u64 (x.1.2.2.toNat : Int)) := fun zz => Later.cell hcx.c2 (World.block_lt_of_cell? _ _ hcx.c2) zz
                have d3 : ∀ zz : Later wr.heap.size wr, zz.val.cell? ⟨gb, go_ + k * 6 + 3, none⟩ = some (.int .u8 (x.2.1.toNat : Int)) := fun zz => Later.cell hcx.c3 (World.block_lt_of_cell? _ _ hcx.c3) zz
                have d4 : ∀ zz : Later wr.heap.size wr, zz.val.cell? ⟨gb, go_ + k * 6 + 4, none⟩ = some (.int .u64 (x.2.2.1.toNat : Int)) := fun zz => Later.cell hcx.c4 (World.block_lt_of_cell? _ _ hcx.c4) zz
                have d5 : ∀ zz : Later wr.heap.size wr, zz.val.cell? ⟨gb, go_ + k * 6 + 5, none⟩ = some (.int .u64 (x.2.2.2.toNat : Int)) := fun zz => Later.cell hcx.c5 (World.block_lt_of_cell? _ _ hcx.c5) zz
                have e0 : ∀ zz : Later wr.heap.size wr, zz.val.cell? ⟨bs, 0, none⟩ = some (.int .u8 ((a, b).1.1.toNat : Int)) := fun zz => Later.cell (box_s0 HS3.out) (blk_lt HS3.out) zz
                have e1 : ∀ zz : Later wr.heap.size wr, zz.val.cell? ⟨bs, 1, none⟩ = some (.int .u64 ((a, b).1.2.1.toNat : Int)) := fun zz => Later.cell (box_s1 HS3.out) (blk_lt HS3.out) zz
                have e2 : ∀ zz : Later wr.heap.size wr, zz.val.cell? ⟨bs, 2, none⟩ = some (.int .u64 ((a, b).1.2.2.toNat : Int)) := fun zz => Later.cell (box_s2 HS3.out) (blk_lt HS3.out) zz
                have e3 : ∀ zz : Later wr.heap.size wr, zz.val.cell? ⟨bs, 3, none⟩ = some (.int .u8 ((a, b).2.1.toNat : Int)) := fun zz => Later.cell (box_s3 HS3.out) (blk_lt HS3.out) zz
                have e4 : ∀ zz : Later wr.heap.size wr, zz.val.cell? ⟨bs, 4, none⟩ = some (.int .u64 ((a, b).2.2.1.toNat : Int)) := fun zz => Later.cell (box_s4 HS3.out) (blk_lt HS3.out) zz
                have e5 : ∀ zz : Later wr.heap.size wr, zz.val.cell? ⟨bs, 5, none⟩ = some (.int .u64 ((a, b).2.2.2.toNat : Int)) := fun zz => Later.cell (box_s5 HS3.out) (blk_lt HS3.out) zz
                have f0 : ∀ zz : Later wr.heap.size wr, zz.val.cell? ⟨br, 0, none⟩ = some (.int .u8 ((a, b).1.1.toNat : Int)) := fun zz => Later.cell (rbox_s0 HR3.out) (blk_lt HR3.out) zz
                have f1 : ∀ zz : Later wr.heap.size wr, zz.val.cell? ⟨br, 1, none⟩ = some (.int .u64 ((a, b).1.2.1.toNat : Int)) := fun zz => Later.cell (rbox_s1 HR3.out) (blk_lt HR3.out) zz
                have f2 : ∀ zz : Later wr.heap.size wr, zz.val.cell? ⟨br, 2, none⟩ = some (.int .u64 ((a, b).1.2.2.toNat : Int)) := fun zz => Later.cell (rbox_s2 HR3.out) (blk_lt HR3.out) zz
                have f3 : ∀ zz : Later wr.heap.size wr, zz.val.cell? ⟨br, 3, none⟩ = some (.int .u8 ((a, b).2.1.toNat : Int)) := fun zz => Later.cell (rbox_s3 HR3.out) (blk_lt HR3.out) zz
                have f4 : ∀ zz : Later wr.heap.size wr, zz.val.cell? ⟨br, 4, none⟩ = some (.int .u64 ((a, b).2.2.1.toNat : Int)) := fun zz => Later.cell (rbox_s4 HR3.out) (blk_lt HR3.out) zz
                have f5 : ∀ zz : Later wr.heap.size wr, zz.val.cell? ⟨br, 5, none⟩ = some (.int .u64 ((a, b).2.2.2.toNat : Int)) := fun zz => Later.cell (rbox_s5 HR3.out) (blk_lt HR3.out) zz
                have hz : ∀ zz : Later wr.heap.size wr, zz.val.cell? ⟨b', off + i, none⟩ = some (.slice (some ⟨gb, go_, none⟩) g.length gc) := fun zz => Later.cell hu (World.block_lt_of_cell? _ _ hu) zz
                have P1 := Lib.hid (fun W => has_any (a, b) x.1 W)
                have P2 := Lib.hid (fun W => has_any (a, b) x.2 W)
                have Q1 := Lib.hid (fun W => rhas_any (a, b) x.1 W)
                have Q2 := Lib.hid (fun W => rhas_any (a, b) x.2 W)
                obtain ⟨p, hp⟩ : ∃ p, p = hasS (a, b) x.1 := ⟨_, rfl⟩
                obtain ⟨q, hq⟩ : ∃ q, q = hasS (a, b) x.2 := ⟨_, rfl⟩
                rw [← hp] at P1 Q1
                rw [← hq] at P2 Q2
                clear hp hq hbel hgc hcx hx hkl hk
                cases p <;> cases q
                all_goals
                  go_wp2_with fail
                  refine wp_region_later wr.heap.size (by kernel_rfl) (by kernel_rfl) ?_
                  repeat (go_big_quiet_step (first | (go_at_call 24; first | (with_reducible exact Later.calls (Nat.le_refl _) (P1.out _)) | (with_reducible exact Later.calls (Nat.le_refl _) (P2.out _))) | (go_at_call 25; first | (with_reducible exact Later.calls (Nat.le_refl _) (Q1.out _)) | (with_reducible exact Later.calls (Nat.le_refl _) (Q2.out _)))))
                  refine wpQuiet_nil ?_
                  rintro wq ⟨zz, rfl⟩
                  have HB3 := Lib.hid (below_step HB2.out zz.prop HB2.out.size)
                  generalize zz.val = wq at *
                  clear d0 d1 d2 d3 d4 d5 e0 e1 e2 e3 e4 e5 f0 f1 f2 f3 f4 f5 hz hu
                  go_wp2_with fail
                  go_roundw
                  case rel => exact ⟨k + 1, HKL.out, by go_num, HB3.out⟩
                  case measure => have := HKL.out; simp [intOf]; omega
              · obtain rfl : k = g.length := by omega
                have j2 : ¬ (g.length : Int) < (g.length : Int) := by omega
                clear hbel hkl hk
                go_wp2_with fail
                go_roundw
                case rel => exact ⟨i + 1, HLT.out, by go_num, HB2.out⟩
                case measure => have := HLT.out; simp [intOf]; omega
          · obtain rfl : i = ls.length := by omega
            have k2 : ¬ (ls.length : Int) < (ls.length : Int) := by omega
            have HB4 := Lib.hid (below_step BE7.out HB.out BE7.out.size)
            clear hbel hi hlt
            go_wp2_with fail
            refine (awake_any _).mono ?_
            rintro e w9 ⟨rfl, hb⟩
            have HB5 := Lib.hid (below_step HB4.out hb HB4.out.size)
            clear hb
            go_wp2_with fail
            go_ret
            exact ⟨rfl, HB5.out⟩
  · go_wp2_with fail
    refine (awake_any _).mono ?_
    rintro e w3 ⟨rfl, hb⟩
    have HB3 := Lib.hid (below_step BE1.out hb BE1.out.size)
    clear hb
    go_wp2_with fail
    go_ret
    exact ⟨rfl, HB3.out⟩
end Go.Proofs.Try.Gp
