/- cidr: the program's Halves, Text. -/
import Derived.Test.YtmjjhnfdpiclfaaGreatDoorCq1
import Derived.Test.YtmjjhnfdpiclfaaGreatDoorMU
import Derived.RegionTactic
import Derived.ChangeAlike
import Derived.BigRegion
set_option linter.unusedVariables false
set_option linter.unusedSimpArgs false
set_option maxRecDepth 100000
namespace Go.Proofs.Tryz.Cd
open Go.RowKit Go.Cph Go.Cph.Tx Go.Cph.Px Go.Proofs.Tryz.Tx Go.Proofs.Tryz.Pfx
open Go.Cph.Ok (ofBs)
open Go.Proofs.Tryz.Rows (boxZ)
open Go.Proofs.Tryz.Gp (nextA NearPost)
theorem widthB (f : UInt8) (w : World) : Calls Tryz.prog 48 #[.int .u8 (f.toNat : Int)] w fun e w' => e = .returned (.int .i64 (width f)) ∧ Below w.heap.size w w' :=
  (width_any f w).mono fun _ _ h => ⟨h.1, by rw [← h.2]; exact Below.refl _ _⟩
theorem cutB (a : Ad) (b : Int) (W : World) : Calls Tryz.prog 6 #[encA a, .int .i64 b] W fun e w' => e = .returned (.tuple #[encP (cutP a b), .int .i64 (cutE a b)]) ∧ Below W.heap.size W w' := cut_any a b W
theorem set4_heap {W : World} {g : Nat} {a b c d : Value} {T : TypeId} {fr : Nat × Nat} (h : W.heap[g]? = some (.cells #[a, b, c, d] T fr)) (x y z u : Value) : ((((W.setCell ⟨g, 0, none⟩ x).setCell ⟨g, 1, none⟩ y).setCell ⟨g, 2, none⟩ z).setCell ⟨g, 3, none⟩ u).heap[g]? = some (.cells #[x, y, z, u] T fr) := by
  rw [blk_set (blk_set (blk_set (blk_set h 0 _) 1 _) 2 _) 3 _]; rfl
theorem set4_far {W : World} {g c : Nat} {o : Obj} (h : W.heap[c]? = some o) (hne : c ≠ g) (x y z u : Value) : ((((W.setCell ⟨g, 0, none⟩ x).setCell ⟨g, 1, none⟩ y).setCell ⟨g, 2, none⟩ z).setCell ⟨g, 3, none⟩ u).heap[c]? = some o := by
  rw [blk_set_other hne, blk_set_other hne, blk_set_other hne, blk_set_other hne]; exact h
theorem set3_heap {W : World} {g : Nat} {a b c : Value} {T : TypeId} {fr : Nat × Nat} (h : W.heap[g]? = some (.cells #[a, b, c] T fr)) (x y z : Value) : (((W.setCell ⟨g, 0, none⟩ x).setCell ⟨g, 1, none⟩ y).setCell ⟨g, 2, none⟩ z).heap[g]? = some (.cells #[x, y, z] T fr) := by
  rw [blk_set (blk_set (blk_set h 0 _) 1 _) 2 _]; rfl
theorem set3_far {W : World} {g c : Nat} {o : Obj} (h : W.heap[c]? = some o) (hne : c ≠ g) (x y z : Value) : (((W.setCell ⟨g, 0, none⟩ x).setCell ⟨g, 1, none⟩ y).setCell ⟨g, 2, none⟩ z).heap[c]? = some o := by
  rw [blk_set_other hne, blk_set_other hne, blk_set_other hne]; exact h
theorem bd {B : Nat} {w W : World} (h : Below B w W) : Below B w W.drew := h.drew
theorem bs {B : Nat} {w W : World} (h : Below B w W) {p : Addr} (hp : B ≤ p.block) (v : Value) : Below B w (W.setCell p v) := h.setCell hp v
theorem bm {B : Nat} {w W : World} (h : Below w.heap.size w W) (hB : B ≤ w.heap.size) : Below B w W := h.mono hB
def HalvesPost (h : Pf × Pf × Bool) (w : World) (e : Ending) (w' : World) : Prop := e = .returned (.tuple #[encP h.1, encP h.2.1, .bool h.2.2]) ∧ Below w.heap.size w w'
set_option maxHeartbeats 8000000 in
theorem halves_ok (p : Pf) (w : World) (hr : rightP p = true) (hne : p.2 ≠ width p.1.1) : Calls Tryz.prog 15 #[encP p] w (HalvesPost (halvesP p) w) := by
  have HR := Lib.hid (fun W => rightP_any p W)
  rw [hr] at HR
  have HWd := Lib.hid (fun W => widthB p.1.1 W)
  have HLA := Lib.hid (fun W => last_any p W)
  have HCU := Lib.hid (fun W => cutB (lastR p) (p.2 + 1) W)
  have hv : halvesP p = ((p.1, p.2 + 1), cutP (lastR p) (p.2 + 1), true) := by
    unfold halvesP; rw [hr, if_pos (by simpa using hne)]
  obtain ⟨y, hy⟩ : ∃ y, y = cutP (lastR p) (p.2 + 1) := ⟨_, rfl⟩
  obtain ⟨ye, hye⟩ : ∃ y, y = cutE (lastR p) (p.2 + 1) := ⟨_, rfl⟩
  rw [← hy] at HCU hv
  rw [← hye] at HCU
  have HV := Lib.hid hv
  have hrt := rightP_iff.1 hr
  have hb0 := hrt.lo
  have hb1 : p.2 ≤ 128 := by have h1 := hrt.hi; have h3 := width_pos p.1.1; omega
  obtain ⟨wd, hwd⟩ : ∃ wd, wd = width p.1.1 := ⟨_, rfl⟩
  rw [← hwd] at HWd hne
  obtain ⟨l, hl⟩ : ∃ l, l = lastR p := ⟨_, rfl⟩
  rw [← hl] at HLA HCU
  have hq : (p.2 == wd) = false := by simpa using hne
  have k1 : IntKind.i64.wrap (p.2 + 1) = p.2 + 1 := by rw [IntKind.wrap_i64]; omega
  clear hy hye hwd hl hrt hv hr hne
  obtain ⟨⟨f, x, u⟩, b⟩ := p
  obtain ⟨⟨f', x', u'⟩, b'⟩ := y
  obtain ⟨fl, xl, ul⟩ := l
  have HXp1 := Lib.hid (heap_alloc_new w (boxP ((f, x, u), b)))
  have HW1 := Lib.hid (show Below w.heap.size w (w.alloc (boxP ((f, x, u), b))) from (Below.refl _ _).alloc (Nat.le_refl _) _)
  have HXp2 := Lib.hid (blk_alloc HXp1.out boxPZ)
  have hxq := heap_alloc_new (w.alloc (boxP ((f, x, u), b))) boxPZ
  simp only [World.size_alloc] at hxq
  have HXq2 := Lib.hid hxq
  clear hxq
  have HW2 := Lib.hid (show Below w.heap.size w ((w.alloc (boxP ((f, x, u), b))).alloc boxPZ) from HW1.out.alloc HW1.out.size _)
  have HXp3 := Lib.hid (blk_alloc HXp2.out boxPZ)
  have HXq3 := Lib.hid (blk_alloc HXq2.out boxPZ)
  have hxs := heap_alloc_new ((w.alloc (boxP ((f, x, u), b))).alloc boxPZ) boxPZ
  simp only [World.size_alloc] at hxs
  have HXs3 := Lib.hid hxs
  clear hxs
  have HW3 := Lib.hid (show Below w.heap.size w (((w.alloc (boxP ((f, x, u), b))).alloc boxPZ).alloc boxPZ) from HW2.out.alloc HW2.out.size _)
  go_enter Tryz.func15, Tryz.ntmps15
  go_wp2_with fail
  obtain ⟨v4, hv4⟩ : ∃ v4, v4 = (((w.alloc (boxP ((f, x, u), b))).alloc boxPZ).alloc boxPZ) := ⟨_, rfl⟩
  rw [← hv4] at HXp3 HXq3 HXs3 HW3 ⊢
  clear hv4
  obtain ⟨p0, p1, p2, p3⟩ := later_boxP HXp3.out
  refine wp_region_later v4.heap.size (by kernel_rfl) (by kernel_rfl) ?_
  repeat (go_big_quiet_step (first | (go_at_call 21; exact Later.calls (Nat.le_refl _) (HR.out _)) | (go_at_call 48; exact Later.calls (Nat.le_refl _) (HWd.out _))))
  refine wpQuiet_nil ?_
  rintro v5 ⟨zz, rfl⟩
  have hb := zz.prop
  have HZ0 := Lib.hid hb
  clear p0 p1 p2 p3
  generalize zz.val = v5 at *
  have HXp6 := Lib.hid (blk_kept hb HXp3.out)
  have HXq6 := Lib.hid (blk_kept hb HXq3.out)
  have HXs6 := Lib.hid (blk_kept hb HXs3.out)
  have HW6 := Lib.hid (below_step HW3.out hb HW3.out.size)
  clear hb
  clear hq
  obtain ⟨w3, hw3⟩ : ∃ w3, w3 = v5 := ⟨_, rfl⟩
  subst hw3
  go_upto_region 3 with (fail)
  have HLT := Lib.hid (blk_lt HXp6.out)
  have HKP := Lib.hid (show ∀ W, Below (w.heap.size + 1) w3 W → W.cell? ⟨w.heap.size, 0, none⟩ = some (.int .u8 (f.toNat : Int)) ∧ W.cell? ⟨w.heap.size, 1, none⟩ = some (.int .u64 (x.toNat : Int)) ∧ W.cell? ⟨w.heap.size, 2, none⟩ = some (.int .u64 (u.toNat : Int)) ∧ W.cell? ⟨w.heap.size, 3, none⟩ = some (.int .i64 b) from fun W h => boxP_at (blk_below h HXp6.out (Nat.lt_succ_self _)))
  have HS0 := Lib.hid (show Below w3.heap.size w3 w3 from Below.refl _ _)
  have HQ3 := Lib.hid HXq6.out
  have HS3 := Lib.hid HXs6.out
  have HP3 := Lib.hid HXp6.out
  go_cut [] (fun W => W.heap[w.heap.size]? = some (boxP ((f, x, u), b)) ∧ W.heap[w.heap.size + 1]? = some boxPZ ∧ W.heap[w.heap.size + 1 + 1]? = some (boxP ((f', x', u'), b')) ∧ Below w.heap.size w W)
  case first =>
        go_region_held3 (fun W => W.cell? ⟨w.heap.size, 0, none⟩ = some (.int .u8 (f.toNat : Int)) ∧ W.cell? ⟨w.heap.size, 1, none⟩ = some (.int .u64 (x.toNat : Int)) ∧ W.cell? ⟨w.heap.size, 2, none⟩ = some (.int .u64 (u.toNat : Int)) ∧ W.cell? ⟨w.heap.size, 3, none⟩ = some (.int .i64 b)) ((refine HKP.out _ ?_; (repeat (first | exact bm B2.out HLT.out | exact bm B1.out HLT.out | exact bm HS0.out HLT.out | refine bd ?_ | refine bs ?_ (Nat.le_succ _) _)); done))
          (first
            | (go_at_call 17; (with_reducible refine (HLA.out _).mono ?_); rintro e u1 ⟨rfl, hb⟩; (have B1 := Lib.hid (below_step HS0.out.drew hb HS0.out.drew.size)); clear hb)
            | (go_at_call 6; (with_reducible refine (HCU.out _).mono ?_); rintro e u2 ⟨rfl, hb⟩; (have B2 := Lib.hid (below_step B1.out hb B1.out.size)); clear hb; (have K2 := Lib.hid (blk_kept B2.out HS3.out)); (obtain ⟨k2c0, k2c1, k2c2, k2c3⟩ := boxPZ_at K2.out); (obtain ⟨k2f0, k2f1, k2f2, k2f3⟩ := boxPZ_free K2.out)))
        go_wp2_with fail
        go_meet
        case rel => exact ⟨set4_far (blk_kept B2.out HP3.out) (by omega) _ _ _ _, set4_far (blk_kept B2.out HQ3.out) (by omega) _ _ _ _, set4_heap K2.out _ _ _ _, set4 (below_step HW6.out B2.out HW6.out.size) (Nat.le_trans (Nat.le_succ _) (Nat.le_succ _)) _ _ _ _⟩
  case rest =>
        obtain ⟨w4, hw4⟩ : ∃ w4, w4 = wc := ⟨_, rfl⟩
        subst hw4
        obtain ⟨hp, hq, hs, hb⟩ := hcut
        have HP4 := Lib.hid hp
        have HQ4 := Lib.hid hq
        have HS4 := Lib.hid hs
        have HB4 := Lib.hid hb
        clear hp hq hs hb
        obtain ⟨p0, p1, p2, p3⟩ := boxP_at HP4.out
        obtain ⟨q0, q1, q2, q3⟩ := boxPZ_at HQ4.out
        obtain ⟨qf0, qf1, qf2, qf3⟩ := boxPZ_free HQ4.out
        obtain ⟨s0, s1, s2, s3⟩ := boxP_at HS4.out
        obtain ⟨sf0, sf1, sf2, sf3⟩ := boxP_free HS4.out
        obtain ⟨n, hn⟩ : ∃ n, n = w.heap.size := ⟨_, rfl⟩
        go_wp2_with fail
        go_region
        go_wp2_with fail
        obtain ⟨X8, hX8⟩ : ∃ X8, X8 = ((((((((w4.setCell ⟨w.heap.size + 1, 0, none⟩ (.int .u8 (f.toNat : Int))).setCell ⟨w.heap.size + 1, 1, none⟩ (.int .u64 (x.toNat : Int))).setCell ⟨w.heap.size + 1, 2, none⟩ (.int .u64 (u.toNat : Int))).setCell ⟨w.heap.size + 1, 3, none⟩ (.int .i64 (b + 1))).setCell ⟨w.heap.size + 1 + 1, 0, none⟩ (.int .u8 (f'.toNat : Int))).setCell ⟨w.heap.size + 1 + 1, 1, none⟩ (.int .u64 (x'.toNat : Int))).setCell ⟨w.heap.size + 1 + 1, 2, none⟩ (.int .u64 (u'.toNat : Int))).setCell ⟨w.heap.size + 1 + 1, 3, none⟩ (.int .i64 b')) := ⟨_, rfl⟩
        have hHQ9 : X8.heap[w.heap.size + 1]? = some (boxP ((f, x, u), b + 1)) := by rw [hX8]; exact set4_far (set4_heap HQ4.out _ _ _ _) (Nat.ne_of_lt (Nat.lt_succ_self _)) _ _ _ _
        have hHS9 : X8.heap[w.heap.size + 1 + 1]? = some (boxP ((f', x', u'), b')) := by rw [hX8]; exact set4_heap (set4_far HS4.out (Nat.ne_of_gt (Nat.lt_succ_self _)) _ _ _ _) _ _ _ _
        have hB8 : Below w.heap.size w X8 := by rw [hX8]; exact set4 (set4 HB4.out (Nat.le_succ _) _ _ _ _) (Nat.le_trans (Nat.le_succ _) (Nat.le_succ _)) _ _ _ _
        rw [← hX8]
        clear hX8
        obtain ⟨X9, hX9⟩ : ∃ X9, X9 = X8.drew := ⟨_, rfl⟩
        have HQ9 := Lib.hid (show X9.heap[w.heap.size + 1]? = some (boxP ((f, x, u), b + 1)) from by rw [hX9]; exact hHQ9)
        have HS9 := Lib.hid (show X9.heap[w.heap.size + 1 + 1]? = some (boxP ((f', x', u'), b')) from by rw [hX9]; exact hHS9)
        have HB9 := Lib.hid (show Below w.heap.size w X9 from by rw [hX9]; exact hB8.drew)
        rw [← hX9]
        clear hX9
        clear hB8 hHQ9 hHS9
        clear p0 p1 p2 p3 q0 q1 q2 q3 qf0 qf1 qf2 qf3 s0 s1 s2 s3 sf0 sf1 sf2 sf3
        obtain ⟨q0, q1, q2, q3⟩ := boxP_at HQ9.out
        obtain ⟨s0, s1, s2, s3⟩ := boxP_at HS9.out
        exact bodyPost_ret (v := .tuple #[.agg #[.int .u8 (f.toNat : Int), .int .u64 (x.toNat : Int), .int .u64 (u.toNat : Int), .int .i64 (b + 1)], .agg #[.int .u8 (f'.toNat : Int), .int .u64 (x'.toNat : Int), .int .u64 (u'.toNat : Int), .int .i64 b'], .bool true]) (by simp [results, Tryz.results15, go_sem, q0, q1, q2, q3, s0, s1, s2, s3]) rfl ⟨by rw [HV.out], HB9.out⟩
set_option maxHeartbeats 8000000 in
theorem halves_no (p : Pf) (w : World) (h : rightP p = false ∨ (rightP p = true ∧ p.2 = width p.1.1)) : Calls Tryz.prog 15 #[encP p] w (HalvesPost (halvesP p) w) := by
  have HR := Lib.hid (fun W => rightP_any p W)
  have HWd := Lib.hid (fun W => widthB p.1.1 W)
  have HV := Lib.hid (@halves_none p (by rcases h with h | h; exact .inl h; exact .inr h.2))
  obtain ⟨r, hr⟩ : ∃ r, r = rightP p := ⟨_, rfl⟩
  rw [← hr] at HR h
  obtain ⟨wd, hwd⟩ : ∃ wd, wd = width p.1.1 := ⟨_, rfl⟩
  rw [← hwd] at HWd h
  have HH := Lib.hid (show r = false ∨ (r = true ∧ (p.2 == wd) = true) from by rcases h with h | h; exact .inl h; exact .inr ⟨h.1, by simpa using h.2⟩)
  clear hr hwd h
  obtain ⟨⟨f, x, u⟩, b⟩ := p
  have HXp1 := Lib.hid (heap_alloc_new w (boxP ((f, x, u), b)))
  have HW1 := Lib.hid (show Below w.heap.size w (w.alloc (boxP ((f, x, u), b))) from (Below.refl _ _).alloc (Nat.le_refl _) _)
  have HXp2 := Lib.hid (blk_alloc HXp1.out boxPZ)
  have hxq := heap_alloc_new (w.alloc (boxP ((f, x, u), b))) boxPZ
  simp only [World.size_alloc] at hxq
  have HXq2 := Lib.hid hxq
  clear hxq
  have HW2 := Lib.hid (show Below w.heap.size w ((w.alloc (boxP ((f, x, u), b))).alloc boxPZ) from HW1.out.alloc HW1.out.size _)
  have HXp3 := Lib.hid (blk_alloc HXp2.out boxPZ)
  have HXq3 := Lib.hid (blk_alloc HXq2.out boxPZ)
  have hxs := heap_alloc_new ((w.alloc (boxP ((f, x, u), b))).alloc boxPZ) boxPZ
  simp only [World.size_alloc] at hxs
  have HXs3 := Lib.hid hxs
  clear hxs
  have HW3 := Lib.hid (show Below w.heap.size w (((w.alloc (boxP ((f, x, u), b))).alloc boxPZ).alloc boxPZ) from HW2.out.alloc HW2.out.size _)
  go_enter Tryz.func15, Tryz.ntmps15
  go_wp2_with fail
  obtain ⟨v4, hv4⟩ : ∃ v4, v4 = (((w.alloc (boxP ((f, x, u), b))).alloc boxPZ).alloc boxPZ) := ⟨_, rfl⟩
  rw [← hv4] at HXp3 HXq3 HXs3 HW3 ⊢
  clear hv4
  go_cut [16] (fun s16 W => s16 = .bool true ∧ Below v4.heap.size v4 W)
  case first =>
    rcases HH.out with rfl | ⟨rfl, hq⟩
    · obtain ⟨p0, p1, p2, p3⟩ := later_boxP HXp3.out
      refine wp_region_later v4.heap.size (by kernel_rfl) (by kernel_rfl) ?_
      repeat (go_big_quiet_step ((go_at_call 21; exact Later.calls (Nat.le_refl _) (HR.out _))))
      refine wpQuiet_nil ?_
      rintro v5 ⟨zz, rfl⟩
      have hb := zz.prop
      have HZ0 := Lib.hid hb
      clear p0 p1 p2 p3
      generalize zz.val = v5 at *
      have HXp6 := Lib.hid (blk_kept hb HXp3.out)
      have HXq6 := Lib.hid (blk_kept hb HXq3.out)
      have HXs6 := Lib.hid (blk_kept hb HXs3.out)
      have HW6 := Lib.hid (below_step HW3.out hb HW3.out.size)
      clear hb
      go_wp2_with fail
      go_meet
      case rel => exact ⟨rfl, HZ0.out⟩
    · obtain ⟨p0, p1, p2, p3⟩ := later_boxP HXp3.out
      refine wp_region_later v4.heap.size (by kernel_rfl) (by kernel_rfl) ?_
      repeat (go_big_quiet_step (first | (go_at_call 21; exact Later.calls (Nat.le_refl _) (HR.out _)) | (go_at_call 48; exact Later.calls (Nat.le_refl _) (HWd.out _))))
      refine wpQuiet_nil ?_
      rintro v7 ⟨zz, rfl⟩
      have hb := zz.prop
      have HZ0 := Lib.hid hb
      clear p0 p1 p2 p3
      generalize zz.val = v7 at *
      have HXp8 := Lib.hid (blk_kept hb HXp3.out)
      have HXq8 := Lib.hid (blk_kept hb HXq3.out)
      have HXs8 := Lib.hid (blk_kept hb HXs3.out)
      have HW8 := Lib.hid (below_step HW3.out hb HW3.out.size)
      clear hb
      go_wp2_with fail
      go_meet
      case rel => exact ⟨rfl, HZ0.out⟩
  case rest =>
    obtain ⟨w3, hw3⟩ : ∃ w3, w3 = wc := ⟨_, rfl⟩
    subst hw3
    obtain ⟨rfl, hb⟩ := hcut
    have HXp9 := Lib.hid (blk_kept hb HXp3.out)
    have HXq9 := Lib.hid (blk_kept hb HXq3.out)
    have HXs9 := Lib.hid (blk_kept hb HXs3.out)
    have HW9 := Lib.hid (below_step HW3.out hb HW3.out.size)
    clear hb
    clear HR HWd HH
    obtain ⟨q0, q1, q2, q3⟩ := boxPZ_at HXq9.out
    obtain ⟨qf0, qf1, qf2, qf3⟩ := boxPZ_free HXq9.out
    obtain ⟨s0, s1, s2, s3⟩ := boxPZ_at HXs9.out
    obtain ⟨sf0, sf1, sf2, sf3⟩ := boxPZ_free HXs9.out
    go_wp2_with fail
    obtain ⟨X8, hX8⟩ : ∃ X8, X8 = ((((((((w3.setCell ⟨w.heap.size + 1, 0, none⟩ (.int .u8 0)).setCell ⟨w.heap.size + 1, 1, none⟩ (.int .u64 0)).setCell ⟨w.heap.size + 1, 2, none⟩ (.int .u64 0)).setCell ⟨w.heap.size + 1, 3, none⟩ (.int .i64 0)).setCell ⟨w.heap.size + 1 + 1, 0, none⟩ (.int .u8 0)).setCell ⟨w.heap.size + 1 + 1, 1, none⟩ (.int .u64 0)).setCell ⟨w.heap.size + 1 + 1, 2, none⟩ (.int .u64 0)).setCell ⟨w.heap.size + 1 + 1, 3, none⟩ (.int .i64 0)) := ⟨_, rfl⟩
    have hHQ9 : X8.heap[w.heap.size + 1]? = some boxPZ := by rw [hX8]; exact set4_far (set4_heap HXq9.out _ _ _ _) (Nat.ne_of_lt (Nat.lt_succ_self _)) _ _ _ _
    have hHS9 : X8.heap[w.heap.size + 1 + 1]? = some boxPZ := by rw [hX8]; exact set4_heap (set4_far HXs9.out (Nat.ne_of_gt (Nat.lt_succ_self _)) _ _ _ _) _ _ _ _
    have hB8 : Below w.heap.size w X8 := by rw [hX8]; exact set4 (set4 HW9.out (Nat.le_succ _) _ _ _ _) (Nat.le_trans (Nat.le_succ _) (Nat.le_succ _)) _ _ _ _
    rw [← hX8]
    clear hX8
    obtain ⟨X9, rfl⟩ : ∃ X9, X9 = X8 := ⟨_, rfl⟩
    have HQ9 := Lib.hid hHQ9
    have HS9 := Lib.hid hHS9
    have HB9 := Lib.hid hB8
    clear hB8 hHQ9 hHS9
    clear q0 q1 q2 q3 qf0 qf1 qf2 qf3 s0 s1 s2 s3 sf0 sf1 sf2 sf3
    obtain ⟨q0, q1, q2, q3⟩ := boxPZ_at HQ9.out
    obtain ⟨s0, s1, s2, s3⟩ := boxPZ_at HS9.out
    exact bodyPost_ret (v := .tuple #[.agg #[.int .u8 0, .int .u64 0, .int .u64 0, .int .i64 0], .agg #[.int .u8 0, .int .u64 0, .int .u64 0, .int .i64 0], .bool false]) (by simp [results, Tryz.results15, go_sem, q0, q1, q2, q3, s0, s1, s2, s3]) rfl ⟨by rw [HV.out]; rfl, HB9.out⟩
theorem halves_any (p : Pf) (w : World) : Calls Tryz.prog 15 #[encP p] w (HalvesPost (halvesP p) w) := by
  cases hr : rightP p with
  | false => exact halves_no p w (.inl hr)
  | true =>
    by_cases hb : p.2 = width p.1.1
    · exact halves_no p w (.inr ⟨hr, hb⟩)
    · exact halves_ok p w hr hb
end Go.Proofs.Tryz.Cd
