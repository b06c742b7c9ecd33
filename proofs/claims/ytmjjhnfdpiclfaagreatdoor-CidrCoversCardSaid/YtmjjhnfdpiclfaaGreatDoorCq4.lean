/- cidr: the program's greatest. -/
import Derived.Test.YtmjjhnfdpiclfaaGreatDoorCq2
import Derived.Test.YtmjjhnfdpiclfaaGreatDoorCp4
set_option linter.unusedVariables false
set_option linter.unusedSimpArgs false
set_option maxRecDepth 100000
namespace Go.Proofs.Tryz.Cd
open Go.RowKit Go.Cph Go.Cph.Tx Go.Cph.Px Go.Cph.Cv Go.Proofs.Tryz.Tx Go.Proofs.Tryz.Pfx
open Go.Cph.Ok (ofBs)
open Go.Proofs.Tryz.Rows (boxZ)
open Go.Proofs.Tryz.Gp (nextA NearPost)
def GreatPost (a b : Ad) (w : World) (e : Ending) (w' : World) : Prop := ∃ k, IsGreat (widF a.1) (num a) (num b) k ∧ e = .returned (encP (a, width a.1 - (k : Int))) ∧ Below w.heap.size w w'
theorem GreatPost.mk {f : UInt8} {x y : UInt64} {b : Ad} {z : Int} {k : Nat} {w w' : World} (h : IsGreat (widF f) (num (f, x, y)) (num b) k) (hz : z = width f - (k : Int)) (hb : Below w.heap.size w w') :
    GreatPost (f, x, y) b w (.returned (.agg #[.int .u8 (f.toNat : Int), .int .u64 (x.toNat : Int), .int .u64 (y.toNat : Int), .int .i64 z])) w' := ⟨k, h, by rw [hz], hb⟩
/-- How many bits there still are, as the memory has it. -/
def bitsAt (W : World) (g : Nat) : Nat := match W.cell? ⟨g, 3, none⟩ with
  | some (.int _ n) => n.toNat
  | _ => 0
theorem bitsAt_box {W : World} {g : Nat} {p : Pf} (h : W.heap[g]? = some (boxP p)) : bitsAt W g = p.2.toNat := by
  unfold bitsAt; rw [blk_cell h]; rfl
set_option maxHeartbeats 8000000 in
theorem great_any (a b : Ad) (hc : CanP a b) (hab : num a ≤ num b) (w : World) : Calls Tryz.prog 44 #[encA a, encA b] w (GreatPost a b w) := by
  have HWd := Lib.hid (fun W => width_any a.1 W)
  have HST := Lib.hid (fun k hk => @great_step a b hc k hk)
  have HGR := Lib.hid (fun k hk h hn => @great_of (widF a.1) (num a) (num b) k hk h hn)
  have HZ := Lib.hid (great_zero (num a) (num b) hab)
  have HWW := Lib.hid (width_widF a.1)
  have hwl := widF_le a.1
  obtain ⟨wd, hwd⟩ : ∃ wd, wd = width a.1 := ⟨_, rfl⟩
  obtain ⟨wf, hwf⟩ : ∃ wf, wf = widF a.1 := ⟨_, rfl⟩
  have HWE := Lib.hid hwd
  have HWF := Lib.hid hwf
  rw [← hwd] at HWd HST HWW
  rw [← hwf] at HST HGR HWW hwl
  clear hwd hwf hc hab
  obtain ⟨fa, xa, ya⟩ := a
  obtain ⟨fb, xb, yb⟩ := b
  have HEQ := Lib.hid (fun q W => run_neqA q (fa, xa, ya) W)
  have HXa1 := Lib.hid (heap_alloc_new w (boxA (fa, xa, ya)))
  have HW1 := Lib.hid (show Below w.heap.size w (w.alloc (boxA (fa, xa, ya))) from (Below.refl _ _).alloc (Nat.le_refl _) _)
  have HXa2 := Lib.hid (blk_alloc HXa1.out (boxA (fb, xb, yb)))
  have hxb := heap_alloc_new (w.alloc (boxA (fa, xa, ya))) (boxA (fb, xb, yb))
  simp only [World.size_alloc] at hxb
  have HXb2 := Lib.hid hxb
  clear hxb
  have HW2 := Lib.hid (show Below w.heap.size w ((w.alloc (boxA (fa, xa, ya))).alloc (boxA (fb, xb, yb))) from HW1.out.alloc HW1.out.size _)
  have HXa3 := Lib.hid (blk_alloc HXa2.out boxPZ)
  have HXb3 := Lib.hid (blk_alloc HXb2.out boxPZ)
  have hxz := heap_alloc_new ((w.alloc (boxA (fa, xa, ya))).alloc (boxA (fb, xb, yb))) boxPZ
  simp only [World.size_alloc] at hxz
  have HXz3 := Lib.hid hxz
  clear hxz
  have HW3 := Lib.hid (show Below w.heap.size w (((w.alloc (boxA (fa, xa, ya))).alloc (boxA (fb, xb, yb))).alloc boxPZ) from HW2.out.alloc HW2.out.size _)
  go_enter Tryz.func44, Tryz.ntmps44
  go_wp2_with fail
  obtain ⟨v4, hv4⟩ : ∃ v4, v4 = (((w.alloc (boxA (fa, xa, ya))).alloc (boxA (fb, xb, yb))).alloc boxPZ) := ⟨_, rfl⟩
  rw [← hv4] at HXa3 HXb3 HXz3 HW3 ⊢
  clear hv4
  have HCK := Lib.hid (show ∀ W, Below v4.heap.size v4 W → W.cell? ⟨w.heap.size, 0, none⟩ = some (.int .u8 (fa.toNat : Int)) ∧ W.cell? ⟨w.heap.size, 1, none⟩ = some (.int .u64 (xa.toNat : Int)) ∧ W.cell? ⟨w.heap.size, 2, none⟩ = some (.int .u64 (ya.toNat : Int)) from fun W h => box_at (blk_kept h HXa3.out))
  have HS0 := Lib.hid (show Below v4.heap.size v4 v4 from Below.refl _ _)
  go_cut [5] (fun s5 W => ∃ g, s5 = .pointer (some ⟨g, 0, none⟩) ∧ v4.heap.size ≤ g ∧ W.heap[g]? = some (boxP ((fa, xa, ya), wd)) ∧ Below v4.heap.size v4 W)
  case first =>
    go_region_held3 (fun W => W.cell? ⟨w.heap.size, 0, none⟩ = some (.int .u8 (fa.toNat : Int)) ∧ W.cell? ⟨w.heap.size, 1, none⟩ = some (.int .u64 (xa.toNat : Int)) ∧ W.cell? ⟨w.heap.size, 2, none⟩ = some (.int .u64 (ya.toNat : Int))) ((refine HCK.out _ ?_; (repeat (first | exact HS0.out | refine bl_drew ?_ | refine bl_alloc ?_ _ | refine bl_set ?_ (Nat.le_refl _) _)); done))
      ((go_at_call 48; refine (HWd.out _).mono ?_; rintro e u1 ⟨rfl, rfl⟩))
    all_goals go_wp2_with fail
    all_goals go_meet
    all_goals case rel =>
      refine ⟨_, rfl, Nat.le_refl _, ?_, ?_⟩
      · first | exact heap_alloc_new _ _ | exact set4_heap (heap_alloc_new _ _) _ _ _ _
      · first | exact bl_drew (bl_alloc HS0.out _) | exact bl_alloc HS0.out _ | exact bl_drew (set4 (bl_alloc HS0.out _) (Nat.le_refl _) _ _ _ _) | exact set4 (bl_drew (bl_alloc HS0.out _)) (Nat.le_refl _) _ _ _ _
  case rest =>
    obtain ⟨w3, hw3⟩ : ∃ w3, w3 = wc := ⟨_, rfl⟩
    subst hw3
    obtain ⟨g, rfl, hg, hx, hb⟩ := hcut
    have HX3 := Lib.hid hx
    have HG := Lib.hid (show w.heap.size + 3 ≤ g from by have := blk_lt HXz3.out; omega)
    clear hg hx
    have HXa5 := Lib.hid (blk_kept hb HXa3.out)
    have HXb5 := Lib.hid (blk_kept hb HXb3.out)
    have HXz5 := Lib.hid (blk_kept hb HXz3.out)
    have HW5 := Lib.hid (below_step HW3.out hb HW3.out.size)
    clear hb
    clear HCK HS0 HWd
    go_wp2_with fail
    go_loopw [6, 7] (fun v6 v7 W => ∃ k : Nat, k ≤ wf ∧ Hid (OkB (num (fa, xa, ya)) (num (fb, xb, yb)) k) ∧ W.heap[g]? = some (boxP ((fa, xa, ya), wd - (k : Int))) ∧ W.heap[w.heap.size]? = some (boxA (fa, xa, ya)) ∧ W.heap[w.heap.size + 1]? = some (boxA (fb, xb, yb)) ∧ W.heap[w.heap.size + 1 + 1]? = some boxPZ ∧ Below w.heap.size w W) (fun _ _ W => bitsAt W g)
    case atStart => exact ⟨0, Nat.zero_le _, HZ, by simpa using HX3.out, HXa5.out, HXb5.out, HXz5.out, HW5.out⟩
    case round =>
      obtain ⟨k, hk, HOK, hx, ha, hbb, hz, hb⟩ := hrel
      have HXp0 := Lib.hid hx
      have HXa0 := Lib.hid ha
      have HXb0 := Lib.hid hbb
      have HXz0 := Lib.hid hz
      have HW0 := Lib.hid hb
      clear hx ha hbb hz hb
      have hww := HWW.out
      have HBA := Lib.hid (bitsAt_box HXp0.out)
      by_cases hlt : k < wf
      · obtain ⟨qa, hq1, hq2, hq3⟩ := HST.out k hlt
        have HN := Lib.hid (show (qa == (fa, xa, ya)) = false → IsGreat wf (num (fa, xa, ya)) (num (fb, xb, yb)) k from fun h => HGR.out k hk HOK.out (.inr (hq2 h)))
        have HLE := Lib.hid hq3
        have HCUT := Lib.hid (fun W => cutB (fa, xa, ya) (wd - (k : Int) - 1) W)
        rw [hq1] at HCUT
        obtain ⟨ce, hce⟩ : ∃ ce, ce = cutE (fa, xa, ya) (wd - (k : Int) - 1) := ⟨_, rfl⟩
        rw [← hce] at HCUT
        have hpos : 0 < wd - (k : Int) := by omega
        have hsub : IntKind.i64.wrap (wd - (k : Int) - 1) = wd - (k : Int) - 1 := by rw [IntKind.wrap_i64]; omega
        have e1 : wd - (k : Int) - 1 = wd - ((k + 1 : Nat) : Int) := by omega
        obtain ⟨z, hz⟩ : ∃ z, z = wd - (k : Int) := ⟨_, rfl⟩
        obtain ⟨z1, hz1⟩ : ∃ z, z = wd - ((k + 1 : Nat) : Int) := ⟨_, rfl⟩
        have HZE := Lib.hid hz
        have HZ1 := Lib.hid hz1
        have HZL := Lib.hid (show z1.toNat < (wd - (k : Int)).toNat from by omega)
        rw [← hz] at HXp0 HCUT hpos hsub e1
        rw [← hz1] at HCUT e1 HLE
        rw [e1] at HCUT
        have hsub2 : IntKind.i64.wrap (z - 1) = z1 := hsub.trans e1
        clear hq1 hq2 hq3 hce hz hz1 e1 hsub
        obtain ⟨fq, xq, yq⟩ := qa
        obtain ⟨p0, p1, p2, p3⟩ := boxP_at HXp0.out
        obtain ⟨a0, a1, a2⟩ := box_at HXa0.out
        go_wp2_with fail
        refine (HCUT.out _).mono ?_
        rintro e v6 ⟨rfl, hb⟩
        clear p0 p1 p2 p3 a0 a1 a2
        have HXp7 := Lib.hid (blk_kept hb HXp0.out)
        have HXa7 := Lib.hid (blk_kept hb HXa0.out)
        have HXb7 := Lib.hid (blk_kept hb HXb0.out)
        have HXz7 := Lib.hid (blk_kept hb HXz0.out)
        have HW7 := Lib.hid (below_step HW0.out hb HW0.out.size)
        clear hb
        have HXp8 := Lib.hid (blk_alloc HXp7.out (boxP ((fq, xq, yq), z1)))
        have HXa8 := Lib.hid (blk_alloc HXa7.out (boxP ((fq, xq, yq), z1)))
        have HXb8 := Lib.hid (blk_alloc HXb7.out (boxP ((fq, xq, yq), z1)))
        have HXz8 := Lib.hid (blk_alloc HXz7.out (boxP ((fq, xq, yq), z1)))
        have HXq8 := Lib.hid (heap_alloc_new v6 (boxP ((fq, xq, yq), z1)))
        have HW8 := Lib.hid (show Below w.heap.size w (v6.alloc (boxP ((fq, xq, yq), z1))) from HW7.out.alloc HW7.out.size _)
        cases hqq : ((fq, xq, yq) == (fa, xa, ya))
        · have HGV := Lib.hid (HN.out hqq)
          have hne : ∀ W, (binOp .neq 24 (encA (fq, xq, yq)) (encA (fa, xa, ya))).run Tryz.prog W = .ok (.bool true) W := fun W => by rw [HEQ.out, hqq]; rfl
          clear hqq
          obtain ⟨q0, q1, q2, q3⟩ := boxP_at HXq8.out
          obtain ⟨a0, a1, a2⟩ := box_at HXa8.out
          go_wp2_with fail
          clear q0 q1 q2 q3 a0 a1 a2
          obtain ⟨q0, q1, q2, q3⟩ := later_boxP HXq8.out
          obtain ⟨a0, a1, a2⟩ := later_box HXa8.out
          refine wp_region_later (v6.alloc (boxP ((fq, xq, yq), z1))).heap.size (by kernel_rfl) (by kernel_rfl) ?_
          repeat (go_big_quiet_step ((go_at_call 17; exact Later.calls (Nat.le_refl _) (last_any _ _))))
          refine wpQuiet_nil ?_
          rintro v9 ⟨zz, rfl⟩
          have hb := zz.prop
          have HZ0 := Lib.hid hb
          clear q0 q1 q2 q3 a0 a1 a2
          generalize zz.val = v9 at *
          have HXp10 := Lib.hid (blk_kept hb HXp8.out)
          have HXa10 := Lib.hid (blk_kept hb HXa8.out)
          have HXb10 := Lib.hid (blk_kept hb HXb8.out)
          have HXz10 := Lib.hid (blk_kept hb HXz8.out)
          have HXq10 := Lib.hid (blk_kept hb HXq8.out)
          have HW10 := Lib.hid (below_step HW8.out hb HW8.out.size)
          clear hb
          clear hne
          obtain ⟨p0, p1, p2, p3⟩ := boxP_at HXp10.out
          obtain ⟨z0, z1, z2, z3⟩ := boxPZ_at HXz10.out
          obtain ⟨zf0, zf1, zf2, zf3⟩ := boxPZ_free HXz10.out
          go_wp2_with fail
          obtain ⟨X8, hX8⟩ : ∃ X8, X8 = ((((v9.setCell ⟨w.heap.size + 1 + 1, 0, none⟩ (.int .u8 (fa.toNat : Int))).setCell ⟨w.heap.size + 1 + 1, 1, none⟩ (.int .u64 (xa.toNat : Int))).setCell ⟨w.heap.size + 1 + 1, 2, none⟩ (.int .u64 (ya.toNat : Int))).setCell ⟨w.heap.size + 1 + 1, 3, none⟩ (.int .i64 z)) := ⟨_, rfl⟩
          have hHQ9 : X8.heap[w.heap.size + 1 + 1]? = some (boxP ((fa, xa, ya), z)) := by rw [hX8]; exact set4_heap HXz10.out _ _ _ _
          have hB8 : Below w.heap.size w X8 := by rw [hX8]; exact set4 HW10.out (Nat.le_trans (Nat.le_succ _) (Nat.le_succ _)) _ _ _ _
          rw [← hX8]
          clear hX8
          obtain ⟨X9, rfl⟩ : ∃ X9, X9 = X8 := ⟨_, rfl⟩
          have HQ9 := Lib.hid hHQ9
          have HB9 := Lib.hid hB8
          clear hB8 hHQ9
          clear p0 p1 p2 p3 z0 z1 z2 z3 zf0 zf1 zf2 zf3
          obtain ⟨q0, q1, q2, q3⟩ := boxP_at HQ9.out
          exact bodyPost_ret (v := .agg #[.int .u8 (fa.toNat : Int), .int .u64 (xa.toNat : Int), .int .u64 (ya.toNat : Int), .int .i64 z]) (by simp [results, Tryz.results44, go_sem, q0, q1, q2, q3]) rfl (GreatPost.mk (by rw [← HWF.out]; exact HGV.out) (HZE.out.trans (by rw [HWE.out])) HB9.out)
        · obtain ⟨he, hl⟩ := HLE.out hqq
          simp only [Prod.mk.injEq] at he
          obtain rfl : fa = fq := he.1.symm
          obtain rfl : xa = xq := he.2.1.symm
          obtain rfl : ya = yq := he.2.2.symm
          have hne : ∀ W, (binOp .neq 24 (encA (fa, xa, ya)) (encA (fa, xa, ya))).run Tryz.prog W = .ok (.bool false) W := fun W => by rw [HEQ.out, hqq]; rfl
          have HLA := Lib.hid (fun W => last_any ((fa, xa, ya), z1) W)
          have HLS := Lib.hid (fun W => Pfx.less (fb, xb, yb) (lastR ((fa, xa, ya), z1)) W)
          obtain ⟨d, hd⟩ : ∃ d, d = decide (OkB (num (fa, xa, ya)) (num (fb, xb, yb)) (k + 1)) := ⟨_, rfl⟩
          rw [hl, ← hd] at HLS
          have HD := Lib.hid hd
          obtain ⟨L, hL⟩ : ∃ L, L = lastR ((fa, xa, ya), z1) := ⟨_, rfl⟩
          rw [← hL] at HLA HLS
          clear he hl hqq hd hL HLE
          obtain ⟨fl, xl, yl⟩ := L
          cases d
          · have HGV := Lib.hid (HGR.out k hk HOK.out (.inr (of_decide_eq_false HD.out.symm)))
            obtain ⟨q0, q1, q2, q3⟩ := boxP_at HXq8.out
            obtain ⟨a0, a1, a2⟩ := box_at HXa8.out
            obtain ⟨b0, b1, b2⟩ := box_at HXb8.out
            go_wp2_with fail
            clear q0 q1 q2 q3 a0 a1 a2 b0 b1 b2
            obtain ⟨q0, q1, q2, q3⟩ := later_boxP HXq8.out
            obtain ⟨a0, a1, a2⟩ := later_box HXa8.out
            obtain ⟨b0, b1, b2⟩ := later_box HXb8.out
            refine wp_region_later (v6.alloc (boxP ((fa, xa, ya), z1))).heap.size (by kernel_rfl) (by kernel_rfl) ?_
            repeat (go_big_quiet_step (first | (go_at_call 17; exact Later.calls (Nat.le_refl _) (HLA.out _)) | (go_at_call 43; exact Later.calls (Nat.le_refl _) (HLS.out _))))
            refine wpQuiet_nil ?_
            rintro v11 ⟨zz, rfl⟩
            have hb := zz.prop
            have HZ0 := Lib.hid hb
            clear q0 q1 q2 q3 a0 a1 a2 b0 b1 b2
            generalize zz.val = v11 at *
            have HXp12 := Lib.hid (blk_kept hb HXp8.out)
            have HXa12 := Lib.hid (blk_kept hb HXa8.out)
            have HXb12 := Lib.hid (blk_kept hb HXb8.out)
            have HXz12 := Lib.hid (blk_kept hb HXz8.out)
            have HXq12 := Lib.hid (blk_kept hb HXq8.out)
            have HW12 := Lib.hid (below_step HW8.out hb HW8.out.size)
            clear hb
            clear hne
            obtain ⟨p0, p1, p2, p3⟩ := boxP_at HXp12.out
            obtain ⟨z0, z1, z2, z3⟩ := boxPZ_at HXz12.out
            obtain ⟨zf0, zf1, zf2, zf3⟩ := boxPZ_free HXz12.out
            go_wp2_with fail
            obtain ⟨X8, hX8⟩ : ∃ X8, X8 = ((((v11.setCell ⟨w.heap.size + 1 + 1, 0, none⟩ (.int .u8 (fa.toNat : Int))).setCell ⟨w.heap.size + 1 + 1, 1, none⟩ (.int .u64 (xa.toNat : Int))).setCell ⟨w.heap.size + 1 + 1, 2, none⟩ (.int .u64 (ya.toNat : Int))).setCell ⟨w.heap.size + 1 + 1, 3, none⟩ (.int .i64 z)) := ⟨_, rfl⟩
            have hHQ9 : X8.heap[w.heap.size + 1 + 1]? = some (boxP ((fa, xa, ya), z)) := by rw [hX8]; exact set4_heap HXz12.out _ _ _ _
            have hB8 : Below w.heap.size w X8 := by rw [hX8]; exact set4 HW12.out (Nat.le_trans (Nat.le_succ _) (Nat.le_succ _)) _ _ _ _
            rw [← hX8]
            clear hX8
            obtain ⟨X9, rfl⟩ : ∃ X9, X9 = X8 := ⟨_, rfl⟩
            have HQ9 := Lib.hid hHQ9
            have HB9 := Lib.hid hB8
            clear hB8 hHQ9
            clear p0 p1 p2 p3 z0 z1 z2 z3 zf0 zf1 zf2 zf3
            obtain ⟨q0, q1, q2, q3⟩ := boxP_at HQ9.out
            exact bodyPost_ret (v := .agg #[.int .u8 (fa.toNat : Int), .int .u64 (xa.toNat : Int), .int .u64 (ya.toNat : Int), .int .i64 z]) (by simp [results, Tryz.results44, go_sem, q0, q1, q2, q3]) rfl (GreatPost.mk (by rw [← HWF.out]; exact HGV.out) (HZE.out.trans (by rw [HWE.out])) HB9.out)
          · have HOK2 := Lib.hid (of_decide_eq_true HD.out.symm)
            obtain ⟨q0, q1, q2, q3⟩ := boxP_at HXq8.out
            obtain ⟨a0, a1, a2⟩ := box_at HXa8.out
            obtain ⟨b0, b1, b2⟩ := box_at HXb8.out
            go_wp2_with fail
            clear q0 q1 q2 q3 a0 a1 a2 b0 b1 b2
            obtain ⟨q0, q1, q2, q3⟩ := later_boxP HXq8.out
            obtain ⟨a0, a1, a2⟩ := later_box HXa8.out
            obtain ⟨b0, b1, b2⟩ := later_box HXb8.out
            refine wp_region_later (v6.alloc (boxP ((fa, xa, ya), z1))).heap.size (by kernel_rfl) (by kernel_rfl) ?_
            repeat (go_big_quiet_step (first | (go_at_call 17; exact Later.calls (Nat.le_refl _) (HLA.out _)) | (go_at_call 43; exact Later.calls (Nat.le_refl _) (HLS.out _))))
            refine wpQuiet_nil ?_
            rintro v13 ⟨zz, rfl⟩
            have hb := zz.prop
            have HZ0 := Lib.hid hb
            clear q0 q1 q2 q3 a0 a1 a2 b0 b1 b2
            generalize zz.val = v13 at *
            have HXp14 := Lib.hid (blk_kept hb HXp8.out)
            have HXa14 := Lib.hid (blk_kept hb HXa8.out)
            have HXb14 := Lib.hid (blk_kept hb HXb8.out)
            have HXz14 := Lib.hid (blk_kept hb HXz8.out)
            have HXq14 := Lib.hid (blk_kept hb HXq8.out)
            have HW14 := Lib.hid (below_step HW8.out hb HW8.out.size)
            clear hb
            clear hne
            obtain ⟨p0, p1, p2, p3⟩ := boxP_at HXp14.out
            obtain ⟨pf0, pf1, pf2, pf3⟩ := boxP_free HXp14.out
            obtain ⟨q0, q1, q2, q3⟩ := boxP_at HXq14.out
            go_wp2_with fail
            clear p0 p1 p2 p3 pf0 pf1 pf2 pf3 q0 q1 q2 q3
            have hg := HG.out
            obtain ⟨X8, hX8⟩ : ∃ X8, X8 = ((((v13.setCell ⟨g, 0, none⟩ (.int .u8 (fa.toNat : Int))).setCell ⟨g, 1, none⟩ (.int .u64 (xa.toNat : Int))).setCell ⟨g, 2, none⟩ (.int .u64 (ya.toNat : Int))).setCell ⟨g, 3, none⟩ (.int .i64 z1)) := ⟨_, rfl⟩
            have hHP9 : X8.heap[g]? = some (boxP ((fa, xa, ya), z1)) := by rw [hX8]; exact set4_heap HXp14.out _ _ _ _
            have hHA9 : X8.heap[w.heap.size]? = some (boxA (fa, xa, ya)) := by rw [hX8]; exact set4_far HXa14.out (by omega) _ _ _ _
            have hHBB9 : X8.heap[w.heap.size + 1]? = some (boxA (fb, xb, yb)) := by rw [hX8]; exact set4_far HXb14.out (by omega) _ _ _ _
            have hHZZ9 : X8.heap[w.heap.size + 1 + 1]? = some boxPZ := by rw [hX8]; exact set4_far HXz14.out (by omega) _ _ _ _
            have hB8 : Below w.heap.size w X8 := by rw [hX8]; exact set4 HW14.out (by omega) _ _ _ _
            rw [← hX8]
            clear hX8
            obtain ⟨X9, rfl⟩ : ∃ X9, X9 = X8 := ⟨_, rfl⟩
            have HP9 := Lib.hid hHP9
            have HA9 := Lib.hid hHA9
            have HBB9 := Lib.hid hHBB9
            have HZZ9 := Lib.hid hHZZ9
            have HB9 := Lib.hid hB8
            clear hB8 hHP9 hHA9 hHBB9 hHZZ9
            go_roundw
            case rel => exact ⟨k + 1, hlt, Lib.hid HOK2.out, by rw [← HZ1.out]; exact HP9.out, HA9.out, HBB9.out, HZZ9.out, HB9.out⟩
            case measure => rw [HBA.out, bitsAt_box HP9.out]; exact HZL.out
      · have hkw : k = wf := by omega
        have HGV := Lib.hid (HGR.out k hk HOK.out (.inl hkw))
        obtain ⟨z, hz⟩ : ∃ z, z = wd - (k : Int) := ⟨_, rfl⟩
        have HZE := Lib.hid hz
        have hpos : ¬ 0 < z := by omega
        rw [← hz] at HXp0
        clear hz hkw
        obtain ⟨p0, p1, p2, p3⟩ := boxP_at HXp0.out
        obtain ⟨z0, z1, z2, z3⟩ := boxPZ_at HXz0.out
        obtain ⟨zf0, zf1, zf2, zf3⟩ := boxPZ_free HXz0.out
        go_wp2_with fail
        obtain ⟨X8, hX8⟩ : ∃ X8, X8 = ((((wr.setCell ⟨w.heap.size + 1 + 1, 0, none⟩ (.int .u8 (fa.toNat : Int))).setCell ⟨w.heap.size + 1 + 1, 1, none⟩ (.int .u64 (xa.toNat : Int))).setCell ⟨w.heap.size + 1 + 1, 2, none⟩ (.int .u64 (ya.toNat : Int))).setCell ⟨w.heap.size + 1 + 1, 3, none⟩ (.int .i64 z)) := ⟨_, rfl⟩
        have hHQ9 : X8.heap[w.heap.size + 1 + 1]? = some (boxP ((fa, xa, ya), z)) := by rw [hX8]; exact set4_heap HXz0.out _ _ _ _
        have hB8 : Below w.heap.size w X8 := by rw [hX8]; exact set4 HW0.out (Nat.le_trans (Nat.le_succ _) (Nat.le_succ _)) _ _ _ _
        rw [← hX8]
        clear hX8
        obtain ⟨X9, rfl⟩ : ∃ X9, X9 = X8 := ⟨_, rfl⟩
        have HQ9 := Lib.hid hHQ9
        have HB9 := Lib.hid hB8
        clear hB8 hHQ9
        clear p0 p1 p2 p3 z0 z1 z2 z3 zf0 zf1 zf2 zf3
        obtain ⟨q0, q1, q2, q3⟩ := boxP_at HQ9.out
        exact bodyPost_ret (v := .agg #[.int .u8 (fa.toNat : Int), .int .u64 (xa.toNat : Int), .int .u64 (ya.toNat : Int), .int .i64 z]) (by simp [results, Tryz.results44, go_sem, q0, q1, q2, q3]) rfl (GreatPost.mk (by rw [← HWF.out]; exact HGV.out) (HZE.out.trans (by rw [HWE.out])) HB9.out)
end Go.Proofs.Tryz.Cd
