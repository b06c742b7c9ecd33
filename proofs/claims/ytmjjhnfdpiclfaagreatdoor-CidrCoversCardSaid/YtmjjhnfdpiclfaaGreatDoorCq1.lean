/- cidr: boxes of prefixes; the program's Last, Halves. -/
import Derived.Test.YtmjjhnfdpiclfaaGreatDoorQe
import Derived.Test.YtmjjhnfdpiclfaaGreatDoorCp3
import Derived.Test.YtmjjhnfdpiclfaaGreatDoorAz4
import Derived.Deep.DeepCutAuto
import Derived.Deep.CutBlock
import Derived.Deep.RegionHeldLaw
import Derived.Deep.RegionHeld3
set_option linter.unusedVariables false
set_option linter.unusedSimpArgs false
set_option maxRecDepth 100000
namespace Go.Proofs.Tryz.Cd
open Go.RowKit Go.Cph Go.Cph.Tx Go.Cph.Px Go.Proofs.Tryz.Tx Go.Proofs.Tryz.Pfx
open Go.Cph.Ok (ofBs)
open Go.Proofs.Tryz.Rows (boxZ)
open Go.Proofs.Tryz.Gp (nextA NearPost)
abbrev boxP (p : Pf) : Obj := .cells #[.int .u8 (p.1.1.toNat : Int), .int .u64 (p.1.2.1.toNat : Int), .int .u64 (p.1.2.2.toNat : Int), .int .i64 p.2] 26 (0, 0)
abbrev boxPZ : Obj := .cells #[.int .u8 0, .int .u64 0, .int .u64 0, .int .i64 0] 26 (0, 0)
theorem boxP_at {W : World} {g : Nat} {f : UInt8} {x y : UInt64} {b : Int} (h : W.heap[g]? = some (boxP ((f, x, y), b))) : W.cell? ⟨g, 0, none⟩ = some (.int .u8 (f.toNat : Int)) ∧ W.cell? ⟨g, 1, none⟩ = some (.int .u64 (x.toNat : Int)) ∧ W.cell? ⟨g, 2, none⟩ = some (.int .u64 (y.toNat : Int)) ∧ W.cell? ⟨g, 3, none⟩ = some (.int .i64 b) := ⟨(by rw [blk_cell h]; rfl), (by rw [blk_cell h]; rfl), (by rw [blk_cell h]; rfl), (by rw [blk_cell h]; rfl)⟩
theorem later_boxP {W : World} {g : Nat} {f : UInt8} {x y : UInt64} {b : Int} (h : W.heap[g]? = some (boxP ((f, x, y), b))) : (∀ zz : Later W.heap.size W, zz.val.cell? ⟨g, 0, none⟩ = some (.int .u8 (f.toNat : Int))) ∧ (∀ zz : Later W.heap.size W, zz.val.cell? ⟨g, 1, none⟩ = some (.int .u64 (x.toNat : Int))) ∧ (∀ zz : Later W.heap.size W, zz.val.cell? ⟨g, 2, none⟩ = some (.int .u64 (y.toNat : Int))) ∧ (∀ zz : Later W.heap.size W, zz.val.cell? ⟨g, 3, none⟩ = some (.int .i64 b)) := ⟨(fun zz => by rw [blk_cell (blk_kept zz.prop h)]; rfl), (fun zz => by rw [blk_cell (blk_kept zz.prop h)]; rfl), (fun zz => by rw [blk_cell (blk_kept zz.prop h)]; rfl), (fun zz => by rw [blk_cell (blk_kept zz.prop h)]; rfl)⟩
theorem boxP_free {W : World} {g : Nat} {f : UInt8} {x y : UInt64} {b : Int} (h : W.heap[g]? = some (boxP ((f, x, y), b))) : W.frozen? ⟨g, 0, none⟩ = false ∧ W.frozen? ⟨g, 1, none⟩ = false ∧ W.frozen? ⟨g, 2, none⟩ = false ∧ W.frozen? ⟨g, 3, none⟩ = false := ⟨(by rw [blk_frozen h]; rfl), (by rw [blk_frozen h]; rfl), (by rw [blk_frozen h]; rfl), (by rw [blk_frozen h]; rfl)⟩
theorem boxPZ_at {W : World} {g : Nat} (h : W.heap[g]? = some boxPZ) : W.cell? ⟨g, 0, none⟩ = some (.int .u8 0) ∧ W.cell? ⟨g, 1, none⟩ = some (.int .u64 0) ∧ W.cell? ⟨g, 2, none⟩ = some (.int .u64 0) ∧ W.cell? ⟨g, 3, none⟩ = some (.int .i64 0) := ⟨(by rw [blk_cell h]; rfl), (by rw [blk_cell h]; rfl), (by rw [blk_cell h]; rfl), (by rw [blk_cell h]; rfl)⟩
theorem later_boxPZ {W : World} {g : Nat} (h : W.heap[g]? = some boxPZ) : (∀ zz : Later W.heap.size W, zz.val.cell? ⟨g, 0, none⟩ = some (.int .u8 0)) ∧ (∀ zz : Later W.heap.size W, zz.val.cell? ⟨g, 1, none⟩ = some (.int .u64 0)) ∧ (∀ zz : Later W.heap.size W, zz.val.cell? ⟨g, 2, none⟩ = some (.int .u64 0)) ∧ (∀ zz : Later W.heap.size W, zz.val.cell? ⟨g, 3, none⟩ = some (.int .i64 0)) := ⟨(fun zz => by rw [blk_cell (blk_kept zz.prop h)]; rfl), (fun zz => by rw [blk_cell (blk_kept zz.prop h)]; rfl), (fun zz => by rw [blk_cell (blk_kept zz.prop h)]; rfl), (fun zz => by rw [blk_cell (blk_kept zz.prop h)]; rfl)⟩
theorem boxPZ_free {W : World} {g : Nat} (h : W.heap[g]? = some boxPZ) : W.frozen? ⟨g, 0, none⟩ = false ∧ W.frozen? ⟨g, 1, none⟩ = false ∧ W.frozen? ⟨g, 2, none⟩ = false ∧ W.frozen? ⟨g, 3, none⟩ = false := ⟨(by rw [blk_frozen h]; rfl), (by rw [blk_frozen h]; rfl), (by rw [blk_frozen h]; rfl), (by rw [blk_frozen h]; rfl)⟩
theorem boxZA_at {W : World} {g : Nat} (h : W.heap[g]? = some boxZ) : W.cell? ⟨g, 0, none⟩ = some (.int .u8 0) ∧ W.cell? ⟨g, 1, none⟩ = some (.int .u64 0) ∧ W.cell? ⟨g, 2, none⟩ = some (.int .u64 0) := ⟨(by rw [blk_cell h]; rfl), (by rw [blk_cell h]; rfl), (by rw [blk_cell h]; rfl)⟩
theorem later_boxZA {W : World} {g : Nat} (h : W.heap[g]? = some boxZ) : (∀ zz : Later W.heap.size W, zz.val.cell? ⟨g, 0, none⟩ = some (.int .u8 0)) ∧ (∀ zz : Later W.heap.size W, zz.val.cell? ⟨g, 1, none⟩ = some (.int .u64 0)) ∧ (∀ zz : Later W.heap.size W, zz.val.cell? ⟨g, 2, none⟩ = some (.int .u64 0)) := ⟨(fun zz => by rw [blk_cell (blk_kept zz.prop h)]; rfl), (fun zz => by rw [blk_cell (blk_kept zz.prop h)]; rfl), (fun zz => by rw [blk_cell (blk_kept zz.prop h)]; rfl)⟩
theorem boxZA_free {W : World} {g : Nat} (h : W.heap[g]? = some boxZ) : W.frozen? ⟨g, 0, none⟩ = false ∧ W.frozen? ⟨g, 1, none⟩ = false ∧ W.frozen? ⟨g, 2, none⟩ = false := ⟨(by rw [blk_frozen h]; rfl), (by rw [blk_frozen h]; rfl), (by rw [blk_frozen h]; rfl)⟩
theorem bl_drew {w W : World} (h : Below w.heap.size w W) : Below w.heap.size w W.drew := h.drew
theorem bl_alloc {w W : World} (h : Below w.heap.size w W) (o : Obj) : Below w.heap.size w (W.alloc o) := h.alloc h.size o
theorem bl_set {w W : World} (h : Below w.heap.size w W) {p : Addr} (hp : w.heap.size ≤ p.block) (v : Value) : Below w.heap.size w (W.setCell p v) := h.setCell hp v
theorem set3 {w W : World} {g : Nat} (h : Below w.heap.size w W) (hg : w.heap.size ≤ g) (a b c : Value) : Below w.heap.size w (((W.setCell ⟨g, 0, none⟩ a).setCell ⟨g, 1, none⟩ b).setCell ⟨g, 2, none⟩ c) :=
  bl_set (bl_set (bl_set h hg _) hg _) hg _
theorem set4 {w W : World} {g : Nat} (h : Below w.heap.size w W) (hg : w.heap.size ≤ g) (a b c d : Value) : Below w.heap.size w ((((W.setCell ⟨g, 0, none⟩ a).setCell ⟨g, 1, none⟩ b).setCell ⟨g, 2, none⟩ c).setCell ⟨g, 3, none⟩ d) :=
  bl_set (bl_set (bl_set (bl_set h hg _) hg _) hg _) hg _
theorem mask_lt (j : Nat) (h : j ≤ 64) : 2 ^ j - 1 < 18446744073709551616 := by
  have h1 : 2 ^ j ≤ 2 ^ 64 := Nat.pow_le_pow_right (by decide) h
  have h2 : 0 < 2 ^ j := Nat.pow_pos (by decide)
  have e : (2 : Nat) ^ 64 = 18446744073709551616 := by decide
  omega
set_option maxHeartbeats 2000000 in
theorem last_any (p : Pf) (w : World) : Calls Tryz.prog 17 #[encP p] w fun e w' => e = .returned (encA (lastR p)) ∧ Below w.heap.size w w' := by
  have HR := Lib.hid (fun W => rightP_any p W)
  obtain ⟨r, hr⟩ : ∃ r, r = rightP p := ⟨_, rfl⟩
  rw [← hr] at HR
  have HLF := Lib.hid (show r = false → lastR p = zeroA from fun h => by unfold lastR; rw [← hr, h]; rfl)
  have HLT := Lib.hid (show r = true → Rt p from fun h => rightP_iff.1 (by rw [← hr]; exact h))
  clear hr
  cases r
  · have HV := Lib.hid (HLF.out rfl)
    clear HLF HLT
    obtain ⟨⟨f, x, y⟩, b⟩ := p
    have HXp1 := Lib.hid (heap_alloc_new w (boxP ((f, x, y), b)))
    have HW1 := Lib.hid (show Below w.heap.size w (w.alloc (boxP ((f, x, y), b))) from (Below.refl _ _).alloc (Nat.le_refl _) _)
    have HXp2 := Lib.hid (blk_alloc HXp1.out boxZ)
    have hxz := heap_alloc_new (w.alloc (boxP ((f, x, y), b))) boxZ
    simp only [World.size_alloc] at hxz
    have HXz2 := Lib.hid hxz
    clear hxz
    have HW2 := Lib.hid (show Below w.heap.size w ((w.alloc (boxP ((f, x, y), b))).alloc boxZ) from HW1.out.alloc HW1.out.size _)
    obtain ⟨p0, p1, p2, p3⟩ := boxP_at HXp2.out
    go_enter Tryz.func17, Tryz.ntmps17
    go_wp2_with fail
    clear p0 p1 p2 p3
    refine (HR.out _).mono ?_
    rintro e v3 ⟨rfl, hb⟩
    have HXp4 := Lib.hid (blk_kept hb HXp2.out)
    have HXz4 := Lib.hid (blk_kept hb HXz2.out)
    have HW4 := Lib.hid (below_step HW2.out hb HW2.out.size)
    clear hb
    obtain ⟨z0, z1, z2⟩ := boxZA_at HXz4.out
    obtain ⟨zf0, zf1, zf2⟩ := boxZA_free HXz4.out
    go_wp2_with fail
    exact bodyPost_ret (v := .agg #[.int .u8 0, .int .u64 0, .int .u64 0]) (by simp [results, Tryz.results17, go_sem, z0, z1, z2]) rfl ⟨by rw [HV.out]; rfl, set3 HW4.out (Nat.le_succ _) _ _ _⟩
  · have hrt := HLT.out rfl
    obtain ⟨x', y', e, hx, hy⟩ := last_words hrt
    have HV := Lib.hid e
    have hk : rest p.1 p.2 ≤ 128 := rest_le _ hrt.lo
    have hw := width_pos p.1.1
    have hb1 := hrt.hi
    have hb0 := hrt.lo
    obtain ⟨⟨f, x, y⟩, b⟩ := p
    have ek : rest (f, x, y) b = (width f - b).toNat := rfl
    rw [ek] at hx hy hk
    have HFR := Lib.hid (fun W => free_any f b W hb0 hb1)
    have bH : Go.bits .or .u64 (x.toNat : Int) (maskHi (width f - b).toNat) = (x'.toNat : Int) := by
      unfold maskHi
      rw [u64_or_nat _ _ x.toNat_lt (mask_lt _ (by omega)), hx]
    have bL : Go.bits .or .u64 (y.toNat : Int) (maskLo (width f - b).toNat) = (y'.toNat : Int) := by
      unfold maskLo
      rw [u64_or_nat _ _ y.toNat_lt (mask_lt _ (by omega)), hy]
    clear hrt HLF HLT e hx hy hk hw hb1 hb0 ek
    generalize maskHi (width f - b).toNat = mh at *
    generalize maskLo (width f - b).toNat = ml at *
    have HXp1 := Lib.hid (heap_alloc_new w (boxP ((f, x, y), b)))
    have HW1 := Lib.hid (show Below w.heap.size w (w.alloc (boxP ((f, x, y), b))) from (Below.refl _ _).alloc (Nat.le_refl _) _)
    have HXp2 := Lib.hid (blk_alloc HXp1.out boxZ)
    have hxz := heap_alloc_new (w.alloc (boxP ((f, x, y), b))) boxZ
    simp only [World.size_alloc] at hxz
    have HXz2 := Lib.hid hxz
    clear hxz
    have HW2 := Lib.hid (show Below w.heap.size w ((w.alloc (boxP ((f, x, y), b))).alloc boxZ) from HW1.out.alloc HW1.out.size _)
    obtain ⟨p0, p1, p2, p3⟩ := boxP_at HXp2.out
    go_enter Tryz.func17, Tryz.ntmps17
    go_wp2_with fail
    clear p0 p1 p2 p3
    refine (HR.out _).mono ?_
    rintro e v3 ⟨rfl, hb⟩
    have HXp4 := Lib.hid (blk_kept hb HXp2.out)
    have HXz4 := Lib.hid (blk_kept hb HXz2.out)
    have HW4 := Lib.hid (below_step HW2.out hb HW2.out.size)
    clear hb
    obtain ⟨p0, p1, p2, p3⟩ := boxP_at HXp4.out
    go_wp2_with fail
    clear p0 p1 p2 p3
    refine (HFR.out _).mono ?_
    rintro e v5 ⟨rfl, hb⟩
    have HXp6 := Lib.hid (blk_kept hb HXp4.out)
    have HXz6 := Lib.hid (blk_kept hb HXz4.out)
    have HW6 := Lib.hid (below_step HW4.out hb HW4.out.size)
    clear hb
    obtain ⟨p0, p1, p2, p3⟩ := boxP_at HXp6.out
    obtain ⟨z0, z1, z2⟩ := boxZA_at HXz6.out
    obtain ⟨zf0, zf1, zf2⟩ := boxZA_free HXz6.out
    go_wp2_with fail
    exact bodyPost_ret (v := .agg #[.int .u8 (f.toNat : Int), .int .u64 (x'.toNat : Int), .int .u64 (y'.toNat : Int)]) (by simp [results, Tryz.results17, go_sem, z0, z1, z2]) rfl ⟨by rw [HV.out], set3 HW6.out (Nat.le_succ _) _ _ _⟩
end Go.Proofs.Tryz.Cd
