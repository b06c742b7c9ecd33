/- The program's prefixes: cut. -/
import Derived.Test.YtbhnpndkdhhpfaaPxE
set_option linter.unusedVariables false
set_option linter.unusedSimpArgs false
namespace Go.Proofs.Try.Pfx
open Go.RowKit Go.Cph Go.Cph.Px

def cutE (a : Ad) (bits : Int) : Int := if fits a bits then 0 else 1
def CutPost (a : Ad) (bits : Int) (w : World) (e : Ending) (w' : World) : Prop := e = .returned (.tuple #[encP (cutP a bits), .int .i64 (cutE a bits)]) ∧ Below w.heap.size w w'

set_option maxHeartbeats 1000000 in
theorem cut_any (a : Ad) (bits : Int) (w : World) : Calls Try.prog 43 #[encA a, .int .i64 bits] w (CutPost a bits w) := by
  have hfits := fits_any a bits
  obtain ⟨r, hr⟩ : ∃ r, r = fits a bits := ⟨_, rfl⟩
  rw [← hr] at hfits
  have HF := Lib.hid hfits
  have HR := Lib.hid hr
  clear hfits hr
  obtain ⟨f, hi, lo⟩ := a
  have hbx : Below w.heap.size w ((w.alloc (.cells #[.int .u8 (f.toNat : Int), .int .u64 (hi.toNat : Int), .int .u64 (lo.toNat : Int)] 25)).alloc (.cells #[.int .u8 0, .int .u64 0, .int .u64 0, .int .i64 0] 27)) := ((Below.refl _ _).alloc (Nat.le_refl _) _).alloc (by simp) _
  have HBX := Lib.hid hbx
  clear hbx
  cases r
  · have HV := Lib.hid (show cutP (f, hi, lo) bits = zeroP ∧ cutE (f, hi, lo) bits = 1 from ⟨by unfold cutP; rw [← HR.out]; simp, by unfold cutE; rw [← HR.out]; simp⟩)
    go_enter Try.func43, Try.ntmps43
    go_wp2_with fail
    refine (HF.out _).mono ?_
    rintro e w1 ⟨rfl, hb⟩
    have HB := Lib.hid (below_step HBX.out hb HBX.out.size)
    have g2 := heap_alloc_new (w.alloc (.cells #[.int .u8 (f.toNat : Int), .int .u64 (hi.toNat : Int), .int .u64 (lo.toNat : Int)] 25)) (.cells #[.int .u8 0, .int .u64 0, .int .u64 0, .int .i64 0] 27)
    rw [World.size_alloc] at g2
    have h2 := blk_kept hb g2
    have H2 := Lib.hid (blk_set (blk_set (blk_set (blk_set h2 0 (.int .u8 0)) 1 (.int .u64 0)) 2 (.int .u64 0)) 3 (.int .i64 0))
    have f0 : ∀ j, w1.frozen? ⟨w.heap.size + 1, j, none⟩ = false := fun j => by rw [blk_frozen h2]; simp
    have c0 : w1.cell? ⟨w.heap.size + 1, 0, none⟩ = some (.int .u8 0) := by rw [blk_cell h2]; rfl
    have c1 : w1.cell? ⟨w.heap.size + 1, 1, none⟩ = some (.int .u64 0) := by rw [blk_cell h2]; rfl
    have c2 : w1.cell? ⟨w.heap.size + 1, 2, none⟩ = some (.int .u64 0) := by rw [blk_cell h2]; rfl
    have c3 : w1.cell? ⟨w.heap.size + 1, 3, none⟩ = some (.int .i64 0) := by rw [blk_cell h2]; rfl
    clear hb g2 h2
    go_wp2_with fail
    have HB2 := Lib.hid ((((HB.out.setCell (p := ⟨w.heap.size + 1, 0, none⟩) (by simp) (.int .u8 0)).setCell (p := ⟨w.heap.size + 1, 1, none⟩) (by simp) (.int .u64 0)).setCell (p := ⟨w.heap.size + 1, 2, none⟩) (by simp) (.int .u64 0)).setCell (p := ⟨w.heap.size + 1, 3, none⟩) (by simp) (.int .i64 0))
    clear c0 c1 c2 c3 f0
    generalize (((w1.setCell ⟨w.heap.size + 1, 0, none⟩ (.int .u8 0)).setCell ⟨w.heap.size + 1, 1, none⟩ (.int .u64 0)).setCell ⟨w.heap.size + 1, 2, none⟩ (.int .u64 0)).setCell ⟨w.heap.size + 1, 3, none⟩ (.int .i64 0) = w4 at *
    have c0 : w4.cell? ⟨w.heap.size + 1, 0, none⟩ = some (.int .u8 0) := by rw [blk_cell H2.out]; rfl
    have c1 : w4.cell? ⟨w.heap.size + 1, 1, none⟩ = some (.int .u64 0) := by rw [blk_cell H2.out]; rfl
    have c2 : w4.cell? ⟨w.heap.size + 1, 2, none⟩ = some (.int .u64 0) := by rw [blk_cell H2.out]; rfl
    have c3 : w4.cell? ⟨w.heap.size + 1, 3, none⟩ = some (.int .i64 0) := by rw [blk_cell H2.out]; rfl
    exact bodyPost_ret (v := .tuple #[.agg #[.int .u8 0, .int .u64 0, .int .u64 0, .int .i64 0], .int .i64 1]) (by simp [results, Try.results43, go_sem, c0, c1, c2, c3]) rfl ⟨by rw [HV.out.1, HV.out.2]; rfl, HB2.out⟩
  · obtain ⟨h1, h2, h3⟩ := fits_iff.1 HR.out.symm
    have hfree := free_any f bits
    have hw := width_pos f
    have e1 : rest (f, hi, lo) bits = (width f - bits).toNat := rfl
    have HV := Lib.hid (show cutP (f, hi, lo) bits = (cutA (f, hi, lo) (rest (f, hi, lo) bits), bits) ∧ cutE (f, hi, lo) bits = 0 from ⟨by unfold cutP; rw [← HR.out]; simp, by unfold cutE; rw [← HR.out]; simp⟩)
    have h3' : bits ≤ width f := h3
    have bH : Go.bits .andNot .u64 (hi.toNat : Int) (maskHi (width f - bits).toNat) = ((clear hi ((width f - bits).toNat - 64)).toNat : Int) := andNot_clear hi _ (by omega)
    have bL : Go.bits .andNot .u64 (lo.toNat : Int) (maskLo (width f - bits).toNat) = ((clear lo (min (width f - bits).toNat 64)).toNat : Int) := andNot_clear lo _ (Nat.min_le_right _ _)
    have HC := Lib.hid (show cutA (f, hi, lo) (rest (f, hi, lo) bits) = (f, clear hi ((width f - bits).toNat - 64), clear lo (min (width f - bits).toNat 64)) by rw [cutA_both, e1])
    have HFR := Lib.hid (fun w => hfree w h2 h3')
    clear e1 hfree hw h1 h2 h3 h3'
    generalize maskHi (width f - bits).toNat = mh at *
    generalize maskLo (width f - bits).toNat = ml at *
    generalize clear hi ((width f - bits).toNat - 64) = hi' at *
    generalize clear lo (min (width f - bits).toNat 64) = lo' at *
    go_enter Try.func43, Try.ntmps43
    go_wp2_with fail
    refine (HF.out _).mono ?_
    rintro e w1 ⟨rfl, hb⟩
    have HB := Lib.hid (below_step HBX.out hb HBX.out.size)
    have g2 := heap_alloc_new (w.alloc (.cells #[.int .u8 (f.toNat : Int), .int .u64 (hi.toNat : Int), .int .u64 (lo.toNat : Int)] 25)) (.cells #[.int .u8 0, .int .u64 0, .int .u64 0, .int .i64 0] 27)
    rw [World.size_alloc] at g2
    have h2 := blk_kept hb g2
    have h1 := blk_kept hb (blk_alloc (heap_alloc_new w (.cells #[.int .u8 (f.toNat : Int), .int .u64 (hi.toNat : Int), .int .u64 (lo.toNat : Int)] 25)) (.cells #[.int .u8 0, .int .u64 0, .int .u64 0, .int .i64 0] 27))
    have H1 := Lib.hid h1
    have H2 := Lib.hid h2
    have a0 : w1.cell? ⟨w.heap.size, 0, none⟩ = some (.int .u8 (f.toNat : Int)) := by rw [blk_cell h1]; rfl
    clear hb g2 h2 h1
    go_wp2_with fail
    refine (HFR.out _).mono ?_
    rintro e w2 ⟨rfl, hb⟩
    have HB2 := Lib.hid (below_step HB.out hb HB.out.size)
    have h1 := blk_kept hb H1.out
    have h2 := blk_kept hb H2.out
    have HS := Lib.hid (blk_set (blk_set (blk_set (blk_set ((blk_set_other (by simp)).trans ((blk_set_other (by simp)).trans h2) : ((w2.setCell ⟨w.heap.size, 1, none⟩ (.int .u64 (hi'.toNat : Int))).setCell ⟨w.heap.size, 2, none⟩ (.int .u64 (lo'.toNat : Int))).heap[w.heap.size + 1]? = _) 0 (.int .u8 (f.toNat : Int))) 1 (.int .u64 (hi'.toNat : Int))) 2 (.int .u64 (lo'.toNat : Int))) 3 (.int .i64 bits))
    have f0 : ∀ j, w2.frozen? ⟨w.heap.size + 1, j, none⟩ = false := fun j => by rw [blk_frozen h2]; simp
    have f1 : ∀ j, w2.frozen? ⟨w.heap.size, j, none⟩ = false := fun j => by rw [blk_frozen h1]; simp
    have c0 : w2.cell? ⟨w.heap.size + 1, 0, none⟩ = some (.int .u8 0) := by rw [blk_cell h2]; rfl
    have c1 : w2.cell? ⟨w.heap.size + 1, 1, none⟩ = some (.int .u64 0) := by rw [blk_cell h2]; rfl
    have c2 : w2.cell? ⟨w.heap.size + 1, 2, none⟩ = some (.int .u64 0) := by rw [blk_cell h2]; rfl
    have c3 : w2.cell? ⟨w.heap.size + 1, 3, none⟩ = some (.int .i64 0) := by rw [blk_cell h2]; rfl
    have a1 : w2.cell? ⟨w.heap.size, 0, none⟩ = some (.int .u8 (f.toNat : Int)) := by rw [blk_cell h1]; rfl
    have a2 : w2.cell? ⟨w.heap.size, 1, none⟩ = some (.int .u64 (hi.toNat : Int)) := by rw [blk_cell h1]; rfl
    have a3 : w2.cell? ⟨w.heap.size, 2, none⟩ = some (.int .u64 (lo.toNat : Int)) := by rw [blk_cell h1]; rfl
    clear hb h1 h2 a0
    go_wp2_with fail
    have HB3 := Lib.hid ((((((HB2.out.setCell (p := ⟨w.heap.size, 1, none⟩) (by simp) (.int .u64 (hi'.toNat : Int))).setCell (p := ⟨w.heap.size, 2, none⟩) (by simp) (.int .u64 (lo'.toNat : Int))).setCell (p := ⟨w.heap.size + 1, 0, none⟩) (by simp) (.int .u8 (f.toNat : Int))).setCell (p := ⟨w.heap.size + 1, 1, none⟩) (by simp) (.int .u64 (hi'.toNat : Int))).setCell (p := ⟨w.heap.size + 1, 2, none⟩) (by simp) (.int .u64 (lo'.toNat : Int))).setCell (p := ⟨w.heap.size + 1, 3, none⟩) (by simp) (.int .i64 bits))
    clear c0 c1 c2 c3 f0 f1 a1 a2 a3
    generalize (((((w2.setCell ⟨w.heap.size, 1, none⟩ (.int .u64 (hi'.toNat : Int))).setCell ⟨w.heap.size, 2, none⟩ (.int .u64 (lo'.toNat : Int))).setCell ⟨w.heap.size + 1, 0, none⟩ (.int .u8 (f.toNat : Int))).setCell ⟨w.heap.size + 1, 1, none⟩ (.int .u64 (hi'.toNat : Int))).setCell ⟨w.heap.size + 1, 2, none⟩ (.int .u64 (lo'.toNat : Int))).setCell ⟨w.heap.size + 1, 3, none⟩ (.int .i64 bits) = w4 at *
    have c0 : w4.cell? ⟨w.heap.size + 1, 0, none⟩ = some (.int .u8 (f.toNat : Int)) := by rw [blk_cell HS.out]; rfl
    have c1 : w4.cell? ⟨w.heap.size + 1, 1, none⟩ = some (.int .u64 (hi'.toNat : Int)) := by rw [blk_cell HS.out]; rfl
    have c2 : w4.cell? ⟨w.heap.size + 1, 2, none⟩ = some (.int .u64 (lo'.toNat : Int)) := by rw [blk_cell HS.out]; rfl
    have c3 : w4.cell? ⟨w.heap.size + 1, 3, none⟩ = some (.int .i64 bits) := by rw [blk_cell HS.out]; rfl
    exact bodyPost_ret (v := .tuple #[.agg #[.int .u8 (f.toNat : Int), .int .u64 (hi'.toNat : Int), .int .u64 (lo'.toNat : Int), .int .i64 bits], .int .i64 0]) (by simp [results, Try.results43, go_sem, c0, c1, c2, c3]) rfl ⟨by rw [HV.out.1, HV.out.2, HC.out], HB3.out⟩
end Go.Proofs.Try.Pfx
