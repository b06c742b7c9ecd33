/- The document's lists of prefixes: one taken out. -/
import Derived.Test.YtbhnpndkdhhpfaaRc3
import Derived.Test.YtbhnpndkdhhpfaaPt2
set_option linter.unusedVariables false
set_option linter.unusedSimpArgs false
namespace Go.Proofs.Try.Pfx
open Go.RowKit Go.Cph Go.Cph.Px

def RefDropPost (l : List Pf) (p : Pf) (w : World) (e : Ending) (w' : World) : Prop :=
  ∃ v', e = .returned (.tuple #[v', .int .i64 (dropE l p : Nat)]) ∧ w'.ownsRow w.heap.size TR 4 v' (outD l p).length ((outD l p).flatMap encC) ∧ Below w.heap.size w w'
theorem seg_to {w : World} {l : List Pf} {b off cap : Nat} (h : PfsAt w (.slice (some ⟨b, off, none⟩) l.length cap) l) (m cap' : Nat) (hm : m ≤ l.length) :
    Seg w 4 (.slice (some ⟨b, off, none⟩) m cap') m ((l.take m).flatMap encC) := by
  refine ⟨⟨_, _, rfl, fun h0 => ?_⟩, by rw [flat_length encC_len, List.length_take, Nat.min_eq_left hm]⟩
  obtain ⟨⟨ao', cap'', hv, hcs⟩, hl⟩ := h
  cases hv
  obtain ⟨b', off', hbo, hcell⟩ := hcs (by omega)
  cases hbo
  refine ⟨b, off, rfl, fun j hj => ?_⟩
  rw [hcell j (by omega), ← flat_take encC_len, List.getElem?_take, if_pos hj]

set_option maxRecDepth 100000 in
set_option maxHeartbeats 4000000 in
theorem drop22 {base : Nat} (v : Value) (l : List Pf) (p : Pf) (w : World) (hown : w.ownsRow base TR 4 v l.length (l.flatMap encC)) (hn : l.length ≤ 900000) :
    Calls Try.prog 32 #[v, encP p] w (RefDropPost l p w) := by
  have HOW := Lib.hid hown
  have HV := Lib.hid (show PfsAt w v l from Seg.of_owns hown)
  obtain ⟨ao, cap, rfl⟩ := owns_slice1 hown
  have HRL := Lib.hid (fun w h => right22 (.slice ao l.length cap) l w h (by omega))
  have HRP := Lib.hid (fun w => rrightP p w)
  have HHS := Lib.hid (fun w h hr => has22 (.slice ao l.length cap) l p w h hr (by omega))
  obtain ⟨r, hr⟩ : ∃ r, r = rightL l := ⟨_, rfl⟩
  obtain ⟨rp, hrp⟩ : ∃ r, r = rightP p := ⟨_, rfl⟩
  rw [← hr] at HRL
  rw [← hrp] at HRP
  have HR := Lib.hid hr
  have HP := Lib.hid hrp
  clear hr hrp hown
  have hb0 : Below w.heap.size w (w.alloc (.cells #[.int .u8 (p.1.1.toNat : Int), .int .u64 (p.1.2.1.toNat : Int), .int .u64 (p.1.2.2.toNat : Int), .int .i64 p.2] 36)) := ((Below.refl _ _).alloc (Nat.le_refl _) _)
  have h1 : (w.alloc (.cells #[.int .u8 (p.1.1.toNat : Int), .int .u64 (p.1.2.1.toNat : Int), .int .u64 (p.1.2.2.toNat : Int), .int .i64 p.2] 36)).heap[w.heap.size]? = some (.cells #[.int .u8 (p.1.1.toNat : Int), .int .u64 (p.1.2.1.toNat : Int), .int .u64 (p.1.2.2.toNat : Int), .int .i64 p.2] 36 (0, 0)) := (heap_alloc_new w (.cells #[.int .u8 (p.1.1.toNat : Int), .int .u64 (p.1.2.1.toNat : Int), .int .u64 (p.1.2.2.toNat : Int), .int .i64 p.2] 36))
  have H1 := Lib.hid h1
  have HB0 := Lib.hid hb0
  clear hb0 h1
  have hcase : (r = false ∧ dropE l p = 1) ∨ (r = true ∧ rp = false ∧ dropE l p = 1) ∨ (r = true ∧ rp = true ∧ p ∉ l ∧ dropE l p = 4) ∨ (r = true ∧ rp = true ∧ p ∈ l ∧ dropE l p = 0) := by
    unfold dropE
    rw [← HR.out, ← HP.out]
    cases r <;> cases rp <;> by_cases hm : p ∈ l <;> simp [hm]
  rcases hcase with ⟨rfl, he⟩ | ⟨rfl, rfl, he⟩ | ⟨rfl, rfl, hm, he⟩ | ⟨rfl, rfl, hm, he⟩
  · have HE := Lib.hid he
    clear he
    go_enter Try.func32, Try.ntmps32
    go_wp2_with fail
    generalize (w.alloc (.cells #[.int .u8 (p.1.1.toNat : Int), .int .u64 (p.1.2.1.toNat : Int), .int .u64 (p.1.2.2.toNat : Int), .int .i64 p.2] 36)) = w0 at *
    refine (HRL.out _ (HV.out.kept HB0.out)).mono ?_
    rintro e w1 ⟨rfl, hb⟩
    have HB1 := Lib.hid (below_step HB0.out hb HB0.out.size)
    have HG1 := Lib.hid (blk_kept hb H1.out)
    have HV1 := Lib.hid ((HV.out.kept HB0.out).kept hb)
    clear hb
    go_wp2_with fail
    go_ret2
    exact ⟨_, by rw [HE.out]; rfl, by unfold outD; rw [HE.out]; exact World.ownsRow_nil _ _ _ _, HB1.out⟩
  · have HE := Lib.hid he
    clear he
    go_enter Try.func32, Try.ntmps32
    go_wp2_with fail
    generalize (w.alloc (.cells #[.int .u8 (p.1.1.toNat : Int), .int .u64 (p.1.2.1.toNat : Int), .int .u64 (p.1.2.2.toNat : Int), .int .i64 p.2] 36)) = w0 at *
    refine (HRL.out _ (HV.out.kept HB0.out)).mono ?_
    rintro e w1 ⟨rfl, hb⟩
    have HB1 := Lib.hid (below_step HB0.out hb HB0.out.size)
    have HG1 := Lib.hid (blk_kept hb H1.out)
    have HV1 := Lib.hid ((HV.out.kept HB0.out).kept hb)
    clear hb
    have p0 : w1.cell? ⟨w.heap.size, 0, none⟩ = some (.int .u8 (p.1.1.toNat : Int)) := (by rw [blk_cell HG1.out]; rfl)
    have p1 : w1.cell? ⟨w.heap.size, 1, none⟩ = some (.int .u64 (p.1.2.1.toNat : Int)) := (by rw [blk_cell HG1.out]; rfl)
    have p2 : w1.cell? ⟨w.heap.size, 2, none⟩ = some (.int .u64 (p.1.2.2.toNat : Int)) := (by rw [blk_cell HG1.out]; rfl)
    have p3 : w1.cell? ⟨w.heap.size, 3, none⟩ = some (.int .i64 p.2) := (by rw [blk_cell HG1.out]; rfl)
    go_wp2_with fail
    refine (HRP.out _).mono ?_
    rintro e w2 ⟨rfl, hb⟩
    have HB2 := Lib.hid (below_step HB1.out hb HB1.out.size)
    have HG2 := Lib.hid (blk_kept hb HG1.out)
    have HV2 := Lib.hid (HV1.out.kept hb)
    clear hb p0 p1 p2 p3
    go_wp2_with fail
    go_ret2
    exact ⟨_, by rw [HE.out]; rfl, by unfold outD; rw [HE.out]; exact World.ownsRow_nil _ _ _ _, HB2.out⟩
  · have HE := Lib.hid he
    have hx : hasV l p = -1 := by unfold hasV; rw [if_neg hm]
    have HX := Lib.hid hx
    clear he hx hm
    go_enter Try.func32, Try.ntmps32
    go_wp2_with fail
    generalize (w.alloc (.cells #[.int .u8 (p.1.1.toNat : Int), .int .u64 (p.1.2.1.toNat : Int), .int .u64 (p.1.2.2.toNat : Int), .int .i64 p.2] 36)) = w0 at *
    refine (HRL.out _ (HV.out.kept HB0.out)).mono ?_
    rintro e w1 ⟨rfl, hb⟩
    have HB1 := Lib.hid (below_step HB0.out hb HB0.out.size)
    have HG1 := Lib.hid (blk_kept hb H1.out)
    have HV1 := Lib.hid ((HV.out.kept HB0.out).kept hb)
    clear hb
    have p0 : w1.cell? ⟨w.heap.size, 0, none⟩ = some (.int .u8 (p.1.1.toNat : Int)) := (by rw [blk_cell HG1.out]; rfl)
    have p1 : w1.cell? ⟨w.heap.size, 1, none⟩ = some (.int .u64 (p.1.2.1.toNat : Int)) := (by rw [blk_cell HG1.out]; rfl)
    have p2 : w1.cell? ⟨w.heap.size, 2, none⟩ = some (.int .u64 (p.1.2.2.toNat : Int)) := (by rw [blk_cell HG1.out]; rfl)
    have p3 : w1.cell? ⟨w.heap.size, 3, none⟩ = some (.int .i64 p.2) := (by rw [blk_cell HG1.out]; rfl)
    go_wp2_with fail
    refine (HRP.out _).mono ?_
    rintro e w2 ⟨rfl, hb⟩
    have HB2 := Lib.hid (below_step HB1.out hb HB1.out.size)
    have HG2 := Lib.hid (blk_kept hb HG1.out)
    have HV2 := Lib.hid (HV1.out.kept hb)
    clear hb p0 p1 p2 p3
    have p0 : w2.cell? ⟨w.heap.size, 0, none⟩ = some (.int .u8 (p.1.1.toNat : Int)) := (by rw [blk_cell HG2.out]; rfl)
    have p1 : w2.cell? ⟨w.heap.size, 1, none⟩ = some (.int .u64 (p.1.2.1.toNat : Int)) := (by rw [blk_cell HG2.out]; rfl)
    have p2 : w2.cell? ⟨w.heap.size, 2, none⟩ = some (.int .u64 (p.1.2.2.toNat : Int)) := (by rw [blk_cell HG2.out]; rfl)
    have p3 : w2.cell? ⟨w.heap.size, 3, none⟩ = some (.int .i64 p.2) := (by rw [blk_cell HG2.out]; rfl)
    go_wp2_with fail
    refine (HHS.out _ HV2.out (rightL_iff.1 HR.out.symm)).mono ?_
    rintro e w3 ⟨rfl, hb⟩
    have HB3 := Lib.hid (below_step HB2.out hb HB2.out.size)
    have HG3 := Lib.hid (blk_kept hb HG2.out)
    have HV3 := Lib.hid (HV2.out.kept hb)
    clear hb p0 p1 p2 p3
    rw [HX.out]
    go_wp2_with fail
    go_ret2
    exact ⟨_, by rw [HE.out]; rfl, by unfold outD; rw [HE.out]; exact World.ownsRow_nil _ _ _ _, HB3.out⟩
  · have HE := Lib.hid he
    have hx : hasV l p = (pos l p : Int) := by unfold hasV; rw [if_pos hm]
    have HX := Lib.hid hx
    have HM := Lib.hid hm
    clear he hx hm
    go_enter Try.func32, Try.ntmps32
    go_wp2_with fail
    generalize (w.alloc (.cells #[.int .u8 (p.1.1.toNat : Int), .int .u64 (p.1.2.1.toNat : Int), .int .u64 (p.1.2.2.toNat : Int), .int .i64 p.2] 36)) = w0 at *
    refine (HRL.out _ (HV.out.kept HB0.out)).mono ?_
    rintro e w1 ⟨rfl, hb⟩
    have HB1 := Lib.hid (below_step HB0.out hb HB0.out.size)
    have HG1 := Lib.hid (blk_kept hb H1.out)
    have HV1 := Lib.hid ((HV.out.kept HB0.out).kept hb)
    clear hb
    have p0 : w1.cell? ⟨w.heap.size, 0, none⟩ = some (.int .u8 (p.1.1.toNat : Int)) := (by rw [blk_cell HG1.out]; rfl)
    have p1 : w1.cell? ⟨w.heap.size, 1, none⟩ = some (.int .u64 (p.1.2.1.toNat : Int)) := (by rw [blk_cell HG1.out]; rfl)
    have p2 : w1.cell? ⟨w.heap.size, 2, none⟩ = some (.int .u64 (p.1.2.2.toNat : Int)) := (by rw [blk_cell HG1.out]; rfl)
    have p3 : w1.cell? ⟨w.heap.size, 3, none⟩ = some (.int .i64 p.2) := (by rw [blk_cell HG1.out]; rfl)
    go_wp2_with fail
    refine (HRP.out _).mono ?_
    rintro e w2 ⟨rfl, hb⟩
    have HB2 := Lib.hid (below_step HB1.out hb HB1.out.size)
    have HG2 := Lib.hid (blk_kept hb HG1.out)
    have HV2 := Lib.hid (HV1.out.kept hb)
    clear hb p0 p1 p2 p3
    have p0 : w2.cell? ⟨w.heap.size, 0, none⟩ = some (.int .u8 (p.1.1.toNat : Int)) := (by rw [blk_cell HG2.out]; rfl)
    have p1 : w2.cell? ⟨w.heap.size, 1, none⟩ = some (.int .u64 (p.1.2.1.toNat : Int)) := (by rw [blk_cell HG2.out]; rfl)
    have p2 : w2.cell? ⟨w.heap.size, 2, none⟩ = some (.int .u64 (p.1.2.2.toNat : Int)) := (by rw [blk_cell HG2.out]; rfl)
    have p3 : w2.cell? ⟨w.heap.size, 3, none⟩ = some (.int .i64 p.2) := (by rw [blk_cell HG2.out]; rfl)
    go_wp2_with fail
    refine (HHS.out _ HV2.out (rightL_iff.1 HR.out.symm)).mono ?_
    rintro e w3 ⟨rfl, hb⟩
    have HB3 := Lib.hid (below_step HB2.out hb HB2.out.size)
    have HG3 := Lib.hid (blk_kept hb HG2.out)
    have HV3 := Lib.hid (HV2.out.kept hb)
    clear hb p0 p1 p2 p3
    rw [HX.out]
    have HRS := Lib.hid (rightL_iff.1 HR.out.symm)
    obtain ⟨hkl, -⟩ := (HRS.out.there p).1 HM.out
    obtain ⟨k, hk⟩ : ∃ m, m = pos l p := ⟨_, rfl⟩
    rw [← hk] at hkl ⊢
    have HK := Lib.hid hk
    clear hk
    obtain ⟨g, gc, hgv, -, -, hgc, -, -⟩ := owns_shape HOW.out (by omega)
    cases hgv
    have HFIN := Lib.hid (show ∀ (v' : Value) (w' : World), w'.ownsRow w3.heap.size TR 4 v' (k + (l.length - (k + 1))) ((l.take k).flatMap encC ++ (l.drop (k + 1)).flatMap encC) → w'.ownsRow w.heap.size TR 4 v' (outD l p).length ((outD l p).flatMap encC) from fun v' w' ho => by
      have e1 : outD l p = dropL l p := by unfold outD; rw [if_pos HE.out]
      have e2 : k + (l.length - (k + 1)) = (dropL l p).length := by unfold dropL; rw [← HK.out]; simp; omega
      have e3 : (l.take k).flatMap encC ++ (l.drop (k + 1)).flatMap encC = (dropL l p).flatMap encC := by unfold dropL; rw [← HK.out]; simp [List.flatMap_append]
      rw [e2, e3] at ho
      rw [e1]
      exact owns_mono ho HB3.out.size)
    have hbd : Below w3.heap.size w3 ((w3.alloc (.cells #[] TR)).drew) := ((Below.refl _ _).alloc (Nat.le_refl _) _).drew
    have HS1 := seg_to (HV3.out.kept hbd) k cap (by omega)
    obtain ⟨v1, x1, hr1, ho1, hg1, -⟩ := run_append_seg (P := Try.prog) ((w3.alloc (.cells #[] TR)).drew) 30 30 TR _ 4 32 Try.underlying30 infoR rfl (by decide) (owns_empty (show (w3.alloc (.cells #[] TR)).drew.heap[w3.heap.size]? = _ from heap_alloc_new w3 (.cells #[] TR)) (base := w3.heap.size) (Nat.le_refl _) 4) HS1 encC_one (by omega) (by decide) (by simp)
    have hb1 := hbd.grown hg1 (by simp) (fun k hk => by cases hk; exact Nat.le_refl _)
    have hS2 := seg_from (HV3.out.kept hb1) hgc (k + 1) hkl
    obtain ⟨v2, x2, hr2, ho2, hg2, -⟩ := run_append_seg (P := Try.prog) x1 30 30 TR _ 4 32 Try.underlying30 infoR rfl (by decide) ho1 hS2 encC_one (by omega) (by decide) hb1.size
    have HB5 := Lib.hid (hb1.grown hg2 hb1.size (fun k hk => (ho1.lt k hk).1))
    have HO5 := Lib.hid (HFIN.out v2 x2 (by
      have e : 0 + k + (l.length - (k + 1)) = k + (l.length - (k + 1)) := by omega
      rw [e] at ho2; simpa using ho2))
    have HR1 := Lib.hid hr1
    clear hr1 ho1 hg1 hS2 ho2 hg2 HS1 hbd hb1
    have hadd : (⟨g, 0, none⟩ : Addr).add ((k + 1) * 4) = ⟨g, (k + 1) * 4, none⟩ := by unfold Addr.add; split <;> simp_all
    have k8 : IntKind.i64.wrap ((k : Int) + 1) = (k : Int) + 1 := by rw [IntKind.wrap_i64]; omega
    have k9 : (0 : Int) ≤ (k : Int) + 1 := by omega
    have k10 : ((k : Int) + 1).toNat = k + 1 := by omega
    have k11 : (k : Int) ≤ (l.length : Int) := by omega
    have k12 : (k : Int) + 1 ≤ (l.length : Int) := by omega
    have k13 : (k : Int) ≤ (cap : Int) := by omega
    have k14 : k ≤ cap := by omega
    have k15 : k + 1 ≤ l.length := hkl
    have k16 : ¬ cap = 0 := by omega
    have k17 : (0 : Int) ≤ (k : Int) := by omega
    by_cases k4 : cap = k + 1
    · rw [if_pos k4] at hr2
      subst k4
      have k18 : (k : Int) ≤ (k : Int) + 1 := by omega
      have HR2 := Lib.hid hr2
      clear hr2 hadd
      go_wp2_with fail
      go_region_law (first | (refine step_appendK rfl (.tmp 20) (.tmp 23) 30 30 rfl (.slice (some ⟨w3.heap.size, 0, none⟩) 0 0) (.slice (some ⟨g, 0, none⟩) k (k + 1)) (by simp [Act.eval, Act.put] <;> omega) (by simp [Act.eval, Act.put] <;> omega) HR1.out ?_) | (refine step_appendK rfl (.tmp 24) (.tmp 28) 30 30 rfl v1 (.slice (some ⟨g, 0, none⟩) (l.length - (k + 1)) (k + 1 - (k + 1))) (by simp [Act.eval, Act.put] <;> omega) (by simp [Act.eval, Act.put] <;> omega) HR2.out ?_))
      go_wp2_with fail
      go_ret2
      exact ⟨_, by rw [HE.out]; rfl, HO5.out, below_step HB3.out HB5.out HB3.out.size⟩
    · rw [if_neg k4] at hr2
      simp only [Option.map_some, hadd] at hr2
      have HR2 := Lib.hid hr2
      clear hr2 hadd
      go_wp2_with fail
      go_region_law (first | (refine step_appendK rfl (.tmp 20) (.tmp 23) 30 30 rfl (.slice (some ⟨w3.heap.size, 0, none⟩) 0 0) (.slice (some ⟨g, 0, none⟩) k cap) (by simp [Act.eval, Act.put] <;> omega) (by simp [Act.eval, Act.put] <;> omega) HR1.out ?_) | (refine step_appendK rfl (.tmp 24) (.tmp 28) 30 30 rfl v1 (.slice (some ⟨g, (k + 1) * 4, none⟩) (l.length - (k + 1)) (cap - (k + 1))) (by simp [Act.eval, Act.put] <;> omega) (by simp [Act.eval, Act.put] <;> omega) HR2.out ?_))
      go_wp2_with fail
      go_ret2
      exact ⟨_, by rw [HE.out]; rfl, HO5.out, below_step HB3.out HB5.out HB3.out.size⟩
end Go.Proofs.Try.Pfx
