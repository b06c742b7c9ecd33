/- The walk of VersionHolds. -/
import Derived.Test.YtkeaalacepjadaaVz6
import Derived.Test.YtkeaalacepjadaaVu3
import Derived.Test.YtkeaalacepjadaaVu4
set_option linter.unusedVariables false
set_option linter.unusedSimpArgs false
set_option maxRecDepth 100000
namespace Go.Proofs.Try.Vr
open Go.RowKit Go.Cph Go.Cph.Skip Go.Cph.So Go.Cph.Ve
open Go.Proofs.Try.Sq (row_kept1 grown_below grown_set encU encU_len TU TUs infoU)

def cntP (T : List Tb) (s : ByteArray) (i : Nat) : Nat := ((T.take i).filter fun t => meetsT t s s).length
theorem cntP_next {T : List Tb} {s : ByteArray} {i : Nat} (h : i < T.length) : cntP T s (i + 1) = cntP T s i + (if meetsT T[i] s s = true then 1 else 0) := filter_next (fun t => meetsT t s s) T i h
theorem cntP_at {A : Nat → List Tb} {s : ByteArray} {i : Nat} (h : i < (tabs A).length) (hp : meetsT (tabs A)[i] s s = true) : (findL A s)[cntP (tabs A) s i]? = some (tabs A)[i] :=
  filter_at (fun t => meetsT t s s) (tabs A) i h hp
theorem cntP_end (A : Nat → List Tb) (s : ByteArray) : cntP (tabs A) s (tabs A).length = (findL A s).length := by
  unfold cntP findL
  rw [List.take_length]
def cntK (F : List Tb) (i k : Nat) : Nat := ((F.take i).filter (onL k)).length
theorem cntK_next {F : List Tb} {i k : Nat} (h : i < F.length) : cntK F (i + 1) k = cntK F i k + (if onL k F[i] = true then 1 else 0) := filter_next (onL k) F i h
theorem cntK_le (F : List Tb) (i k : Nat) : cntK F i k ≤ F.length := Nat.le_trans (List.length_filter_le _ _) (by rw [List.length_take]; omega)
theorem find_lev {A : Nat → List Tb} {m : Nm} (h : RightV A m.1 m.2.1 m.2.2) (s : ByteArray) {i : Nat} (hi : i < (findL A s).length) : ∃ k : Nat, k < 4 ∧ tV (findL A s)[i] = (k : Int) := by
  have hm : (findL A s)[i] ∈ findL A s := List.getElem_mem _
  obtain ⟨k, hk, hx⟩ := mem_tabs.1 (List.mem_filter.1 hm).1
  exact ⟨k, hk, ((h.lev k hk).all _ hx).2.1⟩
theorem cntK_end {A : Nat → List Tb} {m : Nm} (h : RightV A m.1 m.2.1 m.2.2) (s : ByteArray) {k : Nat} (hk : k < 4) (h0 : k ≠ 0) : cntK (findL A s) (findL A s).length k ≤ 1 := by
  unfold cntK
  rw [List.take_length, find_level h s hk]
  exact over_one h s hk h0
theorem find_pair {A : Nat → List Tb} {m : Nm} (h : RightV A m.1 m.2.1 m.2.2) (s : ByteArray) {i : Nat} (hi : i < (findL A s).length) (h0 : 0 < i) : OrdT ((findL A s)[i - 1]'(by omega)) (findL A s)[i] :=
  List.pairwise_iff_getElem.1 (find_ord h s) (i - 1) i (by omega) hi (by omega)
theorem le_yes {a b : ByteArray} (h : klt b a = false) : ∃ c : Bool, Op.bytesLess a.toList b.toList = c ∧ (a.toList == b.toList) = !c := by
  rcases klt_three a b with ⟨h1, h2, h3⟩ | ⟨h1, h2, h3⟩ | ⟨h1, h2, h3⟩
  · exact ⟨true, h1, h3⟩
  · exact ⟨false, h1, h3⟩
  · rw [h] at h2; cases h2
theorem le_no {a b : ByteArray} (h : klt b a = true) : Op.bytesLess a.toList b.toList = false ∧ (a.toList == b.toList) = false := by
  rcases klt_three a b with ⟨h1, h2, h3⟩ | ⟨h1, h2, h3⟩ | ⟨h1, h2, h3⟩
  · rw [h] at h2; cases h2
  · rw [h] at h2; cases h2
  · exact ⟨h1, h3⟩
/-- The array of counts: four cells. -/
abbrev boxC (C : Nat → Nat) : Obj := .cells #[.int .i64 (C 0 : Nat), .int .i64 (C 1 : Nat), .int .i64 (C 2 : Nat), .int .i64 (C 3 : Nat)] (55) (0, 0)
def Cnts (W : World) (b : Nat) (C : Nat → Nat) : Prop := W.heap[b]? = some (boxC C)
theorem cnts_cell {W : World} {b : Nat} {C : Nat → Nat} (h : Cnts W b C) {k : Nat} (hk : k < 4) : W.cell? ⟨b, k, none⟩ = some (.int .i64 (C k : Nat)) := by
  rw [blk_cell h]
  rcases (show k = 0 ∨ k = 1 ∨ k = 2 ∨ k = 3 by omega) with rfl | rfl | rfl | rfl <;> rfl
theorem cnts_next {W : World} {b : Nat} {F : List Tb} {j k : Nat} (h : Cnts W b (cntK F j)) (hj : j < F.length) (hk : k < 4) (hl : tV F[j] = (k : Int)) {c : Nat} (hc : c = cntK F j k) : Cnts (W.setCell ⟨b, k, none⟩ (.int .i64 ((c : Int) + 1))) b (cntK F (j + 1)) := by
  have e : ∀ q : Nat, cntK F (j + 1) q = cntK F j q + (if k = q then 1 else 0) := fun q => by
    rw [cntK_next hj]
    unfold onL
    rw [hl]
    by_cases hq : k = q
    · rw [if_pos hq, if_pos (by rw [hq]; simp)]
    · rw [if_neg hq, if_neg (by rw [decide_eq_true_eq]; omega)]
  unfold Cnts
  rw [blk_set h, hc]
  unfold boxC
  rw [e 0, e 1, e 2, e 3]
  rcases (show k = 0 ∨ k = 1 ∨ k = 2 ∨ k = 3 by omega) with rfl | rfl | rfl | rfl <;> rfl

set_option maxHeartbeats 16000000 in
theorem holds_any (av : Value) (es : List Es) (ds : List Ed) (key : ByteArray) (w : World) (hE : EdsAt w av es ds) : Calls Try.prog 5 #[av, .string key] w (fun e w' => e = .returned (.bool true) ∧ Below w.heap.size w w') := by
  obtain ⟨ao, cap, hav⟩ := elems_slice hE.row
  rw [hE.len] at hav
  have HE := Lib.hid hE
  have HAV := Lib.hid hav
  rw [hav]
  clear hE hav
  go_enter Try.func5, Try.ntmps5
  have HB1 := Lib.hid (below_of_alloc (w := w) (.cells #[.string key] (9) (0, 0)))
  have HC := Lib.hid (great_any av (.slice (some ⟨w.heap.size, 0, none⟩) 1 1) es ds [key] (w.alloc (.cells #[.string key] (9) (0, 0))) (HE.out.kept HB1.out) ⟨_, _, rfl, fun _ => ⟨w.heap.size, 0, rfl, fun j hj => by
    have e : j = 0 := by simpa using hj
    subst e
    rw [blk_cell (heap_alloc_new _ _)]; rfl⟩⟩ (by simp))
  rw [HAV.out] at HC
  go_wp2_with fail
  refine HC.out.mono ?_
  rintro e w1 ⟨b, rfl, hb, rfl⟩
  have HG := Lib.hid hb
  clear HC hb
  cases b
  · obtain ⟨hl, hok, -⟩ := HG.out rfl
    have hs6 : sumA ds ≤ 600 := by
      have := sum_le (n := 30) (ds := ds) fun d hd => (hok d hd).1
      omega
    have HS6 := Lib.hid hs6
    have HC := Lib.hid (made_any av es ds _ (HE.out.kept HB1.out) (by omega) (fun d hd => ⟨(hok d hd).1, by have := (hok d hd).2.1; omega⟩) (by omega))
    rw [HAV.out] at HC
    clear hl hok hs6 HG
    go_wp2_with fail
    refine HC.out.mono ?_
    rintro e w2 ⟨u, A, rfl, ho2, hrel, hnm, hb2⟩
    have HO2 := Lib.hid ho2
    have HB2 := Lib.hid (below_step HB1.out hb2 HB1.out.size)
    have hrel2 : Rel A (madeD ([], 0, 0, 1) ds).1 (u.log, u.seq, u.nxt) := by rw [hnm]; exact hrel
    have hml : (madeD ([], 0, 0, 1) ds).1.length ≤ 600 := by have := made_len ds ([], 0, 0, 1); have := HS6.out; simp only [List.length_nil] at *; omega
    have HLN := Lib.hid (rel_lens hrel2 (N := 100000) (by omega) (by omega))
    have HRV := Lib.hid hrel2.rv
    clear ho2 hrel hnm hb2 hrel2 hml HC
    obtain ⟨x0, x1, x2, x3, ul, us, un⟩ := u
    obtain ⟨ua0, uc0, e0⟩ := owns_slice1 (HO2.out.own 0 (by omega))
    obtain ⟨ua1, uc1, e1⟩ := owns_slice1 (HO2.out.own 1 (by omega))
    obtain ⟨ua2, uc2, e2⟩ := owns_slice1 (HO2.out.own 2 (by omega))
    obtain ⟨ua3, uc3, e3⟩ := owns_slice1 (HO2.out.own 3 (by omega))
    dsimp only [Vn.lev] at e0 e1 e2 e3
    subst e0 e1 e2 e3
    have HB3 := Lib.hid (HB2.out.alloc HB2.out.size (boxV (⟨.slice ua0 (A 0).length uc0, .slice ua1 (A 1).length uc1, .slice ua2 (A 2).length uc2, .slice ua3 (A 3).length uc3, ul, us, un⟩ : Vn)))
    have HX3 := Lib.hid (heap_alloc_new w2 (boxV (⟨.slice ua0 (A 0).length uc0, .slice ua1 (A 1).length uc1, .slice ua2 (A 2).length uc2, .slice ua3 (A 3).length uc3, ul, us, un⟩ : Vn)))
    have HV3 := Lib.hid (VerOwn.at' (HO2.out.kept (below_of_alloc (boxV (⟨.slice ua0 (A 0).length uc0, .slice ua1 (A 1).length uc1, .slice ua2 (A 2).length uc2, .slice ua3 (A 3).length uc3, ul, us, un⟩ : Vn)))))
    have HL1 := Lib.hid (owns_cap1 (HO2.out.own 1 (by omega)))
    have HQ2 := Lib.hid (show w2.heap.size < (w2.alloc (boxV (⟨.slice ua0 (A 0).length uc0, .slice ua1 (A 1).length uc1, .slice ua2 (A 2).length uc2, .slice ua3 (A 3).length uc3, ul, us, un⟩ : Vn))).heap.size from blk_lt HX3.out)
    have hx3 := HX3.out
    have c0 : (w2.alloc (boxV (⟨.slice ua0 (A 0).length uc0, .slice ua1 (A 1).length uc1, .slice ua2 (A 2).length uc2, .slice ua3 (A 3).length uc3, ul, us, un⟩ : Vn))).cell? ⟨w2.heap.size, 0, none⟩ = some (.slice ua0 (A 0).length uc0) := (blk_cell hx3 0).trans rfl
    have c1 : (w2.alloc (boxV (⟨.slice ua0 (A 0).length uc0, .slice ua1 (A 1).length uc1, .slice ua2 (A 2).length uc2, .slice ua3 (A 3).length uc3, ul, us, un⟩ : Vn))).cell? ⟨w2.heap.size, 1, none⟩ = some (.slice ua1 (A 1).length uc1) := (blk_cell hx3 1).trans rfl
    have c2 : (w2.alloc (boxV (⟨.slice ua0 (A 0).length uc0, .slice ua1 (A 1).length uc1, .slice ua2 (A 2).length uc2, .slice ua3 (A 3).length uc3, ul, us, un⟩ : Vn))).cell? ⟨w2.heap.size, 2, none⟩ = some (.slice ua2 (A 2).length uc2) := (blk_cell hx3 2).trans rfl
    have c3 : (w2.alloc (boxV (⟨.slice ua0 (A 0).length uc0, .slice ua1 (A 1).length uc1, .slice ua2 (A 2).length uc2, .slice ua3 (A 3).length uc3, ul, us, un⟩ : Vn))).cell? ⟨w2.heap.size, 3, none⟩ = some (.slice ua3 (A 3).length uc3) := (blk_cell hx3 3).trans rfl
    have c4 : (w2.alloc (boxV (⟨.slice ua0 (A 0).length uc0, .slice ua1 (A 1).length uc1, .slice ua2 (A 2).length uc2, .slice ua3 (A 3).length uc3, ul, us, un⟩ : Vn))).cell? ⟨w2.heap.size, 4, none⟩ = some (.int .u64 (ul.toNat : Int)) := (blk_cell hx3 4).trans rfl
    have c5 : (w2.alloc (boxV (⟨.slice ua0 (A 0).length uc0, .slice ua1 (A 1).length uc1, .slice ua2 (A 2).length uc2, .slice ua3 (A 3).length uc3, ul, us, un⟩ : Vn))).cell? ⟨w2.heap.size, 5, none⟩ = some (.int .u64 (us.toNat : Int)) := (blk_cell hx3 5).trans rfl
    have c6 : (w2.alloc (boxV (⟨.slice ua0 (A 0).length uc0, .slice ua1 (A 1).length uc1, .slice ua2 (A 2).length uc2, .slice ua3 (A 3).length uc3, ul, us, un⟩ : Vn))).cell? ⟨w2.heap.size, 6, none⟩ = some (.int .u64 (un.toNat : Int)) := (blk_cell hx3 6).trans rfl
    have HCL := Lib.hid (show ∀ W, Below (w2.alloc (boxV (⟨.slice ua0 (A 0).length uc0, .slice ua1 (A 1).length uc1, .slice ua2 (A 2).length uc2, .slice ua3 (A 3).length uc3, ul, us, un⟩ : Vn))).heap.size (w2.alloc (boxV (⟨.slice ua0 (A 0).length uc0, .slice ua1 (A 1).length uc1, .slice ua2 (A 2).length uc2, .slice ua3 (A 3).length uc3, ul, us, un⟩ : Vn))) W → W.cell? ⟨w2.heap.size, 0, none⟩ = some (.slice ua0 (A 0).length uc0) ∧ W.cell? ⟨w2.heap.size, 1, none⟩ = some (.slice ua1 (A 1).length uc1) ∧ W.cell? ⟨w2.heap.size, 2, none⟩ = some (.slice ua2 (A 2).length uc2) ∧ W.cell? ⟨w2.heap.size, 3, none⟩ = some (.slice ua3 (A 3).length uc3) ∧ W.cell? ⟨w2.heap.size, 4, none⟩ = some (.int .u64 (ul.toNat : Int)) ∧ W.cell? ⟨w2.heap.size, 5, none⟩ = some (.int .u64 (us.toNat : Int)) ∧ W.cell? ⟨w2.heap.size, 6, none⟩ = some (.int .u64 (un.toNat : Int)) from fun W hb => ⟨cell_kept hb c0, cell_kept hb c1, cell_kept hb c2, cell_kept hb c3, cell_kept hb c4, cell_kept hb c5, cell_kept hb c6⟩)
    have HC := Lib.hid (find_any (⟨.slice ua0 (A 0).length uc0, .slice ua1 (A 1).length uc1, .slice ua2 (A 2).length uc2, .slice ua3 (A 3).length uc3, ul, us, un⟩ : Vn) A key _ HV3.out HLN.out.1)
    clear hx3
    go_wp2_with fail
    refine HC.out.mono ?_
    rintro e w4 ⟨vf, rfl, hof, hb4⟩
    obtain ⟨fo, fc, hvf⟩ := owns_slice1 hof
    subst hvf
    have HOF := Lib.hid hof
    have HB4 := Lib.hid hb4
    have HC2 := Lib.hid (tablesN_any (⟨.slice ua0 (A 0).length uc0, .slice ua1 (A 1).length uc1, .slice ua2 (A 2).length uc2, .slice ua3 (A 3).length uc3, ul, us, un⟩ : Vn) A w4 (HV3.out.kept hb4) HLN.out.2)
    clear HC hof hb4 c0 c1 c2 c3 c4 c5 c6
    obtain ⟨c0, c1, c2, c3, c4, c5, c6⟩ := HCL.out w4 HB4.out
    go_wp2_with fail
    refine HC2.out.mono ?_
    rintro e w5 ⟨va, rfl, hoa, hb5⟩
    obtain ⟨tao, tc, hva⟩ := owns_slice1 hoa
    subst hva
    obtain ⟨fl, hfl⟩ : ∃ n, n = (findL A key).length := ⟨_, rfl⟩
    obtain ⟨tl, htl⟩ : ∃ n, n = (tabs A).length := ⟨_, rfl⟩
    have HF5 := Lib.hid (Seg.of_owns (row_kept1 HOF.out fun p hp => hb5.block p (HOF.out.lt p hp).2))
    have HT5 := Lib.hid (Seg.of_owns hoa)
    have HB5 := Lib.hid (below_step HB4.out hb5 HB4.out.size)
    rw [← hfl] at HF5 ⊢
    rw [← htl] at HT5 ⊢
    have HFL := Lib.hid hfl
    have HTL := Lib.hid htl
    have HFX := Lib.hid (show fl ≤ 1000000 from by have := HLN.out.2; have h2 : (findL A key).length ≤ (tabs A).length := List.length_filter_le _ _; omega)
    have HTX := Lib.hid (show tl ≤ 1000000 from by have := HLN.out.2; omega)
    clear HC2 hoa hb5 hfl htl HOF c0 c1 c2 c3 c4 c5 c6
    go_wp2_with fail
    go_loopw [8, 9] (fun vn vi W => ∃ i m : Nat, i ≤ tl ∧ vi = .int .i64 (i : Int) ∧ vn = .int .i64 (m : Int) ∧ Hid (m = cntP (tabs A) key i) ∧ Hid (Below w5.heap.size w5 W)) (fun _ vi _ => tl - (intOf vi).toNat)
    case atStart => exact ⟨0, 0, Nat.zero_le _, rfl, rfl, Lib.hid rfl, Lib.hid (Below.refl _ _)⟩
    case round =>
      obtain ⟨i, m, hi, rfl, rfl, HM, HB⟩ := hrel
      by_cases hlt : i < tl
      · have HLT := Lib.hid (show i < (tabs A).length from by have := HTL.out; omega)
        have hT := HT5.out
        rw [HTL.out] at hT
        obtain ⟨tb, tof, tc', hve, hcs⟩ := tbs_cells (l := tabs A) (Seg.kept hT HB.out) (by have := HLT.out; omega)
        injection hve with h1 _ h3
        subst h1
        obtain ⟨x, hx⟩ : ∃ x, x = (tabs A)[i]'HLT.out := ⟨_, rfl⟩
        have HX := Lib.hid hx
        have hcx := hcs i HLT.out
        rw [← hx] at hcx
        have d0 := hcx.c0
        have d1 := hcx.c1
        have d2 := hcx.c2
        have d3 := hcx.c3
        have d4 := hcx.c4
        have d5 := hcx.c5
        have d6 := hcx.c6
        have d7 := hcx.c7
        have k1 : (0 : Int) ≤ (i : Int) := by omega
        have k2 : (i : Int) < (tl : Int) := by omega
        have k3 : IntKind.i64.wrap ((i : Int) + 1) = (i : Int) + 1 := by have := HTX.out; rw [IntKind.wrap_i64]; omega
        have HNX := Lib.hid (cntP_next (s := key) HLT.out)
        have HLT2 := Lib.hid hlt
        clear hT hcs h3 hx hcx
        by_cases h1 : klt key (tF x) = true
        · obtain ⟨g1, g2⟩ := le_no h1
          have HP := Lib.hid (show meetsT x key key = false from by rw [meets_self, h1]; rfl)
          clear h1
          go_wp2_with fail
          go_roundw
          case rel => exact ⟨i + 1, m, hlt, by first | rfl | (congr 1), rfl, Lib.hid (by rw [HNX.out, ← HX.out, HP.out]; simpa using HM.out), HB⟩
          case measure => simp [intOf]; omega
        · have h1' : klt key (tF x) = false := by simpa using h1
          obtain ⟨c1, g1, g2⟩ := le_yes h1'
          by_cases h2 : klt (tL x) key = true
          · obtain ⟨g3, g4⟩ := le_no h2
            have HP := Lib.hid (show meetsT x key key = false from by rw [meets_self, h1', h2]; rfl)
            clear h1 h1' h2
            go_wp2_with fail
            go_roundw
            case rel => exact ⟨i + 1, m, hlt, by first | rfl | (congr 1), rfl, Lib.hid (by rw [HNX.out, ← HX.out, HP.out]; simpa using HM.out), HB⟩
            case measure => simp [intOf]; omega
          · have h2' : klt (tL x) key = false := by simpa using h2
            obtain ⟨c2, g3, g4⟩ := le_yes h2'
            have HP := Lib.hid (show meetsT x key key = true from by rw [meets_self, h1', h2']; rfl)
            have hat := cntP_at HLT.out (s := key) (by rw [← HX.out]; exact HP.out)
            rw [← HM.out, ← HX.out] at hat
            obtain ⟨hm1, hy⟩ := List.getElem?_eq_some_iff.1 hat
            have hF := HF5.out
            rw [HFL.out] at hF
            obtain ⟨fb, fof, fc', hve, hcs2⟩ := tbs_cells (l := findL A key) (Seg.kept hF HB.out) (by omega)
            injection hve with h4 _ h5
            subst h4
            have hcy := hcs2 m hm1
            rw [hy] at hcy
            have f0 := hcy.c0
            have f1 := hcy.c1
            have f2 := hcy.c2
            have f3 := hcy.c3
            have f4 := hcy.c4
            have f5 := hcy.c5
            have f6 := hcy.c6
            have f7 := hcy.c7
            have hmf : m < fl := by have := HFL.out; omega
            have k4 : (0 : Int) ≤ (m : Int) := by omega
            have k5 : (m : Int) < (fl : Int) := by omega
            have k6 : ¬ (fl : Int) ≤ (m : Int) := by omega
            have k7 : decide ((fl : Int) ≤ (m : Int)) = false := by rw [decide_eq_false_iff_not]; omega
            have k8 : decide (fl ≤ m) = false := by rw [decide_eq_false_iff_not]; omega
            have k9 : IntKind.i64.wrap ((m : Int) + 1) = (m : Int) + 1 := by have := HFX.out; rw [IntKind.wrap_i64]; omega
            have hne := fun W => run_neqT x x W
            rw [show (!decide (x = x)) = false from by simp] at hne
            clear h1 h1' h2 h2' hat hF hcs2 h5 hcy hy
            go_wp2_with fail
            go_quiet (fail)
            clear hne d0 d1 d2 d3 d4 d5 d6 d7 f0 f1 f2 f3 f4 f5 f6 f7
            have HB2 := Lib.hid (below_step HB.out (show Below wr.heap.size wr (wr.drewN nq) from ⟨rfl, rfl, rfl, Nat.le_refl _, fun _ _ => rfl⟩) HB.out.size)
            generalize wr.drewN nq = wq at *
            go_wp2_with fail
            go_roundw
            case rel => exact ⟨i + 1, m + 1, HLT2.out, by first | rfl | (congr 1), by first | rfl | (congr 1), Lib.hid (by rw [HNX.out, ← HX.out, HP.out, ← HM.out]; rfl), HB2⟩
            case measure => simp [intOf]; omega
      · have hil : tl = i := by omega
        subst hil
        have hmf : fl = m := by rw [HM.out, HTL.out, HFL.out]; exact (cntP_end A key).symm
        subst hmf
        have i1 : ¬ (tl : Int) < (tl : Int) := by omega
        clear HM
        rename World => wp
        go_wp2_with fail
        go_loopw [11] (fun vj W => ∃ j : Nat, j ≤ fl ∧ vj = .int .i64 (j : Int) ∧ Hid (Below wp.heap.size wp W) ∧ Hid (Cnts W wp.heap.size (cntK (findL A key) j))) (fun vj _ => fl - (intOf vj).toNat)
        case atStart => exact ⟨0, Nat.zero_le _, rfl, Lib.hid (below_of_alloc _), Lib.hid (heap_alloc_new _ _)⟩
        case round =>
          obtain ⟨j, hj, rfl, HBJ, HCN⟩ := hrel
          have HBW := Lib.hid (below_step HB.out HBJ.out HB.out.size)
          by_cases hlj : j < fl
          · have HLJ := Lib.hid (show j < (findL A key).length from by have := HFL.out; omega)
            have HL2 := Lib.hid hlj
            have hF := HF5.out
            rw [HFL.out] at hF
            obtain ⟨fb, fof, fc', hve, hcs2⟩ := tbs_cells (l := findL A key) hF (by have := HLJ.out; omega)
            injection hve with h4 _ h5
            subst h4
            obtain ⟨y, hy⟩ : ∃ y, y = (findL A key)[j]'HLJ.out := ⟨_, rfl⟩
            have HY := Lib.hid hy
            obtain ⟨k, hk, hlev⟩ := find_lev (m := (ul, us, un)) HRV.out key HLJ.out
            have HLV := Lib.hid hlev
            have hcy5 := hcs2 j HLJ.out
            rw [← hy] at hcy5 hlev
            have HCY := Lib.hid hcy5
            have hcy := hcy5.kept HBW.out
            have f1 : wr.cell? ⟨fb, fof + j * 8 + 1, none⟩ = some (.int .i64 (k : Int)) := by rw [← hlev]; exact hcy.c1
            obtain ⟨c, hc⟩ : ∃ c, c = cntK (findL A key) j k := ⟨_, rfl⟩
            have HCC := Lib.hid hc
            have hcl : c ≤ 1000000 := by have := cntK_le (findL A key) j k; have := HFX.out; have := HFL.out; omega
            have e1 : wr.cell? ⟨wp.heap.size, k, none⟩ = some (.int .i64 (c : Int)) := by rw [hc]; exact cnts_cell HCN.out hk
            have fz : ∀ o, wr.frozen? ⟨wp.heap.size, o, none⟩ = false := fun o => by rw [blk_frozen HCN.out]; simp
            have k1 : (0 : Int) ≤ (j : Int) := by omega
            have k2 : (j : Int) < (fl : Int) := by omega
            have k3 : IntKind.i64.wrap ((j : Int) + 1) = (j : Int) + 1 := by have := HFX.out; rw [IntKind.wrap_i64]; omega
            have k4 : IntKind.i64.wrap ((c : Int) + 1) = (c : Int) + 1 := by rw [IntKind.wrap_i64]; omega
            have k5 : (0 : Int) ≤ (k : Int) := by omega
            have k6 : (k : Int) < 4 := by omega
            have HHK := Lib.hid hk
            have HC3 := Lib.hid (cnts_next HCN.out HLJ.out hk HLV.out hc)
            have HB3' := Lib.hid (HBJ.out.setCell (p := ⟨wp.heap.size, k, none⟩) (Nat.le_refl _) (.int .i64 ((c : Int) + 1)))
            have HCS := Lib.hid hcs2
            clear hF h5 hc hcl hcy hcy5 hy hk hlj hcs2
            go_upto_region 19 with fail
            refine (show ∀ W, W = wr.setCell ⟨wp.heap.size, k, none⟩ (.int .i64 ((c : Int) + 1)) → Code.wp _ _ _ _ W from ?_) _ rfl
            intro wn hwn
            rw [← hwn] at HC3 HB3'
            have HBN := Lib.hid (below_step HB.out HB3'.out HB.out.size)
            clear hwn e1 f1 fz k4
            have hcy := HCY.out.kept HBN.out
            have f1 : wn.cell? ⟨fb, fof + j * 8 + 1, none⟩ = some (.int .i64 (k : Int)) := by have e := HLV.out; rw [← HY.out] at e; rw [← e]; exact hcy.c1
            have f0 := hcy.c0
            by_cases hj0 : 0 < j
            · obtain ⟨p, hp⟩ : ∃ p, p = j - 1 := ⟨_, rfl⟩
              have hpl : p < (findL A key).length := by have := HLJ.out; omega
              have HPL := Lib.hid hpl
              obtain ⟨z, hz⟩ : ∃ z, z = (findL A key)[p]'HPL.out := ⟨_, rfl⟩
              have ho : OrdT z y := by
                have := find_pair (m := (ul, us, un)) HRV.out key HLJ.out hj0
                rw [hz, HY.out]
                simp only [hp]
                exact this
              obtain ⟨q, hq, hqlev⟩ := find_lev (m := (ul, us, un)) HRV.out key HPL.out
              have hcz := HCS.out p HPL.out
              rw [← hz] at hcz hqlev
              have hcz := hcz.kept HBN.out
              have z1 : wn.cell? ⟨fb, fof + p * 8 + 1, none⟩ = some (.int .i64 (q : Int)) := by rw [← hqlev]; exact hcz.c1
              have z0 := hcz.c0
              have hyl : tV y = (k : Int) := by rw [HY.out]; exact HLV.out
              have ho1 := ho.1
              rw [hqlev, hyl] at ho1
              have ho2 := ho.2
              rw [hyl] at ho2
              have n1 : (0 : Int) < (j : Int) := by omega
              have n2 : decide ((0 : Int) < (j : Int)) = true := by rw [decide_eq_true_eq]; omega
              have n3 : decide (0 < j) = true := by rw [decide_eq_true_eq]; omega
              have n4 : IntKind.i64.wrap ((j : Int) - 1) = (p : Int) := by have := HFX.out; have := HL2.out; rw [IntKind.wrap_i64]; omega
              have n5 : (0 : Int) ≤ (p : Int) := by omega
              have n6 : (p : Int) < (fl : Int) := by have := HL2.out; omega
              have n7 : ¬ (k : Int) < (q : Int) := by omega
              have n8 : decide ((k : Int) < (q : Int)) = false := by rw [decide_eq_false_iff_not]; omega
              have n9 : decide (k < q) = false := by rw [decide_eq_false_iff_not]; omega
              by_cases hk0 : k = 0
              · have m1 : ((k : Int) == 0) = true := by rw [hk0]; rfl
                have ho3 := ho2 (by omega)
                have m2 : ¬ (z.1.toNat : Int) ≤ (y.1.toNat : Int) := by have : (tN y).toNat < (tN z).toNat := ho3; simp only [tN] at this; omega
                have m3 : decide ((z.1.toNat : Int) ≤ (y.1.toNat : Int)) = false := by rw [decide_eq_false_iff_not]; exact m2
                have m4 : decide (z.1.toNat ≤ y.1.toNat) = false := by rw [decide_eq_false_iff_not]; omega
                clear hp hpl hz ho hq hqlev hcz hyl ho1 ho2 ho3 hk0 hcy hj0
                go_wp2_with fail
                go_quiet (fail)
                clear m1 m2 m3 m4 n1 n2 n3 n4 n5 n6 n7 n8 n9 z0 z1 f0 f1
                have HB4' := Lib.hid (below_step HB3'.out (show Below wn.heap.size wn (wn.drewN nq) from ⟨rfl, rfl, rfl, Nat.le_refl _, fun _ _ => rfl⟩) HB3'.out.size)
                have HC4 := Lib.hid (show Cnts (wn.drewN nq) wp.heap.size (cntK (findL A key) (j + 1)) from HC3.out)
                generalize wn.drewN nq = wq at *
                go_wp2_with fail
                go_roundw
                case rel => exact ⟨j + 1, HL2.out, by first | rfl | (congr 1), HB4', HC4⟩
                case measure => simp [intOf]; have := HL2.out; omega
              · have m1 : ((k : Int) == 0) = false := by rw [beq_eq_false_iff_ne]; omega
                clear hp hpl hz ho hq hqlev hcz hyl ho1 ho2 hk0 hcy hj0
                go_wp2_with fail
                go_quiet (fail)
                clear m1 n1 n2 n3 n4 n5 n6 n7 n8 n9 z0 z1 f0 f1
                have HB4' := Lib.hid (below_step HB3'.out (show Below wn.heap.size wn (wn.drewN nq) from ⟨rfl, rfl, rfl, Nat.le_refl _, fun _ _ => rfl⟩) HB3'.out.size)
                have HC4 := Lib.hid (show Cnts (wn.drewN nq) wp.heap.size (cntK (findL A key) (j + 1)) from HC3.out)
                generalize wn.drewN nq = wq at *
                go_wp2_with fail
                go_roundw
                case rel => exact ⟨j + 1, HL2.out, by first | rfl | (congr 1), HB4', HC4⟩
                case measure => simp [intOf]; have := HL2.out; omega
            · have n1 : ¬ (0 : Int) < (j : Int) := by omega
              have n2 : decide ((0 : Int) < (j : Int)) = false := by rw [decide_eq_false_iff_not]; omega
              have n3 : decide (0 < j) = false := by rw [decide_eq_false_iff_not]; omega
              clear hcy hj0
              go_wp2_with fail
              go_quiet (fail)
              clear n1 n2 n3 f0 f1
              have HB4' := Lib.hid (below_step HB3'.out (show Below wn.heap.size wn (wn.drewN nq) from ⟨rfl, rfl, rfl, Nat.le_refl _, fun _ _ => rfl⟩) HB3'.out.size)
              have HC4 := Lib.hid (show Cnts (wn.drewN nq) wp.heap.size (cntK (findL A key) (j + 1)) from HC3.out)
              generalize wn.drewN nq = wq at *
              go_wp2_with fail
              go_roundw
              case rel => exact ⟨j + 1, HL2.out, by first | rfl | (congr 1), HB4', HC4⟩
              case measure => simp [intOf]; have := HL2.out; omega
          · have hjl : fl = j := by omega
            subst hjl
            have i2 : ¬ (fl : Int) < (fl : Int) := by omega
            have hcn := HCN.out
            unfold Cnts at hcn
            obtain ⟨n1, hn1⟩ : ∃ n, n = cntK (findL A key) fl 1 := ⟨_, rfl⟩
            have hb1 : n1 ≤ 1 := by rw [hn1, HFL.out]; exact cntK_end (m := (ul, us, un)) HRV.out key (by omega) (by omega)
            have e1 : wr.cell? ⟨wp.heap.size, 1, none⟩ = some (.int .i64 (n1 : Int)) := by rw [hn1]; exact cnts_cell HCN.out (by omega)
            have l1 : (n1 : Int) ≤ 1 := by omega
            have l1b : decide ((n1 : Int) ≤ 1) = true := by rw [decide_eq_true_eq]; omega
            have l1c : decide (n1 ≤ 1) = true := by rw [decide_eq_true_eq]; omega
            clear hn1 hb1
            obtain ⟨n2, hn2⟩ : ∃ n, n = cntK (findL A key) fl 2 := ⟨_, rfl⟩
            have hb2 : n2 ≤ 1 := by rw [hn2, HFL.out]; exact cntK_end (m := (ul, us, un)) HRV.out key (by omega) (by omega)
            have e2 : wr.cell? ⟨wp.heap.size, 2, none⟩ = some (.int .i64 (n2 : Int)) := by rw [hn2]; exact cnts_cell HCN.out (by omega)
            have l2 : (n2 : Int) ≤ 1 := by omega
            have l2b : decide ((n2 : Int) ≤ 1) = true := by rw [decide_eq_true_eq]; omega
            have l2c : decide (n2 ≤ 1) = true := by rw [decide_eq_true_eq]; omega
            clear hn2 hb2
            obtain ⟨n3, hn3⟩ : ∃ n, n = cntK (findL A key) fl 3 := ⟨_, rfl⟩
            have hb3 : n3 ≤ 1 := by rw [hn3, HFL.out]; exact cntK_end (m := (ul, us, un)) HRV.out key (by omega) (by omega)
            have e3 : wr.cell? ⟨wp.heap.size, 3, none⟩ = some (.int .i64 (n3 : Int)) := by rw [hn3]; exact cnts_cell HCN.out (by omega)
            have l3 : (n3 : Int) ≤ 1 := by omega
            have l3b : decide ((n3 : Int) ≤ 1) = true := by rw [decide_eq_true_eq]; omega
            have l3c : decide (n3 ≤ 1) = true := by rw [decide_eq_true_eq]; omega
            clear hn3 hb3
            have hls : (A 1).length ≤ 1000000 := HLN.out.1 1 (by omega)
            obtain ⟨n, hn⟩ : ∃ n, n = countL (A 1) key := ⟨_, rfl⟩
            obtain ⟨ol, hol⟩ : ∃ n, n = (overL (A 1) ⟨#[]⟩ key).length := ⟨_, rfl⟩
            have HOL := Lib.hid hol
            have hnl : n ≤ (A 1).length := by rw [hn]; exact count_le _ _
            have q1 : (0 : Int) ≤ (n : Int) := by omega
            have q2 : (n : Int) ≤ (uc1 : Int) := by have := HL1.out; omega
            have HVJ := Lib.hid (HV3.out.kept (below_step HB5.out HBW.out HB5.out.size))
            have HOV := Lib.hid (show ∀ W, Below wr.heap.size wr W → Calls Try.prog 23 #[encV (⟨.slice ua0 (A 0).length uc0, .slice ua1 (A 1).length uc1, .slice ua2 (A 2).length uc2, .slice ua3 (A 3).length uc3, ul, us, un⟩ : Vn), .int .i64 1, .string ⟨#[]⟩, .string key] W (NewRow W (overL (A 1) ⟨#[]⟩ key)) from fun W hb => over_any 1 _ A ⟨#[]⟩ key W (HVJ.out.kept hb) (by omega) hls)
            have HCT := Lib.hid (show ∀ W, Below wr.heap.size wr W → Calls Try.prog 24 #[.slice ua1 (A 1).length uc1, .string key] W (fun e w' => e = .returned (.int .i64 (n : Int)) ∧ W = w') from fun W hb => by rw [hn]; exact count_any _ (A 1) key W ((HVJ.out.kept hb).at (k := 1) (by omega)) hls)
            have HTB := Lib.hid (show ∀ (W : World) (oa : Option Addr) (oc : Nat), Below wr.heap.size wr W → TbsAt W (.slice oa (overL (A 1) ⟨#[]⟩ key).length oc) (overL (A 1) ⟨#[]⟩ key) → Calls Try.prog 22 #[.slice oa ol oc, .slice ua1 n uc1] W (fun e w' => e = .returned (.bool true) ∧ Below W.heap.size W w') from fun W oa oc hb ho => by
              have hd : decide (overL (A 1) ⟨#[]⟩ key = (A 1).take n) = true := by rw [decide_eq_true_eq, hn]; exact over_prefix HRV.out key
              have h1 := tables14_any _ _ _ _ W ho (elems_first ((HVJ.out.kept hb).at (k := 1) (by omega)) n hnl) (by rw [← hol]; have := over_le (A 1) ⟨#[]⟩ key; omega) (by rw [List.length_take]; omega)
              rw [hd, ← hol] at h1
              exact h1)
            have hvx := HX3.out
            have HCL2 := Lib.hid (show ∀ W, Below wr.heap.size wr W → W.cell? ⟨w2.heap.size, 0, none⟩ = some (.slice ua0 (A 0).length uc0) ∧ W.cell? ⟨w2.heap.size, 1, none⟩ = some (.slice ua1 (A 1).length uc1) ∧ W.cell? ⟨w2.heap.size, 2, none⟩ = some (.slice ua2 (A 2).length uc2) ∧ W.cell? ⟨w2.heap.size, 3, none⟩ = some (.slice ua3 (A 3).length uc3) ∧ W.cell? ⟨w2.heap.size, 4, none⟩ = some (.int .u64 (ul.toNat : Int)) ∧ W.cell? ⟨w2.heap.size, 5, none⟩ = some (.int .u64 (us.toNat : Int)) ∧ W.cell? ⟨w2.heap.size, 6, none⟩ = some (.int .u64 (un.toNat : Int)) ∧ W.cell? ⟨wp.heap.size, 1, none⟩ = some (.int .i64 (n1 : Int)) ∧ W.cell? ⟨wp.heap.size, 2, none⟩ = some (.int .i64 (n2 : Int)) ∧ W.cell? ⟨wp.heap.size, 3, none⟩ = some (.int .i64 (n3 : Int)) from fun W hb => by
              obtain ⟨s0, s1, s2, s3, s4, s5, s6⟩ := HCL.out W (below_step (below_step HB5.out HBW.out HB5.out.size) hb (below_step HB5.out HBW.out HB5.out.size).size)
              exact ⟨s0, s1, s2, s3, s4, s5, s6, cell_kept hb e1, cell_kept hb e2, cell_kept hb e3⟩)
            obtain ⟨s0, s1, s2, s3, s4, s5, s6, -, -, -⟩ := HCL2.out wr (Below.refl _ _)
            clear hcn hn hol hnl hls hvx
            go_upto_region 21 with fail
            go_region_held3 (fun W => W.cell? ⟨w2.heap.size, 0, none⟩ = some (.slice ua0 (A 0).length uc0) ∧ W.cell? ⟨w2.heap.size, 1, none⟩ = some (.slice ua1 (A 1).length uc1) ∧ W.cell? ⟨w2.heap.size, 2, none⟩ = some (.slice ua2 (A 2).length uc2) ∧ W.cell? ⟨w2.heap.size, 3, none⟩ = some (.slice ua3 (A 3).length uc3) ∧ W.cell? ⟨w2.heap.size, 4, none⟩ = some (.int .u64 (ul.toNat : Int)) ∧ W.cell? ⟨w2.heap.size, 5, none⟩ = some (.int .u64 (us.toNat : Int)) ∧ W.cell? ⟨w2.heap.size, 6, none⟩ = some (.int .u64 (un.toNat : Int)) ∧ W.cell? ⟨wp.heap.size, 1, none⟩ = some (.int .i64 (n1 : Int)) ∧ W.cell? ⟨wp.heap.size, 2, none⟩ = some (.int .i64 (n2 : Int)) ∧ W.cell? ⟨wp.heap.size, 3, none⟩ = some (.int .i64 (n3 : Int)))
              (go_keep)
              (first
                | (go_at_call 23; refine (HOV.out _ (by first | exact (Below.refl _ _).drew | exact Below.refl _ _)).mono ?_; rintro eO wO ⟨vO, rfl, hoO, hbO⟩; obtain ⟨oa, oc, hvO⟩ := owns_slice1 hoO; subst hvO; have HBO := Lib.hid (show Below wr.heap.size wr wO from below_step (by first | exact (Below.refl _ _).drew | exact Below.refl _ _) hbO (Nat.le_refl _)); have HOO := Lib.hid (Seg.of_owns hoO); rw [← HOL.out]; obtain ⟨s0, s1, s2, s3, s4, s5, s6, t1, t2, t3⟩ := HCL2.out wO HBO.out; clear hoO hbO)
                | (go_at_call 24; refine (HCT.out wO HBO.out).mono ?_; rintro eC wC ⟨rfl, rfl⟩)
                | (go_at_call 22; refine (HTB.out wO oa oc HBO.out HOO.out).mono ?_; rintro eT wT ⟨rfl, hbT⟩; have HBT := Lib.hid (below_step HBO.out hbT HBO.out.size); obtain ⟨s0, s1, s2, s3, s4, s5, s6, t1, t2, t3⟩ := HCL2.out wT HBT.out; clear hbT)
                | (go_at_call 8; refine (awake_any _).mono ?_; rintro eA wA ⟨rfl, hbA⟩; have hb9 := below_step HBT.out hbA HBT.out.size; have hb8 := below_step HB3.out (below_step HB5.out HBW.out HB5.out.size) HB3.out.size; have HBF := Lib.hid (below_step hb8 hb9 hb8.size); obtain ⟨s0, s1, s2, s3, s4, s5, s6, t1, t2, t3⟩ := HCL2.out wA hb9; clear hbA hb9 hb8)
                )
            all_goals (go_wp2_with fail; go_ret; exact ⟨rfl, HBF.out⟩)
  · go_wp2_with fail
    refine (awake_any _).mono ?_
    rintro e w2 ⟨rfl, hb2⟩
    have HBZ := Lib.hid (below_step HB1.out hb2 HB1.out.size)
    clear hb2
    go_wp2_with fail
    go_ret
    exact ⟨rfl, HBZ.out⟩
end Go.Proofs.Try.Vr
