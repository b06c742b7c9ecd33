/- VK: texts put together: Vt1 Vt2 Vt3. -/
import Derived.Test.YtkeaalacepjadaaDoorProg
import Derived.Test.YtkeaalacepjadaaDoorVA
import Derived.Test.YtkeaalacepjadaaDoorVB
import Derived.StillTailTactics
import Derived.BigQuiet
/- Tables: how they lie in memory; the program's key, right, fits. -/
set_option linter.unusedVariables false
set_option linter.unusedSimpArgs false
set_option maxRecDepth 100000
namespace Go.Proofs.Tryd.Vr
open Go.RowKit Go.Cph Go.Cph.Skip Go.Cph.So Go.Cph.Ve

abbrev TE : TypeId := 56
abbrev TS : TypeId := 25
abbrev encC (e : Tb) : List Value := [.int .u64 (e.1.toNat : Int), .int .i64 e.2.1, .int .i64 e.2.2.1, .int .i64 e.2.2.2.1, .string e.2.2.2.2.1, .string e.2.2.2.2.2.1, .int .u64 (e.2.2.2.2.2.2.1.toNat : Int), .int .u64 (e.2.2.2.2.2.2.2.toNat : Int)]
abbrev encT (e : Tb) : Value := .agg #[.int .u64 (e.1.toNat : Int), .int .i64 e.2.1, .int .i64 e.2.2.1, .int .i64 e.2.2.2.1, .string e.2.2.2.2.1, .string e.2.2.2.2.2.1, .int .u64 (e.2.2.2.2.2.2.1.toNat : Int), .int .u64 (e.2.2.2.2.2.2.2.toNat : Int)]
abbrev TbsAt (w : World) (v : Value) (l : List Tb) : Prop := Elems encC 8 w v l
theorem encC_len (e : Tb) : (encC e).length = 8 := rfl
theorem encC_one1 (p : Tb) : ∀ u ∈ encC p, u.oneCell' = true := by
  intro u hu
  simp only [encC, List.mem_cons, List.not_mem_nil, or_false] at hu
  rcases hu with rfl | rfl | rfl | rfl | rfl | rfl | rfl | rfl <;> rfl
theorem encC_one {l : List Tb} : ∀ u ∈ l.flatMap encC, u.oneCell' = true := by
  intro u hu
  rw [List.mem_flatMap] at hu
  obtain ⟨p, _, hu⟩ := hu
  exact encC_one1 p u hu
abbrev zeroT : Value := .agg #[.int .u64 0, .int .i64 0, .int .i64 0, .int .i64 0, .string ⟨#[]⟩, .string ⟨#[]⟩, .int .u64 0, .int .u64 0]
theorem infoE : (Tryd.prog.info? TE).map (fun i => (i.zero, i.size, i.bytes)) = some (some zeroT, 8, 80) := by kernel_rfl
/-- A table's cells. -/
structure CellsOf (w : World) (b o : Nat) (p : Tb) : Prop where
  c0 : w.cell? ⟨b, o, none⟩ = some (.int .u64 (p.1.toNat : Int))
  c1 : w.cell? ⟨b, o + 1, none⟩ = some (.int .i64 p.2.1)
  c2 : w.cell? ⟨b, o + 2, none⟩ = some (.int .i64 p.2.2.1)
  c3 : w.cell? ⟨b, o + 3, none⟩ = some (.int .i64 p.2.2.2.1)
  c4 : w.cell? ⟨b, o + 4, none⟩ = some (.string p.2.2.2.2.1)
  c5 : w.cell? ⟨b, o + 5, none⟩ = some (.string p.2.2.2.2.2.1)
  c6 : w.cell? ⟨b, o + 6, none⟩ = some (.int .u64 (p.2.2.2.2.2.2.1.toNat : Int))
  c7 : w.cell? ⟨b, o + 7, none⟩ = some (.int .u64 (p.2.2.2.2.2.2.2.toNat : Int))
theorem CellsOf.kept {w w' : World} {b o : Nat} {p : Tb} (h : CellsOf w b o p) (hb : Below w.heap.size w w') : CellsOf w' b o p := ⟨cell_kept hb h.c0, cell_kept hb h.c1, cell_kept hb h.c2, cell_kept hb h.c3, cell_kept hb h.c4, cell_kept hb h.c5, cell_kept hb h.c6, cell_kept hb h.c7⟩
theorem tbs_cells {w : World} {v : Value} {l : List Tb} (h : TbsAt w v l) (h0 : 0 < l.length) :
    ∃ b off cap, v = .slice (some ⟨b, off, none⟩) l.length cap ∧ ∀ i (hi : i < l.length), CellsOf w b (off + i * 8) l[i] := by
  obtain ⟨b, off, cap, hv, hc⟩ := elems_shape encC_len h h0
  exact ⟨b, off, cap, hv, fun i hi => ⟨hc i hi 0 (by omega), hc i hi 1 (by omega), hc i hi 2 (by omega), hc i hi 3 (by omega), hc i hi 4 (by omega), hc i hi 5 (by omega), hc i hi 6 (by omega), hc i hi 7 (by omega)⟩⟩
abbrev boxT (s : Tb) : Obj := .cells #[.int .u64 (s.1.toNat : Int), .int .i64 s.2.1, .int .i64 s.2.2.1, .int .i64 s.2.2.2.1, .string s.2.2.2.2.1, .string s.2.2.2.2.2.1, .int .u64 (s.2.2.2.2.2.2.1.toNat : Int), .int .u64 (s.2.2.2.2.2.2.2.toNat : Int)] TE (0, 0)
theorem box_cells {w : World} {b : Nat} {p : Tb} (h : w.heap[b]? = some (boxT p)) : CellsOf w b 0 p :=
  ⟨by rw [blk_cell h]; rfl, by rw [blk_cell h]; rfl, by rw [blk_cell h]; rfl, by rw [blk_cell h]; rfl, by rw [blk_cell h]; rfl, by rw [blk_cell h]; rfl, by rw [blk_cell h]; rfl, by rw [blk_cell h]; rfl⟩
theorem box_free {w : World} {b : Nat} {p : Tb} (h : w.heap[b]? = some (boxT p)) (j : Nat) : w.frozen? ⟨b, j, none⟩ = false := by
  rw [blk_frozen h]; simp
/-! ### texts -/
theorem key_any (s : ByteArray) (w : World) : Calls Tryd.prog 65 #[.string s] w fun e w' => e = .returned (.bool (keyB s)) ∧ w = w' := by
  by_cases h : s.size = 0
  · have hs : s.toList = [] := by
      rw [ByteArray.toList_eq]
      exact List.eq_nil_of_length_eq_zero h
    have hv : keyB s = false := by unfold keyB; rw [h]; rfl
    have HV := Lib.hid hv
    clear hv h
    go_enter Tryd.func65, Tryd.ntmps65
    go_wp2_with fail
    go_ret
    exact ⟨ret_bool HV.out.symm, rfl⟩
  · have hs : s.toList ≠ [] := fun e => by
      rw [ByteArray.toList_eq] at e
      exact h (by have := congrArg List.length e; exact this)
    have hv : keyB s = decide ((s.size : Int) ≤ 64) := by
      unfold keyB
      rw [decide_eq_true (show 1 ≤ s.size by omega), Bool.true_and]
      rw [decide_eq_decide]; omega
    have HV := Lib.hid hv
    have hs2 : (s.toList != []) = true := by simpa using hs
    clear hv h
    go_enter Tryd.func65, Tryd.ntmps65
    go_wp2_with fail
    go_ret
    exact ⟨ret_bool (by rw [HV.out]; simp [hs]), rfl⟩
end Go.Proofs.Tryd.Vr

/- The program's right, fits. -/
set_option linter.unusedVariables false
set_option linter.unusedSimpArgs false
set_option maxRecDepth 100000
namespace Go.Proofs.Tryd.Vr
open Go.RowKit Go.Cph Go.Cph.Skip Go.Cph.So Go.Cph.Ve

theorem below_of_alloc {w : World} (o : Obj) : Below w.heap.size w (w.alloc o) := (Below.refl _ _).alloc (Nat.le_refl _) _
theorem bel2 {w : World} (a b : Obj) : Below w.heap.size w ((w.alloc a).alloc b) := ((Below.refl _ _).alloc (Nat.le_refl _) _).alloc (by rw [World.size_alloc]; omega) _
theorem alloc2_new (w : World) (a b : Obj) : ((w.alloc a).alloc b).heap[w.heap.size + 1]? = some b := by
  have := heap_alloc_new (w.alloc a) b
  rwa [World.size_alloc] at this
/-- How one text stands to another: ahead, the same, behind. -/
theorem klt_three (a b : ByteArray) : (klt a b = true ∧ klt b a = false ∧ (a.toList == b.toList) = false) ∨ (klt a b = false ∧ klt b a = false ∧ (a.toList == b.toList) = true) ∨ (klt a b = false ∧ klt b a = true ∧ (a.toList == b.toList) = false) := by
  rw [beq_toList]
  cases h : klt a b with
  | true =>
    have h2 := klt_asymm h
    exact .inl ⟨rfl, h2, by rw [decide_eq_false_iff_not]; rintro rfl; rw [klt_irrefl] at h; cases h⟩
  | false =>
    right
    cases h2 : klt b a with
    | true => exact .inr ⟨rfl, rfl, by rw [decide_eq_false_iff_not]; rintro rfl; rw [klt_irrefl] at h2; cases h2⟩
    | false => exact .inl ⟨rfl, rfl, by rw [decide_eq_true_eq]; exact klt_total h h2⟩

set_option maxHeartbeats 4000000 in
theorem right_any (t : Tb) (w : World) : Calls Tryd.prog 54 #[encT t] w fun e w' => e = .returned (.bool (rightT t)) ∧ Below w.heap.size w w' := by
  have HK1 := Lib.hid (fun W => key_any t.2.2.2.2.1 W)
  have HK2 := Lib.hid (fun W => key_any t.2.2.2.2.2.1 W)
  obtain ⟨b1, h1⟩ : ∃ b, b = (decide (1 ≤ (tN t).toNat)) := ⟨_, rfl⟩
  obtain ⟨b2, h2⟩ : ∃ b, b = (decide ((tN t).toNat ≤ 1099511627776)) := ⟨_, rfl⟩
  obtain ⟨b3, h3⟩ : ∃ b, b = (decide (1 ≤ tC t)) := ⟨_, rfl⟩
  obtain ⟨b4, h4⟩ : ∃ b, b = (decide (1 ≤ tS t)) := ⟨_, rfl⟩
  obtain ⟨b5, h5⟩ : ∃ b, b = (keyB (tF t)) := ⟨_, rfl⟩
  obtain ⟨b6, h6⟩ : ∃ b, b = (keyB (tL t)) := ⟨_, rfl⟩
  obtain ⟨b7, h7⟩ : ∃ b, b = (!klt (tL t) (tF t)) := ⟨_, rfl⟩
  obtain ⟨b8, h8⟩ : ∃ b, b = (decide (1 ≤ (tA t).toNat)) := ⟨_, rfl⟩
  obtain ⟨b9, h9⟩ : ∃ b, b = (decide ((tA t).toNat ≤ (tM t).toNat)) := ⟨_, rfl⟩
  have HV := Lib.hid (show rightT t = (b1 && (b2 && (b3 && (b4 && (b5 && (b6 && (b7 && (b8 && (b9))))))))) from by rw [h1, h2, h3, h4, h5, h6, h7, h8, h9]; rfl)
  rw [show keyB t.2.2.2.2.1 = b5 from h5.symm] at HK1
  rw [show keyB t.2.2.2.2.2.1 = b6 from h6.symm] at HK2
  have HST := Lib.hid (klt_three t.2.2.2.2.1 t.2.2.2.2.2.1)
  have HP1 := Lib.hid (show b1 = true ↔ (t.1.toNat : Int) ≥ 1 from by rw [h1, decide_eq_true_eq]; (try dsimp only [tN, tC, tS, tA, tM]); first | done | omega | exact Iff.rfl)
  have HP2 := Lib.hid (show b2 = true ↔ (t.1.toNat : Int) ≤ 1099511627776 from by rw [h2, decide_eq_true_eq]; (try dsimp only [tN, tC, tS, tA, tM]); first | done | omega | exact Iff.rfl)
  have HP3 := Lib.hid (show b3 = true ↔ t.2.2.1 ≥ 1 from by rw [h3, decide_eq_true_eq]; (try dsimp only [tN, tC, tS, tA, tM]); first | done | omega | exact Iff.rfl)
  have HP4 := Lib.hid (show b4 = true ↔ t.2.2.2.1 ≥ 1 from by rw [h4, decide_eq_true_eq]; (try dsimp only [tN, tC, tS, tA, tM]); first | done | omega | exact Iff.rfl)
  have HP8 := Lib.hid (show b8 = true ↔ (t.2.2.2.2.2.2.1.toNat : Int) ≥ 1 from by rw [h8, decide_eq_true_eq]; (try dsimp only [tN, tC, tS, tA, tM]); first | done | omega | exact Iff.rfl)
  have HP9 := Lib.hid (show b9 = true ↔ (t.2.2.2.2.2.2.1.toNat : Int) ≤ (t.2.2.2.2.2.2.2.toNat : Int) from by rw [h9, decide_eq_true_eq]; (try dsimp only [tN, tC, tS, tA, tM]); first | done | omega | exact Iff.rfl)
  have HP7 := Lib.hid (show b7 = !klt t.2.2.2.2.2.1 t.2.2.2.2.1 from h7)
  have HR9 := Lib.hid (show decide (t.2.2.2.2.2.2.1.toNat ≤ t.2.2.2.2.2.2.2.toNat) = b9 from h9.symm)
  clear h1 h2 h3 h4 h5 h6 h7 h8 h9
  have HB := Lib.hid (below_of_alloc (w := w) (boxT t))
  have hcx := box_cells (heap_alloc_new w (boxT t))
  have c0 := hcx.c0
  have c1 := hcx.c1
  have c2 := hcx.c2
  have c3 := hcx.c3
  have c4 := hcx.c4
  have c5 := hcx.c5
  have c6 := hcx.c6
  have c7 := hcx.c7
  clear hcx
  go_enter Tryd.func54, Tryd.ntmps54
  cases b1
  · have q1 : ¬ (t.1.toNat : Int) ≥ 1 := fun h => by have := HP1.out.2 h; cases this
    go_wp2_with fail
    go_ret
    exact ⟨ret_bool HV.out.symm, HB.out⟩
  · have q1 : (t.1.toNat : Int) ≥ 1 := HP1.out.1 rfl
    cases b2
    · have q2 : ¬ (t.1.toNat : Int) ≤ 1099511627776 := fun h => by have := HP2.out.2 h; cases this
      go_wp2_with fail
      go_ret
      exact ⟨ret_bool HV.out.symm, HB.out⟩
    · have q2 : (t.1.toNat : Int) ≤ 1099511627776 := HP2.out.1 rfl
      cases b3
      · have q3 : ¬ t.2.2.1 ≥ 1 := fun h => by have := HP3.out.2 h; cases this
        go_wp2_with fail
        go_ret
        exact ⟨ret_bool HV.out.symm, HB.out⟩
      · have q3 : t.2.2.1 ≥ 1 := HP3.out.1 rfl
        cases b4
        · have q4 : ¬ t.2.2.2.1 ≥ 1 := fun h => by have := HP4.out.2 h; cases this
          go_wp2_with fail
          go_ret
          exact ⟨ret_bool HV.out.symm, HB.out⟩
        · have q4 : t.2.2.2.1 ≥ 1 := HP4.out.1 rfl
          go_wp2_with fail
          refine (HK1.out _).mono ?_
          rintro e w5 ⟨rfl, rfl⟩
          cases b5
          · go_wp2_with fail
            go_ret
            exact ⟨ret_bool HV.out.symm, HB.out⟩
          · skip
            go_wp2_with fail
            refine (HK2.out _).mono ?_
            rintro e w6 ⟨rfl, rfl⟩
            cases b6
            · go_wp2_with fail
              go_ret
              exact ⟨ret_bool HV.out.symm, HB.out⟩
            · skip
              rcases HST.out with ⟨s1, s2, s3⟩ | ⟨s1, s2, s3⟩ | ⟨s1, s2, s3⟩
              · obtain rfl : b7 = true := by rw [HP7.out, s2]; rfl
                unfold klt at s1 s2
                cases b8
                · have q8 : ¬ (t.2.2.2.2.2.2.1.toNat : Int) ≥ 1 := fun h => by have := HP8.out.2 h; cases this
                  go_wp2_with fail
                  go_ret
                  exact ⟨ret_bool HV.out.symm, HB.out⟩
                · have q8 : (t.2.2.2.2.2.2.1.toNat : Int) ≥ 1 := HP8.out.1 rfl
                  have r9 := HR9.out
                  cases b9
                  · have q9 : ¬ (t.2.2.2.2.2.2.1.toNat : Int) ≤ (t.2.2.2.2.2.2.2.toNat : Int) := fun h => by have := HP9.out.2 h; cases this
                    go_wp2_with fail
                    go_ret
                    exact ⟨ret_bool HV.out.symm, HB.out⟩
                  · have q9 : (t.2.2.2.2.2.2.1.toNat : Int) ≤ (t.2.2.2.2.2.2.2.toNat : Int) := HP9.out.1 rfl
                    go_wp2_with fail
                    go_ret
                    exact ⟨ret_bool HV.out.symm, HB.out⟩
              · obtain rfl : b7 = true := by rw [HP7.out, s2]; rfl
                unfold klt at s1 s2
                cases b8
                · have q8 : ¬ (t.2.2.2.2.2.2.1.toNat : Int) ≥ 1 := fun h => by have := HP8.out.2 h; cases this
                  go_wp2_with fail
                  go_ret
                  exact ⟨ret_bool HV.out.symm, HB.out⟩
                · have q8 : (t.2.2.2.2.2.2.1.toNat : Int) ≥ 1 := HP8.out.1 rfl
                  have r9 := HR9.out
                  cases b9
                  · have q9 : ¬ (t.2.2.2.2.2.2.1.toNat : Int) ≤ (t.2.2.2.2.2.2.2.toNat : Int) := fun h => by have := HP9.out.2 h; cases this
                    go_wp2_with fail
                    go_ret
                    exact ⟨ret_bool HV.out.symm, HB.out⟩
                  · have q9 : (t.2.2.2.2.2.2.1.toNat : Int) ≤ (t.2.2.2.2.2.2.2.toNat : Int) := HP9.out.1 rfl
                    go_wp2_with fail
                    go_ret
                    exact ⟨ret_bool HV.out.symm, HB.out⟩
              · obtain rfl : b7 = false := by rw [HP7.out, s2]; rfl
                unfold klt at s1 s2
                go_wp2_with fail
                go_ret
                exact ⟨ret_bool HV.out.symm, HB.out⟩

set_option maxHeartbeats 4000000 in
theorem fits_any (k : Nat) (a b : Tb) (w : World) : Calls Tryd.prog 55 #[.int .i64 (k : Int), encT a, encT b] w fun e w' => e = .returned (.bool (fitT k a b)) ∧ Below w.heap.size w w' := by
  have HB := Lib.hid (bel2 (w := w) (boxT a) (boxT b))
  have hcx := box_cells (blk_alloc (heap_alloc_new w (boxT a)) (boxT b))
  have c0 := hcx.c0
  have c1 := hcx.c1
  have c2 := hcx.c2
  have c3 := hcx.c3
  have c4 := hcx.c4
  have c5 := hcx.c5
  have c6 := hcx.c6
  have c7 := hcx.c7
  have hcy := box_cells (alloc2_new w (boxT a) (boxT b))
  have d0 := hcy.c0
  have d1 := hcy.c1
  have d2 := hcy.c2
  have d3 := hcy.c3
  have d4 := hcy.c4
  have d5 := hcy.c5
  have d6 := hcy.c6
  have d7 := hcy.c7
  clear hcx hcy
  by_cases hk : k = 0
  · have hz : ((k : Int) == 0) = true := by simp [hk]
    have HV := Lib.hid (show fitT k a b = decide ((a.1.toNat : Int) > (b.1.toNat : Int)) from by unfold fitT; rw [if_pos hk, decide_eq_decide]; dsimp only [tN]; omega)
    clear hk
    go_enter Tryd.func55, Tryd.ntmps55
    go_wp2_with fail
    go_ret
    exact ⟨ret_bool (by rw [HV.out]; simp), HB.out⟩
  · have hz : ((k : Int) == 0) = false := by simp; omega
    have HV := Lib.hid (show fitT k a b = klt a.2.2.2.2.2.1 b.2.2.2.2.1 from by unfold fitT; rw [if_neg hk])
    clear hk
    go_enter Tryd.func55, Tryd.ntmps55
    go_wp2_with fail
    go_ret
    exact ⟨ret_bool (by rw [HV.out]; rfl), HB.out⟩
end Go.Proofs.Tryd.Vr

/- How tables are compared; the program's closures. -/
set_option linter.unusedVariables false
set_option linter.unusedSimpArgs false
set_option maxRecDepth 100000
namespace Go.Proofs.Tryd.Vr
open Go.RowKit Go.Cph Go.Cph.Skip Go.Cph.So Go.Cph.Ve
def cmpS (a b : ByteArray) : Int := if klt a b then -1 else if klt b a then 1 else 0
def cmpN (x y : Int) : Int := if x < y then -1 else if y < x then 1 else 0
set_option maxHeartbeats 400000 in
theorem isNaN64 (x : Int) (w : World) : Calls Tryd.prog 61 #[.int .u64 x] w fun e w' => e = .returned (.bool false) ∧ w = w' := by
  go_enter Tryd.func61, Tryd.ntmps61
  go_wp2_with fail
  go_ret
  exact ⟨by simp, rfl⟩
set_option maxHeartbeats 400000 in
theorem isNaNS (x : ByteArray) (w : World) : Calls Tryd.prog 62 #[.string x] w fun e w' => e = .returned (.bool false) ∧ w = w' := by
  go_enter Tryd.func62, Tryd.ntmps62
  go_wp2_with fail
  go_ret
  exact ⟨by simp, rfl⟩
set_option maxHeartbeats 400000 in
theorem compare64 (x y : Int) (w : World) : Calls Tryd.prog 47 #[.int .u64 x, .int .u64 y] w fun e w' => e = .returned (.int .i64 (cmpN x y)) ∧ w = w' := by
  have hc : x < y ∨ (¬ x < y ∧ y < x) ∨ (¬ x < y ∧ ¬ y < x) := by omega
  rcases hc with h | ⟨h, k⟩ | ⟨h, k⟩
  all_goals
    go_enter Tryd.func47, Tryd.ntmps47
    go_wp2_with (go_at_call 61; refine (isNaN64 _ _).mono ?_; rintro e w' ⟨rfl, rfl⟩)
    go_ret
    exact ⟨ret_int (by unfold cmpN; (repeat split) <;> omega), rfl⟩
set_option maxHeartbeats 800000 in
theorem compareS (x y : ByteArray) (w : World) : Calls Tryd.prog 48 #[.string x, .string y] w fun e w' => e = .returned (.int .i64 (cmpS x y)) ∧ w = w' := by
  have hc : klt x y = true ∨ (klt x y = false ∧ klt y x = true) ∨ (klt x y = false ∧ klt y x = false) := by cases klt x y <;> cases klt y x <;> simp
  rcases hc with h | ⟨h, k⟩ | ⟨h, k⟩
  · have HV := Lib.hid (show cmpS x y = -1 by unfold cmpS; rw [h]; rfl)
    unfold klt at h
    go_enter Tryd.func48, Tryd.ntmps48
    go_wp2_with (go_at_call 62; refine (isNaNS _ _).mono ?_; rintro e w' ⟨rfl, rfl⟩)
    go_ret
    exact ⟨ret_int HV.out.symm, rfl⟩
  · have HV := Lib.hid (show cmpS x y = 1 by unfold cmpS; rw [h, k]; rfl)
    have hq : (x.toList == y.toList) = false := by rw [beq_toList, decide_eq_false_iff_not]; rintro rfl; rw [klt_irrefl] at k; cases k
    unfold klt at h k
    go_enter Tryd.func48, Tryd.ntmps48
    go_wp2_with (go_at_call 62; refine (isNaNS _ _).mono ?_; rintro e w' ⟨rfl, rfl⟩)
    go_ret
    exact ⟨ret_int HV.out.symm, rfl⟩
  · have HV := Lib.hid (show cmpS x y = 0 by unfold cmpS; rw [h, k]; rfl)
    obtain rfl := klt_total h k
    clear k
    unfold klt at h
    go_enter Tryd.func48, Tryd.ntmps48
    go_wp2_with (go_at_call 62; refine (isNaNS _ _).mono ?_; rintro e w' ⟨rfl, rfl⟩)
    go_ret
    exact ⟨ret_int HV.out.symm, rfl⟩

/-- What do's comparing looks at: the box of the level's number. -/
structure Cap where
  kb : Nat
  kk : Nat
abbrev boxI (k : Nat) : Obj := .cells #[.int .i64 (k : Int)] 3 (0, 0)
abbrev boxU (n : UInt64) : Obj := .cells #[.int .u64 (n.toNat : Int)] 27 (0, 0)
abbrev ltK (C : Cap) : Tb → Tb → Bool := bef C.kk
abbrev weakK (C : Cap) : Weak (ltK C) := bef_weak C.kk
def cmpK (C : Cap) (a b : Tb) : Int := if C.kk = 0 then cmpN (b.1.toNat : Int) (a.1.toNat : Int) else cmpS a.2.2.2.2.1 b.2.2.2.2.1
theorem cmpK_neg (C : Cap) (a b : Tb) : cmpK C a b < 0 ↔ ltK C a b = true := by
  unfold cmpK ltK bef
  split
  · unfold cmpN
    rw [decide_eq_true_eq]
    dsimp only [tN]
    split
    · omega
    · split <;> omega
  · unfold cmpS
    split
    · simp_all
    · split <;> simp_all

set_option maxHeartbeats 4000000 in
theorem order_any (C : Cap) (a b : Tb) (w : World) (hk : w.heap[C.kb]? = some (boxI C.kk)) : Calls Tryd.prog 46 #[encT a, encT b, .pointer (some ⟨C.kb, 0, none⟩)] w fun e w' => e = .returned (.int .i64 (cmpK C a b)) ∧ Below w.heap.size w w' := by
  have HB := Lib.hid (bel2 (w := w) (boxT a) (boxT b))
  have hcx := box_cells (blk_alloc (heap_alloc_new w (boxT a)) (boxT b))
  have c0 := hcx.c0
  have c1 := hcx.c1
  have c2 := hcx.c2
  have c3 := hcx.c3
  have c4 := hcx.c4
  have c5 := hcx.c5
  have c6 := hcx.c6
  have c7 := hcx.c7
  have hcy := box_cells (alloc2_new w (boxT a) (boxT b))
  have d0 := hcy.c0
  have d1 := hcy.c1
  have d2 := hcy.c2
  have d3 := hcy.c3
  have d4 := hcy.c4
  have d5 := hcy.c5
  have d6 := hcy.c6
  have d7 := hcy.c7
  have hkc : ((w.alloc (boxT a)).alloc (boxT b)).cell? ⟨C.kb, 0, none⟩ = some (.int .i64 (C.kk : Int)) := by rw [blk_cell (blk_alloc (blk_alloc hk _) _)]; rfl
  have HC1 := Lib.hid (fun W => compare64 (b.1.toNat : Int) (a.1.toNat : Int) W)
  have HC2 := Lib.hid (fun W => compareS a.2.2.2.2.1 b.2.2.2.2.1 W)
  have HV := Lib.hid (show cmpK C a b = if C.kk = 0 then cmpN (b.1.toNat : Int) (a.1.toNat : Int) else cmpS a.2.2.2.2.1 b.2.2.2.2.1 from rfl)
  generalize cmpN (b.1.toNat : Int) (a.1.toNat : Int) = x1 at *
  generalize cmpS a.2.2.2.2.1 b.2.2.2.2.1 = x2 at *
  obtain ⟨kb, kk⟩ := C
  dsimp only at hkc HV
  clear hcx hcy hk
  by_cases h0 : kk = 0
  · have hz : ((kk : Int) == 0) = true := by simp [h0]
    have HW := Lib.hid (HV.out.trans (if_pos h0))
    clear HV h0
    go_enter Tryd.func46, Tryd.ntmps46
    go_wp2_with fail
    refine (HC1.out _).mono ?_
    rintro e w1 ⟨rfl, rfl⟩
    go_wp2_with fail
    go_ret
    exact ⟨ret_int HW.out.symm, HB.out⟩
  · have hz : ((kk : Int) == 0) = false := by simp; omega
    have HW := Lib.hid (HV.out.trans (if_neg h0))
    clear HV h0
    go_enter Tryd.func46, Tryd.ntmps46
    go_wp2_with fail
    refine (HC2.out _).mono ?_
    rintro e w1 ⟨rfl, rfl⟩
    go_wp2_with fail
    go_ret
    exact ⟨ret_int HW.out.symm, HB.out⟩
theorem u64_eqb (x y : UInt64) : ((x.toNat : Int) == (y.toNat : Int)) = (x == y) := by
  rw [Bool.eq_iff_iff, beq_iff_eq, beq_iff_eq]
  exact ⟨fun h => UInt64.toNat_inj.1 (by omega), fun h => by rw [h]⟩

set_option maxHeartbeats 4000000 in
theorem place1_any (n : UInt64) (nb : Nat) (a : Tb) (w : World) (hk : w.heap[nb]? = some (boxU n)) : Calls Tryd.prog 59 #[encT a, .pointer (some ⟨nb, 0, none⟩)] w fun e w' => e = .returned (.bool (a.1 == n)) ∧ Below w.heap.size w w' := by
  have HB := Lib.hid (below_of_alloc (w := w) (boxT a))
  have hcx := box_cells (heap_alloc_new w (boxT a))
  have c0 := hcx.c0
  have c1 := hcx.c1
  have c2 := hcx.c2
  have c3 := hcx.c3
  have c4 := hcx.c4
  have c5 := hcx.c5
  have c6 := hcx.c6
  have c7 := hcx.c7
  have hkc : (w.alloc (boxT a)).cell? ⟨nb, 0, none⟩ = some (.int .u64 (n.toNat : Int)) := by rw [blk_cell (blk_alloc hk _)]; rfl
  have hq := u64_eqb a.1 n
  generalize (a.1 == n) = bb at *
  clear hcx hk
  go_enter Tryd.func59, Tryd.ntmps59
  go_wp2_with fail
  go_ret
  exact ⟨rfl, HB.out⟩

set_option maxHeartbeats 4000000 in
theorem do1_any (t : Tb) (tb : Nat) (a : Tb) (w : World) (hk : w.heap[tb]? = some (boxT t)) : Calls Tryd.prog 44 #[encT a, .pointer (some ⟨tb, 0, none⟩)] w fun e w' => e = .returned (.bool (a.1 == t.1)) ∧ Below w.heap.size w w' := by
  have HB := Lib.hid (below_of_alloc (w := w) (boxT a))
  have hcx := box_cells (heap_alloc_new w (boxT a))
  have c0 := hcx.c0
  have c1 := hcx.c1
  have c2 := hcx.c2
  have c3 := hcx.c3
  have c4 := hcx.c4
  have c5 := hcx.c5
  have c6 := hcx.c6
  have c7 := hcx.c7
  have hkc : (w.alloc (boxT a)).cell? ⟨tb, 0, none⟩ = some (.int .u64 (t.1.toNat : Int)) := by rw [blk_cell (blk_alloc hk _)]; rfl
  have hq := u64_eqb a.1 t.1
  generalize (a.1 == t.1) = bb at *
  clear hcx hk
  go_enter Tryd.func44, Tryd.ntmps44
  go_wp2_with fail
  go_ret
  exact ⟨rfl, HB.out⟩
end Go.Proofs.Tryd.Vr
