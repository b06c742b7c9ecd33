/- The walk of VersionApplies. -/
import Derived.Test.YtkeaalacepjadaaVz6
import Derived.Test.YtkeaalacepjadaaVv4
import Derived.Test.YtkeaalacepjadaaVv2
set_option linter.unusedVariables false
set_option linter.unusedSimpArgs false
set_option maxRecDepth 100000
namespace Go.Proofs.Try.Vr
open Go.RowKit Go.Cph Go.Cph.Skip Go.Cph.So Go.Cph.Ve
open Go.Proofs.Try.Sq (row_kept1 grown_below grown_set encU encU_len TU TUs infoU)

theorem edits_bad (L : List Tb) (m : Nm) (ds : List Ed) (h : (editsD L m ds).1 ≠ 0) : (editsD L m ds).2 = ([], 0, 0, 0) := by
  have key : ∀ (ds : List Ed) (r : Int × List Tb × Nm), (r.1 ≠ 0 → r.2 = ([], 0, 0, 0)) → (ds.foldl stepE r).1 ≠ 0 → (ds.foldl stepE r).2 = ([], 0, 0, 0) := by
    intro ds
    induction ds with
    | nil => intro r hr h; exact hr h
    | cons d ds ih =>
      intro r hr h
      rw [List.foldl_cons] at h ⊢
      refine ih _ (fun h2 => ?_) h
      unfold stepE at h2 ⊢
      by_cases h0 : r.1 = 0
      · rw [if_pos h0] at h2 ⊢; exact doD_bad h2
      · rw [if_neg h0] at h2 ⊢; exact hr h0
  rw [editsD_eq] at *
  exact key ds _ (fun h => absurd rfl h) h
theorem edits_len (L : List Tb) (m : Nm) (ds : List Ed) : (editsD L m ds).2.1.length ≤ L.length + sumA ds := by
  have key : ∀ (ds : List Ed) (r : Int × List Tb × Nm), (ds.foldl stepE r).2.1.length ≤ r.2.1.length + sumA ds := by
    intro ds
    induction ds with
    | nil => intro r; exact Nat.le_add_right _ _
    | cons d ds ih =>
      intro r
      rw [List.foldl_cons]
      have h1 := ih (stepE r d)
      have h3 : sumA (d :: ds) = d.1.length + sumA ds := by unfold sumA; rw [List.map_cons, List.sum_cons]
      have h2 : (stepE r d).2.1.length ≤ r.2.1.length + d.1.length := by
        unfold stepE
        split
        · exact doD_len _ _ _
        · exact Nat.le_add_right _ _
      omega
  rw [editsD_eq]
  exact key ds _
theorem edits_small (L : List Tb) (m : Nm) (ds : List Ed) (h : SmallL L) (g : ∀ e ∈ ds, SmallL e.1) : SmallL (editsD L m ds).2.1 := by
  have key : ∀ (ds : List Ed) (r : Int × List Tb × Nm), (∀ e ∈ ds, SmallL e.1) → SmallL r.2.1 → SmallL (ds.foldl stepE r).2.1 := by
    intro ds
    induction ds with
    | nil => intro r _ h; exact h
    | cons d ds ih =>
      intro r hg hr
      rw [List.foldl_cons]
      refine ih _ (fun e he => hg e (List.mem_cons_of_mem _ he)) ?_
      unfold stepE
      split
      · exact doD_small hr (hg d List.mem_cons_self)
      · exact hr
  rw [editsD_eq]
  exact key ds _ g h
theorem levelD_nil (k : Nat) : levelD [] k = [] := rfl
abbrev nDn : Dn := ⟨.slice none 0 0, 0, 0, 1⟩
theorem encD_new : encD nDn = .agg #[.slice none 0 0, .int .u64 0, .int .u64 0, .int .u64 1] := rfl
/-- Edits done one behind the other, here and in the document: alike. -/
theorem alike_edits {v : Vn} {A : Nat → List Tb} {d : Dn} {ds : List Ed} {r : Int × List Tb × Nm} (hr : r = editsD [] (0, 0, 1) ds) (hn : (v.log, v.seq, v.nxt) = r.2.2) (hm : (d.log, d.seq, d.nxt) = r.2.2) (hR : r.1 = 0 → Rel A r.2.1 r.2.2) (hZ : r.1 ≠ 0 → v = zVn ∧ A = fun _ => []) : Alike v A d r.2.1 := by
  rw [← hm] at hn
  injection hn with h1 h2
  injection h2 with h2 h3
  refine ⟨fun k hk => ?_, h1, h2, h3⟩
  by_cases h : r.1 = 0
  · exact (hR h).level k hk
  · have h4 := edits_bad [] (0, 0, 1) ds (by rw [← hr]; exact h)
    rw [← hr] at h4
    rw [(hZ h).2, h4]
    rfl

set_option maxHeartbeats 16000000 in
theorem applies_any (av : Value) (es : List Es) (ds : List Ed) (w : World) (hE : EdsAt w av es ds) : Calls Try.prog 3 #[av] w (fun e w' => e = .returned (.bool true) ∧ Below w.heap.size w w') := by
  obtain ⟨ao, cap, hav⟩ := elems_slice hE.row
  rw [hE.len] at hav
  have HE := Lib.hid hE
  have HAV := Lib.hid hav
  have HC := Lib.hid (great_any av (.slice none 0 0) es ds [] w hE ⟨_, _, rfl, fun h => absurd h (by simp)⟩ (by simp))
  rw [hav] at HC
  rw [hav]
  clear hE hav
  go_enter Try.func3, Try.ntmps3
  go_wp2_with fail
  refine HC.out.mono ?_
  rintro e w1 ⟨b, rfl, hb, rfl⟩
  have HG := Lib.hid hb
  clear HC hb
  cases b
  · obtain ⟨hl, hok, -⟩ := HG.out rfl
    have hs6 : sumA ds ≤ 600 := by
      have := sum_le (n := 30) (ds := ds) fun d hd => (hok d hd).1
      omega
    have HS6 := Lib.hid hs6
    have HLE := Lib.hid hl
    have HOK := Lib.hid hok
    have HSM := Lib.hid (show ∀ d ∈ ds, SmallL d.1 from fun d hd t ht => by
      have h1 := (hok d hd).2.2 t ht
      exact ⟨Nat.le_trans h1.1 (by decide), Nat.le_trans h1.2 (by decide)⟩)
    have HC := Lib.hid (copied_any av es ds w HE.out (by omega) (fun d hd => ⟨by have := (hok d hd).1; omega, by have := (hok d hd).2.1; omega⟩))
    rw [HAV.out] at HC
    clear hl hok hs6 HG
    go_wp2_with fail
    refine HC.out.mono ?_
    rintro e w2 ⟨vo, es2, rfl, hE2, hb2⟩
    obtain ⟨oo, oc, hvo⟩ := elems_slice hE2.row
    rw [hE2.len] at hvo
    subst hvo
    have HE2 := Lib.hid hE2
    have HB2 := Lib.hid hb2
    clear hE2 hb2 HC
    go_wp2_with fail
    refine (new_any _).mono ?_
    rintro e w3 ⟨rfl, hb3⟩
    have HB3 := Lib.hid (below_step HB2.out hb3 HB2.out.size)
    have HE3 := Lib.hid (HE2.out.kept hb3)
    obtain ⟨r, hr⟩ : ∃ r, r = editsD [] (0, 0, 1) ds := ⟨_, rfl⟩
    obtain ⟨z, hz⟩ : ∃ z, z = r.1 := ⟨_, rfl⟩
    have HR := Lib.hid hr
    have HZ := Lib.hid hz
    have HC := Lib.hid (apply_any nVn (fun _ => []) [] _ es2 ds r w3 (new_at w3) (by decide) HE3.out (fun _ => ⟨rel_new, hr⟩) (fun h => absurd rel_new.rv h) (by have := HS6.out; simp; omega) (fun d hd => by have := (HOK.out d hd).2.1; omega) (by have := HLE.out; omega))
    unfold ApplyPost at HC
    rw [← hz] at HC
    clear hb3 hr hz HE2
    go_wp2_with fail
    refine HC.out.mono ?_
    rintro e w4 ⟨v4, A, rfl, ho4, hn4, hb4, hok4, hbad4⟩
    have HB4 := Lib.hid (below_step HB3.out hb4 HB3.out.size)
    have HE4 := Lib.hid (HE3.out.kept hb4)
    have HO4 := Lib.hid ho4
    have HF4 := Lib.hid (show (v4.log, v4.seq, v4.nxt) = r.2.2 ∧ (r.1 = 0 → Rel A r.2.1 r.2.2) ∧ (r.1 ≠ 0 → v4 = zVn ∧ A = fun _ => []) from ⟨hn4, fun h => hok4 (by rw [HZ.out]; exact h), fun h => hbad4 (by rw [HZ.out]; exact h)⟩)
    clear HC ho4 hn4 hb4 hok4 hbad4 HE3
    obtain ⟨x0, x1, x2, x3, pl, ps, pn⟩ := v4
    obtain ⟨pa0, pc0, e0⟩ := owns_slice1 (HO4.out.own 0 (by omega))
    obtain ⟨pa1, pc1, e1⟩ := owns_slice1 (HO4.out.own 1 (by omega))
    obtain ⟨pa2, pc2, e2⟩ := owns_slice1 (HO4.out.own 2 (by omega))
    obtain ⟨pa3, pc3, e3⟩ := owns_slice1 (HO4.out.own 3 (by omega))
    dsimp only [Vn.lev] at e0 e1 e2 e3
    subst e0 e1 e2 e3
    have HB5 := Lib.hid (HB4.out.alloc HB4.out.size (boxV (⟨.slice pa0 (A 0).length pc0, .slice pa1 (A 1).length pc1, .slice pa2 (A 2).length pc2, .slice pa3 (A 3).length pc3, pl, ps, pn⟩ : Vn)))
    have HX5 := Lib.hid (heap_alloc_new w4 (boxV (⟨.slice pa0 (A 0).length pc0, .slice pa1 (A 1).length pc1, .slice pa2 (A 2).length pc2, .slice pa3 (A 3).length pc3, pl, ps, pn⟩ : Vn)))
    have HE5 := Lib.hid (HE4.out.kept (below_of_alloc (boxV (⟨.slice pa0 (A 0).length pc0, .slice pa1 (A 1).length pc1, .slice pa2 (A 2).length pc2, .slice pa3 (A 3).length pc3, pl, ps, pn⟩ : Vn))))
    have HV5 := Lib.hid (VerOwn.at' (HO4.out.kept (below_of_alloc (boxV (⟨.slice pa0 (A 0).length pc0, .slice pa1 (A 1).length pc1, .slice pa2 (A 2).length pc2, .slice pa3 (A 3).length pc3, pl, ps, pn⟩ : Vn)))))
    have HC := Lib.hid (given_any av es ds (w4.alloc (boxV (⟨.slice pa0 (A 0).length pc0, .slice pa1 (A 1).length pc1, .slice pa2 (A 2).length pc2, .slice pa3 (A 3).length pc3, pl, ps, pn⟩ : Vn))) (HE.out.kept HB5.out) (by have := HLE.out; omega))
    rw [HAV.out] at HC
    clear HE4 HO4
    go_wp2_with fail
    refine HC.out.mono ?_
    rintro e w6 ⟨vg, rfl, hEg, hb6⟩
    obtain ⟨go, gc, hvg⟩ := elems_slice hEg.row
    rw [hEg.len] at hvg
    subst hvg
    have HB6 := Lib.hid (below_step HB5.out hb6 HB5.out.size)
    have HE6 := Lib.hid (HE5.out.kept hb6)
    have HV6 := Lib.hid (HV5.out.kept hb6)
    have HX6 := Lib.hid (blk_kept hb6 HX5.out)
    have HC2 := Lib.hid (dapply_any (fun _ _ => True) nDn _ es [] ds w6 (Seg.nil w6 8) hEg (fun t ht => by cases ht) HSM.out (by have := HS6.out; simp; omega) (fun d hd => by have := (HOK.out d hd).2.1; omega) (by have := HLE.out; omega) trivial trivial (fun _ _ _ _ => trivial))
    rw [encD_new, show applyD [] (nDn.log, nDn.seq, nDn.nxt) ds = r from by rw [HR.out]; unfold applyD; rw [if_pos (by decide)]] at HC2
    unfold DDoPost at HC2
    rw [← HZ.out] at HC2
    clear HC hEg hb6 HE5 HV5 HX5
    go_wp2_with fail
    refine HC2.out.mono ?_
    rintro e w7 ⟨u, rfl, hT7, -, hn7, hb7⟩
    obtain ⟨M, hM⟩ : ∃ M, M = r.2.1 := ⟨_, rfl⟩
    rw [← hM] at hT7
    obtain ⟨ul, ql, qs, qn⟩ := u
    obtain ⟨qa, qc, hul⟩ := elems_slice hT7
    dsimp only at hul
    subst hul
    have HM := Lib.hid hM
    have HB7 := Lib.hid (below_step HB6.out hb7 HB6.out.size)
    have HE7 := Lib.hid (HE6.out.kept hb7)
    have HV7 := Lib.hid (HV6.out.kept hb7)
    have HX7 := Lib.hid (blk_kept hb7 HX6.out)
    have HAL := Lib.hid (show Alike (⟨.slice pa0 (A 0).length pc0, .slice pa1 (A 1).length pc1, .slice pa2 (A 2).length pc2, .slice pa3 (A 3).length pc3, pl, ps, pn⟩ : Vn) A (⟨.slice qa M.length qc, ql, qs, qn⟩ : Dn) M from by rw [hM]; exact alike_edits HR.out HF4.out.1 hn7 HF4.out.2.1 HF4.out.2.2)
    have HML := Lib.hid (show M.length ≤ 600 from by
      have h1 := edits_len [] (0, 0, 1) ds
      have h2 := HS6.out
      rw [← HR.out, ← hM] at h1
      simp only [List.length_nil] at h1
      omega)
    have HMS := Lib.hid (show SmallL M from by rw [hM, HR.out]; exact edits_small _ _ _ (fun t ht => by cases ht) HSM.out)
    have HTA := Lib.hid (show (tabs A).length ≤ 1000000 from by
      have h1 : tabs A = tabs (levelD M) := alike_tabs (v := (⟨.slice pa0 (A 0).length pc0, .slice pa1 (A 1).length pc1, .slice pa2 (A 2).length pc2, .slice pa3 (A 3).length pc3, pl, ps, pn⟩ : Vn)) (d := (⟨.slice qa M.length qc, ql, qs, qn⟩ : Dn)) HAL.out.1
      rw [h1]
      have h2 := tabsTo_le M 4
      rw [tabsTo_four] at h2
      have h3 := HML.out
      have h4 : (tabs (levelD M)).length ≤ 4 * M.length := h2
      omega)
    have HT7 := Lib.hid hT7
    have HB8 := Lib.hid (HB7.out.alloc HB7.out.size (boxD (⟨.slice qa M.length qc, ql, qs, qn⟩ : Dn)))
    have HV8 := Lib.hid (HV7.out.kept (below_of_alloc (boxD (⟨.slice qa M.length qc, ql, qs, qn⟩ : Dn))))
    have HE8 := Lib.hid (HE7.out.kept (below_of_alloc (boxD (⟨.slice qa M.length qc, ql, qs, qn⟩ : Dn))))
    have HT8 := Lib.hid (HT7.out.kept (below_of_alloc (boxD (⟨.slice qa M.length qc, ql, qs, qn⟩ : Dn))))
    have hx8 := blk_kept (below_of_alloc (w := w7) (boxD (⟨.slice qa M.length qc, ql, qs, qn⟩ : Dn))) HX7.out
    have hy8 := heap_alloc_new w7 (boxD (⟨.slice qa M.length qc, ql, qs, qn⟩ : Dn))
    have c0 : (w7.alloc (boxD (⟨.slice qa M.length qc, ql, qs, qn⟩ : Dn))).cell? ⟨w4.heap.size, 0, none⟩ = some (.slice pa0 (A 0).length pc0) := (blk_cell hx8 0).trans rfl
    have c1 : (w7.alloc (boxD (⟨.slice qa M.length qc, ql, qs, qn⟩ : Dn))).cell? ⟨w4.heap.size, 1, none⟩ = some (.slice pa1 (A 1).length pc1) := (blk_cell hx8 1).trans rfl
    have c2 : (w7.alloc (boxD (⟨.slice qa M.length qc, ql, qs, qn⟩ : Dn))).cell? ⟨w4.heap.size, 2, none⟩ = some (.slice pa2 (A 2).length pc2) := (blk_cell hx8 2).trans rfl
    have c3 : (w7.alloc (boxD (⟨.slice qa M.length qc, ql, qs, qn⟩ : Dn))).cell? ⟨w4.heap.size, 3, none⟩ = some (.slice pa3 (A 3).length pc3) := (blk_cell hx8 3).trans rfl
    have c4 : (w7.alloc (boxD (⟨.slice qa M.length qc, ql, qs, qn⟩ : Dn))).cell? ⟨w4.heap.size, 4, none⟩ = some (.int .u64 (pl.toNat : Int)) := (blk_cell hx8 4).trans rfl
    have c5 : (w7.alloc (boxD (⟨.slice qa M.length qc, ql, qs, qn⟩ : Dn))).cell? ⟨w4.heap.size, 5, none⟩ = some (.int .u64 (ps.toNat : Int)) := (blk_cell hx8 5).trans rfl
    have c6 : (w7.alloc (boxD (⟨.slice qa M.length qc, ql, qs, qn⟩ : Dn))).cell? ⟨w4.heap.size, 6, none⟩ = some (.int .u64 (pn.toNat : Int)) := (blk_cell hx8 6).trans rfl
    have d0 : (w7.alloc (boxD (⟨.slice qa M.length qc, ql, qs, qn⟩ : Dn))).cell? ⟨w7.heap.size, 0, none⟩ = some (.slice qa M.length qc) := (blk_cell hy8 0).trans rfl
    have d1 : (w7.alloc (boxD (⟨.slice qa M.length qc, ql, qs, qn⟩ : Dn))).cell? ⟨w7.heap.size, 1, none⟩ = some (.int .u64 (ql.toNat : Int)) := (blk_cell hy8 1).trans rfl
    have d2 : (w7.alloc (boxD (⟨.slice qa M.length qc, ql, qs, qn⟩ : Dn))).cell? ⟨w7.heap.size, 2, none⟩ = some (.int .u64 (qs.toNat : Int)) := (blk_cell hy8 2).trans rfl
    have d3 : (w7.alloc (boxD (⟨.slice qa M.length qc, ql, qs, qn⟩ : Dn))).cell? ⟨w7.heap.size, 3, none⟩ = some (.int .u64 (qn.toNat : Int)) := (blk_cell hy8 3).trans rfl
    have HCL := Lib.hid (show ∀ W, Below (w7.alloc (boxD (⟨.slice qa M.length qc, ql, qs, qn⟩ : Dn))).heap.size (w7.alloc (boxD (⟨.slice qa M.length qc, ql, qs, qn⟩ : Dn))) W → W.cell? ⟨w4.heap.size, 0, none⟩ = some (.slice pa0 (A 0).length pc0) ∧ W.cell? ⟨w4.heap.size, 1, none⟩ = some (.slice pa1 (A 1).length pc1) ∧ W.cell? ⟨w4.heap.size, 2, none⟩ = some (.slice pa2 (A 2).length pc2) ∧ W.cell? ⟨w4.heap.size, 3, none⟩ = some (.slice pa3 (A 3).length pc3) ∧ W.cell? ⟨w4.heap.size, 4, none⟩ = some (.int .u64 (pl.toNat : Int)) ∧ W.cell? ⟨w4.heap.size, 5, none⟩ = some (.int .u64 (ps.toNat : Int)) ∧ W.cell? ⟨w4.heap.size, 6, none⟩ = some (.int .u64 (pn.toNat : Int)) ∧ W.cell? ⟨w7.heap.size, 0, none⟩ = some (.slice qa M.length qc) ∧ W.cell? ⟨w7.heap.size, 1, none⟩ = some (.int .u64 (ql.toNat : Int)) ∧ W.cell? ⟨w7.heap.size, 2, none⟩ = some (.int .u64 (qs.toNat : Int)) ∧ W.cell? ⟨w7.heap.size, 3, none⟩ = some (.int .u64 (qn.toNat : Int)) from fun W hb => ⟨cell_kept hb c0, cell_kept hb c1, cell_kept hb c2, cell_kept hb c3, cell_kept hb c4, cell_kept hb c5, cell_kept hb c6, cell_kept hb d0, cell_kept hb d1, cell_kept hb d2, cell_kept hb d3⟩)
    have HC := Lib.hid (alike_any (⟨.slice pa0 (A 0).length pc0, .slice pa1 (A 1).length pc1, .slice pa2 (A 2).length pc2, .slice pa3 (A 3).length pc3, pl, ps, pn⟩ : Vn) A (⟨.slice qa M.length qc, ql, qs, qn⟩ : Dn) M (w7.alloc (boxD (⟨.slice qa M.length qc, ql, qs, qn⟩ : Dn))) HV8.out HT8.out HTA.out (by have := HML.out; omega) HMS.out)
    clear hx8 hy8 hT7 hn7 hb7 hM HC2 HE6 HV6 HX6 HE7 HV7 HX7 HT7
    have HZR := Lib.hid (show z = 0 → RightV A pl ps pn from fun h => by
      have h1 := HF4.out.2.1 (by rw [← HZ.out]; exact h)
      have h2 := HF4.out.1
      rw [← h2] at h1
      exact h1.rv)
    go_upto_region 6 with fail
    go_cut [47] (fun vb W => vb = .bool false ∧ Hid (Below (w7.alloc (boxD (⟨.slice qa M.length qc, ql, qs, qn⟩ : Dn))).heap.size (w7.alloc (boxD (⟨.slice qa M.length qc, ql, qs, qn⟩ : Dn))) W))
    case first =>
      go_wp2_with fail
      refine HC.out.mono ?_
      rintro e w9 ⟨b9, rfl, hb9, hbb9⟩
      have hbt : b9 = true := hb9.2 HAL.out
      subst hbt
      have HN9 := Lib.hid hbb9
      clear HC hb9 hbb9 c0 c1 c2 c3 c4 c5 c6 d0 d1 d2 d3
      obtain ⟨c0, c1, c2, c3, c4, c5, c6, d0, d1, d2, d3⟩ := HCL.out w9 HN9.out
      by_cases hz0 : z = 0
      · have q1 : (z == 0) = true := by rw [hz0]; rfl
        have HRV := Lib.hid (HZR.out hz0)
        have HC := Lib.hid (verRight_any (⟨.slice pa0 (A 0).length pc0, .slice pa1 (A 1).length pc1, .slice pa2 (A 2).length pc2, .slice pa3 (A 3).length pc3, pl, ps, pn⟩ : Vn) A w9 (HV8.out.kept HN9.out) HTA.out)
        clear hz0
        go_wp2_with fail
        refine HC.out.mono ?_
        rintro e w10 ⟨b10, rfl, hb10, hbb10⟩
        have hbt : b10 = true := hb10.2 HRV.out
        subst hbt
        have HN10 := Lib.hid (below_step HN9.out hbb10 HN9.out.size)
        clear HC hb10 hbb10
        go_wp2_with fail
        go_meet
        exact ⟨rfl, HN10⟩
      · have q1 : (z == 0) = false := by rw [beq_eq_false_iff_ne]; exact hz0
        clear hz0
        go_wp2_with fail
        go_meet
        exact ⟨rfl, HN9⟩
    case rest =>
      rename World => wa
      obtain ⟨rfl, HNA⟩ := hcut
      clear c0 c1 c2 c3 c4 c5 c6 d0 d1 d2 d3 HC
      obtain ⟨c0, c1, c2, c3, c4, c5, c6, d0, d1, d2, d3⟩ := HCL.out wa HNA.out
      have HC := Lib.hid (tablesN_any (⟨.slice pa0 (A 0).length pc0, .slice pa1 (A 1).length pc1, .slice pa2 (A 2).length pc2, .slice pa3 (A 3).length pc3, pl, ps, pn⟩ : Vn) A wa (HV8.out.kept HNA.out) HTA.out)
      go_wp2_with fail
      refine HC.out.mono ?_
      rintro e wb ⟨vt, rfl, hot, hbt⟩
      obtain ⟨tao, tc, hvt⟩ := owns_slice1 hot
      subst hvt
      obtain ⟨tl, htl⟩ : ∃ n, n = (tabs A).length := ⟨_, rfl⟩
      rw [← htl] at hot ⊢
      have htx : tl ≤ 1000000 := by have := HTA.out; omega
      have HTX := Lib.hid htx
      have HOT := Lib.hid hot
      have HBT := Lib.hid hbt
      clear HC hot hbt htl htx c0 c1 c2 c3 c4 c5 c6 d0 d1 d2 d3
      go_wp2_with fail
      go_loopw [9] (fun vi W => ∃ (i : Nat) (xs : List Value), i ≤ tl ∧ vi = .int .i64 (i : Int) ∧ Hid (W.ownsRow wa.heap.size TE 8 (.slice tao tl tc) tl xs) ∧ Hid (Below wa.heap.size wa W)) (fun vi _ => tl - (intOf vi).toNat)
      case atStart => exact ⟨0, _, Nat.zero_le _, rfl, HOT, HBT⟩
      case round =>
        obtain ⟨i, xs, hi, rfl, HO, HB⟩ := hrel
        by_cases hlt : i < tl
        · obtain ⟨g, cap2, hv, hgb, hgl, -, -, -⟩ := owns_shape HO.out (by omega)
          injection hv with h1 h2 h3
          subst h1
          have hxl : xs.length = tl * 8 := HO.out.1
          have hix : i * 8 < xs.length := by omega
          have k1 : (0 : Int) ≤ (i : Int) := by omega
          have k2 : (i : Int) < (tl : Int) := by omega
          have k3 : IntKind.i64.wrap ((i : Int) + 1) = (i : Int) + 1 := by have := HTX.out; rw [IntKind.wrap_i64]; omega
          have x0 : wr.cell? ⟨g, i * 8, none⟩ = some xs[i * 8] := by rw [HO.out.cellAt (i * 8) (by omega), List.getElem?_eq_getElem hix]
          have fz : ∀ j, wr.frozen? ⟨g, j, none⟩ = false := fun j => HO.out.frozenAt j
          have HO2 := Lib.hid (HO.out.stored (i * 8) (.int .u64 77)).1
          have HB2 := Lib.hid (HB.out.setCell (p := ⟨g, i * 8, none⟩) hgb (.int .u64 77))
          clear hxl h2 h3 hgl
          go_wp2_with fail
          go_roundw
          case rel => exact ⟨i + 1, _, hlt, by first | rfl | (congr 1), HO2, HB2⟩
          case measure => simp [intOf]; omega
        · have hil : tl = i := by omega
          subst hil
          have i1 : ¬ (tl : Int) < (tl : Int) := by omega
          rename World => wc
          have HBC := Lib.hid (below_step HNA.out HB.out HNA.out.size)
          obtain ⟨c0, c1, c2, c3, c4, c5, c6, d0, d1, d2, d3⟩ := HCL.out wc HBC.out
          have HC := Lib.hid (alike_any (⟨.slice pa0 (A 0).length pc0, .slice pa1 (A 1).length pc1, .slice pa2 (A 2).length pc2, .slice pa3 (A 3).length pc3, pl, ps, pn⟩ : Vn) A (⟨.slice qa M.length qc, ql, qs, qn⟩ : Dn) M wc (HV8.out.kept HBC.out) (HT8.out.kept HBC.out) HTA.out (by have := HML.out; omega) HMS.out)
          clear HO HB HOT
          go_wp2_with fail
          refine HC.out.mono ?_
          rintro e wd ⟨b9, rfl, hb9, hbb9⟩
          have hbt : b9 = true := hb9.2 HAL.out
          subst hbt
          have HBD := Lib.hid (below_step HBC.out hbb9 HBC.out.size)
          have HWD := Lib.hid (below_step HB8.out HBD.out HB8.out.size)
          have HEO := Lib.hid (HE8.out.kept HBD.out)
          have HEI := Lib.hid (HE.out.kept HWD.out)
          clear HC hb9 hbb9 c0 c1 c2 c3 c4 c5 c6 d0 d1 d2 d3 i1
          go_wp2_with fail
          go_loopw [10] (fun vi W => ∃ i : Nat, i ≤ ds.length ∧ vi = .int .i64 (i : Int) ∧ Hid (Below wd.heap.size wd W)) (fun vi _ => ds.length - (intOf vi).toNat)
          case atStart => exact ⟨0, Nat.zero_le _, rfl, Lib.hid (Below.refl _ _)⟩
          case round =>
            obtain ⟨i, hi, rfl, HB⟩ := hrel
            by_cases hlt : i < ds.length
            · have HEI2 := Lib.hid (HEI.out.kept HB.out)
              have HEO2 := Lib.hid (HEO.out.kept HB.out)
              have HLT := Lib.hid hlt
              obtain ⟨d, hd⟩ : ∃ d, d = ds[i]'HLT.out := ⟨_, rfl⟩
              have HD := Lib.hid hd
              have hrowi := HEI2.out.row
              rw [HAV.out] at hrowi
              obtain ⟨ib, iof, icap, hve, hcs⟩ := elems_shape encEc_len hrowi (by rw [HEI2.out.len]; omega)
              injection hve with hx1 hx2 hx3
              subst hx1
              have hlei : i < es.length := by rw [HEI2.out.len]; omega
              have hcxi := hcs i hlei
              obtain ⟨xi, hxi⟩ : ∃ x, x = es[i] := ⟨_, rfl⟩
              have hati := HEI2.out.at' i hlei hlt
              rw [← hxi] at hcxi hati
              obtain ⟨iea, ied, iel, ieq, ien⟩ := xi
              rw [← hd] at hati
              obtain ⟨iaa, iac, hta⟩ := elems_slice hati.add
              obtain ⟨ida, idc, htd⟩ := elems_slice hati.drop
              dsimp only at hta htd
              subst hta htd
              have n0 : wr.cell? ⟨ib, iof + i * 5, none⟩ = some (.slice iaa d.1.length iac) := hcxi 0 (by omega)
              have n1 : wr.cell? ⟨ib, iof + i * 5 + 1, none⟩ = some (.slice ida d.2.1.length idc) := hcxi 1 (by omega)
              clear hrowi hcs hx2 hx3 hxi hcxi
              have hrowo := HEO2.out.row
              obtain ⟨ob, oof, ocap, hve, hcs⟩ := elems_shape encEc_len hrowo (by rw [HEO2.out.len]; omega)
              injection hve with hx1 hx2 hx3
              subst hx1
              have hleo : i < es2.length := by rw [HEO2.out.len]; omega
              have hcxo := hcs i hleo
              obtain ⟨xo, hxo⟩ : ∃ x, x = es2[i] := ⟨_, rfl⟩
              have hato := HEO2.out.at' i hleo hlt
              rw [← hxo] at hcxo hato
              obtain ⟨oea, oed, oel, oeq, oen⟩ := xo
              rw [← hd] at hato
              obtain ⟨oaa, oac, hta⟩ := elems_slice hato.add
              obtain ⟨oda, odc, htd⟩ := elems_slice hato.drop
              dsimp only at hta htd
              subst hta htd
              have o0 : wr.cell? ⟨ob, oof + i * 5, none⟩ = some (.slice oaa d.1.length oac) := hcxo 0 (by omega)
              have o1 : wr.cell? ⟨ob, oof + i * 5 + 1, none⟩ = some (.slice oda d.2.1.length odc) := hcxo 1 (by omega)
              clear hrowo hcs hx2 hx3 hxo hcxo
              have HDL := Lib.hid (show d.1.length ≤ 30 ∧ d.2.1.length ≤ 30 from by have := HOK.out d (by rw [hd]; exact List.getElem_mem _); exact ⟨this.1, this.2.1⟩)
              obtain ⟨al, hal⟩ : ∃ n, n = d.1.length := ⟨_, rfl⟩
              obtain ⟨dl, hdl⟩ : ∃ n, n = d.2.1.length := ⟨_, rfl⟩
              have HSA := Lib.hid (show ∀ W, Below wr.heap.size wr W → Calls Try.prog 17 #[.slice oaa al oac, .slice iaa al iac] W (fun e w' => e = .returned (.bool true) ∧ Below W.heap.size W w') from fun W hb => by
                have h1 := same_any _ _ d.1 d.1 W (hato.add.kept hb) (hati.add.kept hb) (by have := HDL.out.1; omega) (by have := HDL.out.1; omega)
                rw [show decide (d.1 = d.1) = true from by simp] at h1
                rw [hal]
                exact h1)
              have HDO := Lib.hid hato.drop
              have HDI := Lib.hid hati.drop
              rw [← hal] at o0 n0
              rw [← hdl] at o1 n1
              have k1 : (0 : Int) ≤ (i : Int) := by omega
              have k2 : (i : Int) < (ds.length : Int) := by omega
              have k3 : IntKind.i64.wrap ((i : Int) + 1) = (i : Int) + 1 := by have := HLE.out; rw [IntKind.wrap_i64]; omega
              have HDL2 := Lib.hid hdl
              have HCL2 := Lib.hid (show ∀ W, Below wr.heap.size wr W → W.cell? ⟨ob, oof + i * 5, none⟩ = some (.slice oaa al oac) ∧ W.cell? ⟨ob, oof + i * 5 + 1, none⟩ = some (.slice oda dl odc) ∧ W.cell? ⟨ib, iof + i * 5, none⟩ = some (.slice iaa al iac) ∧ W.cell? ⟨ib, iof + i * 5 + 1, none⟩ = some (.slice ida dl idc) from fun W hb => ⟨cell_kept hb o0, cell_kept hb o1, cell_kept hb n0, cell_kept hb n1⟩)
              clear hati hato hal hdl hd hlt
              go_upto_region 18 with fail
              go_cut [103] (fun vb W => vb = .bool false ∧ Hid (Below wr.heap.size wr W))
              case first =>
                go_region_held3 (fun W => W.cell? ⟨ob, oof + i * 5, none⟩ = some (.slice oaa al oac) ∧ W.cell? ⟨ob, oof + i * 5 + 1, none⟩ = some (.slice oda dl odc) ∧ W.cell? ⟨ib, iof + i * 5, none⟩ = some (.slice iaa al iac) ∧ W.cell? ⟨ib, iof + i * 5 + 1, none⟩ = some (.slice ida dl idc))
                  (go_keep)
                  (first
                    | (go_at_call 17; refine (HSA.out _ (by first | exact (Below.refl _ _).drew | exact Below.refl _ _)).mono ?_; rintro eO wO ⟨rfl, hbO⟩; have HBO := Lib.hid (show Below wr.heap.size wr wO from below_step (by first | exact (Below.refl _ _).drew | exact Below.refl _ _) hbO (Nat.le_refl _)); obtain ⟨o0, o1, n0, n1⟩ := HCL2.out wO HBO.out; clear hbO)
                    )
                all_goals (go_wp2_with fail; go_meet; exact ⟨rfl, HBO⟩)
              case rest =>
                rename World => we
                obtain ⟨rfl, HBE⟩ := hcut
                clear o0 o1 n0 n1
                go_wp2_with fail
                go_loopw [11] (fun vk W => ∃ k : Nat, k ≤ dl ∧ vk = .int .i64 (k : Int) ∧ Hid (Below wd.heap.size wd W) ∧ Hid (Below wr.heap.size wr W)) (fun vk _ => dl - (intOf vk).toNat)
                case atStart => exact ⟨0, Nat.zero_le _, rfl, Lib.hid (below_step HB.out HBE.out HB.out.size), HBE⟩
                case round =>
                  obtain ⟨k, hk, rfl, HBK, HBR⟩ := hrel
                  by_cases hlk : k < dl
                  · have hkd : k < d.2.1.length := by have := HDL2.out; omega
                    have HKD := Lib.hid hkd
                    have HLK := Lib.hid hlk
                    obtain ⟨u, hu⟩ : ∃ u, u = d.2.1[k]'HKD.out := ⟨_, rfl⟩
                    obtain ⟨p1, p2, p3, hve, hcs1⟩ := elems_shape encU_len (HDO.out.kept HBR.out) (by omega)
                    injection hve with hx1 hx2 hx3
                    subst hx1
                    obtain ⟨q1, q2, q3, hve, hcs2⟩ := elems_shape encU_len (HDI.out.kept HBR.out) (by omega)
                    injection hve with hx4 hx5 hx6
                    subst hx4
                    have c1 : wr.cell? ⟨p1, p2 + k, none⟩ = some (.int .u64 (u.toNat : Int)) := by rw [hu]; have := hcs1 k hkd 0 (by omega); simpa using this
                    have c2 : wr.cell? ⟨q1, q2 + k, none⟩ = some (.int .u64 (u.toNat : Int)) := by rw [hu]; have := hcs2 k hkd 0 (by omega); simpa using this
                    obtain ⟨o0, o1, n0, n1⟩ := HCL2.out _ HBR.out
                    have k4 : (0 : Int) ≤ (k : Int) := by omega
                    have k5 : (k : Int) < (dl : Int) := by omega
                    have k6 : IntKind.i64.wrap ((k : Int) + 1) = (k : Int) + 1 := by have := HDL.out.2; have := HDL2.out; rw [IntKind.wrap_i64]; omega
                    clear hu hcs1 hcs2 hx2 hx3 hx5 hx6 hkd hlk
                    go_wp2_with fail
                    go_quiet (fail)
                    have HBK2 := Lib.hid (below_step HBK.out (show Below wr.heap.size wr (wr.drewN nq) from ⟨rfl, rfl, rfl, Nat.le_refl _, fun _ _ => rfl⟩) HBK.out.size)
                    have HBR2 := Lib.hid (below_step HBR.out (show Below wr.heap.size wr (wr.drewN nq) from ⟨rfl, rfl, rfl, Nat.le_refl _, fun _ _ => rfl⟩) HBR.out.size)
                    clear c1 c2 o0 o1 n0 n1
                    generalize wr.drewN nq = wq at *
                    go_wp2_with fail
                    go_roundw
                    case rel => exact ⟨k + 1, HLK.out, by first | rfl | (congr 1), HBK2, HBR2⟩
                    case measure => simp [intOf]; have := HLK.out; omega
                  · have hkl : dl = k := by omega
                    subst hkl
                    have i1 : ¬ (dl : Int) < (dl : Int) := by omega
                    obtain ⟨o0, o1, n0, n1⟩ := HCL2.out _ HBR.out
                    go_wp2_with fail
                    go_roundw
                    case rel => exact ⟨i + 1, HLT.out, by first | rfl | (congr 1), HBK⟩
                    case measure => simp [intOf]; have := HLT.out; omega
            · have hil : i = ds.length := by omega
              subst hil
              have i1 : ¬ (ds.length : Int) < (ds.length : Int) := by omega
              go_wp2_with fail
              refine (awake_any _).mono ?_
              rintro e w2 ⟨rfl, hb2⟩
              have hb3 := below_step HB.out hb2 HB.out.size
              have HBZ := Lib.hid (below_step HWD.out hb3 HWD.out.size)
              clear hb2 hb3
              go_wp2_with fail
              go_ret
              exact ⟨rfl, HBZ.out⟩
  · go_wp2_with fail
    refine (awake_any _).mono ?_
    rintro e w2 ⟨rfl, hb2⟩
    have HBZ := Lib.hid hb2
    clear hb2
    go_wp2_with fail
    go_ret
    exact ⟨rfl, HBZ.out⟩
end Go.Proofs.Try.Vr
