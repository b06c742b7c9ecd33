/- SkipPlays: whole, walked. -/
import Derived.Test.YthcakgnendnekaaRfW
open Go.RowKit Go.Cph Go.Cph.Skip
set_option linter.unusedVariables false
set_option linter.unusedSimpArgs false
namespace Go.Proofs.Try.SkS
attribute [local go_sem] Oper.semAt_some

theorem qTowersAny {x : Value} {l : List It} (w : World) (h : IsList w x l) :
    Calls Try.prog 22 #[x] w fun e w' => (∃ u xs, e = .returned u ∧ (∀ pre, Goes l pre → Done (kvIt l) ByteArray.empty (kvIt pre) → pre = xs) ∧ w'.ownsRow w.heap.size 3 1 u xs.length (xs.map fun y : It => Value.int .i64 y.2.2)) ∧ Below w.heap.size w w' := by
  by_cases hn : x = .pointer none
  · subst hn
    rcases h with ⟨_, rfl⟩ | ⟨p, _, _, _, e, _⟩
    · exact (cTowersNil w).mono fun e w' ⟨he, hw⟩ => ⟨⟨_, [], he, fun pre hg _ => goes_nil hg, World.ownsRow_nil _ _ _ _⟩, hw ▸ Below.refl _ _⟩
    · cases e
  · exact qTowers w h hn
theorem isList_rows0 {w : World} {x : Value} {l pre : List It} (h : IsList w x l) (hg : Goes l pre) : rowsIt 0 pre = pre := by
  rcases h with ⟨_, rfl⟩ | ⟨p, nx, nodes, v, _, _, h3, rfl, _⟩
  · rw [goes_nil hg]; rfl
  · exact rows_zero h3 hg
theorem resAt_whole {tmps : Array Value} {b : Bool} {W : World} {g : Nat} (h1 : tmps.getD 4 undef = .pointer (some ⟨g, 0, none⟩)) (h2 : W.heap[g]? = some (.cells #[.bool b] 4 (0, 0))) : ResAt Try.prog Try.f32 tmps b W :=
  ⟨4, 4, g, rfl, h1, Try.underlying4, h2⟩

set_option maxRecDepth 100000 in
set_option maxHeartbeats 4000000 in
theorem whole (x v : Value) (l : List It) (w : World) (hx : IsList w x l) (h : ItemsAt w v l) (hs : SmallIts l) :
    Calls Try.prog 32 #[x, v] w fun e w' => e = .returned (.bool true) ∧ Below w.heap.size w w' := by
  have HU := Lib.hid hx.uniq
  obtain ⟨ao, cap, hv⟩ := elems_slice h
  obtain ⟨ax, rfl⟩ : ∃ ax, x = .pointer ax := by
    rcases hx with ⟨rfl, _⟩ | ⟨p, _, _, _, rfl, _⟩ <;> exact ⟨_, rfl⟩
  subst hv
  have HX := Lib.hid hx
  have HI := Lib.hid h
  have HS := Lib.hid hs
  clear hx h hs
  refine calls_of_wp_marks Try.func32 rfl ?_
  simp only [Try.ntmps32, List.size_toArray, List.length_cons, List.length_nil, Nat.reduceAdd, Nat.reduceSub, Array.replicate_succ, Array.replicate_zero, List.push_toArray, List.append_toArray, List.nil_append, List.cons_append]
  go_wp2_with fail
  have hb0 : Below w.heap.size w (w.alloc (.cells #[.bool false] 4)) := (Below.refl _ _).alloc (Nat.le_refl _) _
  have hres := heap_alloc_new w (.cells #[.bool false] 4)
  generalize w.alloc (.cells #[.bool false] 4) = w0 at *
  have HX0 := Lib.hid (HX.out.kept hb0)
  have HR0 := Lib.hid hres
  have HB0 := Lib.hid hb0
  have hrow : Calls Try.prog 49 #[.slice ao l.length cap, .int .i64 0] w0 _ := rRow _ l 0 w0 (HI.out.kept hb0) HS.out (by omega)
  have HI0 := Lib.hid (HI.out.kept hb0)
  clear hb0 hres
  refine hrow.mono ?_
  rintro e w1 ⟨⟨u, pre, n, rfl, hg, hd, hn, ho⟩, hb⟩
  rw [isList_rows0 HX.out hg] at hn ho
  subst hn
  have HG := Lib.hid hg
  have HD := Lib.hid hd
  have HO := Lib.hid ho
  have HB1 := Lib.hid hb
  obtain ⟨au, cu, hu⟩ := owns_slice ho
  subst hu
  have hpl : pre.length ≤ 1000 := by
    have e1 := hg.told.length_le
    have e2 := HS.out.1
    simp only [kvIt, List.length_map] at e1
    omega
  clear hg hd ho hb hrow
  go_wp2_with fail
  have ht5 : ((w1.alloc (.cells #[.slice au pre.length cu] 33)).alloc (.cells #[.int .i64 0] 3)).heap[w1.heap.size]? = some (.cells #[.slice au pre.length cu] 33 (0, 0)) := blk_alloc (heap_alloc_new _ _) _
  have ht6 := heap_alloc_new (w1.alloc (.cells #[.slice au pre.length cu] 33)) (.cells #[.int .i64 0] 3)
  rw [World.size_alloc] at ht6
  have hb2 : Below w1.heap.size w1 ((w1.alloc (.cells #[.slice au pre.length cu] 33)).alloc (.cells #[.int .i64 0] 3)) := ((Below.refl _ _).alloc (Nat.le_refl _) _).alloc (by simp) _
  have hs2 : ((w1.alloc (.cells #[.slice au pre.length cu] 33)).alloc (.cells #[.int .i64 0] 3)).heap.size = w1.heap.size + 2 := by simp
  generalize (w1.alloc (.cells #[.slice au pre.length cu] 33)).alloc (.cells #[.int .i64 0] 3) = w2 at *
  have H5 := Lib.hid ht5
  have H6 := Lib.hid ht6
  have HB2 := Lib.hid hb2
  have HS2 := Lib.hid hs2
  clear ht5 ht6 hb2 hs2
  refine (cFrom ax ByteArray.empty w2).mono ?_
  rintro e w3 ⟨rfl, hbx⟩
  have HB3 := Lib.hid hbx.bel
  have HS3 := Lib.hid hbx.size
  clear hbx
  have hrn := run_from_nil w2.heap.size w3
  go_wp2_with fail
  clear hrn
  refine (cFrom ax ByteArray.empty w3).mono ?_
  rintro e w4 ⟨rfl, hbx⟩
  have HX4 := Lib.hid hbx
  have HBF := Lib.hid ((HB2.out.trans (HB3.out.mono HB2.out.size)).trans (hbx.bel.mono (Nat.le_trans HB2.out.size HB3.out.size)))
  clear hbx
  go_wp2_with fail
  obtain ⟨C, hC⟩ : ∃ C, C = w3.heap.size := ⟨_, rfl⟩
  rw [← hC]
  have HC' := Lib.hid hC
  clear hC
  have hl1 : w1.heap.size + 4 ≤ w3.heap.size ∧ w3.heap.size + 2 = w4.heap.size := by
    have e1 := HX4.out.size
    have e2 := HS3.out
    have e3 := HS2.out
    omega
  have hl2 := hl1.2
  replace hl1 := hl1.1
  obtain ⟨L, hL, hseq⟩ := from_tells_any (HX0.out.kept HB1.out) ByteArray.empty C (C + 1)
  refine' wp_rangeFunc_tells (gf := 39) (lb := #[.pointer (some ⟨C, 0, none⟩), .pointer (some ⟨C + 1, 0, none⟩)]) rfl (enters_of Try.func39 (by kernel_rfl) rfl)
    hseq (fun _ => rfl)
    (fun pr Z => Told (kvIt l) ByteArray.empty pr ∧ Touched (fun k => k = w1.heap.size + 1) w4 Z ∧ Z.heap[w1.heap.size + 1]? = some (.cells #[.int .i64 pr.length] 3 (0, 0)))
    (fun _ _ _ => False) ?hI (fun _ _ _ _ h _ => h) ?hIL ?h0 _ ?assign ?body ?done ?stop
  case assign =>
    intro l x W K hK
    gi_wp2
    exact hK
  case stop => exact fun _ _ _ _ _ h _ => h.elim
  case hI =>
    rintro s A A' ⟨h1, h2, h3⟩ hk
    exact ⟨h1, touched_kept h2 hk, hk.cells h3⟩
  case hIL =>
    rintro pr Z ⟨h1, h2, _⟩
    have e1 := HC'.out
    have hbel := HBF.out.trans (h2.below (B := w1.heap.size) HBF.out.size (fun j hj => by omega))
    refine hL _ _ ⟨?_, ?_, (HX0.out.kept HB1.out).kept hbel⟩
    · rw [e1]; exact touched_cell h2 HX4.out.list (by omega)
    · rw [e1]; exact touched_cell h2 HX4.out.key (by omega)
  case h0 => exact ⟨.nil, .refl _ _, blk_kept HX4.out.bel (blk_kept HB3.out H6.out)⟩
  case body =>
    rintro ll pr ⟨k, xv⟩ Z ⟨h1, h2, h3⟩ hx
    obtain ⟨t, ht⟩ := (h1.snoc hx).prefix (kvIt_uniq HU.out) HG.out.told HD.out
    have hlen : (kvIt pre).length = pre.length := by simp [kvIt]
    have hlt : pr.length < pre.length := by rw [← hlen, ← ht]; simp
    have hat : (kvIt pre)[pr.length]? = some (k, xv) := by rw [← ht]; simp
    have hk : pre[pr.length].1 = k ∧ pre[pr.length].2.1 = xv := by
      simp only [kvIt, List.getElem?_map, List.getElem?_eq_getElem hlt, Option.map_some, Option.some.injEq, Prod.mk.injEq] at hat
      exact hat
    obtain ⟨g, cg, hgv, _, hg2, _, hgc, _⟩ := owns_shape HO.out (by omega)
    cases hgv
    have c1 : w1.cell? ⟨g, pr.length * 3, none⟩ = some (.string k) := by
      have := hgc (pr.length * 3 + 0) (by omega)
      rw [flat_at encIt_len _ _ hlt 0 (by omega), Nat.add_zero] at this
      rw [this, ← hk.1]; rfl
    have c2 : w1.cell? ⟨g, pr.length * 3 + 1, none⟩ = some (.string xv) := by
      have := hgc (pr.length * 3 + 1) (by omega)
      rw [flat_at encIt_len _ _ hlt 1 (by omega)] at this
      rw [this, ← hk.2]; rfl
    replace c1 := touched_cell h2 (Go.Cph.cell_kept HBF.out c1) (by omega)
    replace c2 := touched_cell h2 (Go.Cph.cell_kept HBF.out c2) (by omega)
    have c3 := (blk_one (touched_blk h2 (blk_kept HX4.out.bel (blk_kept HB3.out H5.out)) (by omega))).1
    have c4 := (blk_one h3).1
    have f4 := (blk_one h3).2
    have z1 : (k.toList == k.toList) = true := by simp
    have z2 : (xv.toList == xv.toList) = true := by simp
    have H1' := Lib.hid (h1.snoc hx)
    have H2 := Lib.hid h2
    have H3' := Lib.hid h3
    clear h1 h2 h3 hx ht hat hgc hk hlen
    gi_wp2
    refine ⟨(KeepsOthers.setCell _ _ _).from _, trivial, H1'.out, ?_, ?_⟩
    · exact ⟨H2.out.os, H2.out.tape, H2.out.output, by rw [World.size_setCell]; exact H2.out.size, fun j hj hn => (blk_set_other hn).trans (H2.out.block j hj hn)⟩
    · rw [List.length_append]; exact blk_one_set H3'.out _
  case done =>
    rintro D ys Z hD hS2 ⟨h1, h2, h3⟩ hK
    obtain rfl := h1.same (kvIt_uniq HU.out) hS2 HG.out.told HD.out
    have hlen : (kvIt pre).length = pre.length := by simp [kvIt]
    rw [hlen] at h3
    have hbel := HBF.out.trans (h2.below (B := w1.heap.size) HBF.out.size (fun j hj => by omega))
    have htow := qTowersAny Z ((HX0.out.kept HB1.out).kept hbel)
    have c3 := (blk_one (touched_blk h2 (blk_kept HX4.out.bel (blk_kept HB3.out H5.out)) (by omega))).1
    have H5Z := Lib.hid (touched_blk h2 (blk_kept HX4.out.bel (blk_kept HB3.out H5.out)) (by omega))
    have c4 := (blk_one h3).1
    have H6Z := Lib.hid h3
    have HBZ := Lib.hid hbel
    have HDK := Lib.hid hK
    have HDL := Lib.hid hD
    have HRZ := Lib.hid (blk_kept hbel (blk_kept HB1.out HR0.out))
    have HOZ := Lib.hid (row_kept HO.out (w' := Z) fun k hk => hbel.block k (HO.out.lt k hk).2)
    clear h1 h2 h3 hS2 hlen hbel hK hD
    go_wp2_with fail
    refine htow.mono ?_
    rintro e w5 ⟨⟨tu, xs, rfl, hpre, hto⟩, hb5⟩
    obtain rfl := hpre pre HG.out HD.out
    have c5 := Go.Cph.cell_kept hb5 c3
    have c6 := Go.Cph.cell_kept hb5 c4
    have HTO := Lib.hid hto
    have HB5 := Lib.hid hb5
    obtain ⟨at', ct, htu⟩ := owns_slice hto
    subst htu
    clear hpre hto hb5 htow c3 c4
    go_wp2_with fail
    go_loopw [10] (fun i wr => ∃ k : Nat, k ≤ pre.length ∧ i = .int .i64 k ∧ Below w5.heap.size w5 wr) (fun i _ => pre.length - (intOf i).toNat)
    case atStart => exact ⟨0, by omega, rfl, Below.refl _ _⟩
    case round =>
      obtain ⟨k, hk, rfl, hbw⟩ := hrel
      have HBW := Lib.hid hbw
      have c7 := Go.Cph.cell_kept hbw c5
      by_cases hlt : k < pre.length
      · obtain ⟨g, cg, hgv, _, hg2, _, hgc, _⟩ := owns_shape HOZ.out (by omega)
        cases hgv
        obtain ⟨g', cg', hgv', _, hg2', _, hgc', _⟩ := owns_shape HTO.out (by omega)
        cases hgv'
        have d1 : w5.cell? ⟨g, k * 3 + 2, none⟩ = some (.int .i64 pre[k].2.2) := by
          have := hgc (k * 3 + 2) (by omega)
          rw [flat_at encIt_len _ _ hlt 2 (by omega)] at this
          exact Go.Cph.cell_kept HB5.out this
        have d2 : w5.cell? ⟨g', k, none⟩ = some (.int .i64 pre[k].2.2) := by
          have := hgc' k (by omega)
          rw [List.getElem?_map, List.getElem?_eq_getElem hlt] at this
          exact this
        replace d1 := Go.Cph.cell_kept hbw d1
        replace d2 := Go.Cph.cell_kept hbw d2
        have k0 : (0 : Int) ≤ (k : Int) := by omega
        have k1 : (k : Int) < (pre.length : Int) := by omega
        generalize pre[k].2.2 = hh at *
        have z1 : ((hh : Int) == (hh : Int)) = true := by simp
        clear hgc hgc' hbw
        go_wp2_with fail
        go_quiet (fail)
        go_wp2_with fail
        go_roundw
        case rel => exact ⟨k + 1, by omega, by go_num, below_drewN HBW.out _⟩
        case measure => simp [intOf]; omega
      · have k1 : ¬ (k : Int) < (pre.length : Int) := by omega
        have HB6 := Lib.hid ((HBZ.out.trans (HB5.out.mono HBZ.out.size)).trans (HBW.out.mono (Nat.le_trans HBZ.out.size HB5.out.size)))
        have hdk := blk_kept hbw (blk_kept HB5.out HDK.out)
        have HD6 := Lib.hid hdk
        have HR6 := Lib.hid (blk_kept hbw (blk_kept HB5.out HRZ.out))
        clear hbw hdk c5 c6 c7
        go_wp2_with fail
        obtain ⟨wo, rfl⟩ : ∃ wo : World, wo = wr := ⟨_, rfl⟩
        go_loopw [11] (fun i wr => ∃ m : Nat, m ≤ 14 ∧ i = .int .i64 ((m : Int) - 1) ∧ Below wo.heap.size wo wr) (fun i _ => (14 - (intOf i + 1).toNat))
        case atStart => exact ⟨0, by omega, rfl, Below.refl _ _⟩
        case round =>
          obtain ⟨m, hm, rfl, hbw⟩ := hrel
          have HBM := Lib.hid hbw
          by_cases hlt2 : m < 14
          · have m1 : (m : Int) - 1 ≤ 12 := by omega
            have HXM := Lib.hid (((HX0.out.kept HB1.out).kept HB6.out).kept hbw)
            have HIM := Lib.hid (((HI0.out.kept HB1.out).kept HB6.out).kept hbw)
            have hq := qRow ((m : Int) - 1) wr HXM.out
            clear hbw
            obtain ⟨lv, hlv⟩ : ∃ lv : Int, lv = (m : Int) - 1 := ⟨_, rfl⟩
            rw [← hlv] at hq m1 ⊢
            have HLV := Lib.hid hlv
            have m2 : -1 ≤ lv := by omega
            clear hlv
            go_wp2_with fail
            refine hq.mono ?_
            rintro e z1 ⟨⟨u, keys, rfl, hk2, ho2⟩, hb1⟩
            have hlr := lawRow wr.heap.size u (.slice ao l.length cap) keys l lv z1 ho2 hb1.size (HIM.out.kept hb1) HS.out hk2.len hk2.neg hk2.pos
            have HBN := Lib.hid hb1
            clear hb1 ho2 hk2 hq
            go_wp2_with fail
            refine hlr.mono ?_
            rintro e z2 ⟨rfl, hb2⟩
            have HBO := Lib.hid (HBM.out.trans ((HBN.out.trans hb2).mono HBM.out.size))
            clear hb2 hlr
            go_wp2_with fail
            go_roundw
            case rel => exact ⟨m + 1, by omega, by have := HLV.out; congr 1; omega, HBO.out⟩
            case measure => have := HLV.out; simp [intOf]; omega
          · have m1 : ¬ (m : Int) - 1 ≤ 12 := by omega
            have hr := blk_kept hbw HR6.out
            have c8 := (blk_one hr).1
            have f8 := (blk_one hr).2
            have HR7 := Lib.hid (blk_one_set hr (.bool true))
            have hdk := blk_kept hbw HD6.out
            have HD7 := Lib.hid hdk
            have HB7 := Lib.hid ((below_step HB0.out (below_step HB1.out (HB6.out.trans (hbw.mono HB6.out.size)) HB1.out.size) HB0.out.size))
            clear hbw hr hdk
            go_wp2_with fail
            have hne : D ≠ w.heap.size := by
              have e1 := HDL.out
              have e2 := HB0.out.size
              have e3 := HB1.out.size
              have e4 := HX4.out.bel.size
              omega
            refine leaves1 ((blk_set_other (by exact hne)).trans HD7.out) (by have e1 := HDL.out; have e2 := HB0.out.size; have e3 := HB1.out.size; omega) (resAt_whole rfl HR7.out) (HB7.out.setCell (p := ⟨w.heap.size, 0, none⟩) (Nat.le_refl _) _) fun w' h => ⟨rfl, h⟩
end Go.Proofs.Try.SkS
