/- The walk of VersionBack. -/
import Derived.Test.YtkeaalacepjadaaVL
import Derived.Test.YtkeaalacepjadaaVv1
import Derived.Test.YtkeaalacepjadaaVI
set_option linter.unusedVariables false
set_option linter.unusedSimpArgs false
set_option maxRecDepth 100000
namespace Go.Proofs.Try.Vr
open Go.RowKit Go.Cph Go.Cph.Skip Go.Cph.So Go.Cph.Ve
open Go.Proofs.Try.Sq (row_kept1 grown_below grown_set encU encU_len TU TUs infoU)

structure BkSt (w : World) (v : Vn) (A : Nat → List Tb) (W : World) : Prop where
  box : W.heap[w.heap.size]? = some (boxV v)
  own : VerOwn W (w.heap.size + 1) v A
  bel : Below w.heap.size w W
theorem BkSt.kept {w W W' : World} {v : Vn} {A : Nat → List Tb} (h : BkSt w v A W) (hb : Below W.heap.size W W') : BkSt w v A W' :=
  ⟨blk_kept hb h.box, h.own.kept hb, below_step h.bel hb h.bel.size⟩
theorem BkSt.turn {w W : World} {v v' : Vn} {A A' : Nat → List Tb} (h : BkSt w v A W) (ho : VerOwn W (w.heap.size + 1) v' A') : BkSt w v' A' (put7 W w.heap.size v') := by
  refine ⟨box_put7 h.box rfl v', ho.keep (w' := put7 W w.heap.size v') (some w.heap.size) (grown_put7 _ _ _) fun k hk p hp e => ?_, below_put7 h.bel (Nat.le_refl _) v'⟩
  have := ((ho.own k hk).lt p hp).1
  have e2 : w.heap.size = p := by injection e
  omega
def BkInv (ds : List Ed) (i : Nat) (M : List Tb) (v : Vn) (A : Nat → List Tb) : Prop :=
  editsD [] (0, 0, 1) (ds.take i) = (0, M, v.log, v.seq, v.nxt) ∧ Rel A M (v.log, v.seq, v.nxt) ∧ M.length + sumA (ds.drop i) ≤ 100000
theorem BkInv.next {ds : List Ed} {i : Nat} {M : List Tb} {u v' : Vn} {A A' : Nat → List Tb} {r : Int × List Tb × Nm} (h : BkInv ds i M u A) (hi : i < ds.length) (hr : r = doD M (u.log, u.seq, u.nxt) ds[i]) (hz : r.1 = 0) (hn : (v'.log, v'.seq, v'.nxt) = r.2.2) (hR : Rel A' r.2.1 r.2.2) :
    BkInv ds (i + 1) r.2.1 v' A' := by
  refine ⟨?_, by rw [hn]; exact hR, ?_⟩
  · rw [edits_next hi h.1, ← hr, hn]
    exact Prod.ext hz rfl
  · have h1 := doD_len M (u.log, u.seq, u.nxt) ds[i]
    rw [← hr] at h1
    have h2 := sum_drop hi
    have h3 := h.2.2
    omega
theorem sum_le {ds : List Ed} {n : Nat} (h : ∀ d ∈ ds, d.1.length ≤ n) : sumA ds ≤ n * ds.length := by
  unfold sumA
  induction ds with
  | nil => simp
  | cons d ds ih =>
    have h1 := h d (by simp)
    have h2 := ih fun d hd => h d (by simp [hd])
    simp only [List.map_cons, List.sum_cons, List.length_cons]
    rw [Nat.mul_succ]
    omega
theorem made_len : ∀ (ds : List Ed) (s : List Tb × Nm), (madeD s ds).1.length ≤ s.1.length + sumA ds
  | [], s => Nat.le_add_right _ _
  | d :: ds, s => by
    have h := made_len ds (madeStep s d)
    have e : madeD s (d :: ds) = madeD (madeStep s d) ds := rfl
    have h2 : (madeStep s d).1.length ≤ s.1.length + d.1.length := by
      unfold madeStep
      split
      · exact doD_len s.1 s.2 d
      · exact Nat.le_add_right _ _
    have h3 : sumA (d :: ds) = d.1.length + sumA ds := by unfold sumA; rw [List.map_cons, List.sum_cons]
    rw [e, h3]
    omega
theorem rel_lens {A : Nat → List Tb} {L : List Tb} {m : Nm} (h : Rel A L m) {N : Nat} (hn : L.length ≤ N) (hN : 4 * N ≤ 1000000) : (∀ k, k < 4 → (A k).length ≤ 1000000) ∧ (tabs A).length ≤ 1000000 :=
  ⟨fun k hk => Nat.le_trans (lvs_lens h.lvs hn k hk) (by omega), Nat.le_trans (lvs_tabs h.lvs hn) hN⟩

set_option maxHeartbeats 16000000 in
theorem back_any (av : Value) (es : List Es) (ds : List Ed) (w : World) (hE : EdsAt w av es ds) : Calls Try.prog 6 #[av] w (fun e w' => e = .returned (.bool true) ∧ Below w.heap.size w w') := by
  obtain ⟨ao, cap, hav⟩ := elems_slice hE.row
  rw [hE.len] at hav
  have HE := Lib.hid hE
  have HAV := Lib.hid hav
  have HC := Lib.hid (great_any av (.slice none 0 0) es ds [] w hE ⟨_, _, rfl, fun h => absurd h (by simp)⟩ (by simp))
  rw [hav] at HC
  rw [hav]
  clear hE hav
  go_enter Try.func6, Try.ntmps6
  go_wp2_with fail
  refine HC.out.mono ?_
  rintro e w1 ⟨b, rfl, hb, rfl⟩
  have HG := Lib.hid hb
  clear HC hb
  cases b
  · obtain ⟨hl, hok, -⟩ := HG.out rfl
    have hsum : sumA ds ≤ 100000 := by
      have := sum_le (n := 30) (ds := ds) fun d hd => (hok d hd).1
      omega
    have hs6 : sumA ds ≤ 600 := by
      have := sum_le (n := 30) (ds := ds) fun d hd => (hok d hd).1
      omega
    have HS6 := Lib.hid hs6
    clear hs6
    have HLE := Lib.hid hl
    have HOK := Lib.hid hok
    have HSU := Lib.hid hsum
    have HC := Lib.hid (made_any av es ds w HE.out (by omega) (fun d hd => ⟨(hok d hd).1, by have := (hok d hd).2.1; omega⟩) hsum)
    rw [HAV.out] at HC
    clear hl hok hsum HG
    go_wp2_with fail
    refine HC.out.mono ?_
    rintro e w2 ⟨u, A, rfl, ho2, hrel, hnm, hb2⟩
    have HO2 := Lib.hid ho2
    have HNM := Lib.hid hnm
    have HB2 := Lib.hid hb2
    have hrel2 : Rel A (madeD ([], 0, 0, 1) ds).1 (u.log, u.seq, u.nxt) := by rw [hnm]; exact hrel
    have HRL := Lib.hid hrel2
    have HLN := Lib.hid (show (∀ k, k < 4 → (A k).length ≤ 1000000) ∧ (tabs A).length ≤ 1000000 from rel_lens hrel2 (N := 100000) (by have := made_len ds ([], 0, 0, 1); have := HSU.out; simp only [List.length_nil] at *; omega) (by omega))
    have HLT4 := Lib.hid (show (tabs A).length ≤ 100000 from by have := lvs_tabs hrel2.lvs (N := 600) (by have := made_len ds ([], 0, 0, 1); have := HS6.out; simp only [List.length_nil] at *; omega); omega)
    clear ho2 hrel hnm hb2 hrel2 HC
    obtain ⟨x0, x1, x2, x3, ul, us, un⟩ := u
    obtain ⟨ua0, uc0, e0⟩ := owns_slice1 (HO2.out.own 0 (by omega))
    obtain ⟨ua1, uc1, e1⟩ := owns_slice1 (HO2.out.own 1 (by omega))
    obtain ⟨ua2, uc2, e2⟩ := owns_slice1 (HO2.out.own 2 (by omega))
    obtain ⟨ua3, uc3, e3⟩ := owns_slice1 (HO2.out.own 3 (by omega))
    dsimp only [Vn.lev] at e0 e1 e2 e3
    subst e0 e1 e2 e3
    have HB3 := Lib.hid (HB2.out.alloc HB2.out.size (boxV (⟨.slice ua0 (A 0).length uc0, .slice ua1 (A 1).length uc1, .slice ua2 (A 2).length uc2, .slice ua3 (A 3).length uc3, ul, us, un⟩ : Vn)))
    have HX3 := Lib.hid (heap_alloc_new w2 (boxV (⟨.slice ua0 (A 0).length uc0, .slice ua1 (A 1).length uc1, .slice ua2 (A 2).length uc2, .slice ua3 (A 3).length uc3, ul, us, un⟩ : Vn)))
    have HV3 := Lib.hid (VerOwn.at' (HO2.out.kept (below_of_alloc (boxV (⟨.slice ua0 (A 0).length uc0, .slice ua1 (A 1).length uc1, .slice ua2 (A 2).length uc2, .slice ua3 (A 3).length uc3, ul, us, un⟩ : Vn)))))
    have HRV := Lib.hid HRL.out.rv
    have HA1 := Lib.hid (show ∀ (W : World) (g : Nat) (x : Es), W.heap[g]? = some (boxE x) → EdAt W x (tabs A, [], ul, us, un) → Calls Try.prog 11 #[encV nVn, .slice (some ⟨g, 0, none⟩) 1 1] W (ApplyPost (0, tabs A, ul, us, un) W) from fun W g x hg hx =>
      apply_any nVn (fun _ => []) [] _ [x] [(tabs A, [], ul, us, un)] (0, tabs A, ul, us, un) W (new_at W) (by decide) (eds_one hg hx) (fun _ => ⟨rel_new, by rw [edits_one]; exact (back_edit (m := (ul, us, un)) HRV.out).symm⟩) (fun h => absurd rel_new.rv h) (by have := HLT4.out; simp [sumA]; omega) (fun d hd => by rw [List.mem_singleton] at hd; rw [hd]; simp) (by simp))
    go_wp2_with fail
    refine (show ∀ W, W = w2.alloc (boxV (⟨.slice ua0 (A 0).length uc0, .slice ua1 (A 1).length uc1, .slice ua2 (A 2).length uc2, .slice ua3 (A 3).length uc3, ul, us, un⟩ : Vn)) → Code.wp _ _ _ _ W from ?_) _ rfl
    intro w3 hw3
    rw [← hw3] at HB3 HX3 HV3
    have HQ2 := Lib.hid (show w2.heap.size < w3.heap.size from blk_lt HX3.out)
    have hx3 := HX3.out
    have c0 : w3.cell? ⟨w2.heap.size, 0, none⟩ = some (.slice ua0 (A 0).length uc0) := (blk_cell hx3 0).trans rfl
    have c1 : w3.cell? ⟨w2.heap.size, 1, none⟩ = some (.slice ua1 (A 1).length uc1) := (blk_cell hx3 1).trans rfl
    have c2 : w3.cell? ⟨w2.heap.size, 2, none⟩ = some (.slice ua2 (A 2).length uc2) := (blk_cell hx3 2).trans rfl
    have c3 : w3.cell? ⟨w2.heap.size, 3, none⟩ = some (.slice ua3 (A 3).length uc3) := (blk_cell hx3 3).trans rfl
    have c4 : w3.cell? ⟨w2.heap.size, 4, none⟩ = some (.int .u64 (ul.toNat : Int)) := (blk_cell hx3 4).trans rfl
    have c5 : w3.cell? ⟨w2.heap.size, 5, none⟩ = some (.int .u64 (us.toNat : Int)) := (blk_cell hx3 5).trans rfl
    have c6 : w3.cell? ⟨w2.heap.size, 6, none⟩ = some (.int .u64 (un.toNat : Int)) := (blk_cell hx3 6).trans rfl
    have HCL := Lib.hid (show ∀ W, Below w3.heap.size w3 W → W.cell? ⟨w2.heap.size, 0, none⟩ = some (.slice ua0 (A 0).length uc0) ∧ W.cell? ⟨w2.heap.size, 1, none⟩ = some (.slice ua1 (A 1).length uc1) ∧ W.cell? ⟨w2.heap.size, 2, none⟩ = some (.slice ua2 (A 2).length uc2) ∧ W.cell? ⟨w2.heap.size, 3, none⟩ = some (.slice ua3 (A 3).length uc3) ∧ W.cell? ⟨w2.heap.size, 4, none⟩ = some (.int .u64 (ul.toNat : Int)) ∧ W.cell? ⟨w2.heap.size, 5, none⟩ = some (.int .u64 (us.toNat : Int)) ∧ W.cell? ⟨w2.heap.size, 6, none⟩ = some (.int .u64 (un.toNat : Int)) from fun W hb => ⟨cell_kept hb c0, cell_kept hb c1, cell_kept hb c2, cell_kept hb c3, cell_kept hb c4, cell_kept hb c5, cell_kept hb c6⟩)
    clear hx3 hw3
    go_upto_region 4 with fail
    refine wp_then_intro ?_
    intro KK HKK
    go_cut [4, 5] (fun vb vz W => ∃ (bx : Nat) (v' : Vn) (A' : Nat → List Tb), vb = .pointer (some ⟨bx, 0, none⟩) ∧ vz = .int .i64 0 ∧ Hid (W.heap[bx]? = some (boxV v')) ∧ Hid (VerOwn W w3.heap.size v' A') ∧ Hid ((v'.log, v'.seq, v'.nxt) = (ul, us, un) ∧ Rel A' (tabs A) (ul, us, un)) ∧ Hid (Below w3.heap.size w3 W))
    case first =>
      clear HKK
      go_region_held3 (fun W => W.cell? ⟨w2.heap.size, 0, none⟩ = some (.slice ua0 (A 0).length uc0) ∧ W.cell? ⟨w2.heap.size, 1, none⟩ = some (.slice ua1 (A 1).length uc1) ∧ W.cell? ⟨w2.heap.size, 2, none⟩ = some (.slice ua2 (A 2).length uc2) ∧ W.cell? ⟨w2.heap.size, 3, none⟩ = some (.slice ua3 (A 3).length uc3) ∧ W.cell? ⟨w2.heap.size, 4, none⟩ = some (.int .u64 (ul.toNat : Int)) ∧ W.cell? ⟨w2.heap.size, 5, none⟩ = some (.int .u64 (us.toNat : Int)) ∧ W.cell? ⟨w2.heap.size, 6, none⟩ = some (.int .u64 (un.toNat : Int)))
        (go_keep)
        (first
          | (go_at_call 10; first | ((with_reducible show Calls _ _ _ (World.drew (World.alloc w3 _)) _); refine (new_any _).mono ?_; rintro eN wN ⟨rfl, hbN⟩; have HBN := Lib.hid (below_step (below_of_alloc (w := w3) boxZ).drew hbN (below_of_alloc (w := w3) boxZ).size); have HTA := Lib.hid (show wN.heap[w3.heap.size]? = some boxZ from blk_kept hbN (heap_alloc_new w3 boxZ)); obtain ⟨s0, s1, s2, s3, s4, s5, s6⟩ := HCL.out wN HBN.out; clear hbN) | (refine (new_any _).mono ?_; rintro eN wN ⟨rfl, hbN⟩; have HBN := Lib.hid (show Below w3.heap.size w3 wN from below_step (Below.refl _ _).drew hbN (Nat.le_refl _)); obtain ⟨s0, s1, s2, s3, s4, s5, s6⟩ := HCL.out wN HBN.out; clear hbN))
          | (go_at_call 25; first | ((with_reducible show Calls _ _ _ (World.alloc wN _) _); refine (edit_any (⟨.slice ua0 (A 0).length uc0, .slice ua1 (A 1).length uc1, .slice ua2 (A 2).length uc2, .slice ua3 (A 3).length uc3, ul, us, un⟩ : Vn) A _ ((HV3.out.kept HBN.out).kept (below_of_alloc (w := wN) boxZ)) HLN.out.2).mono ?_; intro eE wE hpE; obtain ⟨x, rfl, hxE, hbE⟩ := hpE; obtain ⟨xa, xd, xl, xs, xn⟩ := x; obtain ⟨tao, tc, hta⟩ := elems_slice hxE.add; obtain ⟨dao, dc, hda⟩ := elems_slice hxE.drop; dsimp only [List.length_nil] at hta hda; subst hta hda; have hnE := hxE.nums; dsimp only at hnE; injection hnE with h1 h2; injection h2 with h2 h3; subst h1 h2 h3; have HBE := Lib.hid (below_step (below_step HBN.out (below_of_alloc (w := wN) boxZ) HBN.out.size) hbE (below_step HBN.out (below_of_alloc (w := wN) boxZ) HBN.out.size).size); have HTB := Lib.hid (show wE.heap[wN.heap.size]? = some boxZ from blk_kept hbE (heap_alloc_new wN boxZ)); have HAP := Lib.hid (show ∀ (W : World) (g : Nat), Below wE.heap.size wE W → W.heap[g]? = some (boxE ⟨.slice tao (tabs A).length tc, .slice dao 0 dc, ul, us, un⟩) → Calls Try.prog 11 #[encV nVn, .slice (some ⟨g, 0, none⟩) 1 1] W (ApplyPost (0, tabs A, ul, us, un) W) from fun W g hb hg => HA1.out W g ⟨.slice tao (tabs A).length tc, .slice dao 0 dc, ul, us, un⟩ hg (hxE.kept hb)); obtain ⟨s0, s1, s2, s3, s4, s5, s6⟩ := HCL.out wE HBE.out) | (refine (edit_any (⟨.slice ua0 (A 0).length uc0, .slice ua1 (A 1).length uc1, .slice ua2 (A 2).length uc2, .slice ua3 (A 3).length uc3, ul, us, un⟩ : Vn) A _ (HV3.out.kept HBN.out) HLN.out.2).mono ?_; intro eE wE hpE; obtain ⟨x, rfl, hxE, hbE⟩ := hpE; obtain ⟨xa, xd, xl, xs, xn⟩ := x; obtain ⟨tao, tc, hta⟩ := elems_slice hxE.add; obtain ⟨dao, dc, hda⟩ := elems_slice hxE.drop; dsimp only [List.length_nil] at hta hda; subst hta hda; have hnE := hxE.nums; dsimp only at hnE; injection hnE with h1 h2; injection h2 with h2 h3; subst h1 h2 h3; have HBE := Lib.hid (show Below w3.heap.size w3 wE from below_step HBN.out hbE HBN.out.size); (try have HTA := Lib.hid (show wE.heap[w3.heap.size]? = some boxZ from blk_kept hbE HTA.out)); have HAP := Lib.hid (show ∀ (W : World) (g : Nat), Below wE.heap.size wE W → W.heap[g]? = some (boxE ⟨.slice tao (tabs A).length tc, .slice dao 0 dc, ul, us, un⟩) → Calls Try.prog 11 #[encV nVn, .slice (some ⟨g, 0, none⟩) 1 1] W (ApplyPost (0, tabs A, ul, us, un) W) from fun W g hb hg => HA1.out W g ⟨.slice tao (tabs A).length tc, .slice dao 0 dc, ul, us, un⟩ hg (hxE.kept hb)); obtain ⟨s0, s1, s2, s3, s4, s5, s6⟩ := HCL.out wE HBE.out); clear hxE hbE)
          | (go_at_call 11; have hguard := HTA.out; refine (HAP.out (wE.alloc (boxE ⟨.slice tao (tabs A).length tc, .slice dao 0 dc, ul, us, un⟩)) _ ((below_of_alloc (w := wE) (boxE ⟨.slice tao (tabs A).length tc, .slice dao 0 dc, ul, us, un⟩))) (heap_alloc_new wE (boxE ⟨.slice tao (tabs A).length tc, .slice dao 0 dc, ul, us, un⟩))).mono ?_; rintro e6 w6 ⟨v6, A2, rfl, ho6, hn6, hb6, hok6, -⟩; obtain ⟨x0, x1, x2, x3, pl, ps, pn⟩ := v6; obtain ⟨pa0, pc0, e0⟩ := owns_slice1 (ho6.own 0 (by omega)); obtain ⟨pa1, pc1, e1⟩ := owns_slice1 (ho6.own 1 (by omega)); obtain ⟨pa2, pc2, e2⟩ := owns_slice1 (ho6.own 2 (by omega)); obtain ⟨pa3, pc3, e3⟩ := owns_slice1 (ho6.own 3 (by omega)); dsimp only [Vn.lev] at e0 e1 e2 e3; subst e0 e1 e2 e3; have hw0 : Below w3.heap.size w3 (wE.alloc (boxE ⟨.slice tao (tabs A).length tc, .slice dao 0 dc, ul, us, un⟩)) := below_step HBE.out (((below_of_alloc (w := wE) (boxE ⟨.slice tao (tabs A).length tc, .slice dao 0 dc, ul, us, un⟩)))) HBE.out.size; have HB6 := Lib.hid (below_step hw0 hb6 hw0.size); have HF6 := Lib.hid (And.intro hn6 hok6); have hsz : w3.heap.size ≤ ((wE.alloc (boxE ⟨.slice tao (tabs A).length tc, .slice dao 0 dc, ul, us, un⟩))).heap.size := (by have := hw0.size; have := HQ2.out; have := HBN.out.size; have := HBE.out.size; omega); have hvo : VerOwn w6 (w3.heap.size) (⟨.slice pa0 (A2 0).length pc0, .slice pa1 (A2 1).length pc1, .slice pa2 (A2 2).length pc2, .slice pa3 (A2 3).length pc3, pl, ps, pn⟩ : Vn) A2 := ⟨fun k hk => owns_mono (ho6.own k hk) hsz, ho6.dif⟩; obtain ⟨s0, s1, s2, s3, s4, s5, s6⟩ := HCL.out w6 HB6.out; have hlo : w3.heap.size ≤ w3.heap.size := (by have := HBN.out.size; have := HBE.out.size; omega); have n1 : ¬ w3.heap.size = w2.heap.size := (by have := HQ2.out; have := HBN.out.size; have := HBE.out.size; omega); have n2 : ¬ w2.heap.size = w3.heap.size := (by have := HQ2.out; have := HBN.out.size; have := HBE.out.size; omega); have hx6 : w6.heap[w3.heap.size]? = some boxZ := blk_kept hb6 (blk_alloc HTA.out (boxE ⟨.slice tao (tabs A).length tc, .slice dao 0 dc, ul, us, un⟩)); have z0 : w6.cell? ⟨w3.heap.size, 0, none⟩ = some (.slice none 0 0) := (blk_cell hx6 0).trans rfl; have z1 : w6.cell? ⟨w3.heap.size, 1, none⟩ = some (.slice none 0 0) := (blk_cell hx6 1).trans rfl; have z2 : w6.cell? ⟨w3.heap.size, 2, none⟩ = some (.slice none 0 0) := (blk_cell hx6 2).trans rfl; have z3 : w6.cell? ⟨w3.heap.size, 3, none⟩ = some (.slice none 0 0) := (blk_cell hx6 3).trans rfl; have z4 : w6.cell? ⟨w3.heap.size, 4, none⟩ = some (.int .u64 0) := (blk_cell hx6 4).trans rfl; have z5 : w6.cell? ⟨w3.heap.size, 5, none⟩ = some (.int .u64 0) := (blk_cell hx6 5).trans rfl; have z6 : w6.cell? ⟨w3.heap.size, 6, none⟩ = some (.int .u64 0) := (blk_cell hx6 6).trans rfl; have fz : ∀ j, w6.frozen? ⟨w3.heap.size, j, none⟩ = false := (fun j => by rw [blk_frozen hx6]; simp); have HP := Lib.hid (box_put7 hx6 rfl (⟨.slice pa0 (A2 0).length pc0, .slice pa1 (A2 1).length pc1, .slice pa2 (A2 2).length pc2, .slice pa3 (A2 3).length pc3, pl, ps, pn⟩ : Vn)); have HQ := Lib.hid (hvo.keep (w' := put7 w6 (w3.heap.size) (⟨.slice pa0 (A2 0).length pc0, .slice pa1 (A2 1).length pc1, .slice pa2 (A2 2).length pc2, .slice pa3 (A2 3).length pc3, pl, ps, pn⟩ : Vn)) (some (w3.heap.size)) (grown_put7 _ _ _) fun k hk p hp ee => (by have := ((ho6.own k hk).lt p hp).1; have e2 : w3.heap.size = p := (by injection ee); have hxl : w3.heap.size < ((wE.alloc (boxE ⟨.slice tao (tabs A).length tc, .slice dao 0 dc, ul, us, un⟩))).heap.size := blk_lt ((blk_alloc HTA.out (boxE ⟨.slice tao (tabs A).length tc, .slice dao 0 dc, ul, us, un⟩))); omega)); have HM := Lib.hid (below_put7 HB6.out (b := w3.heap.size) hlo (⟨.slice pa0 (A2 0).length pc0, .slice pa1 (A2 1).length pc1, .slice pa2 (A2 2).length pc2, .slice pa3 (A2 3).length pc3, pl, ps, pn⟩ : Vn)); clear ho6 hn6 hb6 hok6 hw0 hsz hvo hx6 hlo)
          | (go_at_call 11; have hguard := HTB.out; refine (HAP.out (wE.alloc (boxE ⟨.slice tao (tabs A).length tc, .slice dao 0 dc, ul, us, un⟩)) _ ((below_of_alloc (w := wE) (boxE ⟨.slice tao (tabs A).length tc, .slice dao 0 dc, ul, us, un⟩))) (heap_alloc_new wE (boxE ⟨.slice tao (tabs A).length tc, .slice dao 0 dc, ul, us, un⟩))).mono ?_; rintro e6 w6 ⟨v6, A2, rfl, ho6, hn6, hb6, hok6, -⟩; obtain ⟨x0, x1, x2, x3, pl, ps, pn⟩ := v6; obtain ⟨pa0, pc0, e0⟩ := owns_slice1 (ho6.own 0 (by omega)); obtain ⟨pa1, pc1, e1⟩ := owns_slice1 (ho6.own 1 (by omega)); obtain ⟨pa2, pc2, e2⟩ := owns_slice1 (ho6.own 2 (by omega)); obtain ⟨pa3, pc3, e3⟩ := owns_slice1 (ho6.own 3 (by omega)); dsimp only [Vn.lev] at e0 e1 e2 e3; subst e0 e1 e2 e3; have hw0 : Below w3.heap.size w3 (wE.alloc (boxE ⟨.slice tao (tabs A).length tc, .slice dao 0 dc, ul, us, un⟩)) := below_step HBE.out (((below_of_alloc (w := wE) (boxE ⟨.slice tao (tabs A).length tc, .slice dao 0 dc, ul, us, un⟩)))) HBE.out.size; have HB6 := Lib.hid (below_step hw0 hb6 hw0.size); have HF6 := Lib.hid (And.intro hn6 hok6); have hsz : w3.heap.size ≤ ((wE.alloc (boxE ⟨.slice tao (tabs A).length tc, .slice dao 0 dc, ul, us, un⟩))).heap.size := (by have := hw0.size; have := HQ2.out; have := HBN.out.size; have := HBE.out.size; omega); have hvo : VerOwn w6 (w3.heap.size) (⟨.slice pa0 (A2 0).length pc0, .slice pa1 (A2 1).length pc1, .slice pa2 (A2 2).length pc2, .slice pa3 (A2 3).length pc3, pl, ps, pn⟩ : Vn) A2 := ⟨fun k hk => owns_mono (ho6.own k hk) hsz, ho6.dif⟩; obtain ⟨s0, s1, s2, s3, s4, s5, s6⟩ := HCL.out w6 HB6.out; have hlo : w3.heap.size ≤ wN.heap.size := (by have := HBN.out.size; have := HBE.out.size; omega); have n1 : ¬ wN.heap.size = w2.heap.size := (by have := HQ2.out; have := HBN.out.size; have := HBE.out.size; omega); have n2 : ¬ w2.heap.size = wN.heap.size := (by have := HQ2.out; have := HBN.out.size; have := HBE.out.size; omega); have hx6 : w6.heap[wN.heap.size]? = some boxZ := blk_kept hb6 (blk_alloc HTB.out (boxE ⟨.slice tao (tabs A).length tc, .slice dao 0 dc, ul, us, un⟩)); have z0 : w6.cell? ⟨wN.heap.size, 0, none⟩ = some (.slice none 0 0) := (blk_cell hx6 0).trans rfl; have z1 : w6.cell? ⟨wN.heap.size, 1, none⟩ = some (.slice none 0 0) := (blk_cell hx6 1).trans rfl; have z2 : w6.cell? ⟨wN.heap.size, 2, none⟩ = some (.slice none 0 0) := (blk_cell hx6 2).trans rfl; have z3 : w6.cell? ⟨wN.heap.size, 3, none⟩ = some (.slice none 0 0) := (blk_cell hx6 3).trans rfl; have z4 : w6.cell? ⟨wN.heap.size, 4, none⟩ = some (.int .u64 0) := (blk_cell hx6 4).trans rfl; have z5 : w6.cell? ⟨wN.heap.size, 5, none⟩ = some (.int .u64 0) := (blk_cell hx6 5).trans rfl; have z6 : w6.cell? ⟨wN.heap.size, 6, none⟩ = some (.int .u64 0) := (blk_cell hx6 6).trans rfl; have fz : ∀ j, w6.frozen? ⟨wN.heap.size, j, none⟩ = false := (fun j => by rw [blk_frozen hx6]; simp); have HP := Lib.hid (box_put7 hx6 rfl (⟨.slice pa0 (A2 0).length pc0, .slice pa1 (A2 1).length pc1, .slice pa2 (A2 2).length pc2, .slice pa3 (A2 3).length pc3, pl, ps, pn⟩ : Vn)); have HQ := Lib.hid (hvo.keep (w' := put7 w6 (wN.heap.size) (⟨.slice pa0 (A2 0).length pc0, .slice pa1 (A2 1).length pc1, .slice pa2 (A2 2).length pc2, .slice pa3 (A2 3).length pc3, pl, ps, pn⟩ : Vn)) (some (wN.heap.size)) (grown_put7 _ _ _) fun k hk p hp ee => (by have := ((ho6.own k hk).lt p hp).1; have e2 : wN.heap.size = p := (by injection ee); have hxl : wN.heap.size < ((wE.alloc (boxE ⟨.slice tao (tabs A).length tc, .slice dao 0 dc, ul, us, un⟩))).heap.size := blk_lt ((blk_alloc HTB.out (boxE ⟨.slice tao (tabs A).length tc, .slice dao 0 dc, ul, us, un⟩))); omega)); have HM := Lib.hid (below_put7 HB6.out (b := wN.heap.size) hlo (⟨.slice pa0 (A2 0).length pc0, .slice pa1 (A2 1).length pc1, .slice pa2 (A2 2).length pc2, .slice pa3 (A2 3).length pc3, pl, ps, pn⟩ : Vn)); clear ho6 hn6 hb6 hok6 hw0 hsz hvo hx6 hlo)
          | (go_at_call 11; (with_reducible show Calls _ _ _ ((World.alloc (World.alloc wE (.cells _ TVn _)) (.cells _ TEd _))) _); refine (HAP.out ((wE.alloc boxZ).alloc (boxE ⟨.slice tao (tabs A).length tc, .slice dao 0 dc, ul, us, un⟩)) _ (((below_of_alloc (w := wE) boxZ)).alloc (below_of_alloc (w := wE) boxZ).size (boxE ⟨.slice tao (tabs A).length tc, .slice dao 0 dc, ul, us, un⟩)) (alloc2_new wE boxZ (boxE ⟨.slice tao (tabs A).length tc, .slice dao 0 dc, ul, us, un⟩))).mono ?_; rintro e6 w6 ⟨v6, A2, rfl, ho6, hn6, hb6, hok6, -⟩; obtain ⟨x0, x1, x2, x3, pl, ps, pn⟩ := v6; obtain ⟨pa0, pc0, e0⟩ := owns_slice1 (ho6.own 0 (by omega)); obtain ⟨pa1, pc1, e1⟩ := owns_slice1 (ho6.own 1 (by omega)); obtain ⟨pa2, pc2, e2⟩ := owns_slice1 (ho6.own 2 (by omega)); obtain ⟨pa3, pc3, e3⟩ := owns_slice1 (ho6.own 3 (by omega)); dsimp only [Vn.lev] at e0 e1 e2 e3; subst e0 e1 e2 e3; have hw0 : Below w3.heap.size w3 ((wE.alloc boxZ).alloc (boxE ⟨.slice tao (tabs A).length tc, .slice dao 0 dc, ul, us, un⟩)) := below_step HBE.out ((((below_of_alloc (w := wE) boxZ)).alloc (below_of_alloc (w := wE) boxZ).size (boxE ⟨.slice tao (tabs A).length tc, .slice dao 0 dc, ul, us, un⟩))) HBE.out.size; have HB6 := Lib.hid (below_step hw0 hb6 hw0.size); have HF6 := Lib.hid (And.intro hn6 hok6); have hsz : w3.heap.size ≤ (((wE.alloc boxZ).alloc (boxE ⟨.slice tao (tabs A).length tc, .slice dao 0 dc, ul, us, un⟩))).heap.size := (by have := hw0.size; have := HQ2.out; have := HBN.out.size; have := HBE.out.size; omega); have hvo : VerOwn w6 (w3.heap.size) (⟨.slice pa0 (A2 0).length pc0, .slice pa1 (A2 1).length pc1, .slice pa2 (A2 2).length pc2, .slice pa3 (A2 3).length pc3, pl, ps, pn⟩ : Vn) A2 := ⟨fun k hk => owns_mono (ho6.own k hk) hsz, ho6.dif⟩; obtain ⟨s0, s1, s2, s3, s4, s5, s6⟩ := HCL.out w6 HB6.out; have hlo : w3.heap.size ≤ wE.heap.size := (by have := HBN.out.size; have := HBE.out.size; omega); have n1 : ¬ wE.heap.size = w2.heap.size := (by have := HQ2.out; have := HBN.out.size; have := HBE.out.size; omega); have n2 : ¬ w2.heap.size = wE.heap.size := (by have := HQ2.out; have := HBN.out.size; have := HBE.out.size; omega); have hx6 : w6.heap[wE.heap.size]? = some boxZ := blk_kept hb6 (blk_alloc (heap_alloc_new wE boxZ) (boxE ⟨.slice tao (tabs A).length tc, .slice dao 0 dc, ul, us, un⟩)); have z0 : w6.cell? ⟨wE.heap.size, 0, none⟩ = some (.slice none 0 0) := (blk_cell hx6 0).trans rfl; have z1 : w6.cell? ⟨wE.heap.size, 1, none⟩ = some (.slice none 0 0) := (blk_cell hx6 1).trans rfl; have z2 : w6.cell? ⟨wE.heap.size, 2, none⟩ = some (.slice none 0 0) := (blk_cell hx6 2).trans rfl; have z3 : w6.cell? ⟨wE.heap.size, 3, none⟩ = some (.slice none 0 0) := (blk_cell hx6 3).trans rfl; have z4 : w6.cell? ⟨wE.heap.size, 4, none⟩ = some (.int .u64 0) := (blk_cell hx6 4).trans rfl; have z5 : w6.cell? ⟨wE.heap.size, 5, none⟩ = some (.int .u64 0) := (blk_cell hx6 5).trans rfl; have z6 : w6.cell? ⟨wE.heap.size, 6, none⟩ = some (.int .u64 0) := (blk_cell hx6 6).trans rfl; have fz : ∀ j, w6.frozen? ⟨wE.heap.size, j, none⟩ = false := (fun j => by rw [blk_frozen hx6]; simp); have HP := Lib.hid (box_put7 hx6 rfl (⟨.slice pa0 (A2 0).length pc0, .slice pa1 (A2 1).length pc1, .slice pa2 (A2 2).length pc2, .slice pa3 (A2 3).length pc3, pl, ps, pn⟩ : Vn)); have HQ := Lib.hid (hvo.keep (w' := put7 w6 (wE.heap.size) (⟨.slice pa0 (A2 0).length pc0, .slice pa1 (A2 1).length pc1, .slice pa2 (A2 2).length pc2, .slice pa3 (A2 3).length pc3, pl, ps, pn⟩ : Vn)) (some (wE.heap.size)) (grown_put7 _ _ _) fun k hk p hp ee => (by have := ((ho6.own k hk).lt p hp).1; have e2 : wE.heap.size = p := (by injection ee); have hxl : wE.heap.size < (((wE.alloc boxZ).alloc (boxE ⟨.slice tao (tabs A).length tc, .slice dao 0 dc, ul, us, un⟩))).heap.size := blk_lt ((blk_alloc (heap_alloc_new wE boxZ) (boxE ⟨.slice tao (tabs A).length tc, .slice dao 0 dc, ul, us, un⟩))); omega)); have HM := Lib.hid (below_put7 HB6.out (b := wE.heap.size) hlo (⟨.slice pa0 (A2 0).length pc0, .slice pa1 (A2 1).length pc1, .slice pa2 (A2 2).length pc2, .slice pa3 (A2 3).length pc3, pl, ps, pn⟩ : Vn)); clear ho6 hn6 hb6 hok6 hw0 hsz hvo hx6 hlo)
          | (go_at_call 11; (with_reducible show Calls _ _ _ ((World.alloc (World.alloc wE (.cells _ TEd _)) (.cells _ TVn _))) _); refine (HAP.out ((wE.alloc (boxE ⟨.slice tao (tabs A).length tc, .slice dao 0 dc, ul, us, un⟩)).alloc boxZ) _ (((below_of_alloc (w := wE) (boxE ⟨.slice tao (tabs A).length tc, .slice dao 0 dc, ul, us, un⟩))).alloc (below_of_alloc (w := wE) (boxE ⟨.slice tao (tabs A).length tc, .slice dao 0 dc, ul, us, un⟩)).size boxZ) (blk_alloc (heap_alloc_new wE (boxE ⟨.slice tao (tabs A).length tc, .slice dao 0 dc, ul, us, un⟩)) _)).mono ?_; rintro e6 w6 ⟨v6, A2, rfl, ho6, hn6, hb6, hok6, -⟩; obtain ⟨x0, x1, x2, x3, pl, ps, pn⟩ := v6; obtain ⟨pa0, pc0, e0⟩ := owns_slice1 (ho6.own 0 (by omega)); obtain ⟨pa1, pc1, e1⟩ := owns_slice1 (ho6.own 1 (by omega)); obtain ⟨pa2, pc2, e2⟩ := owns_slice1 (ho6.own 2 (by omega)); obtain ⟨pa3, pc3, e3⟩ := owns_slice1 (ho6.own 3 (by omega)); dsimp only [Vn.lev] at e0 e1 e2 e3; subst e0 e1 e2 e3; have hw0 : Below w3.heap.size w3 ((wE.alloc (boxE ⟨.slice tao (tabs A).length tc, .slice dao 0 dc, ul, us, un⟩)).alloc boxZ) := below_step HBE.out ((((below_of_alloc (w := wE) (boxE ⟨.slice tao (tabs A).length tc, .slice dao 0 dc, ul, us, un⟩))).alloc (below_of_alloc (w := wE) (boxE ⟨.slice tao (tabs A).length tc, .slice dao 0 dc, ul, us, un⟩)).size boxZ)) HBE.out.size; have HB6 := Lib.hid (below_step hw0 hb6 hw0.size); have HF6 := Lib.hid (And.intro hn6 hok6); have hsz : w3.heap.size ≤ (((wE.alloc (boxE ⟨.slice tao (tabs A).length tc, .slice dao 0 dc, ul, us, un⟩)).alloc boxZ)).heap.size := (by have := hw0.size; have := HQ2.out; have := HBN.out.size; have := HBE.out.size; omega); have hvo : VerOwn w6 (w3.heap.size) (⟨.slice pa0 (A2 0).length pc0, .slice pa1 (A2 1).length pc1, .slice pa2 (A2 2).length pc2, .slice pa3 (A2 3).length pc3, pl, ps, pn⟩ : Vn) A2 := ⟨fun k hk => owns_mono (ho6.own k hk) hsz, ho6.dif⟩; obtain ⟨s0, s1, s2, s3, s4, s5, s6⟩ := HCL.out w6 HB6.out; have hlo : w3.heap.size ≤ wE.heap.size + 1 := (by have := HBN.out.size; have := HBE.out.size; omega); have n1 : ¬ wE.heap.size + 1 = w2.heap.size := (by have := HQ2.out; have := HBN.out.size; have := HBE.out.size; omega); have n2 : ¬ w2.heap.size = wE.heap.size + 1 := (by have := HQ2.out; have := HBN.out.size; have := HBE.out.size; omega); have hx6 : w6.heap[wE.heap.size + 1]? = some boxZ := blk_kept hb6 (alloc2_new wE (boxE ⟨.slice tao (tabs A).length tc, .slice dao 0 dc, ul, us, un⟩) boxZ); have z0 : w6.cell? ⟨wE.heap.size + 1, 0, none⟩ = some (.slice none 0 0) := (blk_cell hx6 0).trans rfl; have z1 : w6.cell? ⟨wE.heap.size + 1, 1, none⟩ = some (.slice none 0 0) := (blk_cell hx6 1).trans rfl; have z2 : w6.cell? ⟨wE.heap.size + 1, 2, none⟩ = some (.slice none 0 0) := (blk_cell hx6 2).trans rfl; have z3 : w6.cell? ⟨wE.heap.size + 1, 3, none⟩ = some (.slice none 0 0) := (blk_cell hx6 3).trans rfl; have z4 : w6.cell? ⟨wE.heap.size + 1, 4, none⟩ = some (.int .u64 0) := (blk_cell hx6 4).trans rfl; have z5 : w6.cell? ⟨wE.heap.size + 1, 5, none⟩ = some (.int .u64 0) := (blk_cell hx6 5).trans rfl; have z6 : w6.cell? ⟨wE.heap.size + 1, 6, none⟩ = some (.int .u64 0) := (blk_cell hx6 6).trans rfl; have fz : ∀ j, w6.frozen? ⟨wE.heap.size + 1, j, none⟩ = false := (fun j => by rw [blk_frozen hx6]; simp); have HP := Lib.hid (box_put7 hx6 rfl (⟨.slice pa0 (A2 0).length pc0, .slice pa1 (A2 1).length pc1, .slice pa2 (A2 2).length pc2, .slice pa3 (A2 3).length pc3, pl, ps, pn⟩ : Vn)); have HQ := Lib.hid (hvo.keep (w' := put7 w6 (wE.heap.size + 1) (⟨.slice pa0 (A2 0).length pc0, .slice pa1 (A2 1).length pc1, .slice pa2 (A2 2).length pc2, .slice pa3 (A2 3).length pc3, pl, ps, pn⟩ : Vn)) (some (wE.heap.size + 1)) (grown_put7 _ _ _) fun k hk p hp ee => (by have := ((ho6.own k hk).lt p hp).1; have e2 : wE.heap.size + 1 = p := (by injection ee); have hxl : wE.heap.size + 1 < (((wE.alloc (boxE ⟨.slice tao (tabs A).length tc, .slice dao 0 dc, ul, us, un⟩)).alloc boxZ)).heap.size := blk_lt ((alloc2_new wE (boxE ⟨.slice tao (tabs A).length tc, .slice dao 0 dc, ul, us, un⟩) boxZ)); omega)); have HM := Lib.hid (below_put7 HB6.out (b := wE.heap.size + 1) hlo (⟨.slice pa0 (A2 0).length pc0, .slice pa1 (A2 1).length pc1, .slice pa2 (A2 2).length pc2, .slice pa3 (A2 3).length pc3, pl, ps, pn⟩ : Vn)); clear ho6 hn6 hb6 hok6 hw0 hsz hvo hx6 hlo)
          | (go_at_call 11; (with_reducible show Calls _ _ _ ((World.alloc wE (.cells _ TEd _))) _); refine (HAP.out (wE.alloc (boxE ⟨.slice tao (tabs A).length tc, .slice dao 0 dc, ul, us, un⟩)) _ ((below_of_alloc (w := wE) (boxE ⟨.slice tao (tabs A).length tc, .slice dao 0 dc, ul, us, un⟩))) (heap_alloc_new wE (boxE ⟨.slice tao (tabs A).length tc, .slice dao 0 dc, ul, us, un⟩))).mono ?_; rintro e6 w6 ⟨v6, A2, rfl, ho6, hn6, hb6, hok6, -⟩; obtain ⟨x0, x1, x2, x3, pl, ps, pn⟩ := v6; obtain ⟨pa0, pc0, e0⟩ := owns_slice1 (ho6.own 0 (by omega)); obtain ⟨pa1, pc1, e1⟩ := owns_slice1 (ho6.own 1 (by omega)); obtain ⟨pa2, pc2, e2⟩ := owns_slice1 (ho6.own 2 (by omega)); obtain ⟨pa3, pc3, e3⟩ := owns_slice1 (ho6.own 3 (by omega)); dsimp only [Vn.lev] at e0 e1 e2 e3; subst e0 e1 e2 e3; have hw0 : Below w3.heap.size w3 (wE.alloc (boxE ⟨.slice tao (tabs A).length tc, .slice dao 0 dc, ul, us, un⟩)) := below_step HBE.out (((below_of_alloc (w := wE) (boxE ⟨.slice tao (tabs A).length tc, .slice dao 0 dc, ul, us, un⟩)))) HBE.out.size; have HB6 := Lib.hid (below_step hw0 hb6 hw0.size); have HF6 := Lib.hid (And.intro hn6 hok6); have hsz : w3.heap.size ≤ ((wE.alloc (boxE ⟨.slice tao (tabs A).length tc, .slice dao 0 dc, ul, us, un⟩))).heap.size := (by have := hw0.size; have := HQ2.out; have := HBN.out.size; have := HBE.out.size; omega); have hvo : VerOwn w6 (w3.heap.size) (⟨.slice pa0 (A2 0).length pc0, .slice pa1 (A2 1).length pc1, .slice pa2 (A2 2).length pc2, .slice pa3 (A2 3).length pc3, pl, ps, pn⟩ : Vn) A2 := ⟨fun k hk => owns_mono (ho6.own k hk) hsz, ho6.dif⟩; obtain ⟨s0, s1, s2, s3, s4, s5, s6⟩ := HCL.out w6 HB6.out; have HP := Lib.hid (heap_alloc_new w6 (boxV (⟨.slice pa0 (A2 0).length pc0, .slice pa1 (A2 1).length pc1, .slice pa2 (A2 2).length pc2, .slice pa3 (A2 3).length pc3, pl, ps, pn⟩ : Vn))); have HQ := Lib.hid (hvo.kept (below_of_alloc (boxV (⟨.slice pa0 (A2 0).length pc0, .slice pa1 (A2 1).length pc1, .slice pa2 (A2 2).length pc2, .slice pa3 (A2 3).length pc3, pl, ps, pn⟩ : Vn)))); have HM := Lib.hid (HB6.out.alloc HB6.out.size (boxV (⟨.slice pa0 (A2 0).length pc0, .slice pa1 (A2 1).length pc1, .slice pa2 (A2 2).length pc2, .slice pa3 (A2 3).length pc3, pl, ps, pn⟩ : Vn))); clear ho6 hn6 hb6 hok6 hw0 hsz hvo)
          )
      all_goals (go_wp2_with fail; go_meet; exact ⟨_, (⟨.slice pa0 (A2 0).length pc0, .slice pa1 (A2 1).length pc1, .slice pa2 (A2 2).length pc2, .slice pa3 (A2 3).length pc3, pl, ps, pn⟩ : Vn), A2, rfl, rfl, HP, HQ, Lib.hid ⟨HF6.out.1, HF6.out.2 (by first | rfl | trivial)⟩, HM⟩)
    case rest =>
      rename World => w4
      obtain ⟨bx, v5, A2, rfl, rfl, HX4, HO4, HF4, HB4⟩ := hcut
      refine HKK _ _ ?_
      clear HKK c0 c1 c2 c3 c4 c5 c6 HA1
      have hl2 := rel_lens HF4.out.2 (N := 100000) HLT4.out (by omega)
      have HLN2 := Lib.hid hl2
      obtain ⟨x0, x1, x2, x3, pl, ps, pn⟩ := v5
      obtain ⟨pa0, pc0, e0⟩ := owns_slice1 (HO4.out.own 0 (by omega))
      obtain ⟨pa1, pc1, e1⟩ := owns_slice1 (HO4.out.own 1 (by omega))
      obtain ⟨pa2, pc2, e2⟩ := owns_slice1 (HO4.out.own 2 (by omega))
      obtain ⟨pa3, pc3, e3⟩ := owns_slice1 (HO4.out.own 3 (by omega))
      dsimp only [Vn.lev] at e0 e1 e2 e3
      subst e0 e1 e2 e3
      have hx4 := HX4.out
      have hv4 := HV3.out.kept HB4.out
      have hw4 : VerAt w4 (⟨.slice pa0 (A2 0).length pc0, .slice pa1 (A2 1).length pc1, .slice pa2 (A2 2).length pc2, .slice pa3 (A2 3).length pc3, pl, ps, pn⟩ : Vn) A2 := VerOwn.at' HO4.out
      have HC := Lib.hid (sameV_any (⟨.slice ua0 (A 0).length uc0, .slice ua1 (A 1).length uc1, .slice ua2 (A 2).length uc2, .slice ua3 (A 3).length uc3, ul, us, un⟩ : Vn) (⟨.slice pa0 (A2 0).length pc0, .slice pa1 (A2 1).length pc1, .slice pa2 (A2 2).length pc2, .slice pa3 (A2 3).length pc3, pl, ps, pn⟩ : Vn) A A2 w4 hv4 hw4 HLN.out.1 hl2.1)
      have HSM := Lib.hid (show SameV (⟨.slice ua0 (A 0).length uc0, .slice ua1 (A 1).length uc1, .slice ua2 (A 2).length uc2, .slice ua3 (A 3).length uc3, ul, us, un⟩ : Vn) (⟨.slice pa0 (A2 0).length pc0, .slice pa1 (A2 1).length pc1, .slice pa2 (A2 2).length pc2, .slice pa3 (A2 3).length pc3, pl, ps, pn⟩ : Vn) A A2 from by
        have h := HF4.out.1
        injection h with h1 h2
        injection h2 with h2 h3
        exact ⟨(rel_tabs (m := (ul, us, un)) HRV.out).same HF4.out.2, h1.symm, h2.symm, h3.symm⟩)
      obtain ⟨c0, c1, c2, c3, c4, c5, c6⟩ := HCL.out w4 HB4.out
      have d0 : w4.cell? ⟨bx, 0, none⟩ = some (.slice pa0 (A2 0).length pc0) := (blk_cell hx4 0).trans rfl
      have d1 : w4.cell? ⟨bx, 1, none⟩ = some (.slice pa1 (A2 1).length pc1) := (blk_cell hx4 1).trans rfl
      have d2 : w4.cell? ⟨bx, 2, none⟩ = some (.slice pa2 (A2 2).length pc2) := (blk_cell hx4 2).trans rfl
      have d3 : w4.cell? ⟨bx, 3, none⟩ = some (.slice pa3 (A2 3).length pc3) := (blk_cell hx4 3).trans rfl
      have d4 : w4.cell? ⟨bx, 4, none⟩ = some (.int .u64 (pl.toNat : Int)) := (blk_cell hx4 4).trans rfl
      have d5 : w4.cell? ⟨bx, 5, none⟩ = some (.int .u64 (ps.toNat : Int)) := (blk_cell hx4 5).trans rfl
      have d6 : w4.cell? ⟨bx, 6, none⟩ = some (.int .u64 (pn.toNat : Int)) := (blk_cell hx4 6).trans rfl
      clear hl2 hx4 hv4 hw4
      go_wp2_with fail
      refine HC.out.mono ?_
      rintro e w5 ⟨b5, rfl, hb5, hbb5⟩
      have HB5 := Lib.hid (below_step HB4.out hbb5 HB4.out.size)
      have hb5t : b5 = true := hb5.2 HSM.out
      subst hb5t
      have HC5 := Lib.hid (verRight_any (⟨.slice ua0 (A 0).length uc0, .slice ua1 (A 1).length uc1, .slice ua2 (A 2).length uc2, .slice ua3 (A 3).length uc3, ul, us, un⟩ : Vn) A w5 (HV3.out.kept HB5.out) HLN.out.2)
      obtain ⟨f0, f1, f2, f3, f4, f5, f6⟩ := HCL.out w5 HB5.out
      clear HC hb5 hbb5 c0 c1 c2 c3 c4 c5 c6 d0 d1 d2 d3 d4 d5 d6
      go_wp2_with fail
      refine HC5.out.mono ?_
      rintro e w6 ⟨b6, rfl, hb6, hbb6⟩
      have HB6 := Lib.hid (below_step HB5.out hbb6 HB5.out.size)
      have hb6t : b6 = true := hb6.2 HRV.out
      subst hb6t
      clear HC5 hb6 hbb6 f0 f1 f2 f3 f4 f5 f6
      go_wp2_with fail
      refine (new_any _).mono ?_
      rintro e w7 ⟨rfl, hb7⟩
      have HB7 := Lib.hid (below_step HB6.out hb7 HB6.out.size)
      have HBW7 := Lib.hid (below_step HB3.out HB7.out HB3.out.size)
      obtain ⟨r, hr⟩ : ∃ r, r = editsD [] (0, 0, 1) ds := ⟨_, rfl⟩
      obtain ⟨z, hz⟩ : ∃ z, z = r.1 := ⟨_, rfl⟩
      have HR := Lib.hid hr
      have HZ := Lib.hid hz
      have HC := Lib.hid (apply_any nVn (fun _ => []) [] av es ds r w7 (new_at w7) (by decide) (HE.out.kept HBW7.out) (fun _ => ⟨rel_new, hr⟩) (fun h => absurd rel_new.rv h) (by simpa using HSU.out) (fun d hd => by have := (HOK.out d hd).2.1; omega) (by have := HLE.out; omega))
      rw [HAV.out] at HC
      unfold ApplyPost at HC
      rw [← hz] at HC
      clear hb7 hr hz HX4 HO4 HF4 HSM HLN2 HX3 HV3 HCL HO2 HRV HLN HLT4 HRL HNM
      go_wp2_with fail
      refine HC.out.mono ?_
      rintro e w8 ⟨v8, A8, rfl, ho8, hn8, hb8, hok8, -⟩
      have HB8 := Lib.hid (below_step HBW7.out hb8 HBW7.out.size)
      have HO8 := Lib.hid ho8
      have HF8 := Lib.hid (And.intro hn8 hok8)
      clear HC ho8 hn8 hb8 hok8
      obtain ⟨x0, x1, x2, x3, tl, ts, tn⟩ := v8
      obtain ⟨ta0, tc0, e0⟩ := owns_slice1 (HO8.out.own 0 (by omega))
      obtain ⟨ta1, tc1, e1⟩ := owns_slice1 (HO8.out.own 1 (by omega))
      obtain ⟨ta2, tc2, e2⟩ := owns_slice1 (HO8.out.own 2 (by omega))
      obtain ⟨ta3, tc3, e3⟩ := owns_slice1 (HO8.out.own 3 (by omega))
      dsimp only [Vn.lev] at e0 e1 e2 e3
      subst e0 e1 e2 e3
      go_wp2_with fail
      refine (new_any _).mono ?_
      rintro e w9 ⟨rfl, hb9⟩
      have HB9 := Lib.hid (below_step (HB8.out.alloc HB8.out.size (boxV (⟨.slice ta0 (A8 0).length tc0, .slice ta1 (A8 1).length tc1, .slice ta2 (A8 2).length tc2, .slice ta3 (A8 3).length tc3, tl, ts, tn⟩ : Vn))) hb9 (HB8.out.alloc HB8.out.size (boxV (⟨.slice ta0 (A8 0).length tc0, .slice ta1 (A8 1).length tc1, .slice ta2 (A8 2).length tc2, .slice ta3 (A8 3).length tc3, tl, ts, tn⟩ : Vn))).size)
      have HX9 := Lib.hid (show w9.heap[w8.heap.size]? = some (boxV (⟨.slice ta0 (A8 0).length tc0, .slice ta1 (A8 1).length tc1, .slice ta2 (A8 2).length tc2, .slice ta3 (A8 3).length tc3, tl, ts, tn⟩ : Vn)) from blk_kept hb9 (heap_alloc_new w8 (boxV (⟨.slice ta0 (A8 0).length tc0, .slice ta1 (A8 1).length tc1, .slice ta2 (A8 2).length tc2, .slice ta3 (A8 3).length tc3, tl, ts, tn⟩ : Vn))))
      have HO9 := Lib.hid ((HO8.out.kept (below_of_alloc (boxV (⟨.slice ta0 (A8 0).length tc0, .slice ta1 (A8 1).length tc1, .slice ta2 (A8 2).length tc2, .slice ta3 (A8 3).length tc3, tl, ts, tn⟩ : Vn)))).kept hb9)
      have HST := Lib.hid (show BkSt w9 nVn (fun _ => []) (w9.alloc (boxV nVn)) from ⟨heap_alloc_new _ _, own_newV _ _, below_of_alloc _⟩)
      have HIN := Lib.hid (show BkInv ds 0 [] nVn (fun _ => []) from ⟨rfl, rel_new, by simpa using HSU.out⟩)
      clear hb9
      rw [encV_new]
      go_wp2_with fail
      go_loopw [9] (fun vi W => ∃ (i : Nat) (M : List Tb) (y : Vn) (B : Nat → List Tb), i ≤ ds.length ∧ vi = .int .i64 (i : Int) ∧ Hid (BkInv ds i M y B) ∧ Hid (BkSt w9 y B W)) (fun vi _ => ds.length - (intOf vi).toNat)
      case atStart => exact ⟨0, [], nVn, fun _ => [], Nat.zero_le _, rfl, HIN, HST⟩
      case round =>
        obtain ⟨i, M, y, B, hi, rfl, HI, HT⟩ := hrel
        clear HIN HST
        have HBR := Lib.hid (below_step HB9.out HT.out.bel HB9.out.size)
        have hq := HT.out
        obtain ⟨x0, x1, x2, x3, yl, ys, yn⟩ := y
        obtain ⟨ya0, yc0, e0⟩ := owns_slice1 (hq.own.own 0 (by omega))
        obtain ⟨ya1, yc1, e1⟩ := owns_slice1 (hq.own.own 1 (by omega))
        obtain ⟨ya2, yc2, e2⟩ := owns_slice1 (hq.own.own 2 (by omega))
        obtain ⟨ya3, yc3, e3⟩ := owns_slice1 (hq.own.own 3 (by omega))
        dsimp only [Vn.lev] at e0 e1 e2 e3
        subst e0 e1 e2 e3
        have hbx := hq.box
        have c0 : wr.cell? ⟨w9.heap.size, 0, none⟩ = some (.slice ya0 (B 0).length yc0) := (blk_cell hbx 0).trans rfl
        have c1 : wr.cell? ⟨w9.heap.size, 1, none⟩ = some (.slice ya1 (B 1).length yc1) := (blk_cell hbx 1).trans rfl
        have c2 : wr.cell? ⟨w9.heap.size, 2, none⟩ = some (.slice ya2 (B 2).length yc2) := (blk_cell hbx 2).trans rfl
        have c3 : wr.cell? ⟨w9.heap.size, 3, none⟩ = some (.slice ya3 (B 3).length yc3) := (blk_cell hbx 3).trans rfl
        have c4 : wr.cell? ⟨w9.heap.size, 4, none⟩ = some (.int .u64 (yl.toNat : Int)) := (blk_cell hbx 4).trans rfl
        have c5 : wr.cell? ⟨w9.heap.size, 5, none⟩ = some (.int .u64 (ys.toNat : Int)) := (blk_cell hbx 5).trans rfl
        have c6 : wr.cell? ⟨w9.heap.size, 6, none⟩ = some (.int .u64 (yn.toNat : Int)) := (blk_cell hbx 6).trans rfl
        by_cases hlt : i < ds.length
        · have HE4 := Lib.hid (HE.out.kept HBR.out)
          have hrow := HE4.out.row
          rw [HAV.out] at hrow
          obtain ⟨eb, eoff, ecap, hve, hcs⟩ := elems_shape encEc_len hrow (by rw [HE.out.len]; omega)
          injection hve with hx1 hx2 hx3
          subst hx1
          have hle : i < es.length := by rw [HE.out.len]; omega
          have hcx := hcs i hle
          obtain ⟨x, hx⟩ : ∃ x, x = es[i] := ⟨_, rfl⟩
          have hat := HE4.out.at' i hle hlt
          rw [← hx] at hcx hat
          obtain ⟨ea, edr, el, eq, en⟩ := x
          obtain ⟨tao, tc, hta⟩ := elems_slice hat.add
          obtain ⟨dao, dc, hda⟩ := elems_slice hat.drop
          dsimp only at hta hda
          subst hta hda
          obtain ⟨e, he⟩ : ∃ d, d = ds[i] := ⟨_, rfl⟩
          have HDE := Lib.hid he
          rw [← he] at hat hcx
          have b0 : wr.cell? ⟨eb, eoff + i * 5, none⟩ = some (.slice tao e.1.length tc) := hcx 0 (by omega)
          have b1 : wr.cell? ⟨eb, eoff + i * 5 + 1, none⟩ = some (.slice dao e.2.1.length dc) := hcx 1 (by omega)
          have b2 : wr.cell? ⟨eb, eoff + i * 5 + 2, none⟩ = some (.int .u64 (el.toNat : Int)) := hcx 2 (by omega)
          have b3 : wr.cell? ⟨eb, eoff + i * 5 + 3, none⟩ = some (.int .u64 (eq.toNat : Int)) := hcx 3 (by omega)
          have b4 : wr.cell? ⟨eb, eoff + i * 5 + 4, none⟩ = some (.int .u64 (en.toNat : Int)) := hcx 4 (by omega)
          have j1 : (0 : Int) ≤ (i : Int) := by omega
          have j2 : (i : Int) < (ds.length : Int) := by omega
          have j4 : IntKind.i64.wrap ((i : Int) + 1) = (i : Int) + 1 := by have := HLE.out; rw [IntKind.wrap_i64]; omega
          have HSD := Lib.hid (sum_drop hlt)
          obtain ⟨r2, hr2⟩ : ∃ r, r = doD M (yl, ys, yn) e := ⟨_, rfl⟩
          have HR2 := Lib.hid hr2
          have HAP := Lib.hid (show ∀ (W : World) (g : Nat), Below wr.heap.size wr W → W.heap[g]? = some (boxE ⟨.slice tao e.1.length tc, .slice dao e.2.1.length dc, el, eq, en⟩) → Calls Try.prog 11 #[encV (⟨.slice ya0 (B 0).length yc0, .slice ya1 (B 1).length yc1, .slice ya2 (B 2).length yc2, .slice ya3 (B 3).length yc3, yl, ys, yn⟩ : Vn), .slice (some ⟨g, 0, none⟩) 1 1] W (ApplyPost r2 W) from fun W g hb hg =>
            apply_any _ B M _ [⟨.slice tao e.1.length tc, .slice dao e.2.1.length dc, el, eq, en⟩] [e] r2 W (VerOwn.at' (hq.own.kept hb)) (by
              have := lvs_tabs HI.out.2.1.lvs (N := 100000) (by have := HI.out.2.2; omega)
              omega) (eds_one hg (hat.kept hb)) (fun _ => ⟨HI.out.2.1, hr2⟩) (fun h => absurd HI.out.2.1.rv h) (by
              have h1 := HI.out.2.2
              have h2 := HSD.out
              rw [← he] at h2
              have h3 : sumA [e] = e.1.length := by simp [sumA]
              omega) (fun d hd => by
              rw [List.mem_singleton] at hd
              have := (HOK.out e (by rw [he]; exact List.getElem_mem _)).2.1
              rw [hd]; omega) (by simp))
          have HLT := Lib.hid hlt
          have q1 : eb < wr.heap.size := World.block_lt_of_cell? _ _ b0
          have q2 : w9.heap.size < wr.heap.size := World.block_lt_of_cell? _ _ c0
          obtain ⟨z2, hz2⟩ : ∃ z, z = r2.1 := ⟨_, rfl⟩
          unfold ApplyPost at HAP
          rw [← hz2] at HAP
          have HZ2 := Lib.hid hz2
          have HQ9 := Lib.hid q2
          have HEB := Lib.hid q1
          have HCL2 := Lib.hid (show ∀ W, Below wr.heap.size wr W → W.cell? ⟨w9.heap.size, 0, none⟩ = some (.slice ya0 (B 0).length yc0) ∧ W.cell? ⟨w9.heap.size, 1, none⟩ = some (.slice ya1 (B 1).length yc1) ∧ W.cell? ⟨w9.heap.size, 2, none⟩ = some (.slice ya2 (B 2).length yc2) ∧ W.cell? ⟨w9.heap.size, 3, none⟩ = some (.slice ya3 (B 3).length yc3) ∧ W.cell? ⟨w9.heap.size, 4, none⟩ = some (.int .u64 (yl.toNat : Int)) ∧ W.cell? ⟨w9.heap.size, 5, none⟩ = some (.int .u64 (ys.toNat : Int)) ∧ W.cell? ⟨w9.heap.size, 6, none⟩ = some (.int .u64 (yn.toNat : Int)) ∧ W.cell? ⟨eb, eoff + i * 5, none⟩ = some (.slice tao e.1.length tc) ∧ W.cell? ⟨eb, eoff + i * 5 + 1, none⟩ = some (.slice dao e.2.1.length dc) ∧ W.cell? ⟨eb, eoff + i * 5 + 2, none⟩ = some (.int .u64 (el.toNat : Int)) ∧ W.cell? ⟨eb, eoff + i * 5 + 3, none⟩ = some (.int .u64 (eq.toNat : Int)) ∧ W.cell? ⟨eb, eoff + i * 5 + 4, none⟩ = some (.int .u64 (en.toNat : Int)) from fun W hb => ⟨cell_kept hb c0, cell_kept hb c1, cell_kept hb c2, cell_kept hb c3, cell_kept hb c4, cell_kept hb c5, cell_kept hb c6, cell_kept hb b0, cell_kept hb b1, cell_kept hb b2, cell_kept hb b3, cell_kept hb b4⟩)
          clear hrow hx2 hx3 hcs hcx hx hat he hr2 hz2 hq hbx
          go_upto_region 12 with fail
          refine wp_then_intro ?_
          intro KK HKK
          go_cut [10, 11] (fun vb vz W => ∃ (bx : Nat) (v' : Vn) (A' : Nat → List Tb), vb = .pointer (some ⟨bx, 0, none⟩) ∧ vz = .int .i64 z2 ∧ Hid (W.heap[bx]? = some (boxV v')) ∧ Hid (VerOwn W (w9.heap.size + 1) v' A') ∧ Hid ((v'.log, v'.seq, v'.nxt) = r2.2.2 ∧ (z2 = 0 → Rel A' r2.2.1 r2.2.2)) ∧ Hid (BkSt w9 (⟨.slice ya0 (B 0).length yc0, .slice ya1 (B 1).length yc1, .slice ya2 (B 2).length yc2, .slice ya3 (B 3).length yc3, yl, ys, yn⟩ : Vn) B W))
          case first =>
            clear HKK
            go_region_held3 (fun W => W.cell? ⟨w9.heap.size, 0, none⟩ = some (.slice ya0 (B 0).length yc0) ∧ W.cell? ⟨w9.heap.size, 1, none⟩ = some (.slice ya1 (B 1).length yc1) ∧ W.cell? ⟨w9.heap.size, 2, none⟩ = some (.slice ya2 (B 2).length yc2) ∧ W.cell? ⟨w9.heap.size, 3, none⟩ = some (.slice ya3 (B 3).length yc3) ∧ W.cell? ⟨w9.heap.size, 4, none⟩ = some (.int .u64 (yl.toNat : Int)) ∧ W.cell? ⟨w9.heap.size, 5, none⟩ = some (.int .u64 (ys.toNat : Int)) ∧ W.cell? ⟨w9.heap.size, 6, none⟩ = some (.int .u64 (yn.toNat : Int)) ∧ W.cell? ⟨eb, eoff + i * 5, none⟩ = some (.slice tao e.1.length tc) ∧ W.cell? ⟨eb, eoff + i * 5 + 1, none⟩ = some (.slice dao e.2.1.length dc) ∧ W.cell? ⟨eb, eoff + i * 5 + 2, none⟩ = some (.int .u64 (el.toNat : Int)) ∧ W.cell? ⟨eb, eoff + i * 5 + 3, none⟩ = some (.int .u64 (eq.toNat : Int)) ∧ W.cell? ⟨eb, eoff + i * 5 + 4, none⟩ = some (.int .u64 (en.toNat : Int)))
              (go_keep)
              (first
                | (go_at_call 11; (with_reducible show Calls _ _ _ ((World.alloc (World.alloc wr (.cells _ TVn _)) (.cells _ TEd _)).drew) _); refine (HAP.out ((wr.alloc boxZ).alloc (boxE ⟨.slice tao e.1.length tc, .slice dao e.2.1.length dc, el, eq, en⟩)).drew _ (((below_of_alloc (w := wr) boxZ)).alloc (below_of_alloc (w := wr) boxZ).size (boxE ⟨.slice tao e.1.length tc, .slice dao e.2.1.length dc, el, eq, en⟩)).drew (alloc2_new wr boxZ (boxE ⟨.slice tao e.1.length tc, .slice dao e.2.1.length dc, el, eq, en⟩))).mono ?_; rintro e6 w6 ⟨v6, A2, rfl, ho6, hn6, hb6, hok6, -⟩; obtain ⟨x0, x1, x2, x3, pl, ps, pn⟩ := v6; obtain ⟨pa0, pc0, e0⟩ := owns_slice1 (ho6.own 0 (by omega)); obtain ⟨pa1, pc1, e1⟩ := owns_slice1 (ho6.own 1 (by omega)); obtain ⟨pa2, pc2, e2⟩ := owns_slice1 (ho6.own 2 (by omega)); obtain ⟨pa3, pc3, e3⟩ := owns_slice1 (ho6.own 3 (by omega)); dsimp only [Vn.lev] at e0 e1 e2 e3; subst e0 e1 e2 e3; have hw0 : Below wr.heap.size wr ((wr.alloc boxZ).alloc (boxE ⟨.slice tao e.1.length tc, .slice dao e.2.1.length dc, el, eq, en⟩)).drew := (((below_of_alloc (w := wr) boxZ)).alloc (below_of_alloc (w := wr) boxZ).size (boxE ⟨.slice tao e.1.length tc, .slice dao e.2.1.length dc, el, eq, en⟩)).drew; have HB6 := Lib.hid (below_step hw0 hb6 hw0.size); have HF6 := Lib.hid (And.intro hn6 hok6); have hsz : w9.heap.size + 1 ≤ (((wr.alloc boxZ).alloc (boxE ⟨.slice tao e.1.length tc, .slice dao e.2.1.length dc, el, eq, en⟩)).drew).heap.size := (by have := hw0.size; have := HQ9.out; have := HEB.out; omega); have hvo : VerOwn w6 (w9.heap.size + 1) (⟨.slice pa0 (A2 0).length pc0, .slice pa1 (A2 1).length pc1, .slice pa2 (A2 2).length pc2, .slice pa3 (A2 3).length pc3, pl, ps, pn⟩ : Vn) A2 := ⟨fun k hk => owns_mono (ho6.own k hk) hsz, ho6.dif⟩; obtain ⟨s0, s1, s2, s3, s4, s5, s6, s7, s8, s9, s10, s11⟩ := HCL2.out w6 HB6.out; have hlo : wr.heap.size ≤ wr.heap.size := (by omega); have n1 : ¬ wr.heap.size = eb := (by have := HQ9.out; have := HEB.out; omega); have n2 : ¬ eb = wr.heap.size := (by have := HQ9.out; have := HEB.out; omega); have n3 : ¬ wr.heap.size = w9.heap.size := (by have := HQ9.out; have := HEB.out; omega); have n4 : ¬ w9.heap.size = wr.heap.size := (by have := HQ9.out; have := HEB.out; omega); have hx6 : w6.heap[wr.heap.size]? = some boxZ := blk_kept hb6 (blk_alloc (heap_alloc_new wr boxZ) (boxE ⟨.slice tao e.1.length tc, .slice dao e.2.1.length dc, el, eq, en⟩)); have z0 : w6.cell? ⟨wr.heap.size, 0, none⟩ = some (.slice none 0 0) := (blk_cell hx6 0).trans rfl; have z1 : w6.cell? ⟨wr.heap.size, 1, none⟩ = some (.slice none 0 0) := (blk_cell hx6 1).trans rfl; have z2 : w6.cell? ⟨wr.heap.size, 2, none⟩ = some (.slice none 0 0) := (blk_cell hx6 2).trans rfl; have z3 : w6.cell? ⟨wr.heap.size, 3, none⟩ = some (.slice none 0 0) := (blk_cell hx6 3).trans rfl; have z4 : w6.cell? ⟨wr.heap.size, 4, none⟩ = some (.int .u64 0) := (blk_cell hx6 4).trans rfl; have z5 : w6.cell? ⟨wr.heap.size, 5, none⟩ = some (.int .u64 0) := (blk_cell hx6 5).trans rfl; have z6 : w6.cell? ⟨wr.heap.size, 6, none⟩ = some (.int .u64 0) := (blk_cell hx6 6).trans rfl; have fz : ∀ j, w6.frozen? ⟨wr.heap.size, j, none⟩ = false := (fun j => by rw [blk_frozen hx6]; simp); have HP := Lib.hid (box_put7 hx6 rfl (⟨.slice pa0 (A2 0).length pc0, .slice pa1 (A2 1).length pc1, .slice pa2 (A2 2).length pc2, .slice pa3 (A2 3).length pc3, pl, ps, pn⟩ : Vn)); have HQ := Lib.hid (hvo.keep (w' := put7 w6 (wr.heap.size) (⟨.slice pa0 (A2 0).length pc0, .slice pa1 (A2 1).length pc1, .slice pa2 (A2 2).length pc2, .slice pa3 (A2 3).length pc3, pl, ps, pn⟩ : Vn)) (some (wr.heap.size)) (grown_put7 _ _ _) fun k hk p hp ee => (by have := ((ho6.own k hk).lt p hp).1; have e2 : wr.heap.size = p := (by injection ee); have hxl : wr.heap.size < (((wr.alloc boxZ).alloc (boxE ⟨.slice tao e.1.length tc, .slice dao e.2.1.length dc, el, eq, en⟩)).drew).heap.size := blk_lt ((blk_alloc (heap_alloc_new wr boxZ) (boxE ⟨.slice tao e.1.length tc, .slice dao e.2.1.length dc, el, eq, en⟩))); omega)); have HM := Lib.hid (below_put7 HB6.out (b := wr.heap.size) hlo (⟨.slice pa0 (A2 0).length pc0, .slice pa1 (A2 1).length pc1, .slice pa2 (A2 2).length pc2, .slice pa3 (A2 3).length pc3, pl, ps, pn⟩ : Vn)); clear ho6 hn6 hb6 hok6 hw0 hsz hvo hx6 hlo)
                | (go_at_call 11; (with_reducible show Calls _ _ _ ((World.alloc (World.alloc wr (.cells _ TEd _)) (.cells _ TVn _)).drew) _); refine (HAP.out ((wr.alloc (boxE ⟨.slice tao e.1.length tc, .slice dao e.2.1.length dc, el, eq, en⟩)).alloc boxZ).drew _ (((below_of_alloc (w := wr) (boxE ⟨.slice tao e.1.length tc, .slice dao e.2.1.length dc, el, eq, en⟩))).alloc (below_of_alloc (w := wr) (boxE ⟨.slice tao e.1.length tc, .slice dao e.2.1.length dc, el, eq, en⟩)).size boxZ).drew (blk_alloc (heap_alloc_new wr (boxE ⟨.slice tao e.1.length tc, .slice dao e.2.1.length dc, el, eq, en⟩)) _)).mono ?_; rintro e6 w6 ⟨v6, A2, rfl, ho6, hn6, hb6, hok6, -⟩; obtain ⟨x0, x1, x2, x3, pl, ps, pn⟩ := v6; obtain ⟨pa0, pc0, e0⟩ := owns_slice1 (ho6.own 0 (by omega)); obtain ⟨pa1, pc1, e1⟩ := owns_slice1 (ho6.own 1 (by omega)); obtain ⟨pa2, pc2, e2⟩ := owns_slice1 (ho6.own 2 (by omega)); obtain ⟨pa3, pc3, e3⟩ := owns_slice1 (ho6.own 3 (by omega)); dsimp only [Vn.lev] at e0 e1 e2 e3; subst e0 e1 e2 e3; have hw0 : Below wr.heap.size wr ((wr.alloc (boxE ⟨.slice tao e.1.length tc, .slice dao e.2.1.length dc, el, eq, en⟩)).alloc boxZ).drew := (((below_of_alloc (w := wr) (boxE ⟨.slice tao e.1.length tc, .slice dao e.2.1.length dc, el, eq, en⟩))).alloc (below_of_alloc (w := wr) (boxE ⟨.slice tao e.1.length tc, .slice dao e.2.1.length dc, el, eq, en⟩)).size boxZ).drew; have HB6 := Lib.hid (below_step hw0 hb6 hw0.size); have HF6 := Lib.hid (And.intro hn6 hok6); have hsz : w9.heap.size + 1 ≤ (((wr.alloc (boxE ⟨.slice tao e.1.length tc, .slice dao e.2.1.length dc, el, eq, en⟩)).alloc boxZ).drew).heap.size := (by have := hw0.size; have := HQ9.out; have := HEB.out; omega); have hvo : VerOwn w6 (w9.heap.size + 1) (⟨.slice pa0 (A2 0).length pc0, .slice pa1 (A2 1).length pc1, .slice pa2 (A2 2).length pc2, .slice pa3 (A2 3).length pc3, pl, ps, pn⟩ : Vn) A2 := ⟨fun k hk => owns_mono (ho6.own k hk) hsz, ho6.dif⟩; obtain ⟨s0, s1, s2, s3, s4, s5, s6, s7, s8, s9, s10, s11⟩ := HCL2.out w6 HB6.out; have hlo : wr.heap.size ≤ wr.heap.size + 1 := (by omega); have n1 : ¬ wr.heap.size + 1 = eb := (by have := HQ9.out; have := HEB.out; omega); have n2 : ¬ eb = wr.heap.size + 1 := (by have := HQ9.out; have := HEB.out; omega); have n3 : ¬ wr.heap.size + 1 = w9.heap.size := (by have := HQ9.out; have := HEB.out; omega); have n4 : ¬ w9.heap.size = wr.heap.size + 1 := (by have := HQ9.out; have := HEB.out; omega); have hx6 : w6.heap[wr.heap.size + 1]? = some boxZ := blk_kept hb6 (alloc2_new wr (boxE ⟨.slice tao e.1.length tc, .slice dao e.2.1.length dc, el, eq, en⟩) boxZ); have z0 : w6.cell? ⟨wr.heap.size + 1, 0, none⟩ = some (.slice none 0 0) := (blk_cell hx6 0).trans rfl; have z1 : w6.cell? ⟨wr.heap.size + 1, 1, none⟩ = some (.slice none 0 0) := (blk_cell hx6 1).trans rfl; have z2 : w6.cell? ⟨wr.heap.size + 1, 2, none⟩ = some (.slice none 0 0) := (blk_cell hx6 2).trans rfl; have z3 : w6.cell? ⟨wr.heap.size + 1, 3, none⟩ = some (.slice none 0 0) := (blk_cell hx6 3).trans rfl; have z4 : w6.cell? ⟨wr.heap.size + 1, 4, none⟩ = some (.int .u64 0) := (blk_cell hx6 4).trans rfl; have z5 : w6.cell? ⟨wr.heap.size + 1, 5, none⟩ = some (.int .u64 0) := (blk_cell hx6 5).trans rfl; have z6 : w6.cell? ⟨wr.heap.size + 1, 6, none⟩ = some (.int .u64 0) := (blk_cell hx6 6).trans rfl; have fz : ∀ j, w6.frozen? ⟨wr.heap.size + 1, j, none⟩ = false := (fun j => by rw [blk_frozen hx6]; simp); have HP := Lib.hid (box_put7 hx6 rfl (⟨.slice pa0 (A2 0).length pc0, .slice pa1 (A2 1).length pc1, .slice pa2 (A2 2).length pc2, .slice pa3 (A2 3).length pc3, pl, ps, pn⟩ : Vn)); have HQ := Lib.hid (hvo.keep (w' := put7 w6 (wr.heap.size + 1) (⟨.slice pa0 (A2 0).length pc0, .slice pa1 (A2 1).length pc1, .slice pa2 (A2 2).length pc2, .slice pa3 (A2 3).length pc3, pl, ps, pn⟩ : Vn)) (some (wr.heap.size + 1)) (grown_put7 _ _ _) fun k hk p hp ee => (by have := ((ho6.own k hk).lt p hp).1; have e2 : wr.heap.size + 1 = p := (by injection ee); have hxl : wr.heap.size + 1 < (((wr.alloc (boxE ⟨.slice tao e.1.length tc, .slice dao e.2.1.length dc, el, eq, en⟩)).alloc boxZ).drew).heap.size := blk_lt ((alloc2_new wr (boxE ⟨.slice tao e.1.length tc, .slice dao e.2.1.length dc, el, eq, en⟩) boxZ)); omega)); have HM := Lib.hid (below_put7 HB6.out (b := wr.heap.size + 1) hlo (⟨.slice pa0 (A2 0).length pc0, .slice pa1 (A2 1).length pc1, .slice pa2 (A2 2).length pc2, .slice pa3 (A2 3).length pc3, pl, ps, pn⟩ : Vn)); clear ho6 hn6 hb6 hok6 hw0 hsz hvo hx6 hlo)
                | (go_at_call 11; (with_reducible show Calls _ _ _ ((World.alloc wr (.cells _ TEd _)).drew) _); refine (HAP.out (wr.alloc (boxE ⟨.slice tao e.1.length tc, .slice dao e.2.1.length dc, el, eq, en⟩)).drew _ ((below_of_alloc (w := wr) (boxE ⟨.slice tao e.1.length tc, .slice dao e.2.1.length dc, el, eq, en⟩))).drew (heap_alloc_new wr (boxE ⟨.slice tao e.1.length tc, .slice dao e.2.1.length dc, el, eq, en⟩))).mono ?_; rintro e6 w6 ⟨v6, A2, rfl, ho6, hn6, hb6, hok6, -⟩; obtain ⟨x0, x1, x2, x3, pl, ps, pn⟩ := v6; obtain ⟨pa0, pc0, e0⟩ := owns_slice1 (ho6.own 0 (by omega)); obtain ⟨pa1, pc1, e1⟩ := owns_slice1 (ho6.own 1 (by omega)); obtain ⟨pa2, pc2, e2⟩ := owns_slice1 (ho6.own 2 (by omega)); obtain ⟨pa3, pc3, e3⟩ := owns_slice1 (ho6.own 3 (by omega)); dsimp only [Vn.lev] at e0 e1 e2 e3; subst e0 e1 e2 e3; have hw0 : Below wr.heap.size wr (wr.alloc (boxE ⟨.slice tao e.1.length tc, .slice dao e.2.1.length dc, el, eq, en⟩)).drew := ((below_of_alloc (w := wr) (boxE ⟨.slice tao e.1.length tc, .slice dao e.2.1.length dc, el, eq, en⟩))).drew; have HB6 := Lib.hid (below_step hw0 hb6 hw0.size); have HF6 := Lib.hid (And.intro hn6 hok6); have hsz : w9.heap.size + 1 ≤ ((wr.alloc (boxE ⟨.slice tao e.1.length tc, .slice dao e.2.1.length dc, el, eq, en⟩)).drew).heap.size := (by have := hw0.size; have := HQ9.out; have := HEB.out; omega); have hvo : VerOwn w6 (w9.heap.size + 1) (⟨.slice pa0 (A2 0).length pc0, .slice pa1 (A2 1).length pc1, .slice pa2 (A2 2).length pc2, .slice pa3 (A2 3).length pc3, pl, ps, pn⟩ : Vn) A2 := ⟨fun k hk => owns_mono (ho6.own k hk) hsz, ho6.dif⟩; obtain ⟨s0, s1, s2, s3, s4, s5, s6, s7, s8, s9, s10, s11⟩ := HCL2.out w6 HB6.out; have HP := Lib.hid (heap_alloc_new w6 (boxV (⟨.slice pa0 (A2 0).length pc0, .slice pa1 (A2 1).length pc1, .slice pa2 (A2 2).length pc2, .slice pa3 (A2 3).length pc3, pl, ps, pn⟩ : Vn))); have HQ := Lib.hid (hvo.kept (below_of_alloc (boxV (⟨.slice pa0 (A2 0).length pc0, .slice pa1 (A2 1).length pc1, .slice pa2 (A2 2).length pc2, .slice pa3 (A2 3).length pc3, pl, ps, pn⟩ : Vn)))); have HM := Lib.hid (HB6.out.alloc HB6.out.size (boxV (⟨.slice pa0 (A2 0).length pc0, .slice pa1 (A2 1).length pc1, .slice pa2 (A2 2).length pc2, .slice pa3 (A2 3).length pc3, pl, ps, pn⟩ : Vn))); clear ho6 hn6 hb6 hok6 hw0 hsz hvo)
              )
            all_goals (go_wp2_with fail; go_meet; exact ⟨_, (⟨.slice pa0 (A2 0).length pc0, .slice pa1 (A2 1).length pc1, .slice pa2 (A2 2).length pc2, .slice pa3 (A2 3).length pc3, pl, ps, pn⟩ : Vn), A2, rfl, rfl, HP, HQ, HF6, Lib.hid (HT.out.kept HM.out)⟩)
          case rest =>
            rename World => w10
            obtain ⟨bx2, v5, A2, rfl, rfl, HX7, HO7, HF7, HM7⟩ := hcut
            refine HKK _ _ ?_
            clear HKK HAP c0 c1 c2 c3 c4 c5 c6 b0 b1 b2 b3 b4
            by_cases hz0 : z2 = 0
            · subst hz0
              obtain ⟨x0, x1, x2, x3, pl, ps, pn⟩ := v5
              obtain ⟨pa0, pc0, e0⟩ := owns_slice1 (HO7.out.own 0 (by omega))
              obtain ⟨pa1, pc1, e1⟩ := owns_slice1 (HO7.out.own 1 (by omega))
              obtain ⟨pa2, pc2, e2⟩ := owns_slice1 (HO7.out.own 2 (by omega))
              obtain ⟨pa3, pc3, e3⟩ := owns_slice1 (HO7.out.own 3 (by omega))
              dsimp only [Vn.lev] at e0 e1 e2 e3
              subst e0 e1 e2 e3
              have hx7 := HX7.out
              have hm7 := HM7.out.box
              have d0 : w10.cell? ⟨bx2, 0, none⟩ = some (.slice pa0 (A2 0).length pc0) := (blk_cell hx7 0).trans rfl
              have d1 : w10.cell? ⟨bx2, 1, none⟩ = some (.slice pa1 (A2 1).length pc1) := (blk_cell hx7 1).trans rfl
              have d2 : w10.cell? ⟨bx2, 2, none⟩ = some (.slice pa2 (A2 2).length pc2) := (blk_cell hx7 2).trans rfl
              have d3 : w10.cell? ⟨bx2, 3, none⟩ = some (.slice pa3 (A2 3).length pc3) := (blk_cell hx7 3).trans rfl
              have d4 : w10.cell? ⟨bx2, 4, none⟩ = some (.int .u64 (pl.toNat : Int)) := (blk_cell hx7 4).trans rfl
              have d5 : w10.cell? ⟨bx2, 5, none⟩ = some (.int .u64 (ps.toNat : Int)) := (blk_cell hx7 5).trans rfl
              have d6 : w10.cell? ⟨bx2, 6, none⟩ = some (.int .u64 (pn.toNat : Int)) := (blk_cell hx7 6).trans rfl
              have c0 : w10.cell? ⟨w9.heap.size, 0, none⟩ = some (.slice ya0 (B 0).length yc0) := (blk_cell hm7 0).trans rfl
              have c1 : w10.cell? ⟨w9.heap.size, 1, none⟩ = some (.slice ya1 (B 1).length yc1) := (blk_cell hm7 1).trans rfl
              have c2 : w10.cell? ⟨w9.heap.size, 2, none⟩ = some (.slice ya2 (B 2).length yc2) := (blk_cell hm7 2).trans rfl
              have c3 : w10.cell? ⟨w9.heap.size, 3, none⟩ = some (.slice ya3 (B 3).length yc3) := (blk_cell hm7 3).trans rfl
              have c4 : w10.cell? ⟨w9.heap.size, 4, none⟩ = some (.int .u64 (yl.toNat : Int)) := (blk_cell hm7 4).trans rfl
              have c5 : w10.cell? ⟨w9.heap.size, 5, none⟩ = some (.int .u64 (ys.toNat : Int)) := (blk_cell hm7 5).trans rfl
              have c6 : w10.cell? ⟨w9.heap.size, 6, none⟩ = some (.int .u64 (yn.toNat : Int)) := (blk_cell hm7 6).trans rfl
              have fz : ∀ j, w10.frozen? ⟨w9.heap.size, j, none⟩ = false := fun j => by rw [blk_frozen hm7]; simp
              clear hx7 hm7
              go_wp2_with fail
              go_roundw
              case rel => exact ⟨i + 1, r2.2.1, (⟨.slice pa0 (A2 0).length pc0, .slice pa1 (A2 1).length pc1, .slice pa2 (A2 2).length pc2, .slice pa3 (A2 3).length pc3, pl, ps, pn⟩ : Vn), A2, hlt, by first | rfl | (congr 1), Lib.hid (HI.out.next HLT.out (by rw [← HDE.out]; exact HR2.out) HZ2.out.symm HF7.out.1 (HF7.out.2 rfl)), Lib.hid (HM7.out.turn HO7.out)⟩
              case measure => simp [intOf]; omega
            · have hzb : (z2 != 0) = true := by simpa using hz0
              have hne : (doD M (yl, ys, yn) (ds[i]'HLT.out)).1 ≠ 0 := by rw [← HDE.out, ← HR2.out, ← HZ2.out]; exact hz0
              have hzz : z = z2 := by rw [HZ.out, HR.out, edits_stop HLT.out HI.out.1 hne, ← HDE.out, ← HR2.out, HZ2.out]
              subst hzz
              clear hne
              go_wp2_with fail
              refine (awake_any _).mono ?_
              rintro e11 w11 ⟨rfl, hb11⟩
              have hb10 := below_step HB9.out HM7.out.bel HB9.out.size
              have HBZ := Lib.hid (below_step hb10 hb11 hb10.size)
              clear hb10 hb11
              go_wp2_with fail
              go_ret
              exact ⟨rfl, HBZ.out⟩
        · have hil : i = ds.length := by omega
          subst hil
          have i1 : ¬ (ds.length : Int) < (ds.length : Int) := by omega
          have hR : r = (0, M, yl, ys, yn) := by rw [HR.out]; have := HI.out.1; rwa [List.take_length] at this
          have hz0 : z = 0 := by rw [HZ.out, hR]
          subst hz0
          have hx9 := blk_kept HT.out.bel HX9.out
          have hrl : Rel A8 M (yl, ys, yn) := by have := HF8.out.2 rfl; rw [hR] at this; exact this
          have hSV : SameV (⟨.slice ta0 (A8 0).length tc0, .slice ta1 (A8 1).length tc1, .slice ta2 (A8 2).length tc2, .slice ta3 (A8 3).length tc3, tl, ts, tn⟩ : Vn) (⟨.slice ya0 (B 0).length yc0, .slice ya1 (B 1).length yc1, .slice ya2 (B 2).length yc2, .slice ya3 (B 3).length yc3, yl, ys, yn⟩ : Vn) A8 B := by
            have h := HF8.out.1
            rw [hR] at h
            injection h with h1 h2
            injection h2 with h2 h3
            exact ⟨hrl.same HI.out.2.1, h1, h2, h3⟩
          have hl8 := rel_lens hrl (N := 100000) (by have := HI.out.2.2; omega) (by omega)
          have hlB := rel_lens HI.out.2.1 (N := 100000) (by have := HI.out.2.2; omega) (by omega)
          have HC := Lib.hid (sameV_any (⟨.slice ta0 (A8 0).length tc0, .slice ta1 (A8 1).length tc1, .slice ta2 (A8 2).length tc2, .slice ta3 (A8 3).length tc3, tl, ts, tn⟩ : Vn) (⟨.slice ya0 (B 0).length yc0, .slice ya1 (B 1).length yc1, .slice ya2 (B 2).length yc2, .slice ya3 (B 3).length yc3, yl, ys, yn⟩ : Vn) A8 B wr (VerOwn.at' (HO9.out.kept HT.out.bel)) (VerOwn.at' hq.own) hl8.1 hlB.1)
          have HSV := Lib.hid hSV
          have d0 : wr.cell? ⟨w8.heap.size, 0, none⟩ = some (.slice ta0 (A8 0).length tc0) := (blk_cell hx9 0).trans rfl
          have d1 : wr.cell? ⟨w8.heap.size, 1, none⟩ = some (.slice ta1 (A8 1).length tc1) := (blk_cell hx9 1).trans rfl
          have d2 : wr.cell? ⟨w8.heap.size, 2, none⟩ = some (.slice ta2 (A8 2).length tc2) := (blk_cell hx9 2).trans rfl
          have d3 : wr.cell? ⟨w8.heap.size, 3, none⟩ = some (.slice ta3 (A8 3).length tc3) := (blk_cell hx9 3).trans rfl
          have d4 : wr.cell? ⟨w8.heap.size, 4, none⟩ = some (.int .u64 (tl.toNat : Int)) := (blk_cell hx9 4).trans rfl
          have d5 : wr.cell? ⟨w8.heap.size, 5, none⟩ = some (.int .u64 (ts.toNat : Int)) := (blk_cell hx9 5).trans rfl
          have d6 : wr.cell? ⟨w8.heap.size, 6, none⟩ = some (.int .u64 (tn.toNat : Int)) := (blk_cell hx9 6).trans rfl
          clear hR hx9 hrl hSV hl8 hlB hq hbx
          go_wp2_with fail
          refine HC.out.mono ?_
          rintro e11 w11 ⟨b11, rfl, hb11, hbb11⟩
          have HBY := Lib.hid (below_step HBR.out hbb11 HBR.out.size)
          have hbt : b11 = true := hb11.2 HSV.out
          subst hbt
          clear HC hb11 hbb11 c0 c1 c2 c3 c4 c5 c6 d0 d1 d2 d3 d4 d5 d6
          go_wp2_with fail
          refine (awake_any _).mono ?_
          rintro e12 w12 ⟨rfl, hb12⟩
          have HBZ := Lib.hid (below_step HBY.out hb12 HBY.out.size)
          clear hb12
          go_wp2_with fail
          go_ret
          exact ⟨rfl, HBZ.out⟩
  · go_wp2_with fail
    refine (awake_any _).mono ?_
    rintro e w2 ⟨rfl, hb2⟩
    have HBZ := Lib.hid hb2
    clear hb2
    go_wp2_with fail
    go_ret
    exact ⟨rfl, HBZ.out⟩
end Go.Proofs.Try.Vr
