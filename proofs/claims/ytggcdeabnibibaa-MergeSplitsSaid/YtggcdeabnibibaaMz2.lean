/- MergeSplits: the walk. -/
import Derived.Test.YtggcdeabnibibaaMz1
set_option linter.unusedVariables false
set_option linter.unusedSimpArgs false
namespace Go.Proofs.Try.Mg
open Go.RowKit Go.Cph Go.Cph.Skip Go.Cph.So

/-- What was written to since: parts alone. -/
structure Tch (S : Nat → Prop) (w W : World) : Prop where
  size : w.heap.size ≤ W.heap.size
  block : ∀ b, b < w.heap.size → ¬ S b → W.heap[b]? = w.heap[b]?
theorem Tch.refl (S : Nat → Prop) (w : World) : Tch S w w := ⟨Nat.le_refl _, fun _ _ _ => rfl⟩
theorem Tch.later {S : Nat → Prop} {w W W' : World} (h : Tch S w W) (hb : Below W.heap.size W W') : Tch S w W' :=
  ⟨Nat.le_trans h.size hb.size, fun b hlt hn => (hb.block b (Nat.lt_of_lt_of_le hlt h.size)).trans (h.block b hlt hn)⟩
theorem Tch.set {S : Nat → Prop} {w W : World} (h : Tch S w W) {g : Nat} (hg : S g) (j : Nat) (v : Value) : Tch S w (W.setCell ⟨g, j, none⟩ v) :=
  ⟨by simpa using h.size, fun b hlt hn => (blk_set_other (by intro e; exact hn (by rw [e]; exact hg))).trans (h.block b hlt hn)⟩
theorem Tch.row {S : Nat → Prop} {w W : World} (h : Tch S w W) {base n s : Nat} {e : TypeId} {v : Value} {xs : List Value} (ho : w.ownsRow base e s v n xs) (hn : ∀ k, v.ownBlock = some k → ¬ S k) : W.ownsRow base e s v n xs :=
  row_kept1 ho fun k hk => h.block k (ho.lt k hk).2 (hn k hk)
def PartOf (vs : List Value) (b : Nat) : Prop := ∃ j, ∃ h : j < vs.length, vs[j].ownBlock = some b
abbrev TURNED : ByteArray := ⟨#[116, 117, 114, 110, 101, 100]⟩
/-- What the loops keep. -/
structure SpL (gs : List (List Ent)) (vo : Value) (vs : List Value) (wa wc : World) (i : Nat) (W : World) : Prop where
  tch : Tch (PartOf vs) wc W
  bel : Below wa.heap.size wa W
  rest : ∀ j (h : j < vs.length) (k : j < gs.length), i ≤ j → W.ownsRow wa.heap.size TE 4 vs[j] gs[j].length (gs[j].flatMap encC)
theorem SpL.later {gs : List (List Ent)} {vo : Value} {vs : List Value} {wa wc W W' : World} {i : Nat} (h : SpL gs vo vs wa wc i W) (hb : Below W.heap.size W W') : SpL gs vo vs wa wc i W' :=
  ⟨h.tch.later hb, below_step h.bel hb h.bel.size, fun j hj hk hij => row_kept1 (h.rest j hj hk hij) fun k hk' => hb.block k ((h.rest j hj hk hij).lt k hk').2⟩

set_option maxRecDepth 100000 in
set_option maxHeartbeats 16000000 in
theorem splits_walk (ao : Option Addr) (cap : Nat) (l : List Ent) (size : Int) (w : World) (h : EntsAt w (.slice ao l.length cap) l) (hls : ∀ a ∈ l, SizesOK a) (hcap : l.length ≤ cap) (hcm : cap ≤ 9223372036854775807) (hs1 : -9223372036854775808 ≤ size) (hs2 : size ≤ 9223372036854775807) :
    Calls Try.prog 5 #[.slice ao l.length cap, .int .i64 size] w (AwPost w) := by
  have hb0 : Below w.heap.size w (w.alloc (.cells #[.slice ao l.length cap] TS)) := (Below.refl _ _).alloc (Nat.le_refl _) _
  have HG := Lib.hid (great_any 1 _ [l] _ (Lists.one (c := 1) (heap_alloc_new w (.cells #[.slice ao l.length cap] TS)) (h.kept hb0)) (by omega) (by simp) (fun k hk => by simp at hk; subst hk; unfold maxLen; omega) (fun k hk e he => by simp at hk; subst hk; exact hls e he))
  have HB0 := Lib.hid hb0
  have HV := Lib.hid h
  clear h hls hb0
  go_enter Try.func5, Try.ntmps5
  go_wp2_with fail
  refine HG.out.mono ?_
  rintro e w1 ⟨r, rfl, hr, hb⟩
  have HB1 := Lib.hid (below_step HB0.out hb HB0.out.size)
  have HSM := Lib.hid hr
  clear hb hr HG
  cases r
  · have HSS := Lib.hid (HSM.out rfl)
    have hl60 : l.length ≤ 60 := HSS.out.each l (by simp)
    have hbl : bytesL l ≤ 20000 := by simpa using HSS.out.bytes
    have HKS := Lib.hid (show KeysOK l by simpa using small_keys HSS.out)
    have HV1 := Lib.hid (HV.out.kept HB1.out)
    clear HSM HV
    have HOE := Lib.hid (show (w1.alloc (.cells #[] TE)).ownsRow w1.heap.size TE 4 (.slice (some ⟨w1.heap.size, 0, none⟩) 0 0) 0 [] from owns_empty (heap_alloc_new w1 (.cells #[] TE)) (Nat.le_refl _) 4)
    have HBE0 := Lib.hid (show Below w1.heap.size w1 (w1.alloc (.cells #[] TE)) from (Below.refl _ _).alloc (Nat.le_refl _) _)
    have HZ0 := Lib.hid HBE0.out.size
    have HUE0 := Lib.hid (HV1.out.kept HBE0.out)
    have HL9 := Lib.hid (show 0 + l.length ≤ 1099511627776 by omega)
    go_wp2_with (at_builtin; refine wpList_append_seg rfl (.tmp 14) (.tmp 15) 25 rfl w1.heap.size TE _ 4 48 Try.underlying25 infoE rfl (by decide) _ 0 [] rfl HOE.out _ l.length (l.flatMap encC) rfl HUE0.out encC_one HL9.out (by decide) HZ0.out ?_; intro v1 w2 ho hgr _; have HO2 := Lib.hid (show w2.ownsRow w1.heap.size TE 4 v1 l.length (l.flatMap encC) from (by simpa using ho)); have HB2 := Lib.hid (below_grown HBE0.out hgr HOE.out (Nat.le_refl _) HBE0.out.size); clear ho hgr; obtain ⟨o1, c1, hv1⟩ := owns_slice1 HO2.out; subst hv1; have HSP := Lib.hid (split_any (.slice o1 l.length c1) l size w2 (Seg.of_owns HO2.out) (by omega) (by omega) hs1 hs2))
    have HV2 := Lib.hid (HV1.out.kept HB2.out)
    have HBW2 := Lib.hid (below_step HB1.out HB2.out HB1.out.size)
    refine HSP.out.mono ?_
    rintro e wb ⟨v6, vp, p, vs, rfl, hp⟩
    have HPB := Lib.hid hp
    have HV3 := Lib.hid (HV2.out.kept hp.bel)
    have HO3 := Lib.hid (row_kept1 HO2.out fun k hk => hp.bel.block k (HO2.out.lt k hk).2)
    obtain ⟨gs, hgs⟩ : ∃ gs, gs = splitL size l := ⟨_, rfl⟩
    have HSQ := Lib.hid (split16 ao cap l size wb HV3.out hcap hcm (by omega) (by omega) hs1 hs2)
    rw [← hgs] at HPB HSQ
    obtain ⟨o6, c6, hv6⟩ := owns_slice1 HPB.out.out
    subst hv6
    have hgl : gs.length ≤ 1000000 := by
      have : ∀ (r p : List Ent) (b : Nat), (splitF size p b r).length ≤ r.length := by
        intro r
        induction r with
        | nil => intro p b; simp [splitF]
        | cons e r ih =>
          intro p b
          unfold splitF
          split
          · have := ih [] 0; simp; omega
          · have := ih (p ++ [e]) (b + szE e); simp; omega
      have := this l [] 0
      rw [hgs]; unfold splitL; omega
    have hgg : ∀ j (h : j < gs.length), gs[j].length ≤ 1000000 := by
      have hm : ∀ (r p : List Ent) (b : Nat), ∀ g ∈ splitF size p b r, g.length ≤ p.length + r.length := by
        intro r
        induction r with
        | nil => intro p b g hg; simp [splitF] at hg
        | cons e r ih =>
          intro p b g hg
          unfold splitF at hg
          split at hg
          · rcases List.mem_cons.1 hg with rfl | hg
            · simp
            · have := ih [] 0 g hg; simp at this ⊢; omega
          · have := ih (p ++ [e]) _ g hg; simp at this ⊢; omega
      intro j hj
      have := hm l [] 0 gs[j] (by rw [← show gs = splitF size [] 0 l from hgs]; exact List.getElem_mem _)
      simp at this; omega
    have HGG := Lib.hid hgg
    clear hp hgs hgg HSP
    go_wp2_with fail
    refine HSQ.out.mono ?_
    rintro e wc ⟨v7, vp7, p7, ws, rfl, hq⟩
    have HQ := Lib.hid hq
    obtain ⟨o7, c7, hv7⟩ := owns_slice1 hq.out
    subst hv7
    have HPC := Lib.hid (HPB.out.kept hq.bel)
    have HV4 := Lib.hid (HV2.out.kept HPC.out.bel)
    have hlow : ∀ b, PartOf vs b → b < wb.heap.size := by
      rintro b ⟨j, hj, hb⟩
      exact ((HPB.out.el j hj (by rw [← HPB.out.len]; exact hj)).lt b hb).2
    have hhigh : ∀ b, PartOf vs b → w2.heap.size ≤ b := by
      rintro b ⟨j, hj, hb⟩
      exact ((HPB.out.el j hj (by rw [← HPB.out.len]; exact hj)).lt b hb).1
    have HLOW := Lib.hid hlow
    have HHIGH := Lib.hid hhigh
    have HSEP := Lib.hid (show ∀ W, Tch (PartOf vs) wc W → EntsOf W (.slice o7 gs.length c7) gs from fun W ht =>
      ⟨ws, HQ.out.len, Seg.of_owns (ht.row HQ.out.out fun k hk hs => by have h1 := (HQ.out.out.lt k hk).1; have h2 := HLOW.out k hs; omega), fun j hj hk => Seg.of_owns (ht.row (HQ.out.el j hj hk) fun k hk' hs => by have h1 := ((HQ.out.el j hj hk).lt k hk').1; have h2 := HLOW.out k hs; omega)⟩)
    have HOUT := Lib.hid (show ∀ W, Tch (PartOf vs) wc W → W.ownsRow w2.heap.size TS 1 (.slice o6 gs.length c6) gs.length vs from fun W ht => ht.row HPC.out.out fun k hk hs => by
      obtain ⟨j, hj, hb⟩ := hs
      rcases own_type HPC.out.out (HPC.out.el j hj (by rw [← HPC.out.len]; exact hj)) (by decide) with e | e
      · rw [e] at hk; cases hk
      · exact e (by rw [hk, hb]))
    have HST := Lib.hid (show SpL gs (.slice o6 gs.length c6) vs w2 wc 0 wc from ⟨Tch.refl _ _, HPC.out.bel, fun j hj hk _ => HPC.out.el j hj hk⟩)
    clear hq hlow hhigh HSQ
    go_wp2_with fail
    go_loopw [8] (fun vi W => ∃ i : Nat, i ≤ gs.length ∧ vi = .int .i64 i ∧ SpL gs (.slice o6 gs.length c6) vs w2 wc i W) (fun vi _ => gs.length - (intOf vi).toNat)
    case atStart => exact ⟨0, Nat.zero_le _, rfl, HST.out⟩
    case round =>
      obtain ⟨i, hi, rfl, hsp⟩ := hrel
      have HSP := Lib.hid hsp
      by_cases hlt : i < gs.length
      · have hpl := HPC.out.len
        have hiv : i < vs.length := by omega
        have ho6 := HOUT.out _ hsp.tch
        obtain ⟨g6, cc6, hgv, -, -, -, hcell, -⟩ := owns_shape ho6 (by omega)
        injection hgv with hx1 hx2 hx3
        subst hx1
        clear hx2 hx3
        have hc6 : wr.cell? ⟨g6, i, none⟩ = some vs[i] := by rw [hcell i (by omega)]; exact List.getElem?_eq_getElem _
        obtain ⟨b7, off7, cap7, hve, hcs7⟩ := (HSEP.out _ hsp.tch).cell (by omega)
        injection hve with hx1 hx2 hx3
        subst hx1
        clear hx2 hx3
        obtain ⟨u7, hu7, hue7⟩ := hcs7 i hlt
        obtain ⟨g, hg⟩ : ∃ g, g = gs[i] := ⟨_, rfl⟩
        have hgl2 : g.length ≤ 1000000 := by rw [hg]; exact HGG.out i hlt
        have hrow := hsp.rest i hiv hlt (Nat.le_refl _)
        rw [← hg] at hrow hue7
        obtain ⟨vi, hvi⟩ : ∃ v, v = vs[i] := ⟨_, rfl⟩
        rw [← hvi] at hc6 hrow
        obtain ⟨oi, ci, hve6⟩ := owns_slice1 hrow
        have HVI := Lib.hid (show vs[i] = .slice oi g.length ci from by rw [← hvi, hve6])
        subst hve6
        obtain ⟨p4, p5, p6⟩ := elems_slice hue7
        subst p6
        have HROW := Lib.hid hrow
        have HU6 := Lib.hid (show EntsAt wr (.slice oi g.length ci) g from Seg.of_owns hrow)
        have HU7 := Lib.hid hue7
        have HS := Lib.hid (fun (zz : Later wr.heap.size wr) => (same _ _ g g zz.val (HU6.out.kept zz.prop) (HU7.out.kept zz.prop) (by omega) (by omega)))
        simp only [decide_true] at HS
        have d0 : ∀ zz : Later wr.heap.size wr, zz.val.cell? ⟨g6, i, none⟩ = some (.slice oi g.length ci) := fun zz => Later.cell hc6 (World.block_lt_of_cell? _ _ hc6) zz
        have d1 : ∀ zz : Later wr.heap.size wr, zz.val.cell? ⟨b7, off7 + i, none⟩ = some (.slice p4 g.length p5) := fun zz => Later.cell hu7 (World.block_lt_of_cell? _ _ hu7) zz
        have k1 : (0 : Int) ≤ (i : Int) := by omega
        have k2 : (i : Int) < (gs.length : Int) := by omega
        have HIV := Lib.hid hiv
        clear hsp hpl ho6 hcell hc6 hcs7 hu7 hrow hue7 hg hvi
        go_wp2_with fail
        refine wp_region_later wr.heap.size (by kernel_rfl) (by kernel_rfl) ?_
        repeat (go_big_quiet_step ((go_at_call 14; exact Later.calls (Nat.le_refl _) (HS.out _))))
        refine wpQuiet_nil ?_
        rintro w8 ⟨zz, rfl⟩
        have HSP8 := Lib.hid (HSP.out.later zz.prop)
        have HR8 := Lib.hid (row_kept1 HROW.out fun k hk => zz.prop.block k (HROW.out.lt k hk).2)
        clear d0 d1 HS
        generalize zz.val = w8 at *
        go_wp2_with fail
        go_loopw [9] (fun vk W => ∃ k : Nat, k ≤ g.length ∧ vk = .int .i64 k ∧ (∃ xs, W.ownsRow w2.heap.size TE 4 (.slice oi g.length ci) g.length xs) ∧ SpL gs (.slice (some ⟨g6, 0, none⟩) gs.length c6) vs w2 wc (i + 1) W) (fun vk _ => g.length - (intOf vk).toNat)
        case atStart => exact ⟨0, Nat.zero_le _, rfl, ⟨_, HR8.out⟩, ⟨HSP8.out.tch, HSP8.out.bel, fun j hj hk hij => HSP8.out.rest j hj hk (by omega)⟩⟩
        case round =>
          obtain ⟨wo, rfl⟩ : ∃ wo : World, wo = wr := ⟨_, rfl⟩
          obtain ⟨k, hk, rfl, ⟨xs, hx⟩, hsp⟩ := hrel
          have HX := Lib.hid hx
          have HSPK := Lib.hid hsp
          have ho6 := HOUT.out _ hsp.tch
          obtain ⟨g6', cc6, hgv, -, -, -, hcell, -⟩ := owns_shape ho6 (by omega)
          injection hgv with hx1 hx2 hx3
          injection hx1 with hx1
          injection hx1 with hx1 _
          subst hx1
          clear hx2 hx3
          have hc6 : wo.cell? ⟨g6, i, none⟩ = some (.slice oi g.length ci) := by rw [hcell i (by omega), ← HVI.out]; exact List.getElem?_eq_getElem _
          by_cases hkl : k < g.length
          · obtain ⟨gi, gic, hgv, hgb, hgl', -, hcell2, hfz⟩ := owns_shape hx (by omega)
            injection hgv with hx1 hx2 hx3
            subst hx1
            obtain rfl : gic = ci := hx3.symm
            have hxl := hx.1
            have c0 : wo.cell? ⟨gi, k * 4, none⟩ = some (xs[k * 4]'(by omega)) := by rw [hcell2 (k * 4) (by omega)]; exact List.getElem?_eq_getElem _
            obtain ⟨y, hy⟩ : ∃ y, y = xs[k * 4]'(by omega) := ⟨_, rfl⟩
            rw [← hy] at c0
            have f0 : wo.frozen? ⟨gi, k * 4, none⟩ = false := hfz _
            have j1 : (0 : Int) ≤ (k : Int) := by omega
            have j2 : (k : Int) < (g.length : Int) := by omega
            have HGB := Lib.hid hgb
            clear hx hsp ho6 hcell hcell2 hfz hy hx2 hx3 hxl
            go_wp2_with fail
            clear c0 f0
            go_roundw
            case rel =>
              have hpart : PartOf vs gi := ⟨i, HIV.out, by rw [HVI.out]; rfl⟩
              refine ⟨k + 1, hkl, by go_num, ⟨_, (HX.out.stored _ _).1⟩, ⟨HSPK.out.tch.set hpart _ _, HSPK.out.bel.setCell (p := ⟨gi, k * 4, none⟩) HGB.out _, fun j hj hk hij => ?_⟩⟩
              refine row_kept1 (HSPK.out.rest j hj hk hij) fun b hb => blk_set_other ?_
              rcases HPC.out.pair i j HIV.out hj (by omega) with e | e
              · rw [HVI.out] at e; cases e
              · intro e2
                subst e2
                exact e (by rw [HVI.out, hb]; rfl)
            case measure => simp [intOf]; omega
          · clear hx hsp ho6 hcell
            go_wp2_with fail
            go_roundw
            case rel => exact ⟨i + 1, hlt, by go_num, HSPK.out⟩
            case measure => simp [intOf]; omega
      · have HS := Lib.hid (same _ _ l l wr ((show EntsAt w2 (.slice o1 l.length c1) l from Seg.of_owns HO2.out).kept hsp.bel) (HV2.out.kept hsp.bel) (by omega) (by omega))
        simp only [decide_true] at HS
        have HBZ := Lib.hid (below_step HBW2.out hsp.bel HBW2.out.size)
        clear hsp
        go_wp2_with fail
        refine HS.out.mono ?_
        rintro e w9 ⟨rfl, hb⟩
        have HB9 := Lib.hid (below_step HBZ.out hb HBZ.out.size)
        clear hb
        go_wp2_with fail
        refine (awake_any _).mono ?_
        rintro e w10 ⟨rfl, hb⟩
        have HB10 := Lib.hid (below_step HB9.out hb HB9.out.size)
        clear hb
        go_wp2_with fail
        go_ret
        exact ⟨rfl, HB10.out⟩
  · go_wp2_with fail
    refine (awake_any _).mono ?_
    rintro e w2 ⟨rfl, hb⟩
    have HB2 := Lib.hid (below_step HB1.out hb HB1.out.size)
    clear hb
    go_wp2_with fail
    go_ret
    exact ⟨rfl, HB2.out⟩
end Go.Proofs.Try.Mg
