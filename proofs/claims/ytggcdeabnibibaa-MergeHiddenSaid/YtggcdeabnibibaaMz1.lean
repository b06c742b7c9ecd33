/- MergeMerges: the walk. -/
import Derived.Test.YtggcdeabnibibaaMr4
import Derived.Test.YtggcdeabnibibaaMw1
import Derived.Test.YtggcdeabnibibaaMw2
import Derived.Test.YtggcdeabnibibaaMv1
set_option linter.unusedVariables false
set_option linter.unusedSimpArgs false
namespace Go.Proofs.Try.Mg
open Go.RowKit Go.Cph Go.Cph.Skip Go.Cph.So

theorem small_keys {most : Nat} {ls : List (List Ent)} (h : Small most ls) : KeysOK ls.flatten := by
  intro x hx
  have h1 := h.bytes
  have : ∀ (l : List Ent), x ∈ l → x.1.size ≤ bytesL l := by
    intro l
    induction l with
    | nil => intro h; cases h
    | cons e l ih =>
      intro h
      rw [bytesL]
      rcases List.mem_cons.1 h with rfl | h
      · unfold szE; omega
      · have := ih h; omega
  have := this _ hx
  omega
theorem small_len {most : Nat} {ls : List (List Ent)} (h : Small most ls) : ls.flatten.length ≤ 60 * most := by
  have : ∀ (ls : List (List Ent)), (∀ l ∈ ls, l.length ≤ 60) → ls.flatten.length ≤ 60 * ls.length := by
    intro ls
    induction ls with
    | nil => simp
    | cons l ls ih =>
      intro h
      rw [List.flatten_cons, List.length_append, List.length_cons]
      have := h l (by simp)
      have := ih (fun l hl => h l (List.mem_cons_of_mem _ hl))
      omega
  have h1 := this ls h.each
  have h2 := h.num
  have : 60 * ls.length ≤ 60 * most := Nat.mul_le_mul_left _ h2
  omega

set_option maxRecDepth 100000 in
set_option maxHeartbeats 16000000 in
theorem merges_walk (v : Value) (ls : List (List Ent)) (w : World) (h : EntsOf w v ls) (hlm : ls.length ≤ 9223372036854775807) (hls : ∀ l ∈ ls, l.length ≤ 9223372036854775807 ∧ ∀ a ∈ l, SizesOK a) :
    Calls Try.prog 3 #[v] w (AwPost w) := by
  have HG := Lib.hid (great_any 5 v ls w h (by omega) hlm (fun l hl => by unfold maxLen; exact (hls l hl).1) (fun l hl e he => (hls l hl).2 e he))
  obtain ⟨ao, cap, hv⟩ := h.slice
  subst hv
  have HL := Lib.hid h
  clear h hls hlm
  go_enter Try.func3, Try.ntmps3
  go_wp2_with fail
  refine HG.out.mono ?_
  rintro e w1 ⟨r, rfl, hr, hb⟩
  have HB1 := Lib.hid hb
  have HSM := Lib.hid hr
  clear hb hr HG
  cases r
  · have HSS := Lib.hid (HSM.out rfl)
    have hl5 : ls.length ≤ 5 := HSS.out.num
    have HKS := Lib.hid (small_keys HSS.out)
    have hfl : ls.flatten.length ≤ 300 := small_len HSS.out
    have HL1 := Lib.hid (HL.out.kept HB1.out)
    have HGL := Lib.hid (show ∀ i (h : i < ls.length), ls[i].length ≤ 60 ∧ KeysOK ls[i] from fun i h => ⟨HSS.out.each _ (List.getElem_mem _), fun x hx => HKS.out x (List.mem_flatten.2 ⟨_, List.getElem_mem _, hx⟩)⟩)
    clear HSM HL
    go_wp2_with fail
    go_loopw [3, 4] (fun vo vi wr => ∃ (i : Nat) (vs : List Value), i ≤ ls.length ∧ vi = .int .i64 i ∧ Pts w1 vo nilV (ls.take i) [] vs wr) (fun _ vi _ => ls.length - (intOf vi).toNat)
    case atStart => exact ⟨0, [], Nat.zero_le _, rfl, ⟨World.ownsRow_nil _ _ _ _, rfl, fun j h => by simp at h, World.ownsRow_nil _ _ _ _, fun j h => by simp at h, fun j k h => by simp at h, Below.refl _ _⟩⟩
    case round =>
      obtain ⟨i, vs, hi, rfl, hp⟩ := hrel
      have HP := Lib.hid hp
      have htl : (ls.take i).length = i := by rw [List.length_take]; omega
      obtain ⟨oo, oc, hov⟩ := owns_slice1 hp.out
      rw [htl] at hov
      subst hov
      by_cases hlt : i < ls.length
      · obtain ⟨b, off, cap', hve, hcs⟩ := (HL1.out.kept hp.bel).cell (by omega)
        cases hve
        obtain ⟨u, hu, hue⟩ := hcs i hlt
        obtain ⟨hg60, hgk⟩ := HGL.out i hlt
        have hblt : b < wr.heap.size := World.block_lt_of_cell? _ _ hu
        obtain ⟨g, hg⟩ : ∃ g, g = ls[i] := ⟨_, rfl⟩
        rw [← hg] at hue hg60 hgk
        obtain ⟨uo, uc, hub⟩ := elems_slice hue
        subst hub
        have HUE := Lib.hid hue
        have HSN := Lib.hid (show ls.take (i + 1) = ls.take i ++ [g] by rw [List.take_succ_eq_append_getElem hlt, hg])
        have HGK := Lib.hid hgk
        have k1 : (0 : Int) ≤ (i : Int) := by omega
        have k2 : (i : Int) < (ls.length : Int) := by omega
        have HTL := Lib.hid htl
        have HOE := Lib.hid (show (wr.alloc (.cells #[] TE)).ownsRow wr.heap.size TE 4 (.slice (some ⟨wr.heap.size, 0, none⟩) 0 0) 0 [] from owns_empty (heap_alloc_new wr (.cells #[] TE)) (Nat.le_refl _) 4)
        have HBE0 := Lib.hid (show Below wr.heap.size wr (wr.alloc (.cells #[] TE)) from (Below.refl _ _).alloc (Nat.le_refl _) _)
        have HZ0 := Lib.hid HBE0.out.size
        have HUE0 := Lib.hid (HUE.out.kept HBE0.out)
        have HL9 := Lib.hid (show 0 + g.length ≤ 1099511627776 by omega)
        have HL8 := Lib.hid (show (ls.take i).length + 1 ≤ 1099511627776 by omega)
        clear hp hcs hue hg hgk htl
        go_wp2_with (first | (at_builtin; refine wpList_append_seg rfl (.tmp 18) (.tmp 22) 25 rfl wr.heap.size TE _ 4 48 Try.underlying25 infoE rfl (by decide) _ 0 [] rfl HOE.out _ g.length (g.flatMap encC) rfl HUE0.out encC_one HL9.out (by decide) HZ0.out ?_; intro v1 w2 ho hgr _; have HB2 := Lib.hid (below_grown HBE0.out hgr HOE.out (Nat.le_refl _) HBE0.out.size); have HP2 := Lib.hid (HP.out.fresh (p := g) HB2.out (by simpa using ho)); clear ho hgr; obtain ⟨vo1, vc1, hv1⟩ := owns_slice1 HP2.out.part; subst hv1; have HP3 := Lib.hid (HP2.out.kept ((Below.refl _ _).alloc (Nat.le_refl _) (.cells #[.slice vo1 g.length vc1] TS))); have HN3 := Lib.hid (heap_alloc_new w2 (.cells #[.slice vo1 g.length vc1] TS)); have HZ3 := Lib.hid HP3.out.bel.size; have HONE := Lib.hid (one_slice HP2.out.part); have HSEG := Lib.hid (show Seg (w2.alloc (.cells #[.slice vo1 g.length vc1] TS)) 1 (.slice (some ⟨w2.heap.size, 0, none⟩) 1 1) 1 [.slice vo1 g.length vc1] from ⟨⟨_, _, rfl, fun _ => ⟨w2.heap.size, 0, rfl, fun j hj => (by rw [Nat.zero_add, blk_cell HN3.out]; simp)⟩⟩, rfl⟩)) | (at_builtin; refine wpList_append_seg rfl (.tmp 17) (.tmp 24) 22 rfl w1.heap.size TS _ 1 24 Try.underlying22 infoS rfl (by decide) _ (ls.take i).length vs rfl HP3.out.out _ 1 [.slice vo1 g.length vc1] rfl HSEG.out HONE.out HL8.out (by decide) HZ3.out ?_; intro v2 w3 ho hgr _; have HP4 := Lib.hid (HP3.out.put ho hgr); clear ho hgr))
        have HB4 := Lib.hid HP4.out.bel
        have HPZ := Lib.hid (show Pts w1 v2 nilV (ls.take (i + 1)) [] (vs ++ [.slice vo1 g.length vc1]) w3 from by rw [HSN.out]; exact HP4.out)
        have HL4 := Lib.hid ((HL1.out.kept HPZ.out.bel).cell (by omega))
        obtain ⟨b4, off4, cap4, hve, hcs⟩ := HL4.out
        injection hve with hve1 hvl hvc
        clear hvl hvc
        injection hve1 with hve1
        injection hve1 with e1 e2
        subst e1 e2
        obtain ⟨u4, hu4, hue4⟩ := hcs i hlt
        have hu5 : w3.cell? ⟨b, off + i, none⟩ = some (.slice uo g.length uc) := by
          have hbl := HP.out.bel
          have h1 : w1.cell? ⟨b, off + i, none⟩ = some u4 := by
            obtain ⟨b5, off5, cap5, hve5, hcs5⟩ := HL1.out.cell (by omega)
            injection hve5 with hve5 _ _
            injection hve5 with hve5
            injection hve5 with e1 e2
            subst e1 e2
            obtain ⟨u6, hu6, -⟩ := hcs5 i hlt
            have := (HPZ.out.bel.cell (World.block_lt_of_cell? _ _ hu6)).trans hu6
            rw [this] at hu4; cases hu4; exact hu6
          have h2 := (hbl.cell (World.block_lt_of_cell? _ _ h1)).trans h1
          rw [h2] at hu; cases hu; exact hu4
        have HUE3 := Lib.hid (show EntsAt w3 (.slice uo g.length uc) g from by
          rw [hu5] at hu4; cases hu4
          have : g = ls[i] := by
            have := HSN.out
            rw [List.take_succ_eq_append_getElem hlt] at this
            exact (List.append_inj_right this rfl |> fun e => (List.singleton_inj.1 e)).symm
          rw [← this] at hue4; exact hue4)
        have d0 : ∀ zz : Later w3.heap.size w3, zz.val.cell? ⟨b, off + i, none⟩ = some (.slice uo g.length uc) := fun zz => Later.cell hu5 (World.block_lt_of_cell? _ _ hu5) zz
        have HR1 := Lib.hid (fun (zz : Later w3.heap.size w3) => right_any (.slice uo g.length uc) g zz.val (HUE3.out.kept zz.prop) (by omega))
        have HR2 := Lib.hid (fun (zz : Later w3.heap.size w3) => right16 (.slice uo g.length uc) g zz.val (HUE3.out.kept zz.prop) (by omega) HGK.out)
        obtain ⟨r, hr⟩ : ∃ r, r = rightL g := ⟨_, rfl⟩
        rw [← hr] at HR1 HR2
        have htl2 : (ls.take (i + 1)).length = i + 1 := by rw [List.length_take]; omega
        obtain ⟨oo2, oc2, hov2⟩ := owns_slice1 HPZ.out.out
        rw [htl2] at hov2
        subst hov2
        clear htl2
        clear hr hu hu4 hue4 hcs hu5 hblt
        go_wp2_with fail
        refine wp_region_later w3.heap.size (by kernel_rfl) (by kernel_rfl) ?_
        repeat (go_big_quiet_step (first | (go_at_call 11; exact Later.calls (Nat.le_refl _) (HR1.out _)) | (go_at_call 12; exact Later.calls (Nat.le_refl _) (HR2.out _))))
        refine wpQuiet_nil ?_
        rintro w4 ⟨zz, rfl⟩
        have HP5 := Lib.hid (HPZ.out.kept zz.prop)
        clear d0 HR1 HR2
        generalize zz.val = w4 at *
        go_wp2_with fail
        go_roundw
        case rel => exact ⟨i + 1, vs ++ [.slice vo1 g.length vc1], hlt, by go_num, HP5.out⟩
        case measure => simp [intOf]; omega
      · have hti : ls.take i = ls := List.take_of_length_le (by omega)
        rw [hti] at hp
        have HPA := Lib.hid hp
        have HBA := Lib.hid hp.bel
        have HOWN := Lib.hid hp.done
        have HLA := Lib.hid (HL1.out.kept hp.bel)
        have HM := Lib.hid (merge_any _ ls wr hp.done (by omega) (by omega))
        clear hp HP htl hti
        go_wp2_with fail
        refine HM.out.mono ?_
        rintro e w5 ⟨v5, rfl, ho, hb⟩
        obtain ⟨m, hm⟩ : ∃ m, m = mergeL ltE ls.flatten := ⟨_, rfl⟩
        have hml : m.length ≤ 300 := by rw [hm]; exact Nat.le_trans (mergeL_length weakE _) hfl
        have HR := Lib.hid (merge16 _ ls w5 (HLA.out.kept hb) (by omega) (by omega) HKS.out)
        rw [← hm] at ho HR
        obtain ⟨o5, c5, hv5⟩ := owns_slice1 ho
        subst hv5
        have HO5 := Lib.hid ho
        have HB5 := Lib.hid hb
        clear ho hb HM hm
        go_wp2_with fail
        refine HR.out.mono ?_
        rintro e w6 ⟨v6, rfl, ho, hb⟩
        have HO6 := Lib.hid (row_kept1 HO5.out fun k hk => hb.block k (HO5.out.lt k hk).2)
        have HB6 := Lib.hid (below_step HB5.out hb HB5.out.size)
        have HS := Lib.hid (same _ v6 m m w6 (Seg.of_owns HO6.out) (Seg.of_owns ho) (by omega) (by omega))
        simp only [decide_true] at HS
        clear ho hb HR HO5 HB5
        go_wp2_with fail
        refine HS.out.mono ?_
        rintro e w7 ⟨rfl, hb⟩
        have HO7 := Lib.hid (row_kept1 HO6.out fun k hk => hb.block k (HO6.out.lt k hk).2)
        have HB7 := Lib.hid (below_step HB6.out hb HB6.out.size)
        clear hb HS HO6 HB6
        go_wp2_with fail
        go_loopw [6] (fun vi W => ∃ k : Nat, k ≤ m.length ∧ vi = .int .i64 k ∧ (∃ xs, W.ownsRow wr.heap.size TE 4 (.slice o5 m.length c5) m.length xs) ∧ Below wr.heap.size wr W) (fun vi _ => m.length - (intOf vi).toNat)
        case atStart => exact ⟨0, Nat.zero_le _, rfl, ⟨_, HO7.out⟩, HB7.out⟩
        case round =>
          obtain ⟨wo, rfl⟩ : ∃ wo : World, wo = wr := ⟨_, rfl⟩
          obtain ⟨k, hk, rfl, ⟨xs, hx⟩, hbw⟩ := hrel
          have HX := Lib.hid hx
          have HBW := Lib.hid hbw
          by_cases hkl : k < m.length
          · obtain ⟨g, gc, hgv, hgb, hgl, -, hcell, hfz⟩ := owns_shape hx (by omega)
            injection hgv with hg1 hg2 hg3
            subst hg1
            obtain rfl : gc = c5 := hg3.symm
            have hxl := hx.1
            have c0 : wo.cell? ⟨g, k * 4, none⟩ = some (xs[k * 4]'(by omega)) := by rw [hcell (k * 4) (by omega)]; exact List.getElem?_eq_getElem _
            obtain ⟨y, hy⟩ : ∃ y, y = xs[k * 4]'(by omega) := ⟨_, rfl⟩
            rw [← hy] at c0
            have f0 : wo.frozen? ⟨g, k * 4, none⟩ = false := hfz _
            have k1 : (0 : Int) ≤ (k : Int) := by omega
            have k2 : (k : Int) < (m.length : Int) := by omega
            have HGB := Lib.hid hgb
            clear hx hbw hcell hfz hy hg2 hg3 hxl
            go_wp2_with fail
            clear c0 f0
            go_roundw
            case rel => exact ⟨k + 1, hkl, by go_num, ⟨_, (HX.out.stored _ _).1⟩, HBW.out.setCell (p := ⟨g, k * 4, none⟩) HGB.out _⟩
            case measure => simp [intOf]; omega
          · have HOWN2 := Lib.hid (HOWN.out.kept hbw)
            have HLA2 := Lib.hid (HLA.out.kept hbw)
            have HBZ := Lib.hid (below_step (below_step HB1.out HBA.out HB1.out.size) hbw (below_step HB1.out HBA.out HB1.out.size).size)
            clear hx hbw
            go_wp2_with fail
            go_loopw [7] (fun vi W => ∃ k : Nat, k ≤ ls.length ∧ vi = .int .i64 k ∧ Below wo.heap.size wo W) (fun vi _ => ls.length - (intOf vi).toNat)
            case atStart => exact ⟨0, Nat.zero_le _, rfl, Below.refl _ _⟩
            case round =>
              obtain ⟨wq, rfl⟩ : ∃ wo : World, wo = wr := ⟨_, rfl⟩
              obtain ⟨q, hq, rfl, hbq⟩ := hrel
              have HBQ := Lib.hid hbq
              by_cases hql : q < ls.length
              · obtain ⟨b1, off1, cap1, hve, hcs⟩ := (HOWN2.out.kept hbq).cell (by omega)
                injection hve with hv1 hv2 hv3
                subst hv1
                clear hv2 hv3
                obtain ⟨b2, off2, cap2, hve, hcs2⟩ := (HLA2.out.kept hbq).cell (by omega)
                injection hve with hv1 hv2 hv3
                subst hv1
                clear hv2 hv3
                obtain ⟨u1, hu1, hue1⟩ := hcs q hql
                obtain ⟨u2, hu2, hue2⟩ := hcs2 q hql
                obtain ⟨hg60, hgk⟩ := HGL.out q hql
                obtain ⟨g, hg⟩ : ∃ g, g = ls[q] := ⟨_, rfl⟩
                rw [← hg] at hue1 hue2 hg60
                obtain ⟨p1, p2, p3⟩ := elems_slice hue1
                subst p3
                obtain ⟨p4, p5, p6⟩ := elems_slice hue2
                subst p6
                have HU1 := Lib.hid hue1
                have HU2 := Lib.hid hue2
                have HS := Lib.hid (fun (zz : Later wq.heap.size wq) => (same _ _ g g zz.val (HU1.out.kept zz.prop) (HU2.out.kept zz.prop) (by omega) (by omega)))
                simp only [decide_true] at HS
                have d0 : ∀ zz : Later wq.heap.size wq, zz.val.cell? ⟨b1, off1 + q, none⟩ = some (.slice p1 g.length p2) := fun zz => Later.cell hu1 (World.block_lt_of_cell? _ _ hu1) zz
                have d1 : ∀ zz : Later wq.heap.size wq, zz.val.cell? ⟨b2, off2 + q, none⟩ = some (.slice p4 g.length p5) := fun zz => Later.cell hu2 (World.block_lt_of_cell? _ _ hu2) zz
                have k1 : (0 : Int) ≤ (q : Int) := by omega
                have k2 : (q : Int) < (ls.length : Int) := by omega
                have k3 : (q : Int) < (i : Int) := by omega
                have hqi : q < i := by omega
                clear hbq hcs hcs2 hu1 hu2 hue1 hue2 hgk hg
                go_wp2_with fail
                refine wp_region_later wq.heap.size (by kernel_rfl) (by kernel_rfl) ?_
                repeat (go_big_quiet_step ((go_at_call 14; exact Later.calls (Nat.le_refl _) (HS.out _))))
                refine wpQuiet_nil ?_
                rintro w8 ⟨zz, rfl⟩
                have HB8 := Lib.hid (below_step HBQ.out zz.prop HBQ.out.size)
                clear d0 d1 HS
                generalize zz.val = w8 at *
                go_wp2_with fail
                go_roundw
                case rel => exact ⟨q + 1, hql, by go_num, HB8.out⟩
                case measure => simp [intOf]; omega
              · have HM0 := Lib.hid (fun W => merge_any (.slice none 0 0) [] W (Lists.nil W) (by simp) (by simp))
                have HB9 := Lib.hid (below_step HBZ.out hbq HBZ.out.size)
                clear hbq
                go_wp2_with fail
                refine (HM0.out _).mono ?_
                rintro e w9 ⟨v9, rfl, ho, hb⟩
                obtain ⟨o9, c9, hv9⟩ := owns_slice1 ho
                have e9 : (mergeL ltE ([] : List (List Ent)).flatten).length = 0 := rfl
                rw [e9] at hv9
                subst hv9
                have HB10 := Lib.hid (below_step HB9.out hb HB9.out.size)
                clear ho hb e9
                go_wp2_with fail
                refine (awake_any _).mono ?_
                rintro e w10 ⟨rfl, hb⟩
                have HB11 := Lib.hid (below_step HB10.out hb HB10.out.size)
                clear hb
                go_wp2_with fail
                go_ret
                exact ⟨rfl, HB11.out⟩
  · go_wp2_with fail
    refine (awake_any _).mono ?_
    rintro e w2 ⟨rfl, hb⟩
    have HB2 := Lib.hid (below_step HB1.out hb HB1.out.size)
    clear hb
    go_wp2_with fail
    go_ret
    exact ⟨rfl, HB2.out⟩
end Go.Proofs.Try.Mg
