/- The document's lists put together: one by one into their places; of alike ones the first. -/
import Derived.Test.YtggcdeabnibibaaMr1
set_option linter.unusedVariables false
set_option linter.unusedSimpArgs false
namespace Go.Proofs.Try.Mg
open Go.RowKit Go.Cph Go.Cph.Skip Go.Cph.So

theorem seg_to {w : World} {l : List Ent} {b off cap : Nat} (h : EntsAt w (.slice (some ⟨b, off, none⟩) l.length cap) l) (m cap' : Nat) (hm : m ≤ l.length) :
    Seg w 4 (.slice (some ⟨b, off, none⟩) m cap') m ((l.take m).flatMap encC) := by
  have hl : (l.take m).length = m := by rw [List.length_take]; omega
  have := ents_part h 0 m cap' (by omega) (by rw [List.drop_zero, hl])
  rw [Nat.zero_mul, Nat.add_zero, List.drop_zero] at this
  unfold EntsAt Elems at this
  rwa [hl] at this
theorem seg_from {w : World} {l : List Ent} {b off cap : Nat} (h : EntsAt w (.slice (some ⟨b, off, none⟩) l.length cap) l) (m : Nat) (hm : m ≤ l.length) (cap' : Nat) :
    Seg w 4 (.slice (some ⟨b, off + m * 4, none⟩) (l.length - m) cap') (l.length - m) ((l.drop m).flatMap encC) := by
  have hl : (l.drop m).length = l.length - m := List.length_drop
  have e : (l.drop m).take (l.length - m) = l.drop m := List.take_of_length_le (by omega)
  have := ents_part h m (l.length - m) cap' (by omega) (by rw [e, hl])
  rw [e] at this
  unfold EntsAt Elems at this
  rwa [hl] at this
theorem seg_from0 {w : World} {l : List Ent} {b cap : Nat} (h : EntsAt w (.slice (some ⟨b, 0, none⟩) l.length cap) l) (m : Nat) (hm : m ≤ l.length) (cap' : Nat) :
    Seg w 4 (.slice (some ⟨b, m * 4, none⟩) (l.length - m) cap') (l.length - m) ((l.drop m).flatMap encC) := by
  have := seg_from h m hm cap'
  rwa [Nat.zero_add] at this
theorem seg_empty (w : World) (ao : Option Addr) (c : Nat) : Seg w 4 (.slice ao 0 c) 0 [] := ⟨⟨_, _, rfl, fun h => by omega⟩, rfl⟩
theorem seg_zero {w : World} {ao : Option Addr} {n c : Nat} (h : n = 0) : Seg w 4 (.slice ao n c) n [] := by subst h; exact seg_empty _ _ _
def OwnPost (w : World) (l : List Ent) (e : Ending) (w' : World) : Prop := NewRow w l e w'

set_option maxRecDepth 100000 in
set_option maxHeartbeats 8000000 in
theorem sorted09 (v : Value) (l : List Ent) (w : World) (h : EntsAt w v l) (hn : l.length ≤ 100000) (hks : KeysOK l) :
    Calls Try.prog 29 #[v] w (NewRow w (sortD l)) := by
  obtain ⟨ao, cap, hv⟩ := elems_slice h
  have HV := Lib.hid h
  have HKS := Lib.hid hks
  subst hv
  clear h hks
  go_enter Try.func29, Try.ntmps29
  go_wp2_with fail
  go_loopw [3, 4] (fun vo vi wr => ∃ i : Nat, i ≤ l.length ∧ vi = .int .i64 i ∧ wr.ownsRow w.heap.size TE 4 vo (sortD (l.take i)).length ((sortD (l.take i)).flatMap encC) ∧ Below w.heap.size w wr ∧ (i = 0 → vo = .slice none 0 0)) (fun _ vi _ => l.length - (intOf vi).toNat)
  case atStart => exact ⟨0, Nat.zero_le _, rfl, World.ownsRow_nil _ _ _ _, Below.refl _ _, fun _ => rfl⟩
  case round =>
    obtain ⟨i, hi, rfl, ho, hbel, hnil⟩ := hrel
    have HO := Lib.hid ho
    have HBE := Lib.hid hbel
    by_cases hlt : i < l.length
    · obtain ⟨b, off, cap', hve, hcs⟩ := ents_cells HV.out (by omega)
      cases hve
      obtain ⟨x, hx⟩ : ∃ x, x = l[i] := ⟨_, rfl⟩
      have hxk : x.1.size ≤ 1000000 := HKS.out x (by rw [hx]; exact List.getElem_mem _)
      have HCX := Lib.hid (show ∀ W, Below w.heap.size w W → CellsOf W b (off + i * 4) x from fun W hb => by rw [hx]; exact (hcs i hlt).kept hb)
      obtain ⟨s, hs⟩ : ∃ s, s = sortD (l.take i) := ⟨_, rfl⟩
      have hsl : s.length = i := by rw [hs, sortD_length, List.length_take]; omega
      have hsk : KeysOK s := by
        intro y hy
        rw [hs] at hy
        have : ∀ (r : List Ent), y ∈ sortD r.reverse → y ∈ r.reverse := by
          intro r
          induction r with
          | nil => intro h; simp [sortD] at h
          | cons e r ih =>
            intro h
            rw [List.reverse_cons, sortD_snoc, mem_insD] at h
            rw [List.reverse_cons, List.mem_append]
            rcases h with rfl | h
            · exact .inr (by simp)
            · exact .inl (ih h)
        have h2 := this (l.take i).reverse (by rwa [List.reverse_reverse])
        rw [List.reverse_reverse] at h2
        exact HKS.out y (List.mem_of_mem_take h2)
      have HSN := Lib.hid (show sortD (l.take (i + 1)) = insD s x by rw [List.take_succ_eq_append_getElem hlt, sortD_snoc, hs, hx])
      rw [← hs] at HO ho
      have HSK := Lib.hid hsk
      have HHB := Lib.hid (fun y (h : y ∈ s) W => before_any y x W (hsk y h) hxk)
      have k1 : (0 : Int) ≤ (i : Int) := by omega
      have k2 : (i : Int) < (l.length : Int) := by omega
      have hsm : s.length ≤ 100000 := by omega
      have HSL := Lib.hid hsl
      clear hcs hx hs hsk hbel
      rcases Nat.eq_zero_or_pos i with h0 | h0
      · have hs0 : s = [] := List.eq_nil_of_length_eq_zero (by omega)
        have hvn := hnil h0
        subst hvn
        have hsl0 : s.length = 0 := by rw [hs0]; rfl
        clear hsl
        have HIN := Lib.hid (show insD s x = s.take 0 ++ x :: s.drop 0 from by rw [hs0]; rfl)
        clear hnil ho
        obtain ⟨wo, rfl⟩ : ∃ wo : World, wo = wr := ⟨_, rfl⟩
        have HS0 := Lib.hid hs0
        clear hs0 hsl0 h0
        go_wp2_with fail
        refine wp_loop_rounds 1 ?_
        rw [rounds_succ]
        go_wp2_with fail
        go_quiet (fail)
        have HBQ := Lib.hid (below_step HBE.out (show Below wo.heap.size wo (wo.drewN nq) from ⟨rfl, rfl, rfl, Nat.le_refl _, fun _ _ => rfl⟩) HBE.out.size)
        generalize wo.drewN nq = wq at *
        have HOE := Lib.hid (show (wq.alloc (.cells #[] TE)).ownsRow wq.heap.size TE 4 (.slice (some ⟨wq.heap.size, 0, none⟩) 0 0) 0 [] from owns_empty (heap_alloc_new wq (.cells #[] TE)) (Nat.le_refl _) 4)
        have HBE0 := Lib.hid (show Below wq.heap.size wq (wq.alloc (.cells #[] TE)) from (Below.refl _ _).alloc (Nat.le_refl _) _)
        have HZ0 := Lib.hid HBE0.out.size
        have HLA := Lib.hid (show 0 + 0 ≤ 1099511627776 by omega)
        have HLB := Lib.hid (show 0 + 0 + 1 ≤ 1099511627776 by omega)
        have HLC := Lib.hid (show 0 + 0 + 1 + 0 ≤ 1099511627776 by omega)
        go_wp2_with (first | (at_builtin; refine wpList_append_seg rfl (.tmp 30) (.tmp 33) 25 rfl wq.heap.size TE _ 4 48 Try.underlying25 infoE rfl (by decide) _ 0 [] rfl HOE.out _ 0 [] rfl (seg_empty _ _ _) (by simp) HLA.out (by decide) HZ0.out ?_; intro v1 w1 ho hgr _; have HO1 := Lib.hid ho; have HB1 := Lib.hid (below_grown HBE0.out hgr HOE.out (Nat.le_refl _) HBE0.out.size); clear ho hgr; have HZ1 := Lib.hid HB1.out.size; have hcx := HCX.out _ (below_step HBQ.out HB1.out HBQ.out.size); have d0 := hcx.c0; have d1 := hcx.c1; have d2 := hcx.c2; have d3 := hcx.c3; clear hcx) | (at_builtin; refine wpList_append1 rfl (.tmp 35) (.tmp 40) 25 rfl wq.heap.size TE _ 4 48 Try.underlying25 infoE rfl (by decide) _ (0 + 0) _ (encC x) rfl HO1.out _ 1 rfl rfl rfl (encC_one1 x) HLB.out (by decide) HZ1.out wq.heap.size wq HB1.out (Nat.le_refl _) ?_; intro v2 w2 ho hgr hb2 hsz2; have HO2 := Lib.hid ho; have HB2 := Lib.hid hb2; clear ho hgr hb2 hsz2 d0 d1 d2 d3; have HZ2 := Lib.hid HB2.out.size) | (at_builtin; refine wpList_append_seg rfl (.tmp 42) (.tmp 45) 25 rfl wq.heap.size TE _ 4 48 Try.underlying25 infoE rfl (by decide) _ (0 + 0 + 1) _ rfl HO2.out _ 0 [] rfl (seg_empty _ _ _) (by simp) HLC.out (by decide) HZ2.out ?_; intro v3 w3 ho hgr _; have HO3 := Lib.hid ho; have HB3 := Lib.hid (below_grown HB2.out hgr HO2.out (Nat.le_refl _) HB2.out.size); clear ho hgr))
        have HF := Lib.hid (show w3.ownsRow w.heap.size TE 4 v3 (sortD (l.take (i + 1))).length ((sortD (l.take (i + 1))).flatMap encC) from by
          have h := owns_mono HO3.out HBQ.out.size
          rw [HSN.out, HIN.out]
          have e1 : (s.take 0 ++ x :: s.drop 0).length = 0 + 0 + 1 + 0 := by rw [HS0.out]; rfl
          have e2 : (s.take 0 ++ x :: s.drop 0).flatMap encC = [] ++ [] ++ encC x ++ [] := by rw [HS0.out]; simp
          rw [e1, e2]; exact h)
        go_roundw
        case rel => exact ⟨i + 1, hlt, by go_num, HF.out, below_step HBQ.out HB3.out HBQ.out.size, fun h => by omega⟩
        case measure => simp [intOf]; omega

      · obtain ⟨g, gc, hgv, hgb, hgl, hgc, -, -⟩ := owns_shape HO.out (by omega)
        subst hgv
        clear hsl
        have HS := Lib.hid (show EntsAt wr (.slice (some ⟨g, 0, none⟩) s.length gc) s from Seg.of_owns HO.out)
        clear hnil ho
        obtain ⟨wo, rfl⟩ : ∃ wo : World, wo = wr := ⟨_, rfl⟩
        go_wp2_with fail
        go_loopw [5] (fun vk W => ∃ k : Nat, k ≤ s.length ∧ vk = .int .i64 k ∧ (∀ j (hj : j < s.length), j < k → ltE s[j] x = true) ∧ Below wo.heap.size wo W) (fun vk _ => s.length - (intOf vk).toNat)
        case atStart => exact ⟨0, Nat.zero_le _, rfl, fun j _ h => by omega, Below.refl _ _⟩
        case round =>
          obtain ⟨wz, rfl⟩ : ∃ wz : World, wz = wr := ⟨_, rfl⟩
          obtain ⟨k, hk, rfl, hall, hbl⟩ := hrel
          have HALL := Lib.hid hall
          have HBL := Lib.hid hbl
          have HBW := Lib.hid (below_step HBE.out hbl HBE.out.size)
          have HSZ := Lib.hid (HS.out.kept hbl)
          clear hall hbl
          by_cases hkl : k < s.length
          · obtain ⟨y, hy⟩ : ∃ y, y = s[k] := ⟨_, rfl⟩
            have hce := own_cells (row_kept1 HO.out fun k hk => HBL.out.block k (HO.out.lt k hk).2) hkl (show s[k]? = some y by rw [hy]; exact List.getElem?_eq_getElem _)
            have hcf := HCX.out _ HBW.out
            have HBF := Lib.hid (fun W => HHB.out y (by rw [hy]; exact List.getElem_mem _) W)
            obtain ⟨r, hr⟩ : ∃ r, r = ltE y x := ⟨_, rfl⟩
            rw [← hr] at HBF
            have HY := Lib.hid (show r = ltE s[k] x by rw [hr, hy])
            have y1 : (k : Int) < (s.length : Int) := by omega
            have y2 : decide (k < s.length) = true := by simpa using hkl
            have y3 : (0 : Int) ≤ (k : Int) := by omega
            have HKL := Lib.hid hkl
            clear hy hr
            have d0 : ∀ zz : Later wz.heap.size wz, zz.val.cell? ⟨g, k * 4, none⟩ = some (.string y.1) := fun zz => Later.cell hce.c0 (World.block_lt_of_cell? _ _ hce.c0) zz
            have d1 : ∀ zz : Later wz.heap.size wz, zz.val.cell? ⟨g, k * 4 + 1, none⟩ = some (.string y.2.1) := fun zz => Later.cell hce.c1 (World.block_lt_of_cell? _ _ hce.c1) zz
            have d2 : ∀ zz : Later wz.heap.size wz, zz.val.cell? ⟨g, k * 4 + 2, none⟩ = some (.int .u64 (y.2.2.1.toNat : Int)) := fun zz => Later.cell hce.c2 (World.block_lt_of_cell? _ _ hce.c2) zz
            have d3 : ∀ zz : Later wz.heap.size wz, zz.val.cell? ⟨g, k * 4 + 3, none⟩ = some (.bool y.2.2.2) := fun zz => Later.cell hce.c3 (World.block_lt_of_cell? _ _ hce.c3) zz
            have f0 : ∀ zz : Later wz.heap.size wz, zz.val.cell? ⟨b, off + i * 4, none⟩ = some (.string x.1) := fun zz => Later.cell hcf.c0 (World.block_lt_of_cell? _ _ hcf.c0) zz
            have f1 : ∀ zz : Later wz.heap.size wz, zz.val.cell? ⟨b, off + i * 4 + 1, none⟩ = some (.string x.2.1) := fun zz => Later.cell hcf.c1 (World.block_lt_of_cell? _ _ hcf.c1) zz
            have f2 : ∀ zz : Later wz.heap.size wz, zz.val.cell? ⟨b, off + i * 4 + 2, none⟩ = some (.int .u64 (x.2.2.1.toNat : Int)) := fun zz => Later.cell hcf.c2 (World.block_lt_of_cell? _ _ hcf.c2) zz
            have f3 : ∀ zz : Later wz.heap.size wz, zz.val.cell? ⟨b, off + i * 4 + 3, none⟩ = some (.bool x.2.2.2) := fun zz => Later.cell hcf.c3 (World.block_lt_of_cell? _ _ hcf.c3) zz
            clear hce hcf
            go_wp2_with fail
            refine wp_region_later wz.heap.size (by kernel_rfl) (by kernel_rfl) ?_
            repeat (go_big_quiet_step ((go_at_call 27; exact Later.calls (Nat.le_refl _) (HBF.out _))))
            refine wpQuiet_nil ?_
            rintro wq ⟨zz, rfl⟩
            have HBQ := Lib.hid (below_step HBW.out zz.prop HBW.out.size)
            have HBQ2 := Lib.hid (below_step HBL.out zz.prop HBL.out.size)
            have HSW := Lib.hid (HSZ.out.kept zz.prop)
            clear d0 d1 d2 d3 f0 f1 f2 f3
            generalize zz.val = wq at *
            cases r
            · have htw := takeWhile_at (p := fun y => ltE y x) hk HALL.out (fun h => HY.out.symm)
              have HIN := Lib.hid (show insD s x = s.take k ++ x :: s.drop k from by unfold insD; rw [htw.1, htw.2])
              have c1 : ¬ gc = k := by omega
              have c2 : (k : Int) ≤ (s.length : Int) := by omega
              have c3 : (k : Int) ≤ (gc : Int) := by omega
              have c4 : k ≤ gc := by omega
              have c5 : (s.length : Int) ≤ (gc : Int) := by omega
              clear htw y2
              have HOE := Lib.hid (show (wq.alloc (.cells #[] TE)).ownsRow wq.heap.size TE 4 (.slice (some ⟨wq.heap.size, 0, none⟩) 0 0) 0 [] from owns_empty (heap_alloc_new wq (.cells #[] TE)) (Nat.le_refl _) 4)
              have HBE0 := Lib.hid (show Below wq.heap.size wq (wq.alloc (.cells #[] TE)) from (Below.refl _ _).alloc (Nat.le_refl _) _)
              have HZ0 := Lib.hid HBE0.out.size
              have HLA := Lib.hid (show 0 + k ≤ 1099511627776 by omega)
              have HLB := Lib.hid (show 0 + k + 1 ≤ 1099511627776 by omega)
              have HLC := Lib.hid (show 0 + k + 1 + (s.length - k) ≤ 1099511627776 by omega)
              have HSA := Lib.hid (seg_to (HSW.out.kept HBE0.out) k gc (by omega))
              go_wp2_with (first | (at_builtin; refine wpList_append_seg rfl (.tmp 30) (.tmp 33) 25 rfl wq.heap.size TE _ 4 48 Try.underlying25 infoE rfl (by decide) _ 0 [] rfl HOE.out _ k ((s.take k).flatMap encC) rfl HSA.out encC_one HLA.out (by decide) HZ0.out ?_; intro v1 w1 ho hgr _; have HO1 := Lib.hid ho; have HB1 := Lib.hid (below_grown HBE0.out hgr HOE.out (Nat.le_refl _) HBE0.out.size); clear ho hgr; have HZ1 := Lib.hid HB1.out.size; have hcx := HCX.out _ (below_step HBQ.out HB1.out HBQ.out.size); have d0 := hcx.c0; have d1 := hcx.c1; have d2 := hcx.c2; have d3 := hcx.c3; clear hcx) | (at_builtin; refine wpList_append1 rfl (.tmp 35) (.tmp 40) 25 rfl wq.heap.size TE _ 4 48 Try.underlying25 infoE rfl (by decide) _ (0 + k) _ (encC x) rfl HO1.out _ 1 rfl rfl rfl (encC_one1 x) HLB.out (by decide) HZ1.out wq.heap.size wq HB1.out (Nat.le_refl _) ?_; intro v2 w2 ho hgr hb2 hsz2; have HO2 := Lib.hid ho; have HB2 := Lib.hid hb2; clear ho hgr hb2 hsz2 d0 d1 d2 d3; have HZ2 := Lib.hid HB2.out.size; have HSC := Lib.hid (seg_from0 (HSW.out.kept HB2.out) k (by omega) (gc - k))) | (at_builtin; refine wpList_append_seg rfl (.tmp 42) (.tmp 45) 25 rfl wq.heap.size TE _ 4 48 Try.underlying25 infoE rfl (by decide) _ (0 + k + 1) _ rfl HO2.out _ (s.length - k) ((s.drop k).flatMap encC) rfl HSC.out encC_one HLC.out (by decide) HZ2.out ?_; intro v3 w3 ho hgr _; have HO3 := Lib.hid ho; have HB3 := Lib.hid (below_grown HB2.out hgr HO2.out (Nat.le_refl _) HB2.out.size); clear ho hgr))
              have HF := Lib.hid (show w3.ownsRow w.heap.size TE 4 v3 (sortD (l.take (i + 1))).length ((sortD (l.take (i + 1))).flatMap encC) from by
                have h := owns_mono HO3.out HBQ.out.size
                rw [HSN.out, HIN.out]
                have e1 : (s.take k ++ x :: s.drop k).length = 0 + k + 1 + (s.length - k) := by simp; omega
                have e2 : (s.take k ++ x :: s.drop k).flatMap encC = [] ++ ((s.take k).flatMap encC) ++ encC x ++ ((s.drop k).flatMap encC) := by simp
                rw [e1, e2]; exact h)
              go_roundw
              case rel => exact ⟨i + 1, hlt, by go_num, HF.out, below_step HBQ.out HB3.out HBQ.out.size, fun h => by omega⟩
              case measure => simp [intOf]; omega
            · have HN := Lib.hid (show ∀ j (hj : j < s.length), j < k + 1 → ltE s[j] x = true from fun j hj hjk => by
                by_cases e : j = k
                · subst e; exact HY.out.symm
                · exact HALL.out j hj (by omega))
              clear y2
              go_wp2_with fail
              go_roundw
              case rel => exact ⟨k + 1, HKL.out, by go_num, HN.out, HBQ2.out⟩
              case measure => have := HKL.out; simp [intOf]; omega
          · have hkn : k = s.length := by omega
            have y1 : ¬ (k : Int) < (s.length : Int) := by omega
            have y2 : decide (k < s.length) = false := by simpa using hkl
            have htw := takeWhile_at (p := fun y => ltE y x) hk HALL.out (fun h => absurd h hkl)
            have HIN := Lib.hid (show insD s x = s.take k ++ x :: s.drop k from by unfold insD; rw [htw.1, htw.2])
            have hdr : s.drop k = [] := List.drop_of_length_le (by omega)
            have HDR := Lib.hid hdr
            have HKN := Lib.hid hkn
            clear htw hdr hkl hkn
            go_wp2_with fail
            go_quiet (fail)
            have HBQ := Lib.hid (below_step HBW.out (show Below wz.heap.size wz (wz.drewN nq) from ⟨rfl, rfl, rfl, Nat.le_refl _, fun _ _ => rfl⟩) HBW.out.size)
            have HSW := Lib.hid (HSZ.out.kept (show Below wz.heap.size wz (wz.drewN nq) from ⟨rfl, rfl, rfl, Nat.le_refl _, fun _ _ => rfl⟩))
            generalize wz.drewN nq = wq at *
            by_cases hce : gc = k
            · have hdr := HDR.out
              have c0 := HKN.out
              have HCE := Lib.hid hce
              subst hce
              have c2 : (gc : Int) ≤ (s.length : Int) := by omega
              have c5 : (s.length : Int) ≤ (gc : Int) := by omega
              have c3 : (gc : Int) ≤ (gc : Int) := by omega
              have HDR2 := Lib.hid hdr
              have HZL := Lib.hid (show s.length - gc = 0 by omega)
              clear hdr c0
              have HOE := Lib.hid (show (wq.alloc (.cells #[] TE)).ownsRow wq.heap.size TE 4 (.slice (some ⟨wq.heap.size, 0, none⟩) 0 0) 0 [] from owns_empty (heap_alloc_new wq (.cells #[] TE)) (Nat.le_refl _) 4)
              have HBE0 := Lib.hid (show Below wq.heap.size wq (wq.alloc (.cells #[] TE)) from (Below.refl _ _).alloc (Nat.le_refl _) _)
              have HZ0 := Lib.hid HBE0.out.size
              have HLA := Lib.hid (show 0 + gc ≤ 1099511627776 by omega)
              have HLB := Lib.hid (show 0 + gc + 1 ≤ 1099511627776 by omega)
              have HLC := Lib.hid (show 0 + gc + 1 + 0 ≤ 1099511627776 by omega)
              have HSA := Lib.hid (seg_to (HSW.out.kept HBE0.out) gc gc (by omega))
              go_wp2_with (first | (at_builtin; refine wpList_append_seg rfl (.tmp 30) (.tmp 33) 25 rfl wq.heap.size TE _ 4 48 Try.underlying25 infoE rfl (by decide) _ 0 [] rfl HOE.out _ gc ((s.take gc).flatMap encC) rfl HSA.out encC_one HLA.out (by decide) HZ0.out ?_; intro v1 w1 ho hgr _; have HO1 := Lib.hid ho; have HB1 := Lib.hid (below_grown HBE0.out hgr HOE.out (Nat.le_refl _) HBE0.out.size); clear ho hgr; have HZ1 := Lib.hid HB1.out.size; have hcx := HCX.out _ (below_step HBQ.out HB1.out HBQ.out.size); have d0 := hcx.c0; have d1 := hcx.c1; have d2 := hcx.c2; have d3 := hcx.c3; clear hcx) | (at_builtin; refine wpList_append1 rfl (.tmp 35) (.tmp 40) 25 rfl wq.heap.size TE _ 4 48 Try.underlying25 infoE rfl (by decide) _ (0 + gc) _ (encC x) rfl HO1.out _ 1 rfl rfl rfl (encC_one1 x) HLB.out (by decide) HZ1.out wq.heap.size wq HB1.out (Nat.le_refl _) ?_; intro v2 w2 ho hgr hb2 hsz2; have HO2 := Lib.hid ho; have HB2 := Lib.hid hb2; clear ho hgr hb2 hsz2 d0 d1 d2 d3; have HZ2 := Lib.hid HB2.out.size) | (at_builtin; refine wpList_append_seg rfl (.tmp 42) (.tmp 45) 25 rfl wq.heap.size TE _ 4 48 Try.underlying25 infoE rfl (by decide) _ (0 + gc + 1) _ rfl HO2.out _ 0 [] rfl (seg_empty _ _ _) (by simp) HLC.out (by decide) HZ2.out ?_; intro v3 w3 ho hgr _; have HO3 := Lib.hid ho; have HB3 := Lib.hid (below_grown HB2.out hgr HO2.out (Nat.le_refl _) HB2.out.size); clear ho hgr))
              have HF := Lib.hid (show w3.ownsRow w.heap.size TE 4 v3 (sortD (l.take (i + 1))).length ((sortD (l.take (i + 1))).flatMap encC) from by
                have h := owns_mono HO3.out HBQ.out.size
                rw [HSN.out, HIN.out]
                have e1 : (s.take gc ++ x :: s.drop gc).length = 0 + gc + 1 + 0 := by rw [HDR2.out]; simp; have := HKN.out; omega
                have e2 : (s.take gc ++ x :: s.drop gc).flatMap encC = [] ++ ((s.take gc).flatMap encC) ++ encC x ++ [] := by rw [HDR2.out]; simp
                rw [e1, e2]; exact h)
              go_roundw
              case rel => exact ⟨i + 1, hlt, by go_num, HF.out, below_step HBQ.out HB3.out HBQ.out.size, fun h => by omega⟩
              case measure => simp [intOf]; omega
            · have c1 : ¬ gc = k := hce
              have c0 := HKN.out
              have c2 : (k : Int) ≤ (s.length : Int) := by omega
              have c3 : (k : Int) ≤ (gc : Int) := by omega
              have c4 : k ≤ gc := by omega
              have c5 : (s.length : Int) ≤ (gc : Int) := by omega
              clear hce c0
              have HOE := Lib.hid (show (wq.alloc (.cells #[] TE)).ownsRow wq.heap.size TE 4 (.slice (some ⟨wq.heap.size, 0, none⟩) 0 0) 0 [] from owns_empty (heap_alloc_new wq (.cells #[] TE)) (Nat.le_refl _) 4)
              have HBE0 := Lib.hid (show Below wq.heap.size wq (wq.alloc (.cells #[] TE)) from (Below.refl _ _).alloc (Nat.le_refl _) _)
              have HZ0 := Lib.hid HBE0.out.size
              have HLA := Lib.hid (show 0 + k ≤ 1099511627776 by omega)
              have HLB := Lib.hid (show 0 + k + 1 ≤ 1099511627776 by omega)
              have HLC := Lib.hid (show 0 + k + 1 + (s.length - k) ≤ 1099511627776 by omega)
              have HSA := Lib.hid (seg_to (HSW.out.kept HBE0.out) k gc (by omega))
              go_wp2_with (first | (at_builtin; refine wpList_append_seg rfl (.tmp 30) (.tmp 33) 25 rfl wq.heap.size TE _ 4 48 Try.underlying25 infoE rfl (by decide) _ 0 [] rfl HOE.out _ k ((s.take k).flatMap encC) rfl HSA.out encC_one HLA.out (by decide) HZ0.out ?_; intro v1 w1 ho hgr _; have HO1 := Lib.hid ho; have HB1 := Lib.hid (below_grown HBE0.out hgr HOE.out (Nat.le_refl _) HBE0.out.size); clear ho hgr; have HZ1 := Lib.hid HB1.out.size; have hcx := HCX.out _ (below_step HBQ.out HB1.out HBQ.out.size); have d0 := hcx.c0; have d1 := hcx.c1; have d2 := hcx.c2; have d3 := hcx.c3; clear hcx) | (at_builtin; refine wpList_append1 rfl (.tmp 35) (.tmp 40) 25 rfl wq.heap.size TE _ 4 48 Try.underlying25 infoE rfl (by decide) _ (0 + k) _ (encC x) rfl HO1.out _ 1 rfl rfl rfl (encC_one1 x) HLB.out (by decide) HZ1.out wq.heap.size wq HB1.out (Nat.le_refl _) ?_; intro v2 w2 ho hgr hb2 hsz2; have HO2 := Lib.hid ho; have HB2 := Lib.hid hb2; clear ho hgr hb2 hsz2 d0 d1 d2 d3; have HZ2 := Lib.hid HB2.out.size; have HSC := Lib.hid (seg_from0 (HSW.out.kept HB2.out) k (by omega) (gc - k))) | (at_builtin; refine wpList_append_seg rfl (.tmp 42) (.tmp 45) 25 rfl wq.heap.size TE _ 4 48 Try.underlying25 infoE rfl (by decide) _ (0 + k + 1) _ rfl HO2.out _ (s.length - k) ((s.drop k).flatMap encC) rfl HSC.out encC_one HLC.out (by decide) HZ2.out ?_; intro v3 w3 ho hgr _; have HO3 := Lib.hid ho; have HB3 := Lib.hid (below_grown HB2.out hgr HO2.out (Nat.le_refl _) HB2.out.size); clear ho hgr))
              have HF := Lib.hid (show w3.ownsRow w.heap.size TE 4 v3 (sortD (l.take (i + 1))).length ((sortD (l.take (i + 1))).flatMap encC) from by
                have h := owns_mono HO3.out HBQ.out.size
                rw [HSN.out, HIN.out]
                have e1 : (s.take k ++ x :: s.drop k).length = 0 + k + 1 + (s.length - k) := by simp; omega
                have e2 : (s.take k ++ x :: s.drop k).flatMap encC = [] ++ ((s.take k).flatMap encC) ++ encC x ++ ((s.drop k).flatMap encC) := by simp
                rw [e1, e2]; exact h)
              go_roundw
              case rel => exact ⟨i + 1, hlt, by go_num, HF.out, below_step HBQ.out HB3.out HBQ.out.size, fun h => by omega⟩
              case measure => simp [intOf]; omega
    · have HE := Lib.hid (show sortD (l.take i) = sortD l by rw [List.take_of_length_le (by omega)])
      obtain ⟨vo, vc, hvv⟩ := owns_slice1 ho
      subst hvv
      clear ho hbel hnil
      go_wp2_with fail
      go_ret
      exact ⟨_, rfl, by rw [← HE.out]; exact HO.out, HBE.out⟩
end Go.Proofs.Try.Mg
