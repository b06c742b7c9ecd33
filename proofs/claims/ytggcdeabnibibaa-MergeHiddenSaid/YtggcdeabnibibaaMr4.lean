/- The document's list cut into parts. -/
import Derived.Test.YtggcdeabnibibaaMr3
set_option linter.unusedVariables false
set_option linter.unusedSimpArgs false
namespace Go.Proofs.Try.Mg
open Go.RowKit Go.Cph Go.Cph.Skip Go.Cph.So

theorem Pts.fresh {w0 w w' : World} {vo v1 : Value} {gs : List (List Ent)} {p : List Ent} {vs : List Value} (h : Pts w0 vo (.slice none 0 0) gs [] vs w) (hb : Below w.heap.size w w') (ho : w'.ownsRow w.heap.size TE 4 v1 p.length (p.flatMap encC)) : Pts w0 vo v1 gs p vs w' := by
  have k := h.kept hb
  refine ⟨k.out, k.len, k.el, owns_mono ho h.bel.size, fun j hj => ?_, k.pair, k.bel⟩
  cases hv : vs[j].ownBlock with
  | none => exact .inl rfl
  | some b =>
    right; intro e
    have h1 := (ho.lt b e.symm).1
    have h2 := ((h.el j hj (by rw [← h.len]; exact hj)).lt b hv).2
    omega
theorem one_slice {w : World} {base n s : Nat} {e : TypeId} {v : Value} {xs : List Value} (h : w.ownsRow base e s v n xs) : ∀ u ∈ [v], u.oneCell' = true := by
  intro u hu
  simp at hu; subst hu
  obtain ⟨_, _, e⟩ := owns_slice1 h
  rw [e]; rfl
abbrev nilV : Value := .slice none 0 0
theorem take_drop_snoc (l : List Ent) (fr i : Nat) (hi : i < l.length) (hf : fr ≤ i) : (l.take (i + 1)).drop fr = (l.take i).drop fr ++ [l[i]] := by
  rw [List.take_succ_eq_append_getElem hi, List.drop_append_of_le_length (by rw [List.length_take]; omega)]
theorem drop_take_eq (l : List Ent) (fr i : Nat) : (l.take i).drop fr = (l.drop fr).take (i - fr) := by rw [List.drop_take]
theorem bytesL_mono (l : List Ent) (k : Nat) : bytesL (l.take k) ≤ bytesL l := by
  conv => rhs; rw [← List.take_append_drop k l, bytesL_append]
  omega
theorem bytesL_drop (l : List Ent) (k : Nat) : bytesL (l.drop k) ≤ bytesL l := by
  conv => rhs; rw [← List.take_append_drop k l, bytesL_append]
  omega

set_option maxRecDepth 100000 in
set_option maxHeartbeats 12000000 in
theorem split16 (ao : Option Addr) (cap : Nat) (l : List Ent) (size : Int) (w : World) (h : EntsAt w (.slice ao l.length cap) l) (hcap : l.length ≤ cap) (hcm : cap ≤ 9223372036854775807) (hn : l.length ≤ 100000) (hb : bytesL l ≤ 1000000000) (hs1 : -9223372036854775808 ≤ size) (hs2 : size ≤ 9223372036854775807) :
    Calls Try.prog 22 #[.slice ao l.length cap, .int .i64 size] w (PartsPost w (splitL size l)) := by
  have HV := Lib.hid h
  clear h
  go_enter Try.func22, Try.ntmps22
  go_wp2_with fail
  go_loopw [5, 6, 7] (fun vo vf vi wr => ∃ (i fr : Nat) (gs : List (List Ent)) (vs : List Value), i ≤ l.length ∧ fr ≤ i ∧ vi = .int .i64 i ∧ vf = .int .i64 fr ∧ gs.length ≤ i ∧ gs ++ splitF size ((l.take i).drop fr) (bytesL ((l.take i).drop fr)) (l.drop i) = splitL size l ∧ Pts w vo nilV gs [] vs wr) (fun _ _ vi _ => l.length - (intOf vi).toNat)
  case atStart => exact ⟨0, 0, [], [], Nat.zero_le _, Nat.le_refl _, rfl, rfl, Nat.le_refl _, rfl, ⟨World.ownsRow_nil _ _ _ _, rfl, fun j h => by simp at h, World.ownsRow_nil _ _ _ _, fun j h => by simp at h, fun j k h => by simp at h, Below.refl _ _⟩⟩
  case round =>
    obtain ⟨i, fr, gs, vs, hi, hfi, rfl, rfl, hgi, heq, hp⟩ := hrel
    have HP := Lib.hid hp
    obtain ⟨oo, oc, hov⟩ := owns_slice1 hp.out
    subst hov
    by_cases hlt : i < l.length
    · have HLT := Lib.hid hlt
      obtain ⟨lb, lo, lcap, hve, hcs⟩ := ents_cells HV.out (by omega)
      injection hve with h1 h2 h3
      subst h1
      obtain rfl : lcap = cap := h3.symm
      have HCS := Lib.hid hcs
      obtain ⟨x, hx⟩ : ∃ x, x = l[i] := ⟨_, rfl⟩
      obtain ⟨r, hr⟩ : ∃ r, r = l.drop (i + 1) := ⟨_, rfl⟩
      have hd : l.drop i = x :: r := by rw [hx, hr]; exact List.drop_eq_getElem_cons hlt
      obtain ⟨g, hg⟩ : ∃ g, g = (l.take (i + 1)).drop fr := ⟨_, rfl⟩
      have hgx : g = (l.take i).drop fr ++ [x] := by rw [hg, hx]; exact take_drop_snoc l fr i hlt hfi
      obtain ⟨bt, hbt⟩ : ∃ b, b = bytesL g := ⟨_, rfl⟩
      have hbt2 : bytesL ((l.take i).drop fr) + szE x = bt := by rw [hbt, hgx, bytesL_append]; simp [bytesL]
      have hbtm : bt ≤ 1000000000 := by rw [hbt, hg]; exact Nat.le_trans (bytesL_drop _ _) (Nat.le_trans (bytesL_mono _ _) hb)
      rw [hd, splitF, hbt2, ← hgx] at heq
      have HS := Lib.hid heq
      have HX := Lib.hid hx
      have HR := Lib.hid hr
      have HG := Lib.hid hg
      have HGV := Lib.hid (show g = (l.drop fr).take (i + 1 - fr) by rw [hg, drop_take_eq])
      have HBT := Lib.hid hbt
      have k1 : (0 : Int) ≤ (i : Int) := by omega
      have k2 : (i : Int) < (l.length : Int) := by omega
      obtain ⟨wo, rfl⟩ : ∃ wo : World, wo = wr := ⟨_, rfl⟩
      clear hp hcs hx hr hd hg hgx hbt hbt2 heq h2 h3 hlt
      go_wp2_with fail
      go_loopw [8, 9] (fun vn vk W => ∃ k n : Nat, fr ≤ k ∧ k ≤ i + 1 ∧ vk = .int .i64 k ∧ vn = .int .i64 n ∧ n = bytesL ((l.take k).drop fr) ∧ ∃ q, W = wo.drewN q) (fun _ vk _ => i + 1 - (intOf vk).toNat)
      case atStart => exact ⟨fr, 0, Nat.le_refl _, by omega, rfl, rfl, by rw [List.drop_of_length_le (by rw [List.length_take]; omega)]; rfl, 0, rfl⟩
      case round =>
        obtain ⟨k, n, hfk, hki, rfl, rfl, hnb, q, hwq⟩ := hrel
        subst hwq
        by_cases hkl : k ≤ i
        · have hkll : k < l.length := by have := HLT.out; omega
          have hcy := (HCS.out k hkll).kept HP.out.bel
          obtain ⟨y, hy⟩ : ∃ y, y = l[k] := ⟨_, rfl⟩
          rw [← hy] at hcy
          have hnn : bytesL ((l.take (k + 1)).drop fr) = n + (y.1.size + y.2.1.size) := by rw [take_drop_snoc l fr k hkll hfk, bytesL_append, ← hnb, ← hy]; rfl
          have hbm : bytesL ((l.take (k + 1)).drop fr) ≤ 1000000000 := Nat.le_trans (bytesL_drop _ _) (Nat.le_trans (bytesL_mono _ _) hb)
          have HNN := Lib.hid hnn
          have d0 := hcy.c0
          have d1 := hcy.c1
          have j1 : (0 : Int) ≤ (k : Int) := by omega
          have j2 : (k : Int) < (l.length : Int) := by omega
          have j3 : (k : Int) ≤ (i : Int) := by omega
          rw [hnn] at hbm
          have j4 : IntKind.i64.wrap ((n : Int) + (y.1.size : Int)) = (n : Int) + (y.1.size : Int) := by rw [IntKind.wrap_i64]; omega
          have j5 : IntKind.i64.wrap ((n : Int) + (y.1.size : Int) + (y.2.1.size : Int)) = (n : Int) + (y.1.size : Int) + (y.2.1.size : Int) := by rw [IntKind.wrap_i64]; omega
          clear hcy hy hnn hnb
          go_wp2_with fail
          go_quiet (fail)
          clear d0 d1 j4 j5
          go_wp2_with fail
          go_roundw
          case rel => exact ⟨k + 1, n + y.1.size + y.2.1.size, by omega, by omega, by go_num, by go_num, by rw [HNN.out]; omega, _, rfl⟩
          case measure => simp [intOf]; omega
        · have hkk : k = i + 1 := by omega
          have hnt : n = bt := by rw [hnb, hkk, HBT.out, HG.out]
          subst hnt
          have j3 : ¬ (k : Int) ≤ (i : Int) := by omega
          have HPW := Lib.hid (show Pts w (.slice oo gs.length oc) nilV gs [] vs (wo.drewN q) from HP.out.kept ⟨rfl, rfl, rfl, Nat.le_refl _, fun _ _ => rfl⟩)
          have j4 : IntKind.i64.wrap ((i : Int) + 1) = (i : Int) + 1 := by rw [IntKind.wrap_i64]; omega
          clear hnb hkk
          generalize wo.drewN q = wp at *
          by_cases hlast : i + 1 < l.length
          · have hcy := (HCS.out (i + 1) hlast).kept HPW.out.bel
            have hcx : CellsOf wp lb (lo + i * 4) x := by rw [HX.out]; exact (HCS.out i HLT.out).kept HPW.out.bel
            obtain ⟨y, hy⟩ : ∃ y, y = l[i + 1] := ⟨_, rfl⟩
            rw [← hy] at hcy
            have d0 := hcx.c0
            have f0 := hcy.c0
            have k3 : ((i : Int) == (l.length : Int) - 1) = false := by simp; omega
            have k4 : (i : Int) + 1 < (l.length : Int) := by omega
            have k6 : (0 : Int) ≤ (i : Int) + 1 := by omega
            have k7 : ((i : Int) + 1).toNat = i + 1 := by omega
            obtain ⟨r', hr'⟩ : ∃ r', r = y :: r' := ⟨l.drop (i + 1 + 1), by rw [HR.out, List.drop_eq_getElem_cons hlast, hy]⟩
            have HCB := Lib.hid (show cutB size n x r = (decide (size ≤ (n : Int)) && decide (y.1 ≠ x.1)) by rw [hr']; rfl)
            clear hcx hcy hy hr'
            have hways : (decide (size ≤ (n : Int)) = true ∧ (y.1.toList == x.1.toList) = true ∧ cutB size n x r = false) ∨ (decide (size ≤ (n : Int)) = true ∧ (y.1.toList == x.1.toList) = false ∧ cutB size n x r = true) ∨ (decide (size ≤ (n : Int)) = false ∧ cutB size n x r = false) := by
              rw [HCB.out, beq_toList]
              by_cases h1 : size ≤ (n : Int) <;> by_cases h2 : y.1 = x.1 <;> simp [h1, h2]
            rcases hways with ⟨e1, e2, hcut⟩ | ⟨e1, e2, hcut⟩ | ⟨e1, hcut⟩
            · have e3 : size ≤ (n : Int) := by simpa using e1
              have HG2 := Lib.hid HG.out
              have HC := Lib.hid (show gs ++ splitF size g (bytesL g) (l.drop (i + 1)) = splitL size l from by rw [← HS.out, hcut, if_neg (by simp), ← HBT.out, HR.out])
              clear hcut
              go_wp2_with fail
              go_quiet (fail)
              clear d0 f0 e2 e1 k3 j4 j3
              have HPW := Lib.hid (show Pts w (.slice oo gs.length oc) nilV gs [] vs (wp.drewN nq) from HPW.out.kept ⟨rfl, rfl, rfl, Nat.le_refl _, fun _ _ => rfl⟩)
              generalize wp.drewN nq = wq at *
              go_wp2_with fail
              go_roundw
              case rel => exact ⟨i + 1, fr, gs, vs, HLT.out, by omega, by go_num, rfl, by omega, by rw [← HG2.out]; exact HC.out, HPW.out⟩
              case measure => have := HLT.out; simp [intOf]; omega
            · have e3 : size ≤ (n : Int) := by simpa using e1
              have HC := Lib.hid (show (gs ++ [g]) ++ splitF size [] 0 (l.drop (i + 1)) = splitL size l from by rw [← HS.out, hcut, if_pos rfl, HR.out]; simp)
              clear hcut
              go_wp2_with fail
              go_quiet (fail)
              clear d0 f0 e2 e1 k3 j4 j3
              have HPW := Lib.hid (show Pts w (.slice oo gs.length oc) nilV gs [] vs (wp.drewN nq) from HPW.out.kept ⟨rfl, rfl, rfl, Nat.le_refl _, fun _ _ => rfl⟩)
              generalize wp.drewN nq = wq at *
              have HOE := Lib.hid (show (wq.alloc (.cells #[] TE)).ownsRow wq.heap.size TE 4 (.slice (some ⟨wq.heap.size, 0, none⟩) 0 0) 0 [] from owns_empty (heap_alloc_new wq (.cells #[] TE)) (Nat.le_refl _) 4)
              have HBE0 := Lib.hid (show Below wq.heap.size wq (wq.alloc (.cells #[] TE)) from (Below.refl _ _).alloc (Nat.le_refl _) _)
              have HZ0 := Lib.hid HBE0.out.size
              have HUE0 := Lib.hid ((HV.out.kept HPW.out.bel).kept HBE0.out)
              have HSEGA := Lib.hid (show Seg (wq.alloc (.cells #[] TE)) 4 (.slice (some ⟨lb, lo + fr * 4, none⟩) (i + 1 - fr) (lcap - fr)) (i + 1 - fr) (g.flatMap encC) from by
                have hq : ((l.drop fr).take (i + 1 - fr)).length = i + 1 - fr := by rw [List.length_take, List.length_drop]; omega
                have := ents_part HUE0.out fr (i + 1 - fr) (lcap - fr) (by omega) hq.symm
                unfold EntsAt Elems at this
                rw [hq] at this
                rw [HGV.out]; exact this)
              have HGN := Lib.hid (show 0 + (i + 1 - fr) = g.length from by rw [HGV.out, List.length_take, List.length_drop]; omega)
              have HL9 := Lib.hid (show 0 + (i + 1 - fr) ≤ 1099511627776 by omega)
              have HL8 := Lib.hid (show gs.length + 1 ≤ 1099511627776 by omega)
              have n1 : ¬ lcap = fr := by omega
              have n2 : (fr : Int) ≤ (i : Int) + 1 := by omega
              have n3 : (i : Int) + 1 ≤ (lcap : Int) := by omega
              have n4 : fr ≤ i + 1 := by omega
              have n5 : i + 1 ≤ lcap := by omega
              have n6 : (0 : Int) ≤ (fr : Int) := by omega
              have n7 : ((i : Int) + 1).toNat = i + 1 := by omega
              go_wp2_with (first | (at_builtin; refine wpList_append_seg rfl (.tmp 64) (.tmp 69) 25 rfl wq.heap.size TE _ 4 48 Try.underlying25 infoE rfl (by decide) _ 0 [] rfl HOE.out _ (i + 1 - fr) (g.flatMap encC) rfl HSEGA.out encC_one HL9.out (by decide) HZ0.out ?_; intro v1 w2 ho hgr _; have HB2 := Lib.hid (below_grown HBE0.out hgr HOE.out (Nat.le_refl _) HBE0.out.size); have HP2 := Lib.hid (HPW.out.fresh (p := g) HB2.out (by rw [← HGN.out]; simpa using ho)); clear ho hgr; obtain ⟨vo1, vc1, hv1⟩ := owns_slice1 HP2.out.part; subst hv1; have HP3 := Lib.hid (HP2.out.kept ((Below.refl _ _).alloc (Nat.le_refl _) (.cells #[.slice vo1 g.length vc1] TS))); have HN3 := Lib.hid (heap_alloc_new w2 (.cells #[.slice vo1 g.length vc1] TS)); have HZ3 := Lib.hid HP3.out.bel.size; have HONE := Lib.hid (one_slice HP2.out.part); have HSEG := Lib.hid (show Seg (w2.alloc (.cells #[.slice vo1 g.length vc1] TS)) 1 (.slice (some ⟨w2.heap.size, 0, none⟩) 1 1) 1 [.slice vo1 g.length vc1] from ⟨⟨_, _, rfl, fun _ => ⟨w2.heap.size, 0, rfl, fun j hj => (by rw [Nat.zero_add, blk_cell HN3.out]; simp)⟩⟩, rfl⟩)) | (at_builtin; refine wpList_append_seg rfl (.tmp 63) (.tmp 71) 22 rfl w.heap.size TS _ 1 24 Try.underlying22 infoS rfl (by decide) _ gs.length vs rfl HP3.out.out _ 1 [.slice vo1 g.length vc1] rfl HSEG.out HONE.out HL8.out (by decide) HZ3.out ?_; intro v2 w3 ho hgr _; have HP4 := Lib.hid (HP3.out.put ho hgr); clear ho hgr))
              go_roundw
              case rel =>
                refine ⟨i + 1, i + 1, gs ++ [g], _, HLT.out, Nat.le_refl _, by go_num, by go_num, by rw [List.length_append]; simp; omega, ?_, HP4.out⟩
                have e : (l.take (i + 1)).drop (i + 1) = [] := List.drop_of_length_le (by rw [List.length_take]; omega)
                rw [e]; exact HC.out
              case measure => have := HLT.out; simp [intOf]; omega
            · have e3 : ¬ size ≤ (n : Int) := by simpa using e1
              have HG2 := Lib.hid HG.out
              have HC := Lib.hid (show gs ++ splitF size g (bytesL g) (l.drop (i + 1)) = splitL size l from by rw [← HS.out, hcut, if_neg (by simp), ← HBT.out, HR.out])
              clear hcut
              go_wp2_with fail
              go_quiet (fail)
              clear d0 f0 e1 k3 j4 j3
              have HPW := Lib.hid (show Pts w (.slice oo gs.length oc) nilV gs [] vs (wp.drewN nq) from HPW.out.kept ⟨rfl, rfl, rfl, Nat.le_refl _, fun _ _ => rfl⟩)
              generalize wp.drewN nq = wq at *
              go_wp2_with fail
              go_roundw
              case rel => exact ⟨i + 1, fr, gs, vs, HLT.out, by omega, by go_num, rfl, by omega, by rw [← HG2.out]; exact HC.out, HPW.out⟩
              case measure => have := HLT.out; simp [intOf]; omega
          · have k3 : ((i : Int) == (l.length : Int) - 1) = true := by have := HLT.out; simp; omega
            have hcut : cutB size n x r = true := by
              have : r = [] := by rw [HR.out]; exact List.drop_of_length_le (by omega)
              rw [this]; rfl
            have HC := Lib.hid (show (gs ++ [g]) ++ splitF size [] 0 (l.drop (i + 1)) = splitL size l from by rw [← HS.out, hcut, if_pos rfl, HR.out]; simp)
            clear hcut
            go_wp2_with fail
            go_quiet (fail)
            clear k3 j4 j3
            have HPW := Lib.hid (show Pts w (.slice oo gs.length oc) nilV gs [] vs (wp.drewN nq) from HPW.out.kept ⟨rfl, rfl, rfl, Nat.le_refl _, fun _ _ => rfl⟩)
            generalize wp.drewN nq = wq at *
            have HOE := Lib.hid (show (wq.alloc (.cells #[] TE)).ownsRow wq.heap.size TE 4 (.slice (some ⟨wq.heap.size, 0, none⟩) 0 0) 0 [] from owns_empty (heap_alloc_new wq (.cells #[] TE)) (Nat.le_refl _) 4)
            have HBE0 := Lib.hid (show Below wq.heap.size wq (wq.alloc (.cells #[] TE)) from (Below.refl _ _).alloc (Nat.le_refl _) _)
            have HZ0 := Lib.hid HBE0.out.size
            have HUE0 := Lib.hid ((HV.out.kept HPW.out.bel).kept HBE0.out)
            have HSEGA := Lib.hid (show Seg (wq.alloc (.cells #[] TE)) 4 (.slice (some ⟨lb, lo + fr * 4, none⟩) (i + 1 - fr) (lcap - fr)) (i + 1 - fr) (g.flatMap encC) from by
              have hq : ((l.drop fr).take (i + 1 - fr)).length = i + 1 - fr := by rw [List.length_take, List.length_drop]; omega
              have := ents_part HUE0.out fr (i + 1 - fr) (lcap - fr) (by omega) hq.symm
              unfold EntsAt Elems at this
              rw [hq] at this
              rw [HGV.out]; exact this)
            have HGN := Lib.hid (show 0 + (i + 1 - fr) = g.length from by rw [HGV.out, List.length_take, List.length_drop]; omega)
            have HL9 := Lib.hid (show 0 + (i + 1 - fr) ≤ 1099511627776 by omega)
            have HL8 := Lib.hid (show gs.length + 1 ≤ 1099511627776 by omega)
            have n1 : ¬ lcap = fr := by omega
            have n2 : (fr : Int) ≤ (i : Int) + 1 := by omega
            have n3 : (i : Int) + 1 ≤ (lcap : Int) := by omega
            have n4 : fr ≤ i + 1 := by omega
            have n5 : i + 1 ≤ lcap := by omega
            have n6 : (0 : Int) ≤ (fr : Int) := by omega
            have n7 : ((i : Int) + 1).toNat = i + 1 := by omega
            go_wp2_with (first | (at_builtin; refine wpList_append_seg rfl (.tmp 64) (.tmp 69) 25 rfl wq.heap.size TE _ 4 48 Try.underlying25 infoE rfl (by decide) _ 0 [] rfl HOE.out _ (i + 1 - fr) (g.flatMap encC) rfl HSEGA.out encC_one HL9.out (by decide) HZ0.out ?_; intro v1 w2 ho hgr _; have HB2 := Lib.hid (below_grown HBE0.out hgr HOE.out (Nat.le_refl _) HBE0.out.size); have HP2 := Lib.hid (HPW.out.fresh (p := g) HB2.out (by rw [← HGN.out]; simpa using ho)); clear ho hgr; obtain ⟨vo1, vc1, hv1⟩ := owns_slice1 HP2.out.part; subst hv1; have HP3 := Lib.hid (HP2.out.kept ((Below.refl _ _).alloc (Nat.le_refl _) (.cells #[.slice vo1 g.length vc1] TS))); have HN3 := Lib.hid (heap_alloc_new w2 (.cells #[.slice vo1 g.length vc1] TS)); have HZ3 := Lib.hid HP3.out.bel.size; have HONE := Lib.hid (one_slice HP2.out.part); have HSEG := Lib.hid (show Seg (w2.alloc (.cells #[.slice vo1 g.length vc1] TS)) 1 (.slice (some ⟨w2.heap.size, 0, none⟩) 1 1) 1 [.slice vo1 g.length vc1] from ⟨⟨_, _, rfl, fun _ => ⟨w2.heap.size, 0, rfl, fun j hj => (by rw [Nat.zero_add, blk_cell HN3.out]; simp)⟩⟩, rfl⟩)) | (at_builtin; refine wpList_append_seg rfl (.tmp 63) (.tmp 71) 22 rfl w.heap.size TS _ 1 24 Try.underlying22 infoS rfl (by decide) _ gs.length vs rfl HP3.out.out _ 1 [.slice vo1 g.length vc1] rfl HSEG.out HONE.out HL8.out (by decide) HZ3.out ?_; intro v2 w3 ho hgr _; have HP4 := Lib.hid (HP3.out.put ho hgr); clear ho hgr))
            go_roundw
            case rel =>
              refine ⟨i + 1, i + 1, gs ++ [g], _, HLT.out, Nat.le_refl _, by go_num, by go_num, by rw [List.length_append]; simp; omega, ?_, HP4.out⟩
              have e : (l.take (i + 1)).drop (i + 1) = [] := List.drop_of_length_le (by rw [List.length_take]; omega)
              rw [e]; exact HC.out
            case measure => have := HLT.out; simp [intOf]; omega
    · have HF := Lib.hid (show gs = splitL size l from by
        have e : l.drop i = [] := List.drop_of_length_le (by omega)
        rw [← heq, e]
        simp [splitF])
      clear hp heq
      go_wp2_with fail
      go_ret
      exact ⟨_, _, [], vs, rfl, by rw [← HF.out]; exact HP.out⟩
end Go.Proofs.Try.Mg
