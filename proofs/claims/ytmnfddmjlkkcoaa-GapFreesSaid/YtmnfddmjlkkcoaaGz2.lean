/- GapFrees: its walk. -/
import Derived.Test.YtmnfddmjlkkcoaaGz1
import Derived.Test.YtmnfddmjlkkcoaaGk7
set_option linter.unusedVariables false
set_option linter.unusedSimpArgs false
namespace Go.Proofs.Try.Gp
open Go.RowKit Go.Cph Go.Cph.Px Go.Cph.Gp Go.Cph.So
open Pfx (encA)

set_option maxRecDepth 100000 in
set_option maxHeartbeats 32000000 in
theorem frees_law (a b : Ad) (v : Value) (ls : List (List Sp)) (w : World) (h : SpsOf w v ls) (hlm : ls.length ≤ 9223372036854775807) (hls : ∀ l ∈ ls, l.length ≤ 9223372036854775807) :
    Calls Try.prog 3 #[v, encA a, encA b] w (AwPost w) := by
  obtain ⟨ao, cap, hv⟩ := h.slice
  subst hv
  have hg1 := heap_alloc_new (w.alloc (boxA a)) (boxA b)
  rw [World.size_alloc] at hg1
  have GA := Lib.hid (show ((w.alloc (boxA a)).alloc (boxA b)).heap[w.heap.size]? = some (boxA a) from blk_alloc (heap_alloc_new _ _) _)
  have GB := Lib.hid hg1
  have BE := Lib.hid (show Below w.heap.size w ((w.alloc (boxA a)).alloc (boxA b)) from ((Below.refl _ _).alloc (Nat.le_refl _) _).alloc (by simp) _)
  have LS := Lib.hid (h.kept BE.out)
  have HGR := Lib.hid (great_any _ ls _ LS.out hlm (by unfold maxLen; exact hls))
  obtain ⟨n, hn⟩ : ∃ n, n = w.heap.size := ⟨_, rfl⟩
  have HN := Lib.hid hn
  have GA := Lib.hid (by have := GA.out; rw [← hn] at this; exact this)
  have GB := Lib.hid (by have := GB.out; rw [← hn] at this; exact this)
  clear hn hg1 h hlm hls
  go_enter Try.func3, Try.ntmps3
  go_wp2_with fail
  generalize (w.alloc (boxA a)).alloc (boxA b) = w1 at *
  rw [← HN.out]
  refine HGR.out.mono ?_
  rintro e w2 ⟨r, rfl, hsm, hb⟩
  have GA1 := Lib.hid (blk_kept hb GA.out)
  have GB1 := Lib.hid (blk_kept hb GB.out)
  have BE1 := Lib.hid (below_step BE.out hb BE.out.size)
  have LS1 := Lib.hid (LS.out.kept hb)
  clear hb HGR
  cases r
  · have HSM := Lib.hid (hsm rfl)
    clear hsm
    have hl5 : ls.length ≤ 4 := HSM.out.num
    have hfl : ls.flatten.length ≤ 80 := HSM.out.flat
    have HGV := Lib.hid (fun W v (h : SpsOf W v ls) => given_any v ls W h (by omega) (by omega))
    have HJN0 := Lib.hid (fun W v (h : SpsOf W v ls) => join_any v ls W h (by omega) (by omega))
    have HFR := Lib.hid (fun W v (h : SpsOf W v ls) => free_any a b v ls W h (by omega) (by omega))
    obtain ⟨A, hA⟩ : ∃ A, A = ls.flatten := ⟨_, rfl⟩
    rw [← hA] at hfl HGV HJN0 HFR
    clear hA
    have HGL := Lib.hid (show ∀ i (h : i < ls.length), ls[i].length ≤ 20 from fun i h => HSM.out.one h)
    go_wp2_with fail
    go_loopw [7, 8] (fun vo vi wr => ∃ (i : Nat) (vs : List Value), i ≤ ls.length ∧ vi = .int .i64 i ∧ Pts w2 vo nilV (ls.take i) [] vs wr) (fun _ vi _ => ls.length - (intOf vi).toNat)
    case atStart => exact ⟨0, [], Nat.zero_le _, rfl, ⟨World.ownsRow_nil _ _ _ _, rfl, fun j h => by simp at h, World.ownsRow_nil _ _ _ _, fun j h => by simp at h, fun j k h => by simp at h, Below.refl _ _⟩⟩
    case round =>
      obtain ⟨i, vs, hi, rfl, hp⟩ := hrel
      have HP := Lib.hid hp
      have htl : (ls.take i).length = i := by rw [List.length_take]; omega
      obtain ⟨oo, oc, hov⟩ := owns_slice1 hp.out
      rw [htl] at hov
      subst hov
      by_cases hlt : i < ls.length
      · obtain ⟨b, off, cap', hve, hcs⟩ := (LS1.out.kept hp.bel).cell (by omega)
        injection hve with hx1 hx2 hx3
        subst hx1
        clear hx2 hx3
        obtain ⟨u, hu, hue⟩ := hcs i hlt
        have hg60 := HGL.out i hlt
        obtain ⟨g, hg⟩ : ∃ g, g = ls[i]'hlt := ⟨_, rfl⟩
        rw [← hg] at hg60
        replace hue : SpsAt wr u g := by rw [hg]; exact hue
        obtain ⟨uo, uc, hub⟩ := elems_slice hue
        subst hub
        have HUE := Lib.hid hue
        have HSN := Lib.hid (show ls.take (i + 1) = ls.take i ++ [g] by rw [List.take_succ_eq_append_getElem hlt, hg])
        have k1 : (0 : Int) ≤ (i : Int) := by omega
        have k2 : (i : Int) < (ls.length : Int) := by omega
        have k4 : IntKind.i64.wrap ((i : Int) + 1) = (i : Int) + 1 := by rw [IntKind.wrap_i64]; omega
        have HTL := Lib.hid htl
        have HLT := Lib.hid hlt
        have HOE := Lib.hid (show (wr.alloc (.cells #[] TE)).ownsRow wr.heap.size TE 6 (.slice (some ⟨wr.heap.size, 0, none⟩) 0 0) 0 [] from owns_empty (heap_alloc_new wr (.cells #[] TE)) (Nat.le_refl _) 6)
        have HBE0 := Lib.hid (show Below wr.heap.size wr (wr.alloc (.cells #[] TE)) from (Below.refl _ _).alloc (Nat.le_refl _) _)
        have HZ0 := Lib.hid HBE0.out.size
        have HUE0 := Lib.hid (HUE.out.kept HBE0.out)
        have hu0 : (wr.alloc (.cells #[] TE)).cell? ⟨b, off + i, none⟩ = some (.slice uo g.length uc) := cell_kept HBE0.out hu
        have HL9 := Lib.hid (show 0 + g.length ≤ 1099511627776 by omega)
        have HL8 := Lib.hid (show (ls.take i).length + 1 ≤ 1099511627776 by omega)
        clear hp hcs hue hg htl hlt hi hg60 hl5 hfl
        go_wp2_with (first | (at_builtin; refine wpList_append_seg rfl (.tmp 24) (.tmp 28) 28 rfl wr.heap.size TE _ 6 48 Try.underlying28 infoE rfl (by decide) _ 0 [] rfl HOE.out _ g.length (g.flatMap encC) rfl HUE0.out encC_one HL9.out (by decide) HZ0.out ?_; intro v1 w3 ho hgr _; have HB2 := Lib.hid (below_grown HBE0.out hgr HOE.out (Nat.le_refl _) HBE0.out.size); have HP2 := Lib.hid (HP.out.fresh (p := g) HB2.out (by simpa using ho)); clear ho hgr; obtain ⟨vo1, vc1, hv1⟩ := owns_slice1 HP2.out.part; subst hv1; have HP3 := Lib.hid (HP2.out.kept ((Below.refl _ _).alloc (Nat.le_refl _) (.cells #[.slice vo1 g.length vc1] TS))); have HN3 := Lib.hid (heap_alloc_new w3 (.cells #[.slice vo1 g.length vc1] TS)); have HZ3 := Lib.hid HP3.out.bel.size; have HONE := Lib.hid (one_slice HP2.out.part); have HSEG := Lib.hid (show Seg (w3.alloc (.cells #[.slice vo1 g.length vc1] TS)) 1 (.slice (some ⟨w3.heap.size, 0, none⟩) 1 1) 1 [.slice vo1 g.length vc1] from ⟨⟨_, _, rfl, fun _ => ⟨w3.heap.size, 0, rfl, fun j hj => (by rw [Nat.zero_add, blk_cell HN3.out]; simp)⟩⟩, rfl⟩)) | (at_builtin; refine wpList_append_seg rfl (.tmp 23) (.tmp 30) 22 rfl w2.heap.size TS _ 1 24 Try.underlying22 infoS rfl (by decide) _ (ls.take i).length vs rfl HP3.out.out _ 1 [.slice vo1 g.length vc1] rfl HSEG.out HONE.out HL8.out (by decide) HZ3.out ?_; intro v2 w4 ho hgr _; have HP4 := Lib.hid (HP3.out.put ho hgr); clear ho hgr))
        have HPZ := Lib.hid (show Pts w2 v2 nilV (ls.take (i + 1)) [] (vs ++ [.slice vo1 g.length vc1]) w4 from by rw [HSN.out]; exact HP4.out)
        go_roundw
        case rel => exact ⟨i + 1, vs ++ [.slice vo1 g.length vc1], HLT.out, by go_num, HPZ.out⟩
        case measure => have := HLT.out; simp [intOf]; omega
      · have hti : ls.take i = ls := List.take_of_length_le (by omega)
        have hil : i = ls.length := by omega
        rw [hti] at hp
        have k2 : ¬ (i : Int) < (ls.length : Int) := by omega
        have HBA := Lib.hid hp.bel
        have HOWN := Lib.hid hp.done
        have GA2 := Lib.hid (blk_kept hp.bel GA1.out)
        have GB2 := Lib.hid (blk_kept hp.bel GB1.out)
        have BE2 := Lib.hid (below_step BE1.out hp.bel BE1.out.size)
        have LS2 := Lib.hid (LS1.out.kept hp.bel)
        rw [hil] at HOWN ⊢
        clear hp HP htl hti hlt hi hil
        go_wp2_with fail
        refine (HGV.out _ _ LS2.out).mono ?_
        rintro e w5 ⟨v5, rfl, ho, hb⟩
        have HV5 := Lib.hid (show SpsAt w5 v5 A from Seg.of_owns ho)
        have HOWN5 := Lib.hid (HOWN.out.kept hb)
        have GA5 := Lib.hid (blk_kept hb GA2.out)
        have GB5 := Lib.hid (blk_kept hb GB2.out)
        have BE5 := Lib.hid (below_step BE2.out hb BE2.out.size)
        obtain ⟨o5, c5, hv5⟩ := elems_slice HV5.out
        subst hv5
        clear ho hb
        go_wp2_with fail
        refine (HJN0.out w5 _ HOWN5.out).mono ?_
        rintro e w6 ⟨j, hset, hjl, v6, rfl, ho, hb⟩
        have HJ := Lib.hid hset
        have HJO := Lib.hid ho
        have BJ6 := Lib.hid hb
        have HOWN6 := Lib.hid (HOWN5.out.kept hb)
        have GA6 := Lib.hid (blk_kept hb GA5.out)
        have GB6 := Lib.hid (blk_kept hb GB5.out)
        have HV6 := Lib.hid (HV5.out.kept hb)
        obtain ⟨o6, c6, hv6⟩ := owns_slice1 ho
        subst hv6
        have HJL := Lib.hid hjl
        clear ho hb hset hjl
        have f0 := box_n0 GA6.out
        have f1 := box_n1 GA6.out
        have f2 := box_n2 GA6.out
        have g0 := box_n0 GB6.out
        have g1 := box_n1 GB6.out
        have g2 := box_n2 GB6.out
        go_wp2_with fail
        clear f0 f1 f2 g0 g1 g2
        refine (HFR.out w6 _ HOWN6.out).mono ?_
        rintro e w7 ⟨f, hset, hjl, v7, rfl, ho, hb⟩
        have HF := Lib.hid hset
        have HFO := Lib.hid ho
        have BJ7 := Lib.hid (below_step BJ6.out hb BJ6.out.size)
        have HJO7 := Lib.hid (row_kept1 HJO.out fun k hk => hb.block k (HJO.out.lt k hk).2)
        have HJB := Lib.hid (show ∀ k, (Value.slice o6 j.length c6).ownBlock = some k → k < w6.heap.size from fun k hk => (HJO.out.lt k hk).2)
        have GA7 := Lib.hid (blk_kept hb GA6.out)
        have GB7 := Lib.hid (blk_kept hb GB6.out)
        have HV7 := Lib.hid (HV6.out.kept hb)
        obtain ⟨o7, c7, hv7⟩ := owns_slice1 ho
        subst hv7
        have HFL := Lib.hid hjl
        clear ho hb hset hjl
        go_wp2_with fail
        refine (rjoin_any _ A w7 HV7.out (by omega)).mono ?_
        rintro e w8 ⟨j2, hset, hjl, v8, rfl, ho, hb⟩
        obtain rfl : j2 = j := hset.unique HJ.out fun n => Iff.rfl
        have BJ8 := Lib.hid (below_step BJ7.out hb BJ7.out.size)
        have HJO8 := Lib.hid (row_kept1 HJO7.out fun k hk => hb.block k (HJO7.out.lt k hk).2)
        have HFO8 := Lib.hid (row_kept1 HFO.out fun k hk => hb.block k (HFO.out.lt k hk).2)
        have GA8 := Lib.hid (blk_kept hb GA7.out)
        have GB8 := Lib.hid (blk_kept hb GB7.out)
        have HV8 := Lib.hid (HV7.out.kept hb)
        have HS := Lib.hid (same_any _ v8 j2 j2 w8 (Seg.of_owns HJO8.out) (Seg.of_owns ho) (by have := HJL.out; omega) (by omega))
        rw [beq_self_eq_true] at HS
        obtain ⟨o8, c8, hv8⟩ := owns_slice1 ho
        subst hv8
        clear ho hb hset hjl
        go_wp2_with fail
        refine HS.out.mono ?_
        rintro e w9 ⟨rfl, hb⟩
        have BJ9 := Lib.hid (below_step BJ8.out hb BJ8.out.size)
        have HJO9 := Lib.hid (row_kept1 HJO8.out fun k hk => hb.block k (HJO8.out.lt k hk).2)
        have HFO9 := Lib.hid (row_kept1 HFO8.out fun k hk => hb.block k (HFO8.out.lt k hk).2)
        have GA9 := Lib.hid (blk_kept hb GA8.out)
        have GB9 := Lib.hid (blk_kept hb GB8.out)
        have HV9 := Lib.hid (HV8.out.kept hb)
        clear hb HS
        have f0 := box_n0 GA9.out
        have f1 := box_n1 GA9.out
        have f2 := box_n2 GA9.out
        have g0 := box_n0 GB9.out
        have g1 := box_n1 GB9.out
        have g2 := box_n2 GB9.out
        go_wp2_with fail
        clear f0 f1 f2 g0 g1 g2
        refine (rfree_any a b _ A w9 HV9.out (by omega)).mono ?_
        rintro e w10 ⟨f2, hset, hjl, v10, rfl, ho, hb⟩
        obtain rfl : f2 = f := hset.unique HF.out fun n => Iff.rfl
        have BJ10 := Lib.hid (below_step BJ9.out hb BJ9.out.size)
        have HJO10 := Lib.hid (row_kept1 HJO9.out fun k hk => hb.block k (HJO9.out.lt k hk).2)
        have HFO10 := Lib.hid (row_kept1 HFO9.out fun k hk => hb.block k (HFO9.out.lt k hk).2)
        have HV10 := Lib.hid (HV9.out.kept hb)
        have HS := Lib.hid (same_any _ v10 f2 f2 w10 (Seg.of_owns HFO10.out) (Seg.of_owns ho) (by have := HFL.out; omega) (by omega))
        rw [beq_self_eq_true] at HS
        obtain ⟨o10, c10, hv10⟩ := owns_slice1 ho
        subst hv10
        clear ho hb hset hjl
        go_wp2_with fail
        refine HS.out.mono ?_
        rintro e w11 ⟨rfl, hb⟩
        have BJ11 := Lib.hid (below_step BJ10.out hb BJ10.out.size)
        have HJO11 := Lib.hid (row_kept1 HJO10.out fun k hk => hb.block k (HJO10.out.lt k hk).2)
        have HFO11 := Lib.hid (row_kept1 HFO10.out fun k hk => hb.block k (HFO10.out.lt k hk).2)
        clear hb HS
        have HJN := Lib.hid (show j2.length ≤ 1000000 by have := HJL.out; omega)
        have HFN := Lib.hid (show f2.length ≤ 1000000 by have := HFL.out; omega)
        obtain ⟨jn, hjn⟩ : ∃ n, n = j2.length := ⟨_, rfl⟩
        obtain ⟨fn, hfn⟩ : ∃ n, n = f2.length := ⟨_, rfl⟩
        rw [← hjn] at HJO11 HJN HJB ⊢
        rw [← hfn] at HFO11 HFN ⊢
        clear hjn hfn k2
        go_wp2_with fail
        go_loopw [12] (fun vi W => ∃ k : Nat, k ≤ jn ∧ vi = .int .i64 k ∧ (∃ xs, W.ownsRow w5.heap.size TE 6 (.slice o6 jn c6) jn xs) ∧ (∃ ys, W.ownsRow w6.heap.size TE 6 (.slice o7 fn c7) fn ys) ∧ Below w5.heap.size w5 W) (fun vi _ => jn - (intOf vi).toNat)
        case atStart => exact ⟨0, Nat.zero_le _, rfl, ⟨_, HJO11.out⟩, ⟨_, HFO11.out⟩, BJ11.out⟩
        case round =>
          obtain ⟨k, hk, rfl, ⟨xs, hx⟩, ⟨ys, hy2⟩, hbw⟩ := hrel
          have HX := Lib.hid hx
          have HBW := Lib.hid hbw
          have HFY := Lib.hid hy2
          by_cases hkl : k < jn
          · obtain ⟨g, gc, hgv, hgb, hgl, -, hcell, hfz⟩ := owns_shape hx (by omega)
            injection hgv with hg1 hg2 hg3
            subst hg1
            obtain rfl : gc = c6 := hg3.symm
            have hxl := hx.1
            have c0 : wr.cell? ⟨g, k * 6 + 2, none⟩ = some (xs[k * 6 + 2]'(by omega)) := by rw [hcell (k * 6 + 2) (by omega)]; exact List.getElem?_eq_getElem _
            obtain ⟨y, hy⟩ : ∃ y, y = xs[k * 6 + 2]'(by omega) := ⟨_, rfl⟩
            rw [← hy] at c0
            have f0 : wr.frozen? ⟨g, k * 6 + 2, none⟩ = false := hfz _
            have k1 : (0 : Int) ≤ (k : Int) := by omega
            have k2 : (k : Int) < (jn : Int) := by omega
            have k4 : IntKind.i64.wrap ((k : Int) + 1) = (k : Int) + 1 := by rw [IntKind.wrap_i64]; have := HJN.out; have := HFN.out; omega
            have HGB := Lib.hid hgb
            have HKL := Lib.hid hkl
            clear hx hbw hcell hfz hy hg2 hg3 hxl hkl hk
            go_wp2_with fail
            clear c0 f0
            go_roundw
            case rel => exact ⟨k + 1, HKL.out, by go_num, ⟨_, (HX.out.stored _ _).1⟩, ⟨ys, row_kept1 HFY.out fun q hq => blk_set_other (fun e => by have h1 := (HFY.out.lt q hq).1; have h2 := HJB.out g rfl; simp only at e; omega)⟩, HBW.out.setCell (p := ⟨g, k * 6 + 2, none⟩) HGB.out _⟩
            case measure => have := HKL.out; simp [intOf]; omega
          · obtain rfl : jn = k := by omega
            have k2 : ¬ (jn : Int) < (jn : Int) := by omega
            clear hx hbw hkl hk
            go_wp2_with fail
            go_loopw [13] (fun vi W => ∃ k : Nat, k ≤ fn ∧ vi = .int .i64 k ∧ (∃ xs, W.ownsRow w5.heap.size TE 6 (.slice o7 fn c7) fn xs) ∧ True ∧ Below w5.heap.size w5 W) (fun vi _ => fn - (intOf vi).toNat)
            case atStart => exact ⟨0, Nat.zero_le _, rfl, ⟨_, owns_mono HFY.out BJ6.out.size⟩, trivial, HBW.out⟩
            case round =>
              obtain ⟨k, hk, rfl, ⟨xs, hx⟩, -, hbw⟩ := hrel
              have HX := Lib.hid hx
              have HBW := Lib.hid hbw
              skip
              by_cases hkl : k < fn
              · obtain ⟨g, gc, hgv, hgb, hgl, -, hcell, hfz⟩ := owns_shape hx (by omega)
                injection hgv with hg1 hg2 hg3
                subst hg1
                obtain rfl : gc = c7 := hg3.symm
                have hxl := hx.1
                have c0 : wr.cell? ⟨g, k * 6 + 2, none⟩ = some (xs[k * 6 + 2]'(by omega)) := by rw [hcell (k * 6 + 2) (by omega)]; exact List.getElem?_eq_getElem _
                obtain ⟨y, hy⟩ : ∃ y, y = xs[k * 6 + 2]'(by omega) := ⟨_, rfl⟩
                rw [← hy] at c0
                have f0 : wr.frozen? ⟨g, k * 6 + 2, none⟩ = false := hfz _
                have k1 : (0 : Int) ≤ (k : Int) := by omega
                have k2 : (k : Int) < (fn : Int) := by omega
                have k4 : IntKind.i64.wrap ((k : Int) + 1) = (k : Int) + 1 := by rw [IntKind.wrap_i64]; have := HJN.out; have := HFN.out; omega
                have HGB := Lib.hid hgb
                have HKL := Lib.hid hkl
                clear hx hbw hcell hfz hy hg2 hg3 hxl hkl hk
                go_wp2_with fail
                clear c0 f0
                go_roundw
                case rel => exact ⟨k + 1, HKL.out, by go_num, ⟨_, (HX.out.stored _ _).1⟩, trivial, HBW.out.setCell (p := ⟨g, k * 6 + 2, none⟩) HGB.out _⟩
                case measure => have := HKL.out; simp [intOf]; omega
              · obtain rfl : fn = k := by omega
                have k2 : ¬ (fn : Int) < (fn : Int) := by omega
                clear hx hbw hkl hk
                go_wp2_with fail
                refine (HGV.out wr _ (HOWN5.out.kept HBW.out)).mono ?_
                rintro e w12 ⟨v12, rfl, ho, hb⟩
                have BZ12 := Lib.hid (below_step HBW.out hb HBW.out.size)
                have HS := Lib.hid (rsame_any v12 _ A A w12 (Seg.of_owns ho) (HV5.out.kept BZ12.out) (by omega) (by omega))
                rw [beq_self_eq_true] at HS
                obtain ⟨o12, c12, hv12⟩ := owns_slice1 ho
                subst hv12
                clear ho hb
                go_wp2_with fail
                refine HS.out.mono ?_
                rintro e w13 ⟨rfl, hb⟩
                have BZ13 := Lib.hid (below_step BE5.out (below_step BZ12.out hb BZ12.out.size) BE5.out.size)
                clear hb HS
                go_wp2_with fail
                refine (awake_any _).mono ?_
                rintro e w14 ⟨rfl, hb⟩
                have BZ14 := Lib.hid (below_step BZ13.out hb BZ13.out.size)
                clear hb
                go_wp2_with fail
                go_ret
                exact ⟨rfl, BZ14.out⟩
  · go_wp2_with fail
    refine (awake_any _).mono ?_
    rintro e w3 ⟨rfl, hb⟩
    have HB3 := Lib.hid (below_step BE1.out hb BE1.out.size)
    clear hb
    go_wp2_with fail
    go_ret
    exact ⟨rfl, HB3.out⟩
end Go.Proofs.Try.Gp
