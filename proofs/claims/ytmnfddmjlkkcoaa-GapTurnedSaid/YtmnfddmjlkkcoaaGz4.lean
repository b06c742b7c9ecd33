/- GapTurned: its walk. -/
import Derived.Test.YtmnfddmjlkkcoaaGz1
import Derived.Test.YtmnfddmjlkkcoaaGp5
import Derived.Deep.DeepCutAuto
set_option linter.unusedVariables false
set_option linter.unusedSimpArgs false
namespace Go.Proofs.Try.Gp
open Go.RowKit Go.Cph Go.Cph.Px Go.Cph.Gp Go.Cph.So
open Pfx (encA)
theorem beq_toS (l : List Sp) : (l == l) = true := beq_self_eq_true l

set_option maxRecDepth 100000 in
set_option maxHeartbeats 32000000 in
theorem turned_law (a b : Ad) (v : Value) (ls : List (List Sp)) (w : World) (h : SpsOf w v ls) (hlm : ls.length ≤ 9223372036854775807) (hls : ∀ l ∈ ls, l.length ≤ 9223372036854775807) :
    Calls Try.prog 4 #[v, encA a, encA b] w (AwPost w) := by
  obtain ⟨ao, cap, hv⟩ := h.slice
  subst hv
  have hg1 := heap_alloc_new (w.alloc (boxA a)) (boxA b)
  rw [World.size_alloc] at hg1
  have GA := Lib.hid (show ((w.alloc (boxA a)).alloc (boxA b)).heap[w.heap.size]? = some (boxA a) from blk_alloc (heap_alloc_new _ _) _)
  have GB := Lib.hid hg1
  have BE := Lib.hid (show Below w.heap.size w ((w.alloc (boxA a)).alloc (boxA b)) from ((Below.refl _ _).alloc (Nat.le_refl _) _).alloc (by simp) _)
  have LS := Lib.hid (h.kept BE.out)
  have HGR := Lib.hid (great_any _ ls _ LS.out hlm (by unfold maxLen; exact hls))
  obtain ⟨n, hn⟩ : ∃ n, n = w.heap.size := ⟨_, rfl⟩
  have HN := Lib.hid hn
  have GA := Lib.hid (by have := GA.out; rw [← hn] at this; exact this)
  have GB := Lib.hid (by have := GB.out; rw [← hn] at this; exact this)
  clear hn hg1 h hlm hls
  go_enter Try.func4, Try.ntmps4
  go_wp2_with fail
  generalize (w.alloc (boxA a)).alloc (boxA b) = w1 at *
  rw [← HN.out]
  refine HGR.out.mono ?_
  rintro e w2 ⟨r, rfl, hsm, hb⟩
  have GA1 := Lib.hid (blk_kept hb GA.out)
  have GB1 := Lib.hid (blk_kept hb GB.out)
  have BE1 := Lib.hid (below_step BE.out hb BE.out.size)
  have LS1 := Lib.hid (LS.out.kept hb)
  clear hb HGR
  cases r
  · have HSM := Lib.hid (hsm rfl)
    clear hsm
    have hl4 : ls.length ≤ 4 := HSM.out.num
    have hfl : ls.flatten.length ≤ 80 := HSM.out.flat
    have HJN := Lib.hid (fun W v (h : SpsOf W v ls) => join_any v ls W h (by omega) (by omega))
    have HFR := Lib.hid (fun W v (h : SpsOf W v ls) => free_any a b v ls W h (by omega) (by omega))
    have HLE := Lib.hid (fun W v (h : SpsOf W v ls) => least_any a b v ls W h (by omega) (by omega))
    obtain ⟨A, hA⟩ : ∃ A, A = ls.flatten := ⟨_, rfl⟩
    rw [← hA] at hfl HJN HFR HLE
    have HAE := Lib.hid hA
    have HFL := Lib.hid hfl
    have HL4 := Lib.hid hl4
    have HF1 := Lib.hid (fun (l : List Sp) W v (h : SpsOf W v [l]) (hn : l.length ≤ 1000) => (show Calls Try.prog 13 #[encA a, encA b, v] W (SetPost W (FreeP a b (covS l)) (l.length + 1)) from by
      have := free_any a b v [l] W h (by simp) (by simp; omega)
      simpa using this))
    have HJ1 := Lib.hid (fun (l : List Sp) W v (h : SpsOf W v [l]) (hn : l.length ≤ 1000) => (show Calls Try.prog 12 #[v] W (SetPost W (covS l) l.length) from by
      have := join_any v [l] W h (by simp) (by simp; omega)
      simpa using this))
    have HL1 := Lib.hid (fun (l : List Sp) W v (h : SpsOf W v [l]) (hn : l.length ≤ 1000) => (show Calls Try.prog 18 #[encA a, encA b, v] W (LeastPostP a b (covS l) W) from by
      have := least_any a b v [l] W h (by simp) (by simp; omega)
      simpa using this))
    clear hA
    obtain ⟨N, hN⟩ : ∃ N, N = ls.length := ⟨_, rfl⟩
    have k0 : IntKind.i64.wrap ((ls.length : Int) - 1) = (ls.length : Int) - 1 := by rw [IntKind.wrap_i64]; omega
    clear hfl hl4 hN
    go_wp2_with fail
    clear k0
    go_loopw [7, 8] (fun vo vi W => ∃ k : Nat, k ≤ ls.length ∧ vi = .int .i64 ((k : Int) - 1) ∧ W.ownsRow w2.heap.size TE 6 vo (ls.drop k).flatten.reverse.length ((ls.drop k).flatten.reverse.flatMap encC) ∧ Below w2.heap.size w2 W) (fun _ vi _ => (intOf vi + 1).toNat)
    case atStart => exact ⟨ls.length, Nat.le_refl _, rfl, by rw [List.drop_length]; exact World.ownsRow_nil _ _ _ _, Below.refl _ _⟩
    case round =>
      obtain ⟨k, hk, hvi, ho, hbel⟩ := hrel
      have HB := Lib.hid hbel
      rcases k with _ | p
      · have e0 : (((0 : Nat) : Int) - 1) = -1 := rfl
        rw [e0] at hvi
        subst hvi
        rw [List.drop_zero, ← HAE.out] at ho
        obtain ⟨R, hR⟩ : ∃ R, R = A.reverse := ⟨_, rfl⟩
        rw [← hR] at ho
        have HRV := Lib.hid (show ∀ n, covS R n ↔ covS A n from fun n => by rw [hR]; exact covS_reverse n)
        have HRN := Lib.hid (show R.length ≤ 80 from by rw [hR, List.length_reverse]; exact HFL.out)
        obtain ⟨ro, rc, hrv⟩ := owns_slice1 ho
        subst hrv
        have R1 := Lib.hid (show SpsAt wr (.slice ro R.length rc) R from Seg.of_owns ho)
        have GA2 := Lib.hid (blk_kept hbel GA1.out)
        have GB2 := Lib.hid (blk_kept hbel GB1.out)
        have BE2 := Lib.hid (below_step BE1.out hbel BE1.out.size)
        have LS2 := Lib.hid (LS1.out.kept hbel)
        clear ho hbel hR hk HB BE1 GA1 GB1 LS1
        have f0 := box_n0 GA2.out
        have f1 := box_n1 GA2.out
        have f2 := box_n2 GA2.out
        have g0 := box_n0 GB2.out
        have g1 := box_n1 GB2.out
        have g2 := box_n2 GB2.out
        go_wp2_with fail
        clear f0 f1 f2 g0 g1 g2
        refine (HFR.out _ _ LS2.out).mono ?_
        rintro e x3 ⟨f, hset, hln, v1, rfl, ho, hb⟩
        have GA_3 := Lib.hid (blk_kept hb GA2.out)
        have GB_3 := Lib.hid (blk_kept hb GB2.out)
        have BE_3 := Lib.hid (below_step BE2.out hb BE2.out.size)
        have LS_3 := Lib.hid (LS2.out.kept hb)
        have R_3 := Lib.hid (R1.out.kept hb)
        have HF := Lib.hid hset
        have HFLN := Lib.hid hln
        have F := Lib.hid (show SpsAt x3 v1 f from Seg.of_owns ho)
        obtain ⟨fo, fc, hv⟩ := elems_slice F.out
        subst hv
        clear hset hln ho
        clear hb
        go_wp2_with fail
        refine (HJN.out _ _ LS_3.out).mono ?_
        rintro e x4 ⟨j, hset, hln, v2, rfl, ho, hb⟩
        have GA_4 := Lib.hid (blk_kept hb GA_3.out)
        have GB_4 := Lib.hid (blk_kept hb GB_3.out)
        have BE_4 := Lib.hid (below_step BE_3.out hb BE_3.out.size)
        have LS_4 := Lib.hid (LS_3.out.kept hb)
        have R_4 := Lib.hid (R_3.out.kept hb)
        have F_4 := Lib.hid (F.out.kept hb)
        have HJ := Lib.hid hset
        have HJLN := Lib.hid hln
        have J := Lib.hid (show SpsAt x4 v2 j from Seg.of_owns ho)
        obtain ⟨jo, jc, hv⟩ := elems_slice J.out
        subst hv
        clear hset hln ho
        clear hb
        have f0 := box_n0 GA_4.out
        have f1 := box_n1 GA_4.out
        have f2 := box_n2 GA_4.out
        have g0 := box_n0 GB_4.out
        have g1 := box_n1 GB_4.out
        have g2 := box_n2 GB_4.out
        go_wp2_with fail
        clear f0 f1 f2 g0 g1 g2
        refine (HLE.out _ _ LS_4.out).mono ?_
        rintro e x5 ⟨⟨r, rfl, hr⟩, hb⟩
        have GA_5 := Lib.hid (blk_kept hb GA_4.out)
        have GB_5 := Lib.hid (blk_kept hb GB_4.out)
        have BE_5 := Lib.hid (below_step BE_4.out hb BE_4.out.size)
        have LS_5 := Lib.hid (LS_4.out.kept hb)
        have R_5 := Lib.hid (R_4.out.kept hb)
        have F_5 := Lib.hid (F_4.out.kept hb)
        have J_5 := Lib.hid (J.out.kept hb)
        have HR := Lib.hid hr
        obtain ⟨x, ok⟩ := r
        clear hr
        clear hb
        have hbx : Below x5.heap.size x5 (x5.alloc (boxA x)) := (Below.refl _ _).alloc (Nat.le_refl _) _
        have GA_6 := Lib.hid (blk_kept hbx GA_5.out)
        have GB_6 := Lib.hid (blk_kept hbx GB_5.out)
        have BE_6 := Lib.hid (below_step BE_5.out hbx BE_5.out.size)
        have R_6 := Lib.hid (R_5.out.kept hbx)
        have F_6 := Lib.hid (F_5.out.kept hbx)
        have J_6 := Lib.hid (J_5.out.kept hbx)
        have X := Lib.hid (heap_alloc_new x5 (boxA x))
        clear hbx
        have f0 := box_n0 GA_6.out
        have f1 := box_n1 GA_6.out
        have f2 := box_n2 GA_6.out
        have g0 := box_n0 GB_6.out
        have g1 := box_n1 GB_6.out
        have g2 := box_n2 GB_6.out
        go_wp2_with fail
        clear f0 f1 f2 g0 g1 g2
        have hsz : (x5.alloc (boxA x)).heap.size = x5.heap.size + 1 := by rw [World.size_alloc]
        obtain ⟨kX, hkX⟩ : ∃ k, k = x5.heap.size := ⟨_, rfl⟩
        rw [← hkX] at X hsz ⊢
        have HSZ := Lib.hid hsz
        clear hkX hsz
        generalize x5.alloc (boxA x) = y6 at *
        have hbx : Below y6.heap.size y6 (y6.alloc (.cells #[.slice ro R.length rc] TS)) := (Below.refl _ _).alloc (Nat.le_refl _) _
        have GA_7 := Lib.hid (blk_kept hbx GA_6.out)
        have GB_7 := Lib.hid (blk_kept hbx GB_6.out)
        have BE_7 := Lib.hid (below_step BE_6.out hbx BE_6.out.size)
        have R_7 := Lib.hid (R_6.out.kept hbx)
        have F_7 := Lib.hid (F_6.out.kept hbx)
        have J_7 := Lib.hid (J_6.out.kept hbx)
        have X_7 := Lib.hid (blk_kept hbx X.out)
        have Q1 := Lib.hid (heap_alloc_new y6 (.cells #[.slice ro R.length rc] TS))
        clear hbx
        rw [HSZ.out] at Q1
        have HLO := Lib.hid (show SpsOf (y6.alloc (.cells #[.slice ro R.length rc] TS)) (.slice (some ⟨kX + 1, 0, none⟩) 1 1) [R] from Lists.one Q1.out R_7.out)
        refine (HL1.out R _ _ HLO.out (by have := HRN.out; omega)).mono ?_
        rintro e x8 ⟨⟨r, rfl, hr⟩, hb⟩
        have GA_8 := Lib.hid (blk_kept hb GA_7.out)
        have GB_8 := Lib.hid (blk_kept hb GB_7.out)
        have BE_8 := Lib.hid (below_step BE_7.out hb BE_7.out.size)
        have R_8 := Lib.hid (R_7.out.kept hb)
        have F_8 := Lib.hid (F_7.out.kept hb)
        have J_8 := Lib.hid (J_7.out.kept hb)
        have X_8 := Lib.hid (blk_kept hb X_7.out)
        obtain rfl : r = (x, ok) := hr.unique HR.out HRV.out
        clear hr HLO
        clear hb
        have hbx : Below x8.heap.size x8 (x8.alloc (boxA x)) := (Below.refl _ _).alloc (Nat.le_refl _) _
        have GA_9 := Lib.hid (blk_kept hbx GA_8.out)
        have GB_9 := Lib.hid (blk_kept hbx GB_8.out)
        have BE_9 := Lib.hid (below_step BE_8.out hbx BE_8.out.size)
        have R_9 := Lib.hid (R_8.out.kept hbx)
        have F_9 := Lib.hid (F_8.out.kept hbx)
        have J_9 := Lib.hid (J_8.out.kept hbx)
        have X_9 := Lib.hid (blk_kept hbx X_8.out)
        have X2 := Lib.hid (heap_alloc_new x8 (boxA x))
        clear hbx
        have f0 := box_n0 GA_9.out
        have f1 := box_n1 GA_9.out
        have f2 := box_n2 GA_9.out
        have g0 := box_n0 GB_9.out
        have g1 := box_n1 GB_9.out
        have g2 := box_n2 GB_9.out
        go_wp2_with fail
        clear f0 f1 f2 g0 g1 g2
        have hsz : (x8.alloc (boxA x)).heap.size = x8.heap.size + 1 := by rw [World.size_alloc]
        obtain ⟨kY, hkY⟩ : ∃ k, k = x8.heap.size := ⟨_, rfl⟩
        rw [← hkY] at X2 hsz ⊢
        have HSY := Lib.hid hsz
        clear hkY hsz
        generalize x8.alloc (boxA x) = y9 at *
        have hbx : Below y9.heap.size y9 (y9.alloc (.cells #[.slice ro R.length rc] TS)) := (Below.refl _ _).alloc (Nat.le_refl _) _
        have GA_10 := Lib.hid (blk_kept hbx GA_9.out)
        have GB_10 := Lib.hid (blk_kept hbx GB_9.out)
        have BE_10 := Lib.hid (below_step BE_9.out hbx BE_9.out.size)
        have R_10 := Lib.hid (R_9.out.kept hbx)
        have F_10 := Lib.hid (F_9.out.kept hbx)
        have J_10 := Lib.hid (J_9.out.kept hbx)
        have X_10 := Lib.hid (blk_kept hbx X_9.out)
        have X2_10 := Lib.hid (blk_kept hbx X2.out)
        have Q2 := Lib.hid (heap_alloc_new y9 (.cells #[.slice ro R.length rc] TS))
        clear hbx
        rw [HSY.out] at Q2
        have HLO := Lib.hid (show SpsOf (y9.alloc (.cells #[.slice ro R.length rc] TS)) (.slice (some ⟨kY + 1, 0, none⟩) 1 1) [R] from Lists.one Q2.out R_10.out)
        refine (HF1.out R _ _ HLO.out (by have := HRN.out; omega)).mono ?_
        rintro e x11 ⟨l5, hset, hln, v5, rfl, ho, hb⟩
        have GA_11 := Lib.hid (blk_kept hb GA_10.out)
        have GB_11 := Lib.hid (blk_kept hb GB_10.out)
        have BE_11 := Lib.hid (below_step BE_10.out hb BE_10.out.size)
        have R_11 := Lib.hid (R_10.out.kept hb)
        have F_11 := Lib.hid (F_10.out.kept hb)
        have J_11 := Lib.hid (J_10.out.kept hb)
        have X_11 := Lib.hid (blk_kept hb X_10.out)
        have X2_11 := Lib.hid (blk_kept hb X2_10.out)
        obtain rfl : f = l5 := (hset.unique HF.out (free_congr HRV.out)).symm
        have N1 := Lib.hid (show SpsAt x11 v5 _ from Seg.of_owns ho)
        obtain ⟨o5, c5, hv⟩ := elems_slice N1.out
        subst hv
        clear hset hln ho HLO
        clear hb
        have HS := Lib.hid (alike_any _ _ f f _ F_11.out N1.out (by have := HFLN.out; have := HJLN.out; have := HFL.out; omega) (by have := HFLN.out; have := HJLN.out; have := HFL.out; omega))
        rw [beq_self_eq_true] at HS
        go_wp2_with fail
        refine (HS.out).mono ?_
        rintro e x12 ⟨rfl, hb⟩
        have GA_12 := Lib.hid (blk_kept hb GA_11.out)
        have GB_12 := Lib.hid (blk_kept hb GB_11.out)
        have BE_12 := Lib.hid (below_step BE_11.out hb BE_11.out.size)
        have R_12 := Lib.hid (R_11.out.kept hb)
        have F_12 := Lib.hid (F_11.out.kept hb)
        have J_12 := Lib.hid (J_11.out.kept hb)
        have X_12 := Lib.hid (blk_kept hb X_11.out)
        have X2_12 := Lib.hid (blk_kept hb X2_11.out)
        have N1_12 := Lib.hid (N1.out.kept hb)
        clear hb
        clear HS
        have f0 := box_n0 GA_12.out
        have f1 := box_n1 GA_12.out
        have f2 := box_n2 GA_12.out
        have g0 := box_n0 GB_12.out
        have g1 := box_n1 GB_12.out
        have g2 := box_n2 GB_12.out
        go_wp2_with fail
        clear f0 f1 f2 g0 g1 g2
        have hbx : Below x12.heap.size x12 (x12.alloc (.cells #[.slice jo j.length jc] TS)) := (Below.refl _ _).alloc (Nat.le_refl _) _
        have GA_13 := Lib.hid (blk_kept hbx GA_12.out)
        have GB_13 := Lib.hid (blk_kept hbx GB_12.out)
        have BE_13 := Lib.hid (below_step BE_12.out hbx BE_12.out.size)
        have R_13 := Lib.hid (R_12.out.kept hbx)
        have F_13 := Lib.hid (F_12.out.kept hbx)
        have J_13 := Lib.hid (J_12.out.kept hbx)
        have X_13 := Lib.hid (blk_kept hbx X_12.out)
        have X2_13 := Lib.hid (blk_kept hbx X2_12.out)
        have Q3 := Lib.hid (heap_alloc_new x12 (.cells #[.slice jo j.length jc] TS))
        clear hbx
        have HLO := Lib.hid (show SpsOf (x12.alloc (.cells #[.slice jo j.length jc] TS)) (.slice (some ⟨x12.heap.size, 0, none⟩) 1 1) [j] from Lists.one Q3.out J_13.out)
        refine (HF1.out j _ _ HLO.out (by have := HJLN.out; have := HFL.out; omega)).mono ?_
        rintro e x14 ⟨l5, hset, hln, v5, rfl, ho, hb⟩
        have GA_14 := Lib.hid (blk_kept hb GA_13.out)
        have GB_14 := Lib.hid (blk_kept hb GB_13.out)
        have BE_14 := Lib.hid (below_step BE_13.out hb BE_13.out.size)
        have R_14 := Lib.hid (R_13.out.kept hb)
        have F_14 := Lib.hid (F_13.out.kept hb)
        have J_14 := Lib.hid (J_13.out.kept hb)
        have X_14 := Lib.hid (blk_kept hb X_13.out)
        have X2_14 := Lib.hid (blk_kept hb X2_13.out)
        obtain rfl : f = l5 := (hset.unique HF.out (free_congr HJ.out.cov)).symm
        have N2 := Lib.hid (show SpsAt x14 v5 _ from Seg.of_owns ho)
        obtain ⟨o5, c5, hv⟩ := elems_slice N2.out
        subst hv
        clear hset hln ho HLO
        clear hb
        have HS := Lib.hid (alike_any _ _ f f _ F_14.out N2.out (by have := HFLN.out; have := HJLN.out; have := HFL.out; omega) (by have := HFLN.out; have := HJLN.out; have := HFL.out; omega))
        rw [beq_self_eq_true] at HS
        go_wp2_with fail
        refine (HS.out).mono ?_
        rintro e x15 ⟨rfl, hb⟩
        have GA_15 := Lib.hid (blk_kept hb GA_14.out)
        have GB_15 := Lib.hid (blk_kept hb GB_14.out)
        have BE_15 := Lib.hid (below_step BE_14.out hb BE_14.out.size)
        have R_15 := Lib.hid (R_14.out.kept hb)
        have F_15 := Lib.hid (F_14.out.kept hb)
        have J_15 := Lib.hid (J_14.out.kept hb)
        have X_15 := Lib.hid (blk_kept hb X_14.out)
        have X2_15 := Lib.hid (blk_kept hb X2_14.out)
        have N2_15 := Lib.hid (N2.out.kept hb)
        clear hb
        clear HS
        go_wp2_with fail
        have hbx : Below x15.heap.size x15 (x15.alloc (.cells #[.slice ro R.length rc] TS)) := (Below.refl _ _).alloc (Nat.le_refl _) _
        have GA_16 := Lib.hid (blk_kept hbx GA_15.out)
        have GB_16 := Lib.hid (blk_kept hbx GB_15.out)
        have BE_16 := Lib.hid (below_step BE_15.out hbx BE_15.out.size)
        have R_16 := Lib.hid (R_15.out.kept hbx)
        have F_16 := Lib.hid (F_15.out.kept hbx)
        have J_16 := Lib.hid (J_15.out.kept hbx)
        have X_16 := Lib.hid (blk_kept hbx X_15.out)
        have X2_16 := Lib.hid (blk_kept hbx X2_15.out)
        have Q4 := Lib.hid (heap_alloc_new x15 (.cells #[.slice ro R.length rc] TS))
        clear hbx
        have HLO := Lib.hid (show SpsOf (x15.alloc (.cells #[.slice ro R.length rc] TS)) (.slice (some ⟨x15.heap.size, 0, none⟩) 1 1) [R] from Lists.one Q4.out R_16.out)
        refine (HJ1.out R _ _ HLO.out (by have := HRN.out; omega)).mono ?_
        rintro e x17 ⟨l5, hset, hln, v5, rfl, ho, hb⟩
        have GA_17 := Lib.hid (blk_kept hb GA_16.out)
        have GB_17 := Lib.hid (blk_kept hb GB_16.out)
        have BE_17 := Lib.hid (below_step BE_16.out hb BE_16.out.size)
        have R_17 := Lib.hid (R_16.out.kept hb)
        have F_17 := Lib.hid (F_16.out.kept hb)
        have J_17 := Lib.hid (J_16.out.kept hb)
        have X_17 := Lib.hid (blk_kept hb X_16.out)
        have X2_17 := Lib.hid (blk_kept hb X2_16.out)
        obtain rfl : j = l5 := (hset.unique HJ.out HRV.out).symm
        have N3 := Lib.hid (show SpsAt x17 v5 _ from Seg.of_owns ho)
        obtain ⟨o5, c5, hv⟩ := elems_slice N3.out
        subst hv
        clear hset hln ho HLO
        clear hb
        have HS := Lib.hid (alike_any _ _ j j _ J_17.out N3.out (by have := HFLN.out; have := HJLN.out; have := HFL.out; omega) (by have := HFLN.out; have := HJLN.out; have := HFL.out; omega))
        rw [beq_self_eq_true] at HS
        go_wp2_with fail
        refine (HS.out).mono ?_
        rintro e x18 ⟨rfl, hb⟩
        have GA_18 := Lib.hid (blk_kept hb GA_17.out)
        have GB_18 := Lib.hid (blk_kept hb GB_17.out)
        have BE_18 := Lib.hid (below_step BE_17.out hb BE_17.out.size)
        have R_18 := Lib.hid (R_17.out.kept hb)
        have F_18 := Lib.hid (F_17.out.kept hb)
        have J_18 := Lib.hid (J_17.out.kept hb)
        have X_18 := Lib.hid (blk_kept hb X_17.out)
        have X2_18 := Lib.hid (blk_kept hb X2_17.out)
        have N3_18 := Lib.hid (N3.out.kept hb)
        clear hb
        clear HS
        go_wp2_with fail
        have hbx : Below x18.heap.size x18 (x18.alloc (.cells #[.slice jo j.length jc, .slice ro R.length rc] TS)) := (Below.refl _ _).alloc (Nat.le_refl _) _
        have GA_19 := Lib.hid (blk_kept hbx GA_18.out)
        have GB_19 := Lib.hid (blk_kept hbx GB_18.out)
        have BE_19 := Lib.hid (below_step BE_18.out hbx BE_18.out.size)
        have R_19 := Lib.hid (R_18.out.kept hbx)
        have F_19 := Lib.hid (F_18.out.kept hbx)
        have J_19 := Lib.hid (J_18.out.kept hbx)
        have X_19 := Lib.hid (blk_kept hbx X_18.out)
        have X2_19 := Lib.hid (blk_kept hbx X2_18.out)
        have Q5 := Lib.hid (heap_alloc_new x18 (.cells #[.slice jo j.length jc, .slice ro R.length rc] TS))
        clear hbx
        have HLO := Lib.hid (show SpsOf (x18.alloc (.cells #[.slice jo j.length jc, .slice ro R.length rc] TS)) (.slice (some ⟨x18.heap.size, 0, none⟩) 2 2) [j, R] from by
          refine lists_block Q5.out rfl (fun j hj hk => ?_) 2 2 rfl
          rcases (show j = 0 ∨ j = 1 by simp at hj; omega) with rfl | rfl
          · exact J_19.out
          · exact R_19.out)
        have HJ2 := Lib.hid (join_any _ [j, R] _ HLO.out (by simp) (by have h1 := HJLN.out; have h2 := HFL.out; have h3 := HRN.out; simp; omega))
        have HCV := Lib.hid (show ∀ n, covS [j, R].flatten n ↔ covS A n from fun n => by
          rw [show [j, R].flatten = j ++ R by simp, covS_append, HJ.out.cov, HRV.out, or_self])
        refine (HJ2.out).mono ?_
        rintro e x20 ⟨l5, hset, hln, v5, rfl, ho, hb⟩
        have GA_20 := Lib.hid (blk_kept hb GA_19.out)
        have GB_20 := Lib.hid (blk_kept hb GB_19.out)
        have BE_20 := Lib.hid (below_step BE_19.out hb BE_19.out.size)
        have R_20 := Lib.hid (R_19.out.kept hb)
        have F_20 := Lib.hid (F_19.out.kept hb)
        have J_20 := Lib.hid (J_19.out.kept hb)
        have X_20 := Lib.hid (blk_kept hb X_19.out)
        have X2_20 := Lib.hid (blk_kept hb X2_19.out)
        obtain rfl : j = l5 := (hset.unique HJ.out HCV.out).symm
        have N4 := Lib.hid (show SpsAt x20 v5 _ from Seg.of_owns ho)
        obtain ⟨o5, c5, hv⟩ := elems_slice N4.out
        subst hv
        clear hset hln ho HLO
        clear hb
        clear HJ2 HCV
        have HS := Lib.hid (alike_any _ _ j j _ J_20.out N4.out (by have := HFLN.out; have := HJLN.out; have := HFL.out; omega) (by have := HFLN.out; have := HJLN.out; have := HFL.out; omega))
        rw [beq_self_eq_true] at HS
        go_wp2_with fail
        refine (HS.out).mono ?_
        rintro e x21 ⟨rfl, hb⟩
        have GA_21 := Lib.hid (blk_kept hb GA_20.out)
        have GB_21 := Lib.hid (blk_kept hb GB_20.out)
        have BE_21 := Lib.hid (below_step BE_20.out hb BE_20.out.size)
        have R_21 := Lib.hid (R_20.out.kept hb)
        have F_21 := Lib.hid (F_20.out.kept hb)
        have J_21 := Lib.hid (J_20.out.kept hb)
        have X_21 := Lib.hid (blk_kept hb X_20.out)
        have X2_21 := Lib.hid (blk_kept hb X2_20.out)
        have N4_21 := Lib.hid (N4.out.kept hb)
        clear hb
        clear HS
        have d0 := box_n0 X_21.out
        have d1 := box_n1 X_21.out
        have d2 := box_n2 X_21.out
        have e0 := box_n0 X2_21.out
        have e1 := box_n1 X2_21.out
        have e2 := box_n2 X2_21.out
        have f0 := box_n0 GA_21.out
        have f1 := box_n1 GA_21.out
        have f2 := box_n2 GA_21.out
        have g0 := box_n0 GB_21.out
        have g1 := box_n1 GB_21.out
        have g2 := box_n2 GB_21.out
        have q : ∀ W, (binOp .neq 25 (encA x) (encA x)).run Try.prog W = .ok (.bool false) W := fun W => by
          have := run_neqAa x x W
          rwa [beq_self_eq_true] at this
        cases ok
        · go_wp2_with fail
          clear f0 f1 f2 g0 g1 g2
          clear d0 d1 d2 e0 e1 e2 q
          have hbx : Below x21.heap.size x21 (x21.alloc (.cells #[.slice fo f.length fc] TS)) := (Below.refl _ _).alloc (Nat.le_refl _) _
          have GA_22 := Lib.hid (blk_kept hbx GA_21.out)
          have GB_22 := Lib.hid (blk_kept hbx GB_21.out)
          have BE_22 := Lib.hid (below_step BE_21.out hbx BE_21.out.size)
          have R_22 := Lib.hid (R_21.out.kept hbx)
          have F_22 := Lib.hid (F_21.out.kept hbx)
          have J_22 := Lib.hid (J_21.out.kept hbx)
          have Q6 := Lib.hid (heap_alloc_new x21 (.cells #[.slice fo f.length fc] TS))
          clear hbx
          have HLO := Lib.hid (show SpsOf (x21.alloc (.cells #[.slice fo f.length fc] TS)) (.slice (some ⟨x21.heap.size, 0, none⟩) 1 1) [f] from Lists.one Q6.out F_22.out)
          refine (HF1.out f _ _ HLO.out (by have := HFLN.out; have := HFL.out; omega)).mono ?_
          rintro e x23 ⟨l5, hset, hln, v5, rfl, ho, hb⟩
          have GA_23 := Lib.hid (blk_kept hb GA_22.out)
          have GB_23 := Lib.hid (blk_kept hb GB_22.out)
          have BE_23 := Lib.hid (below_step BE_22.out hb BE_22.out.size)
          have R_23 := Lib.hid (R_22.out.kept hb)
          have F_23 := Lib.hid (F_22.out.kept hb)
          have J_23 := Lib.hid (J_22.out.kept hb)
          have HK := Lib.hid hset
          have K := Lib.hid (show SpsAt x23 v5 l5 from Seg.of_owns ho)
          obtain ⟨ko, kc, hv⟩ := elems_slice K.out
          subst hv
          have HKL := Lib.hid hln
          clear hset hln ho HLO
          clear hb
          have f0 := box_n0 GA_23.out
          have f1 := box_n1 GA_23.out
          have f2 := box_n2 GA_23.out
          have g0 := box_n0 GB_23.out
          have g1 := box_n1 GB_23.out
          have g2 := box_n2 GB_23.out
          have hbx : Below x23.heap.size x23 (x23.alloc (boxS (a, b))) := (Below.refl _ _).alloc (Nat.le_refl _) _
          have GA_24 := Lib.hid (blk_kept hbx GA_23.out)
          have GB_24 := Lib.hid (blk_kept hbx GB_23.out)
          have BE_24 := Lib.hid (below_step BE_23.out hbx BE_23.out.size)
          have R_24 := Lib.hid (R_23.out.kept hbx)
          have F_24 := Lib.hid (F_23.out.kept hbx)
          have J_24 := Lib.hid (J_23.out.kept hbx)
          have K_24 := Lib.hid (K.out.kept hbx)
          have AL := Lib.hid (heap_alloc_new x23 (boxS (a, b)))
          clear hbx
          go_wp2_with fail
          clear f0 f1 f2 g0 g1 g2
          have HRT := Lib.hid (fun W => right_sp (a, b) W)
          obtain ⟨p, hp⟩ : ∃ p, p = rightS (a, b) := ⟨_, rfl⟩
          rw [← hp] at HRT
          have HP := Lib.hid hp
          clear hp
          refine (HRT.out _).mono ?_
          rintro e x25 ⟨rfl, hb⟩
          have GA_25 := Lib.hid (blk_kept hb GA_24.out)
          have GB_25 := Lib.hid (blk_kept hb GB_24.out)
          have BE_25 := Lib.hid (below_step BE_24.out hb BE_24.out.size)
          have R_25 := Lib.hid (R_24.out.kept hb)
          have F_25 := Lib.hid (F_24.out.kept hb)
          have J_25 := Lib.hid (J_24.out.kept hb)
          have K_25 := Lib.hid (K_24.out.kept hb)
          have AL_25 := Lib.hid (blk_kept hb AL.out)
          clear hb
          cases p
          · obtain rfl : f = [] := none_of_not_right HF.out HP.out.symm
            obtain rfl : l5 = [] := none_of_not_right HK.out HP.out.symm
            go_wp2_with fail
            refine (awake_any _).mono ?_
            rintro e x26 ⟨rfl, hb⟩
            have GA_26 := Lib.hid (blk_kept hb GA_25.out)
            have GB_26 := Lib.hid (blk_kept hb GB_25.out)
            have BE_26 := Lib.hid (below_step BE_25.out hb BE_25.out.size)
            have R_26 := Lib.hid (R_25.out.kept hb)
            have F_26 := Lib.hid (F_25.out.kept hb)
            have J_26 := Lib.hid (J_25.out.kept hb)
            have K_26 := Lib.hid (K_25.out.kept hb)
            have AL_26 := Lib.hid (blk_kept hb AL_25.out)
            clear hb
            go_wp2_with fail
            go_ret
            exact ⟨rfl, BE_26.out⟩
          · have HBC := Lib.hid (back_clip HP.out.symm HF.out HJ.out HK.out)
            have HJB := Lib.hid (show j.length ≤ 80 from by have := HJLN.out; have := HFL.out; omega)
            have HKB := Lib.hid (show l5.length ≤ 200 from by have := HKL.out; have := HFLN.out; have := HFL.out; omega)
            go_wp2_with fail
            go_loopw [18, 19] (fun vn vi W => ∃ (i m : Nat), i ≤ j.length ∧ vi = .int .i64 i ∧ vn = .int .i64 m ∧ m = ((j.take i).filterMap (clip1 a b)).length ∧ Below x25.heap.size x25 W) (fun _ vi _ => j.length - (intOf vi).toNat)
            case atStart => exact ⟨0, 0, Nat.zero_le _, rfl, rfl, rfl, Below.refl _ _⟩
            case round =>
              obtain ⟨i, m, hi, rfl, rfl, hm, hbel⟩ := hrel
              by_cases hlt : i < j.length
              · have HLT := Lib.hid hlt
                obtain ⟨b', off, cap', hve, hcs⟩ := sps_cells (J_25.out.kept hbel) (by omega)
                injection hve with hx1 hx2 hx3
                subst hx1
                clear hx2 hx3
                have hcx := hcs i hlt
                obtain ⟨x, hx⟩ : ∃ x, x = j[i]'hlt := ⟨_, rfl⟩
                rw [← hx] at hcx
                have HTK := Lib.hid (show (j.take (i + 1)).filterMap (clip1 a b) = (j.take i).filterMap (clip1 a b) ++ [x].filterMap (clip1 a b) from by rw [List.take_succ_eq_append_getElem hlt, List.filterMap_append, hx])
                have HSP := Lib.hid (show l5 = (j.take i).filterMap (clip1 a b) ++ ([x].filterMap (clip1 a b) ++ (j.drop (i + 1)).filterMap (clip1 a b)) from by
                  rw [HBC.out, ← List.filterMap_append, ← List.filterMap_append, hx]
                  congr 1
                  rw [List.singleton_append, ← List.drop_eq_getElem_cons hlt, List.take_append_drop])
                have HM := Lib.hid hm
                have B1 := Lib.hid (fun W => below_any x.2 a W)
                have B2 := Lib.hid (fun W => below_any b x.1 W)
                have B3 := Lib.hid (fun W => below_any x.1 a W)
                have B4 := Lib.hid (fun W => below_any b x.2 W)
                have HCL := Lib.hid (show clip1 a b x = if x.1.1 != a.1 || (belowA x.2 a || belowA b x.1) then none else some (if belowA x.1 a then a else x.1, if belowA b x.2 then b else x.2) from rfl)
                obtain ⟨p1, hp1⟩ : ∃ p, p = belowA x.2 a := ⟨_, rfl⟩
                obtain ⟨p2, hp2⟩ : ∃ p, p = belowA b x.1 := ⟨_, rfl⟩
                obtain ⟨p3, hp3⟩ : ∃ p, p = belowA x.1 a := ⟨_, rfl⟩
                obtain ⟨p4, hp4⟩ : ∃ p, p = belowA b x.2 := ⟨_, rfl⟩
                rw [← hp1] at B1 HCL
                rw [← hp2] at B2 HCL
                rw [← hp3] at B3 HCL
                rw [← hp4] at B4 HCL
                have heq := Pfx.u8_eq x.1.1 a.1
                have hbn : (x.1.1 != a.1) = !(x.1.1 == a.1) := rfl
                rw [hbn] at HCL
                obtain ⟨q, hq⟩ : ∃ q, q = (x.1.1 == a.1) := ⟨_, rfl⟩
                rw [← hq] at heq HCL
                have hne : ((x.1.1.toNat : Int) != (a.1.toNat : Int)) = !q := by rw [bne, heq]
                have k1 : (0 : Int) ≤ (i : Int) := by omega
                have k2 : (i : Int) < (j.length : Int) := by omega
                have k4 : IntKind.i64.wrap ((i : Int) + 1) = (i : Int) + 1 := by rw [IntKind.wrap_i64]; have := HJB.out; omega
                have d0 := hcx.c0
                have d1 := hcx.c1
                have d2 := hcx.c2
                have d3 := hcx.c3
                have d4 := hcx.c4
                have d5 := hcx.c5
                have hbx : Below wr.heap.size wr (wr.alloc (boxS x)) := (Below.refl _ _).alloc (Nat.le_refl _) _
                have HBL := Lib.hid (below_step hbel hbx hbel.size)
                have HX := Lib.hid (heap_alloc_new wr (boxS x))
                have HKX := Lib.hid (show x25.heap.size ≤ wr.heap.size from hbel.size)
                have HBR := Lib.hid hbel
                clear hbx hbn hp1 hp2 hp3 hp4 hq hx hcx hcs hm hbel hi hlt
                have m0 := box_n0 (blk_kept HBL.out GA_25.out)
                have m1 := box_n1 (blk_kept HBL.out GA_25.out)
                have m2 := box_n2 (blk_kept HBL.out GA_25.out)
                cases q
                · go_wp2_with fail
                  go_roundw
                  case rel => exact ⟨i + 1, m, HLT.out, by go_num, rfl, by rw [HTK.out, show [x].filterMap (clip1 a b) = [] from by simp [HCL.out], List.append_nil]; exact HM.out, HBL.out⟩
                  case measure => have := HLT.out; simp [intOf]; omega
                · go_wp2_with fail
                  clear m0 m1 m2 d0 d1 d2 d3 d4 d5 heq hne
                  refine (B1.out _).mono ?_
                  rintro e v1 ⟨rfl, hb⟩
                  have HB1 := Lib.hid (below_step HBL.out hb HBL.out.size)
                  have HX1 := Lib.hid (blk_kept hb HX.out)
                  clear hb
                  cases p1
                  · have o0 := box_n0 (blk_kept HB1.out GB_25.out)
                    have o1 := box_n1 (blk_kept HB1.out GB_25.out)
                    have o2 := box_n2 (blk_kept HB1.out GB_25.out)
                    have e0 := box_s0 HX1.out
                    have e1 := box_s1 HX1.out
                    have e2 := box_s2 HX1.out
                    go_wp2_with fail
                    clear o0 o1 o2 e0 e1 e2
                    refine (B2.out _).mono ?_
                    rintro e v2 ⟨rfl, hb⟩
                    have HB2 := Lib.hid (below_step HB1.out hb HB1.out.size)
                    have HX2 := Lib.hid (blk_kept hb HX1.out)
                    clear hb
                    cases p2
                    · have m0 := box_n0 (blk_kept HB2.out GA_25.out)
                      have m1 := box_n1 (blk_kept HB2.out GA_25.out)
                      have m2 := box_n2 (blk_kept HB2.out GA_25.out)
                      have e0 := box_s0 HX2.out
                      have e1 := box_s1 HX2.out
                      have e2 := box_s2 HX2.out
                      go_wp2_with fail
                      clear m0 m1 m2 e0 e1 e2
                      refine (B3.out _).mono ?_
                      rintro e v3 ⟨rfl, hb⟩
                      have HB3 := Lib.hid (below_step HB2.out hb HB2.out.size)
                      have HX3 := Lib.hid (blk_kept hb HX2.out)
                      clear hb
                      cases p3
                      · have o0 := box_n0 (blk_kept HB3.out GB_25.out)
                        have o1 := box_n1 (blk_kept HB3.out GB_25.out)
                        have o2 := box_n2 (blk_kept HB3.out GB_25.out)
                        have e3 := box_s3 HX3.out
                        have e4 := box_s4 HX3.out
                        have e5 := box_s5 HX3.out
                        go_wp2_with fail
                        clear o0 o1 o2 e3 e4 e5
                        refine (B4.out _).mono ?_
                        rintro e v4 ⟨rfl, hb⟩
                        have HB4 := Lib.hid (below_step HB3.out hb HB3.out.size)
                        have HX4 := Lib.hid (blk_kept hb HX3.out)
                        clear hb
                        cases p4
                        · have h5 : [x].filterMap (clip1 a b) = [(x.1, x.2)] := by simp [HCL.out]
                          have hsp := HSP.out
                          rw [h5] at hsp
                          have hlm : m < l5.length := by rw [hsp, HM.out]; simp <;> omega
                          have hgt : l5[m]? = some (x.1, x.2) := by rw [hsp, HM.out]; simp
                          have hge : l5[m]'hlm = (x.1, x.2) := by rw [List.getElem?_eq_getElem hlm] at hgt; exact Option.some.inj hgt
                          obtain ⟨kb, koff, kcap, hve, hcs⟩ := sps_cells (K_25.out.kept HB4.out) (by omega)
                          injection hve with hx1 hx2 hx3
                          subst hx1
                          clear hx2 hx3
                          have hcx := hcs m hlm
                          rw [hge] at hcx
                          have HTL := Lib.hid (show (j.take (i + 1)).filterMap (clip1 a b) = (j.take i).filterMap (clip1 a b) ++ [(x.1, x.2)] from by rw [HTK.out, h5])
                          have c0 : ∀ zz : Later v4.heap.size v4, zz.val.cell? ⟨kb, koff + m * 6, none⟩ = some (.int .u8 ((x.1, x.2).1.1.toNat : Int)) := fun zz => Later.cell hcx.c0 (World.block_lt_of_cell? _ _ hcx.c0) zz
                          have c1 : ∀ zz : Later v4.heap.size v4, zz.val.cell? ⟨kb, koff + m * 6 + 1, none⟩ = some (.int .u64 ((x.1, x.2).1.2.1.toNat : Int)) := fun zz => Later.cell hcx.c1 (World.block_lt_of_cell? _ _ hcx.c1) zz
                          have c2 : ∀ zz : Later v4.heap.size v4, zz.val.cell? ⟨kb, koff + m * 6 + 2, none⟩ = some (.int .u64 ((x.1, x.2).1.2.2.toNat : Int)) := fun zz => Later.cell hcx.c2 (World.block_lt_of_cell? _ _ hcx.c2) zz
                          have c3 : ∀ zz : Later v4.heap.size v4, zz.val.cell? ⟨kb, koff + m * 6 + 3, none⟩ = some (.int .u8 ((x.1, x.2).2.1.toNat : Int)) := fun zz => Later.cell hcx.c3 (World.block_lt_of_cell? _ _ hcx.c3) zz
                          have c4 : ∀ zz : Later v4.heap.size v4, zz.val.cell? ⟨kb, koff + m * 6 + 4, none⟩ = some (.int .u64 ((x.1, x.2).2.2.1.toNat : Int)) := fun zz => Later.cell hcx.c4 (World.block_lt_of_cell? _ _ hcx.c4) zz
                          have c5 : ∀ zz : Later v4.heap.size v4, zz.val.cell? ⟨kb, koff + m * 6 + 5, none⟩ = some (.int .u64 ((x.1, x.2).2.2.2.toNat : Int)) := fun zz => Later.cell hcx.c5 (World.block_lt_of_cell? _ _ hcx.c5) zz
                          have e0 : ∀ zz : Later v4.heap.size v4, zz.val.cell? ⟨wr.heap.size, 0, none⟩ = some (.int .u8 ((x.1, x.2).1.1.toNat : Int)) := fun zz => Later.cell (box_s0 HX4.out) (blk_lt HX4.out) zz
                          have e1 : ∀ zz : Later v4.heap.size v4, zz.val.cell? ⟨wr.heap.size, 1, none⟩ = some (.int .u64 ((x.1, x.2).1.2.1.toNat : Int)) := fun zz => Later.cell (box_s1 HX4.out) (blk_lt HX4.out) zz
                          have e2 : ∀ zz : Later v4.heap.size v4, zz.val.cell? ⟨wr.heap.size, 2, none⟩ = some (.int .u64 ((x.1, x.2).1.2.2.toNat : Int)) := fun zz => Later.cell (box_s2 HX4.out) (blk_lt HX4.out) zz
                          have e3 : ∀ zz : Later v4.heap.size v4, zz.val.cell? ⟨wr.heap.size, 3, none⟩ = some (.int .u8 ((x.1, x.2).2.1.toNat : Int)) := fun zz => Later.cell (box_s3 HX4.out) (blk_lt HX4.out) zz
                          have e4 : ∀ zz : Later v4.heap.size v4, zz.val.cell? ⟨wr.heap.size, 4, none⟩ = some (.int .u64 ((x.1, x.2).2.2.1.toNat : Int)) := fun zz => Later.cell (box_s4 HX4.out) (blk_lt HX4.out) zz
                          have e5 : ∀ zz : Later v4.heap.size v4, zz.val.cell? ⟨wr.heap.size, 5, none⟩ = some (.int .u64 ((x.1, x.2).2.2.2.toNat : Int)) := fun zz => Later.cell (box_s5 HX4.out) (blk_lt HX4.out) zz
                          have n1 : ¬ (l5.length : Int) ≤ (m : Int) := by omega
                          have n2 : decide (l5.length ≤ m) = false := by simp <;> omega
                          have n3 : (m : Int) < (l5.length : Int) := by omega
                          have n4 : (0 : Int) ≤ (m : Int) := by omega
                          have n5 : IntKind.i64.wrap ((m : Int) + 1) = (m : Int) + 1 := by rw [IntKind.wrap_i64]; have := HKB.out; omega
                          have n6 : decide ((l5.length : Int) ≤ (m : Int)) = false := by simp <;> omega
                          have qn : ∀ W, (binOp .neq 38 (encP (x.1, x.2)) (encP (x.1, x.2))).run Try.prog W = .ok (.bool false) W := fun W => by
                            have := run_neqS (x.1, x.2) (x.1, x.2) W
                            rwa [beq_self_eq_true] at this
                          clear hcs hcx hge hgt hsp h5 hlm
                          go_wp2_with fail
                          refine wp_region_later v4.heap.size (by kernel_rfl) (by kernel_rfl) ?_
                          repeat (go_big_quiet_step (fail))
                          refine wpQuiet_nil ?_
                          rintro wq ⟨zz, rfl⟩
                          have HBQ := Lib.hid (below_step HB4.out zz.prop HB4.out.size)
                          clear c0 c1 c2 c3 c4 c5 e0 e1 e2 e3 e4 e5 qn n1 n2 n3 n6
                          generalize zz.val = wq at *
                          go_wp2_with fail
                          go_roundw
                          case rel => exact ⟨i + 1, m + 1, HLT.out, by go_num, by go_num, by rw [HTL.out, List.length_append, ← HM.out]; rfl, HBQ.out⟩
                          case measure => have := HLT.out; simp [intOf]; omega
                        · have o0 := box_n0 (blk_kept HB4.out GB_25.out)
                          have o1 := box_n1 (blk_kept HB4.out GB_25.out)
                          have o2 := box_n2 (blk_kept HB4.out GB_25.out)
                          have e3 := box_s3 HX4.out
                          have e4 := box_s4 HX4.out
                          have e5 := box_s5 HX4.out
                          have fz : ∀ j, v4.frozen? ⟨wr.heap.size, j, none⟩ = false := fun j => by rw [blk_frozen HX4.out]; simp
                          have HB5 := Lib.hid (show Below x25.heap.size x25 (((v4.setCell ⟨wr.heap.size, 3, none⟩ (.int .u8 (b.1.toNat : Int))).setCell ⟨wr.heap.size, 4, none⟩ (.int .u64 (b.2.1.toNat : Int))).setCell ⟨wr.heap.size, 5, none⟩ (.int .u64 (b.2.2.toNat : Int))) from put_below (o := 3) HB4.out HKX.out b)
                          have HX5 := Lib.hid (show (((v4.setCell ⟨wr.heap.size, 3, none⟩ (.int .u8 (b.1.toNat : Int))).setCell ⟨wr.heap.size, 4, none⟩ (.int .u64 (b.2.1.toNat : Int))).setCell ⟨wr.heap.size, 5, none⟩ (.int .u64 (b.2.2.toNat : Int))).heap[wr.heap.size]? = some (boxS (x.1, b)) from blk_set (blk_set (blk_set HX4.out 3 _) 4 _) 5 _)
                          go_upto_region 31 with (fail)
                          clear o0 o1 o2 e3 e4 e5 fz
                          generalize ((v4.setCell ⟨wr.heap.size, 3, none⟩ (.int .u8 (b.1.toNat : Int))).setCell ⟨wr.heap.size, 4, none⟩ (.int .u64 (b.2.1.toNat : Int))).setCell ⟨wr.heap.size, 5, none⟩ (.int .u64 (b.2.2.toNat : Int)) = v5 at *
                          have h5 : [x].filterMap (clip1 a b) = [(x.1, b)] := by simp [HCL.out]
                          have hsp := HSP.out
                          rw [h5] at hsp
                          have hlm : m < l5.length := by rw [hsp, HM.out]; simp <;> omega
                          have hgt : l5[m]? = some (x.1, b) := by rw [hsp, HM.out]; simp
                          have hge : l5[m]'hlm = (x.1, b) := by rw [List.getElem?_eq_getElem hlm] at hgt; exact Option.some.inj hgt
                          obtain ⟨kb, koff, kcap, hve, hcs⟩ := sps_cells (K_25.out.kept HB5.out) (by omega)
                          injection hve with hx1 hx2 hx3
                          subst hx1
                          clear hx2 hx3
                          have hcx := hcs m hlm
                          rw [hge] at hcx
                          have HTL := Lib.hid (show (j.take (i + 1)).filterMap (clip1 a b) = (j.take i).filterMap (clip1 a b) ++ [(x.1, b)] from by rw [HTK.out, h5])
                          have c0 : ∀ zz : Later v5.heap.size v5, zz.val.cell? ⟨kb, koff + m * 6, none⟩ = some (.int .u8 ((x.1, b).1.1.toNat : Int)) := fun zz => Later.cell hcx.c0 (World.block_lt_of_cell? _ _ hcx.c0) zz
                          have c1 : ∀ zz : Later v5.heap.size v5, zz.val.cell? ⟨kb, koff + m * 6 + 1, none⟩ = some (.int .u64 ((x.1, b).1.2.1.toNat : Int)) := fun zz => Later.cell hcx.c1 (World.block_lt_of_cell? _ _ hcx.c1) zz
                          have c2 : ∀ zz : Later v5.heap.size v5, zz.val.cell? ⟨kb, koff + m * 6 + 2, none⟩ = some (.int .u64 ((x.1, b).1.2.2.toNat : Int)) := fun zz => Later.cell hcx.c2 (World.block_lt_of_cell? _ _ hcx.c2) zz
                          have c3 : ∀ zz : Later v5.heap.size v5, zz.val.cell? ⟨kb, koff + m * 6 + 3, none⟩ = some (.int .u8 ((x.1, b).2.1.toNat : Int)) := fun zz => Later.cell hcx.c3 (World.block_lt_of_cell? _ _ hcx.c3) zz
                          have c4 : ∀ zz : Later v5.heap.size v5, zz.val.cell? ⟨kb, koff + m * 6 + 4, none⟩ = some (.int .u64 ((x.1, b).2.2.1.toNat : Int)) := fun zz => Later.cell hcx.c4 (World.block_lt_of_cell? _ _ hcx.c4) zz
                          have c5 : ∀ zz : Later v5.heap.size v5, zz.val.cell? ⟨kb, koff + m * 6 + 5, none⟩ = some (.int .u64 ((x.1, b).2.2.2.toNat : Int)) := fun zz => Later.cell hcx.c5 (World.block_lt_of_cell? _ _ hcx.c5) zz
                          have e0 : ∀ zz : Later v5.heap.size v5, zz.val.cell? ⟨wr.heap.size, 0, none⟩ = some (.int .u8 ((x.1, b).1.1.toNat : Int)) := fun zz => Later.cell (box_s0 HX5.out) (blk_lt HX5.out) zz
                          have e1 : ∀ zz : Later v5.heap.size v5, zz.val.cell? ⟨wr.heap.size, 1, none⟩ = some (.int .u64 ((x.1, b).1.2.1.toNat : Int)) := fun zz => Later.cell (box_s1 HX5.out) (blk_lt HX5.out) zz
                          have e2 : ∀ zz : Later v5.heap.size v5, zz.val.cell? ⟨wr.heap.size, 2, none⟩ = some (.int .u64 ((x.1, b).1.2.2.toNat : Int)) := fun zz => Later.cell (box_s2 HX5.out) (blk_lt HX5.out) zz
                          have e3 : ∀ zz : Later v5.heap.size v5, zz.val.cell? ⟨wr.heap.size, 3, none⟩ = some (.int .u8 ((x.1, b).2.1.toNat : Int)) := fun zz => Later.cell (box_s3 HX5.out) (blk_lt HX5.out) zz
                          have e4 : ∀ zz : Later v5.heap.size v5, zz.val.cell? ⟨wr.heap.size, 4, none⟩ = some (.int .u64 ((x.1, b).2.2.1.toNat : Int)) := fun zz => Later.cell (box_s4 HX5.out) (blk_lt HX5.out) zz
                          have e5 : ∀ zz : Later v5.heap.size v5, zz.val.cell? ⟨wr.heap.size, 5, none⟩ = some (.int .u64 ((x.1, b).2.2.2.toNat : Int)) := fun zz => Later.cell (box_s5 HX5.out) (blk_lt HX5.out) zz
                          have n1 : ¬ (l5.length : Int) ≤ (m : Int) := by omega
                          have n2 : decide (l5.length ≤ m) = false := by simp <;> omega
                          have n3 : (m : Int) < (l5.length : Int) := by omega
                          have n4 : (0 : Int) ≤ (m : Int) := by omega
                          have n5 : IntKind.i64.wrap ((m : Int) + 1) = (m : Int) + 1 := by rw [IntKind.wrap_i64]; have := HKB.out; omega
                          have n6 : decide ((l5.length : Int) ≤ (m : Int)) = false := by simp <;> omega
                          have qn : ∀ W, (binOp .neq 38 (encP (x.1, b)) (encP (x.1, b))).run Try.prog W = .ok (.bool false) W := fun W => by
                            have := run_neqS (x.1, b) (x.1, b) W
                            rwa [beq_self_eq_true] at this
                          clear hcs hcx hge hgt hsp h5 hlm
                          refine wp_region_later v5.heap.size (by kernel_rfl) (by kernel_rfl) ?_
                          repeat (go_big_quiet_step (fail))
                          refine wpQuiet_nil ?_
                          rintro wq ⟨zz, rfl⟩
                          have HBQ := Lib.hid (below_step HB5.out zz.prop HB5.out.size)
                          clear c0 c1 c2 c3 c4 c5 e0 e1 e2 e3 e4 e5 qn n1 n2 n3 n6
                          generalize zz.val = wq at *
                          go_wp2_with fail
                          go_roundw
                          case rel => exact ⟨i + 1, m + 1, HLT.out, by go_num, by go_num, by rw [HTL.out, List.length_append, ← HM.out]; rfl, HBQ.out⟩
                          case measure => have := HLT.out; simp [intOf]; omega
                      · have m0 := box_n0 (blk_kept HB3.out GA_25.out)
                        have m1 := box_n1 (blk_kept HB3.out GA_25.out)
                        have m2 := box_n2 (blk_kept HB3.out GA_25.out)
                        have e0 := box_s0 HX3.out
                        have e1 := box_s1 HX3.out
                        have e2 := box_s2 HX3.out
                        have fz : ∀ j, v3.frozen? ⟨wr.heap.size, j, none⟩ = false := fun j => by rw [blk_frozen HX3.out]; simp
                        have HB6 := Lib.hid (show Below x25.heap.size x25 (((v3.setCell ⟨wr.heap.size, 0, none⟩ (.int .u8 (a.1.toNat : Int))).setCell ⟨wr.heap.size, 1, none⟩ (.int .u64 (a.2.1.toNat : Int))).setCell ⟨wr.heap.size, 2, none⟩ (.int .u64 (a.2.2.toNat : Int))) from put_below (o := 0) HB3.out HKX.out a)
                        have HX6 := Lib.hid (show (((v3.setCell ⟨wr.heap.size, 0, none⟩ (.int .u8 (a.1.toNat : Int))).setCell ⟨wr.heap.size, 1, none⟩ (.int .u64 (a.2.1.toNat : Int))).setCell ⟨wr.heap.size, 2, none⟩ (.int .u64 (a.2.2.toNat : Int))).heap[wr.heap.size]? = some (boxS (a, x.2)) from blk_set (blk_set (blk_set HX3.out 0 _) 1 _) 2 _)
                        go_upto_region 29 with (fail)
                        clear m0 m1 m2 e0 e1 e2 fz
                        generalize ((v3.setCell ⟨wr.heap.size, 0, none⟩ (.int .u8 (a.1.toNat : Int))).setCell ⟨wr.heap.size, 1, none⟩ (.int .u64 (a.2.1.toNat : Int))).setCell ⟨wr.heap.size, 2, none⟩ (.int .u64 (a.2.2.toNat : Int)) = v6 at *
                        have o0 := box_n0 (blk_kept HB6.out GB_25.out)
                        have o1 := box_n1 (blk_kept HB6.out GB_25.out)
                        have o2 := box_n2 (blk_kept HB6.out GB_25.out)
                        have e3 := box_s3 HX6.out
                        have e4 := box_s4 HX6.out
                        have e5 := box_s5 HX6.out
                        go_wp2_with fail
                        clear o0 o1 o2 e3 e4 e5
                        refine (B4.out _).mono ?_
                        rintro e v4 ⟨rfl, hb⟩
                        have HB4 := Lib.hid (below_step HB6.out hb HB6.out.size)
                        have HX4 := Lib.hid (blk_kept hb HX6.out)
                        clear hb
                        cases p4
                        · have h5 : [x].filterMap (clip1 a b) = [(a, x.2)] := by simp [HCL.out]
                          have hsp := HSP.out
                          rw [h5] at hsp
                          have hlm : m < l5.length := by rw [hsp, HM.out]; simp <;> omega
                          have hgt : l5[m]? = some (a, x.2) := by rw [hsp, HM.out]; simp
                          have hge : l5[m]'hlm = (a, x.2) := by rw [List.getElem?_eq_getElem hlm] at hgt; exact Option.some.inj hgt
                          obtain ⟨kb, koff, kcap, hve, hcs⟩ := sps_cells (K_25.out.kept HB4.out) (by omega)
                          injection hve with hx1 hx2 hx3
                          subst hx1
                          clear hx2 hx3
                          have hcx := hcs m hlm
                          rw [hge] at hcx
                          have HTL := Lib.hid (show (j.take (i + 1)).filterMap (clip1 a b) = (j.take i).filterMap (clip1 a b) ++ [(a, x.2)] from by rw [HTK.out, h5])
                          have c0 : ∀ zz : Later v4.heap.size v4, zz.val.cell? ⟨kb, koff + m * 6, none⟩ = some (.int .u8 ((a, x.2).1.1.toNat : Int)) := fun zz => Later.cell hcx.c0 (World.block_lt_of_cell? _ _ hcx.c0) zz
                          have c1 : ∀ zz : Later v4.heap.size v4, zz.val.cell? ⟨kb, koff + m * 6 + 1, none⟩ = some (.int .u64 ((a, x.2).1.2.1.toNat : Int)) := fun zz => Later.cell hcx.c1 (World.block_lt_of_cell? _ _ hcx.c1) zz
                          have c2 : ∀ zz : Later v4.heap.size v4, zz.val.cell? ⟨kb, koff + m * 6 + 2, none⟩ = some (.int .u64 ((a, x.2).1.2.2.toNat : Int)) := fun zz => Later.cell hcx.c2 (World.block_lt_of_cell? _ _ hcx.c2) zz
                          have c3 : ∀ zz : Later v4.heap.size v4, zz.val.cell? ⟨kb, koff + m * 6 + 3, none⟩ = some (.int .u8 ((a, x.2).2.1.toNat : Int)) := fun zz => Later.cell hcx.c3 (World.block_lt_of_cell? _ _ hcx.c3) zz
                          have c4 : ∀ zz : Later v4.heap.size v4, zz.val.cell? ⟨kb, koff + m * 6 + 4, none⟩ = some (.int .u64 ((a, x.2).2.2.1.toNat : Int)) := fun zz => Later.cell hcx.c4 (World.block_lt_of_cell? _ _ hcx.c4) zz
                          have c5 : ∀ zz : Later v4.heap.size v4, zz.val.cell? ⟨kb, koff + m * 6 + 5, none⟩ = some (.int .u64 ((a, x.2).2.2.2.toNat : Int)) := fun zz => Later.cell hcx.c5 (World.block_lt_of_cell? _ _ hcx.c5) zz
                          have e0 : ∀ zz : Later v4.heap.size v4, zz.val.cell? ⟨wr.heap.size, 0, none⟩ = some (.int .u8 ((a, x.2).1.1.toNat : Int)) := fun zz => Later.cell (box_s0 HX4.out) (blk_lt HX4.out) zz
                          have e1 : ∀ zz : Later v4.heap.size v4, zz.val.cell? ⟨wr.heap.size, 1, none⟩ = some (.int .u64 ((a, x.2).1.2.1.toNat : Int)) := fun zz => Later.cell (box_s1 HX4.out) (blk_lt HX4.out) zz
                          have e2 : ∀ zz : Later v4.heap.size v4, zz.val.cell? ⟨wr.heap.size, 2, none⟩ = some (.int .u64 ((a, x.2).1.2.2.toNat : Int)) := fun zz => Later.cell (box_s2 HX4.out) (blk_lt HX4.out) zz
                          have e3 : ∀ zz : Later v4.heap.size v4, zz.val.cell? ⟨wr.heap.size, 3, none⟩ = some (.int .u8 ((a, x.2).2.1.toNat : Int)) := fun zz => Later.cell (box_s3 HX4.out) (blk_lt HX4.out) zz
                          have e4 : ∀ zz : Later v4.heap.size v4, zz.val.cell? ⟨wr.heap.size, 4, none⟩ = some (.int .u64 ((a, x.2).2.2.1.toNat : Int)) := fun zz => Later.cell (box_s4 HX4.out) (blk_lt HX4.out) zz
                          have e5 : ∀ zz : Later v4.heap.size v4, zz.val.cell? ⟨wr.heap.size, 5, none⟩ = some (.int .u64 ((a, x.2).2.2.2.toNat : Int)) := fun zz => Later.cell (box_s5 HX4.out) (blk_lt HX4.out) zz
                          have n1 : ¬ (l5.length : Int) ≤ (m : Int) := by omega
                          have n2 : decide (l5.length ≤ m) = false := by simp <;> omega
                          have n3 : (m : Int) < (l5.length : Int) := by omega
                          have n4 : (0 : Int) ≤ (m : Int) := by omega
                          have n5 : IntKind.i64.wrap ((m : Int) + 1) = (m : Int) + 1 := by rw [IntKind.wrap_i64]; have := HKB.out; omega
                          have n6 : decide ((l5.length : Int) ≤ (m : Int)) = false := by simp <;> omega
                          have qn : ∀ W, (binOp .neq 38 (encP (a, x.2)) (encP (a, x.2))).run Try.prog W = .ok (.bool false) W := fun W => by
                            have := run_neqS (a, x.2) (a, x.2) W
                            rwa [beq_self_eq_true] at this
                          clear hcs hcx hge hgt hsp h5 hlm
                          go_wp2_with fail
                          refine wp_region_later v4.heap.size (by kernel_rfl) (by kernel_rfl) ?_
                          repeat (go_big_quiet_step (fail))
                          refine wpQuiet_nil ?_
                          rintro wq ⟨zz, rfl⟩
                          have HBQ := Lib.hid (below_step HB4.out zz.prop HB4.out.size)
                          clear c0 c1 c2 c3 c4 c5 e0 e1 e2 e3 e4 e5 qn n1 n2 n3 n6
                          generalize zz.val = wq at *
                          go_wp2_with fail
                          go_roundw
                          case rel => exact ⟨i + 1, m + 1, HLT.out, by go_num, by go_num, by rw [HTL.out, List.length_append, ← HM.out]; rfl, HBQ.out⟩
                          case measure => have := HLT.out; simp [intOf]; omega
                        · have o0 := box_n0 (blk_kept HB4.out GB_25.out)
                          have o1 := box_n1 (blk_kept HB4.out GB_25.out)
                          have o2 := box_n2 (blk_kept HB4.out GB_25.out)
                          have e3 := box_s3 HX4.out
                          have e4 := box_s4 HX4.out
                          have e5 := box_s5 HX4.out
                          have fz : ∀ j, v4.frozen? ⟨wr.heap.size, j, none⟩ = false := fun j => by rw [blk_frozen HX4.out]; simp
                          have HB5 := Lib.hid (show Below x25.heap.size x25 (((v4.setCell ⟨wr.heap.size, 3, none⟩ (.int .u8 (b.1.toNat : Int))).setCell ⟨wr.heap.size, 4, none⟩ (.int .u64 (b.2.1.toNat : Int))).setCell ⟨wr.heap.size, 5, none⟩ (.int .u64 (b.2.2.toNat : Int))) from put_below (o := 3) HB4.out HKX.out b)
                          have HX5 := Lib.hid (show (((v4.setCell ⟨wr.heap.size, 3, none⟩ (.int .u8 (b.1.toNat : Int))).setCell ⟨wr.heap.size, 4, none⟩ (.int .u64 (b.2.1.toNat : Int))).setCell ⟨wr.heap.size, 5, none⟩ (.int .u64 (b.2.2.toNat : Int))).heap[wr.heap.size]? = some (boxS (a, b)) from blk_set (blk_set (blk_set HX4.out 3 _) 4 _) 5 _)
                          go_upto_region 31 with (fail)
                          clear o0 o1 o2 e3 e4 e5 fz
                          generalize ((v4.setCell ⟨wr.heap.size, 3, none⟩ (.int .u8 (b.1.toNat : Int))).setCell ⟨wr.heap.size, 4, none⟩ (.int .u64 (b.2.1.toNat : Int))).setCell ⟨wr.heap.size, 5, none⟩ (.int .u64 (b.2.2.toNat : Int)) = v5 at *
                          have h5 : [x].filterMap (clip1 a b) = [(a, b)] := by simp [HCL.out]
                          have hsp := HSP.out
                          rw [h5] at hsp
                          have hlm : m < l5.length := by rw [hsp, HM.out]; simp <;> omega
                          have hgt : l5[m]? = some (a, b) := by rw [hsp, HM.out]; simp
                          have hge : l5[m]'hlm = (a, b) := by rw [List.getElem?_eq_getElem hlm] at hgt; exact Option.some.inj hgt
                          obtain ⟨kb, koff, kcap, hve, hcs⟩ := sps_cells (K_25.out.kept HB5.out) (by omega)
                          injection hve with hx1 hx2 hx3
                          subst hx1
                          clear hx2 hx3
                          have hcx := hcs m hlm
                          rw [hge] at hcx
                          have HTL := Lib.hid (show (j.take (i + 1)).filterMap (clip1 a b) = (j.take i).filterMap (clip1 a b) ++ [(a, b)] from by rw [HTK.out, h5])
                          have c0 : ∀ zz : Later v5.heap.size v5, zz.val.cell? ⟨kb, koff + m * 6, none⟩ = some (.int .u8 ((a, b).1.1.toNat : Int)) := fun zz => Later.cell hcx.c0 (World.block_lt_of_cell? _ _ hcx.c0) zz
                          have c1 : ∀ zz : Later v5.heap.size v5, zz.val.cell? ⟨kb, koff + m * 6 + 1, none⟩ = some (.int .u64 ((a, b).1.2.1.toNat : Int)) := fun zz => Later.cell hcx.c1 (World.block_lt_of_cell? _ _ hcx.c1) zz
                          have c2 : ∀ zz : Later v5.heap.size v5, zz.val.cell? ⟨kb, koff + m * 6 + 2, none⟩ = some (.int .u64 ((a, b).1.2.2.toNat : Int)) := fun zz => Later.cell hcx.c2 (World.block_lt_of_cell? _ _ hcx.c2) zz
                          have c3 : ∀ zz : Later v5.heap.size v5, zz.val.cell? ⟨kb, koff + m * 6 + 3, none⟩ = some (.int .u8 ((a, b).2.1.toNat : Int)) := fun zz => Later.cell hcx.c3 (World.block_lt_of_cell? _ _ hcx.c3) zz
                          have c4 : ∀ zz : Later v5.heap.size v5, zz.val.cell? ⟨kb, koff + m * 6 + 4, none⟩ = some (.int .u64 ((a, b).2.2.1.toNat : Int)) := fun zz => Later.cell hcx.c4 (World.block_lt_of_cell? _ _ hcx.c4) zz
                          have c5 : ∀ zz : Later v5.heap.size v5, zz.val.cell? ⟨kb, koff + m * 6 + 5, none⟩ = some (.int .u64 ((a, b).2.2.2.toNat : Int)) := fun zz => Later.cell hcx.c5 (World.block_lt_of_cell? _ _ hcx.c5) zz
                          have e0 : ∀ zz : Later v5.heap.size v5, zz.val.cell? ⟨wr.heap.size, 0, none⟩ = some (.int .u8 ((a, b).1.1.toNat : Int)) := fun zz => Later.cell (box_s0 HX5.out) (blk_lt HX5.out) zz
                          have e1 : ∀ zz : Later v5.heap.size v5, zz.val.cell? ⟨wr.heap.size, 1, none⟩ = some (.int .u64 ((a, b).1.2.1.toNat : Int)) := fun zz => Later.cell (box_s1 HX5.out) (blk_lt HX5.out) zz
                          have e2 : ∀ zz : Later v5.heap.size v5, zz.val.cell? ⟨wr.heap.size, 2, none⟩ = some (.int .u64 ((a, b).1.2.2.toNat : Int)) := fun zz => Later.cell (box_s2 HX5.out) (blk_lt HX5.out) zz
                          have e3 : ∀ zz : Later v5.heap.size v5, zz.val.cell? ⟨wr.heap.size, 3, none⟩ = some (.int .u8 ((a, b).2.1.toNat : Int)) := fun zz => Later.cell (box_s3 HX5.out) (blk_lt HX5.out) zz
                          have e4 : ∀ zz : Later v5.heap.size v5, zz.val.cell? ⟨wr.heap.size, 4, none⟩ = some (.int .u64 ((a, b).2.2.1.toNat : Int)) := fun zz => Later.cell (box_s4 HX5.out) (blk_lt HX5.out) zz
                          have e5 : ∀ zz : Later v5.heap.size v5, zz.val.cell? ⟨wr.heap.size, 5, none⟩ = some (.int .u64 ((a, b).2.2.2.toNat : Int)) := fun zz => Later.cell (box_s5 HX5.out) (blk_lt HX5.out) zz
                          have n1 : ¬ (l5.length : Int) ≤ (m : Int) := by omega
                          have n2 : decide (l5.length ≤ m) = false := by simp <;> omega
                          have n3 : (m : Int) < (l5.length : Int) := by omega
                          have n4 : (0 : Int) ≤ (m : Int) := by omega
                          have n5 : IntKind.i64.wrap ((m : Int) + 1) = (m : Int) + 1 := by rw [IntKind.wrap_i64]; have := HKB.out; omega
                          have n6 : decide ((l5.length : Int) ≤ (m : Int)) = false := by simp <;> omega
                          have qn : ∀ W, (binOp .neq 38 (encP (a, b)) (encP (a, b))).run Try.prog W = .ok (.bool false) W := fun W => by
                            have := run_neqS (a, b) (a, b) W
                            rwa [beq_self_eq_true] at this
                          clear hcs hcx hge hgt hsp h5 hlm
                          refine wp_region_later v5.heap.size (by kernel_rfl) (by kernel_rfl) ?_
                          repeat (go_big_quiet_step (fail))
                          refine wpQuiet_nil ?_
                          rintro wq ⟨zz, rfl⟩
                          have HBQ := Lib.hid (below_step HB5.out zz.prop HB5.out.size)
                          clear c0 c1 c2 c3 c4 c5 e0 e1 e2 e3 e4 e5 qn n1 n2 n3 n6
                          generalize zz.val = wq at *
                          go_wp2_with fail
                          go_roundw
                          case rel => exact ⟨i + 1, m + 1, HLT.out, by go_num, by go_num, by rw [HTL.out, List.length_append, ← HM.out]; rfl, HBQ.out⟩
                          case measure => have := HLT.out; simp [intOf]; omega
                    · go_wp2_with fail
                      go_roundw
                      case rel => exact ⟨i + 1, m, HLT.out, by go_num, rfl, by rw [HTK.out, show [x].filterMap (clip1 a b) = [] from by simp [HCL.out], List.append_nil]; exact HM.out, HB2.out⟩
                      case measure => have := HLT.out; simp [intOf]; omega
                  · go_wp2_with fail
                    go_roundw
                    case rel => exact ⟨i + 1, m, HLT.out, by go_num, rfl, by rw [HTK.out, show [x].filterMap (clip1 a b) = [] from by simp [HCL.out], List.append_nil]; exact HM.out, HB1.out⟩
                    case measure => have := HLT.out; simp [intOf]; omega
              · obtain rfl : j.length = i := by omega
                rw [List.take_length, ← HBC.out] at hm
                subst hm
                have k2 : ¬ (j.length : Int) < (j.length : Int) := by omega
                have HBZ := Lib.hid (below_step BE_25.out hbel BE_25.out.size)
                clear hbel hi hlt
                go_wp2_with fail
                refine (awake_any _).mono ?_
                rintro e wz ⟨rfl, hb⟩
                have HBY := Lib.hid (below_step HBZ.out hb HBZ.out.size)
                clear hb
                go_wp2_with fail
                go_ret
                exact ⟨rfl, HBY.out⟩
        · go_wp2_with fail
          clear f0 f1 f2 g0 g1 g2
          clear d0 d1 d2 e0 e1 e2 q
          have hbx : Below x21.heap.size x21 (x21.alloc (.cells #[.slice fo f.length fc] TS)) := (Below.refl _ _).alloc (Nat.le_refl _) _
          have GA_22 := Lib.hid (blk_kept hbx GA_21.out)
          have GB_22 := Lib.hid (blk_kept hbx GB_21.out)
          have BE_22 := Lib.hid (below_step BE_21.out hbx BE_21.out.size)
          have R_22 := Lib.hid (R_21.out.kept hbx)
          have F_22 := Lib.hid (F_21.out.kept hbx)
          have J_22 := Lib.hid (J_21.out.kept hbx)
          have Q7 := Lib.hid (heap_alloc_new x21 (.cells #[.slice fo f.length fc] TS))
          clear hbx
          have HLO := Lib.hid (show SpsOf (x21.alloc (.cells #[.slice fo f.length fc] TS)) (.slice (some ⟨x21.heap.size, 0, none⟩) 1 1) [f] from Lists.one Q7.out F_22.out)
          refine (HF1.out f _ _ HLO.out (by have := HFLN.out; have := HFL.out; omega)).mono ?_
          rintro e x23 ⟨l5, hset, hln, v5, rfl, ho, hb⟩
          have GA_23 := Lib.hid (blk_kept hb GA_22.out)
          have GB_23 := Lib.hid (blk_kept hb GB_22.out)
          have BE_23 := Lib.hid (below_step BE_22.out hb BE_22.out.size)
          have R_23 := Lib.hid (R_22.out.kept hb)
          have F_23 := Lib.hid (F_22.out.kept hb)
          have J_23 := Lib.hid (J_22.out.kept hb)
          have HK := Lib.hid hset
          have K := Lib.hid (show SpsAt x23 v5 l5 from Seg.of_owns ho)
          obtain ⟨ko, kc, hv⟩ := elems_slice K.out
          subst hv
          have HKL := Lib.hid hln
          clear hset hln ho HLO
          clear hb
          have f0 := box_n0 GA_23.out
          have f1 := box_n1 GA_23.out
          have f2 := box_n2 GA_23.out
          have g0 := box_n0 GB_23.out
          have g1 := box_n1 GB_23.out
          have g2 := box_n2 GB_23.out
          have hbx : Below x23.heap.size x23 (x23.alloc (boxS (a, b))) := (Below.refl _ _).alloc (Nat.le_refl _) _
          have GA_24 := Lib.hid (blk_kept hbx GA_23.out)
          have GB_24 := Lib.hid (blk_kept hbx GB_23.out)
          have BE_24 := Lib.hid (below_step BE_23.out hbx BE_23.out.size)
          have R_24 := Lib.hid (R_23.out.kept hbx)
          have F_24 := Lib.hid (F_23.out.kept hbx)
          have J_24 := Lib.hid (J_23.out.kept hbx)
          have K_24 := Lib.hid (K.out.kept hbx)
          have AL := Lib.hid (heap_alloc_new x23 (boxS (a, b)))
          clear hbx
          go_wp2_with fail
          clear f0 f1 f2 g0 g1 g2
          have HRT := Lib.hid (fun W => right_sp (a, b) W)
          obtain ⟨p, hp⟩ : ∃ p, p = rightS (a, b) := ⟨_, rfl⟩
          rw [← hp] at HRT
          have HP := Lib.hid hp
          clear hp
          refine (HRT.out _).mono ?_
          rintro e x25 ⟨rfl, hb⟩
          have GA_25 := Lib.hid (blk_kept hb GA_24.out)
          have GB_25 := Lib.hid (blk_kept hb GB_24.out)
          have BE_25 := Lib.hid (below_step BE_24.out hb BE_24.out.size)
          have R_25 := Lib.hid (R_24.out.kept hb)
          have F_25 := Lib.hid (F_24.out.kept hb)
          have J_25 := Lib.hid (J_24.out.kept hb)
          have K_25 := Lib.hid (K_24.out.kept hb)
          have AL_25 := Lib.hid (blk_kept hb AL.out)
          clear hb
          cases p
          · obtain rfl : f = [] := none_of_not_right HF.out HP.out.symm
            obtain rfl : l5 = [] := none_of_not_right HK.out HP.out.symm
            go_wp2_with fail
            refine (awake_any _).mono ?_
            rintro e x26 ⟨rfl, hb⟩
            have GA_26 := Lib.hid (blk_kept hb GA_25.out)
            have GB_26 := Lib.hid (blk_kept hb GB_25.out)
            have BE_26 := Lib.hid (below_step BE_25.out hb BE_25.out.size)
            have R_26 := Lib.hid (R_25.out.kept hb)
            have F_26 := Lib.hid (F_25.out.kept hb)
            have J_26 := Lib.hid (J_25.out.kept hb)
            have K_26 := Lib.hid (K_25.out.kept hb)
            have AL_26 := Lib.hid (blk_kept hb AL_25.out)
            clear hb
            go_wp2_with fail
            go_ret
            exact ⟨rfl, BE_26.out⟩
          · have HBC := Lib.hid (back_clip HP.out.symm HF.out HJ.out HK.out)
            have HJB := Lib.hid (show j.length ≤ 80 from by have := HJLN.out; have := HFL.out; omega)
            have HKB := Lib.hid (show l5.length ≤ 200 from by have := HKL.out; have := HFLN.out; have := HFL.out; omega)
            go_wp2_with fail
            go_loopw [18, 19] (fun vn vi W => ∃ (i m : Nat), i ≤ j.length ∧ vi = .int .i64 i ∧ vn = .int .i64 m ∧ m = ((j.take i).filterMap (clip1 a b)).length ∧ Below x25.heap.size x25 W) (fun _ vi _ => j.length - (intOf vi).toNat)
            case atStart => exact ⟨0, 0, Nat.zero_le _, rfl, rfl, rfl, Below.refl _ _⟩
            case round =>
              obtain ⟨i, m, hi, rfl, rfl, hm, hbel⟩ := hrel
              by_cases hlt : i < j.length
              · have HLT := Lib.hid hlt
                obtain ⟨b', off, cap', hve, hcs⟩ := sps_cells (J_25.out.kept hbel) (by omega)
                injection hve with hx1 hx2 hx3
                subst hx1
                clear hx2 hx3
                have hcx := hcs i hlt
                obtain ⟨x, hx⟩ : ∃ x, x = j[i]'hlt := ⟨_, rfl⟩
                rw [← hx] at hcx
                have HTK := Lib.hid (show (j.take (i + 1)).filterMap (clip1 a b) = (j.take i).filterMap (clip1 a b) ++ [x].filterMap (clip1 a b) from by rw [List.take_succ_eq_append_getElem hlt, List.filterMap_append, hx])
                have HSP := Lib.hid (show l5 = (j.take i).filterMap (clip1 a b) ++ ([x].filterMap (clip1 a b) ++ (j.drop (i + 1)).filterMap (clip1 a b)) from by
                  rw [HBC.out, ← List.filterMap_append, ← List.filterMap_append, hx]
                  congr 1
                  rw [List.singleton_append, ← List.drop_eq_getElem_cons hlt, List.take_append_drop])
                have HM := Lib.hid hm
                have B1 := Lib.hid (fun W => below_any x.2 a W)
                have B2 := Lib.hid (fun W => below_any b x.1 W)
                have B3 := Lib.hid (fun W => below_any x.1 a W)
                have B4 := Lib.hid (fun W => below_any b x.2 W)
                have HCL := Lib.hid (show clip1 a b x = if x.1.1 != a.1 || (belowA x.2 a || belowA b x.1) then none else some (if belowA x.1 a then a else x.1, if belowA b x.2 then b else x.2) from rfl)
                obtain ⟨p1, hp1⟩ : ∃ p, p = belowA x.2 a := ⟨_, rfl⟩
                obtain ⟨p2, hp2⟩ : ∃ p, p = belowA b x.1 := ⟨_, rfl⟩
                obtain ⟨p3, hp3⟩ : ∃ p, p = belowA x.1 a := ⟨_, rfl⟩
                obtain ⟨p4, hp4⟩ : ∃ p, p = belowA b x.2 := ⟨_, rfl⟩
                rw [← hp1] at B1 HCL
                rw [← hp2] at B2 HCL
                rw [← hp3] at B3 HCL
                rw [← hp4] at B4 HCL
                have heq := Pfx.u8_eq x.1.1 a.1
                have hbn : (x.1.1 != a.1) = !(x.1.1 == a.1) := rfl
                rw [hbn] at HCL
                obtain ⟨q, hq⟩ : ∃ q, q = (x.1.1 == a.1) := ⟨_, rfl⟩
                rw [← hq] at heq HCL
                have hne : ((x.1.1.toNat : Int) != (a.1.toNat : Int)) = !q := by rw [bne, heq]
                have k1 : (0 : Int) ≤ (i : Int) := by omega
                have k2 : (i : Int) < (j.length : Int) := by omega
                have k4 : IntKind.i64.wrap ((i : Int) + 1) = (i : Int) + 1 := by rw [IntKind.wrap_i64]; have := HJB.out; omega
                have d0 := hcx.c0
                have d1 := hcx.c1
                have d2 := hcx.c2
                have d3 := hcx.c3
                have d4 := hcx.c4
                have d5 := hcx.c5
                have hbx : Below wr.heap.size wr (wr.alloc (boxS x)) := (Below.refl _ _).alloc (Nat.le_refl _) _
                have HBL := Lib.hid (below_step hbel hbx hbel.size)
                have HX := Lib.hid (heap_alloc_new wr (boxS x))
                have HKX := Lib.hid (show x25.heap.size ≤ wr.heap.size from hbel.size)
                have HBR := Lib.hid hbel
                clear hbx hbn hp1 hp2 hp3 hp4 hq hx hcx hcs hm hbel hi hlt
                have m0 := box_n0 (blk_kept HBL.out GA_25.out)
                have m1 := box_n1 (blk_kept HBL.out GA_25.out)
                have m2 := box_n2 (blk_kept HBL.out GA_25.out)
                cases q
                · go_wp2_with fail
                  go_roundw
                  case rel => exact ⟨i + 1, m, HLT.out, by go_num, rfl, by rw [HTK.out, show [x].filterMap (clip1 a b) = [] from by simp [HCL.out], List.append_nil]; exact HM.out, HBL.out⟩
                  case measure => have := HLT.out; simp [intOf]; omega
                · go_wp2_with fail
                  clear m0 m1 m2 d0 d1 d2 d3 d4 d5 heq hne
                  refine (B1.out _).mono ?_
                  rintro e v1 ⟨rfl, hb⟩
                  have HB1 := Lib.hid (below_step HBL.out hb HBL.out.size)
                  have HX1 := Lib.hid (blk_kept hb HX.out)
                  clear hb
                  cases p1
                  · have o0 := box_n0 (blk_kept HB1.out GB_25.out)
                    have o1 := box_n1 (blk_kept HB1.out GB_25.out)
                    have o2 := box_n2 (blk_kept HB1.out GB_25.out)
                    have e0 := box_s0 HX1.out
                    have e1 := box_s1 HX1.out
                    have e2 := box_s2 HX1.out
                    go_wp2_with fail
                    clear o0 o1 o2 e0 e1 e2
                    refine (B2.out _).mono ?_
                    rintro e v2 ⟨rfl, hb⟩
                    have HB2 := Lib.hid (below_step HB1.out hb HB1.out.size)
                    have HX2 := Lib.hid (blk_kept hb HX1.out)
                    clear hb
                    cases p2
                    · have m0 := box_n0 (blk_kept HB2.out GA_25.out)
                      have m1 := box_n1 (blk_kept HB2.out GA_25.out)
                      have m2 := box_n2 (blk_kept HB2.out GA_25.out)
                      have e0 := box_s0 HX2.out
                      have e1 := box_s1 HX2.out
                      have e2 := box_s2 HX2.out
                      go_wp2_with fail
                      clear m0 m1 m2 e0 e1 e2
                      refine (B3.out _).mono ?_
                      rintro e v3 ⟨rfl, hb⟩
                      have HB3 := Lib.hid (below_step HB2.out hb HB2.out.size)
                      have HX3 := Lib.hid (blk_kept hb HX2.out)
                      clear hb
                      cases p3
                      · have o0 := box_n0 (blk_kept HB3.out GB_25.out)
                        have o1 := box_n1 (blk_kept HB3.out GB_25.out)
                        have o2 := box_n2 (blk_kept HB3.out GB_25.out)
                        have e3 := box_s3 HX3.out
                        have e4 := box_s4 HX3.out
                        have e5 := box_s5 HX3.out
                        go_wp2_with fail
                        clear o0 o1 o2 e3 e4 e5
                        refine (B4.out _).mono ?_
                        rintro e v4 ⟨rfl, hb⟩
                        have HB4 := Lib.hid (below_step HB3.out hb HB3.out.size)
                        have HX4 := Lib.hid (blk_kept hb HX3.out)
                        clear hb
                        cases p4
                        · have h5 : [x].filterMap (clip1 a b) = [(x.1, x.2)] := by simp [HCL.out]
                          have hsp := HSP.out
                          rw [h5] at hsp
                          have hlm : m < l5.length := by rw [hsp, HM.out]; simp <;> omega
                          have hgt : l5[m]? = some (x.1, x.2) := by rw [hsp, HM.out]; simp
                          have hge : l5[m]'hlm = (x.1, x.2) := by rw [List.getElem?_eq_getElem hlm] at hgt; exact Option.some.inj hgt
                          obtain ⟨kb, koff, kcap, hve, hcs⟩ := sps_cells (K_25.out.kept HB4.out) (by omega)
                          injection hve with hx1 hx2 hx3
                          subst hx1
                          clear hx2 hx3
                          have hcx := hcs m hlm
                          rw [hge] at hcx
                          have HTL := Lib.hid (show (j.take (i + 1)).filterMap (clip1 a b) = (j.take i).filterMap (clip1 a b) ++ [(x.1, x.2)] from by rw [HTK.out, h5])
                          have c0 : ∀ zz : Later v4.heap.size v4, zz.val.cell? ⟨kb, koff + m * 6, none⟩ = some (.int .u8 ((x.1, x.2).1.1.toNat : Int)) := fun zz => Later.cell hcx.c0 (World.block_lt_of_cell? _ _ hcx.c0) zz
                          have c1 : ∀ zz : Later v4.heap.size v4, zz.val.cell? ⟨kb, koff + m * 6 + 1, none⟩ = some (.int .u64 ((x.1, x.2).1.2.1.toNat : Int)) := fun zz => Later.cell hcx.c1 (World.block_lt_of_cell? _ _ hcx.c1) zz
                          have c2 : ∀ zz : Later v4.heap.size v4, zz.val.cell? ⟨kb, koff + m * 6 + 2, none⟩ = some (.int .u64 ((x.1, x.2).1.2.2.toNat : Int)) := fun zz => Later.cell hcx.c2 (World.block_lt_of_cell? _ _ hcx.c2) zz
                          have c3 : ∀ zz : Later v4.heap.size v4, zz.val.cell? ⟨kb, koff + m * 6 + 3, none⟩ = some (.int .u8 ((x.1, x.2).2.1.toNat : Int)) := fun zz => Later.cell hcx.c3 (World.block_lt_of_cell? _ _ hcx.c3) zz
                          have c4 : ∀ zz : Later v4.heap.size v4, zz.val.cell? ⟨kb, koff + m * 6 + 4, none⟩ = some (.int .u64 ((x.1, x.2).2.2.1.toNat : Int)) := fun zz => Later.cell hcx.c4 (World.block_lt_of_cell? _ _ hcx.c4) zz
                          have c5 : ∀ zz : Later v4.heap.size v4, zz.val.cell? ⟨kb, koff + m * 6 + 5, none⟩ = some (.int .u64 ((x.1, x.2).2.2.2.toNat : Int)) := fun zz => Later.cell hcx.c5 (World.block_lt_of_cell? _ _ hcx.c5) zz
                          have e0 : ∀ zz : Later v4.heap.size v4, zz.val.cell? ⟨wr.heap.size, 0, none⟩ = some (.int .u8 ((x.1, x.2).1.1.toNat : Int)) := fun zz => Later.cell (box_s0 HX4.out) (blk_lt HX4.out) zz
                          have e1 : ∀ zz : Later v4.heap.size v4, zz.val.cell? ⟨wr.heap.size, 1, none⟩ = some (.int .u64 ((x.1, x.2).1.2.1.toNat : Int)) := fun zz => Later.cell (box_s1 HX4.out) (blk_lt HX4.out) zz
                          have e2 : ∀ zz : Later v4.heap.size v4, zz.val.cell? ⟨wr.heap.size, 2, none⟩ = some (.int .u64 ((x.1, x.2).1.2.2.toNat : Int)) := fun zz => Later.cell (box_s2 HX4.out) (blk_lt HX4.out) zz
                          have e3 : ∀ zz : Later v4.heap.size v4, zz.val.cell? ⟨wr.heap.size, 3, none⟩ = some (.int .u8 ((x.1, x.2).2.1.toNat : Int)) := fun zz => Later.cell (box_s3 HX4.out) (blk_lt HX4.out) zz
                          have e4 : ∀ zz : Later v4.heap.size v4, zz.val.cell? ⟨wr.heap.size, 4, none⟩ = some (.int .u64 ((x.1, x.2).2.2.1.toNat : Int)) := fun zz => Later.cell (box_s4 HX4.out) (blk_lt HX4.out) zz
                          have e5 : ∀ zz : Later v4.heap.size v4, zz.val.cell? ⟨wr.heap.size, 5, none⟩ = some (.int .u64 ((x.1, x.2).2.2.2.toNat : Int)) := fun zz => Later.cell (box_s5 HX4.out) (blk_lt HX4.out) zz
                          have n1 : ¬ (l5.length : Int) ≤ (m : Int) := by omega
                          have n2 : decide (l5.length ≤ m) = false := by simp <;> omega
                          have n3 : (m : Int) < (l5.length : Int) := by omega
                          have n4 : (0 : Int) ≤ (m : Int) := by omega
                          have n5 : IntKind.i64.wrap ((m : Int) + 1) = (m : Int) + 1 := by rw [IntKind.wrap_i64]; have := HKB.out; omega
                          have n6 : decide ((l5.length : Int) ≤ (m : Int)) = false := by simp <;> omega
                          have qn : ∀ W, (binOp .neq 38 (encP (x.1, x.2)) (encP (x.1, x.2))).run Try.prog W = .ok (.bool false) W := fun W => by
                            have := run_neqS (x.1, x.2) (x.1, x.2) W
                            rwa [beq_self_eq_true] at this
                          clear hcs hcx hge hgt hsp h5 hlm
                          go_wp2_with fail
                          refine wp_region_later v4.heap.size (by kernel_rfl) (by kernel_rfl) ?_
                          repeat (go_big_quiet_step (fail))
                          refine wpQuiet_nil ?_
                          rintro wq ⟨zz, rfl⟩
                          have HBQ := Lib.hid (below_step HB4.out zz.prop HB4.out.size)
                          clear c0 c1 c2 c3 c4 c5 e0 e1 e2 e3 e4 e5 qn n1 n2 n3 n6
                          generalize zz.val = wq at *
                          go_wp2_with fail
                          go_roundw
                          case rel => exact ⟨i + 1, m + 1, HLT.out, by go_num, by go_num, by rw [HTL.out, List.length_append, ← HM.out]; rfl, HBQ.out⟩
                          case measure => have := HLT.out; simp [intOf]; omega
                        · have o0 := box_n0 (blk_kept HB4.out GB_25.out)
                          have o1 := box_n1 (blk_kept HB4.out GB_25.out)
                          have o2 := box_n2 (blk_kept HB4.out GB_25.out)
                          have e3 := box_s3 HX4.out
                          have e4 := box_s4 HX4.out
                          have e5 := box_s5 HX4.out
                          have fz : ∀ j, v4.frozen? ⟨wr.heap.size, j, none⟩ = false := fun j => by rw [blk_frozen HX4.out]; simp
                          have HB5 := Lib.hid (show Below x25.heap.size x25 (((v4.setCell ⟨wr.heap.size, 3, none⟩ (.int .u8 (b.1.toNat : Int))).setCell ⟨wr.heap.size, 4, none⟩ (.int .u64 (b.2.1.toNat : Int))).setCell ⟨wr.heap.size, 5, none⟩ (.int .u64 (b.2.2.toNat : Int))) from put_below (o := 3) HB4.out HKX.out b)
                          have HX5 := Lib.hid (show (((v4.setCell ⟨wr.heap.size, 3, none⟩ (.int .u8 (b.1.toNat : Int))).setCell ⟨wr.heap.size, 4, none⟩ (.int .u64 (b.2.1.toNat : Int))).setCell ⟨wr.heap.size, 5, none⟩ (.int .u64 (b.2.2.toNat : Int))).heap[wr.heap.size]? = some (boxS (x.1, b)) from blk_set (blk_set (blk_set HX4.out 3 _) 4 _) 5 _)
                          go_upto_region 31 with (fail)
                          clear o0 o1 o2 e3 e4 e5 fz
                          generalize ((v4.setCell ⟨wr.heap.size, 3, none⟩ (.int .u8 (b.1.toNat : Int))).setCell ⟨wr.heap.size, 4, none⟩ (.int .u64 (b.2.1.toNat : Int))).setCell ⟨wr.heap.size, 5, none⟩ (.int .u64 (b.2.2.toNat : Int)) = v5 at *
                          have h5 : [x].filterMap (clip1 a b) = [(x.1, b)] := by simp [HCL.out]
                          have hsp := HSP.out
                          rw [h5] at hsp
                          have hlm : m < l5.length := by rw [hsp, HM.out]; simp <;> omega
                          have hgt : l5[m]? = some (x.1, b) := by rw [hsp, HM.out]; simp
                          have hge : l5[m]'hlm = (x.1, b) := by rw [List.getElem?_eq_getElem hlm] at hgt; exact Option.some.inj hgt
                          obtain ⟨kb, koff, kcap, hve, hcs⟩ := sps_cells (K_25.out.kept HB5.out) (by omega)
                          injection hve with hx1 hx2 hx3
                          subst hx1
                          clear hx2 hx3
                          have hcx := hcs m hlm
                          rw [hge] at hcx
                          have HTL := Lib.hid (show (j.take (i + 1)).filterMap (clip1 a b) = (j.take i).filterMap (clip1 a b) ++ [(x.1, b)] from by rw [HTK.out, h5])
                          have c0 : ∀ zz : Later v5.heap.size v5, zz.val.cell? ⟨kb, koff + m * 6, none⟩ = some (.int .u8 ((x.1, b).1.1.toNat : Int)) := fun zz => Later.cell hcx.c0 (World.block_lt_of_cell? _ _ hcx.c0) zz
                          have c1 : ∀ zz : Later v5.heap.size v5, zz.val.cell? ⟨kb, koff + m * 6 + 1, none⟩ = some (.int .u64 ((x.1, b).1.2.1.toNat : Int)) := fun zz => Later.cell hcx.c1 (World.block_lt_of_cell? _ _ hcx.c1) zz
                          have c2 : ∀ zz : Later v5.heap.size v5, zz.val.cell? ⟨kb, koff + m * 6 + 2, none⟩ = some (.int .u64 ((x.1, b).1.2.2.toNat : Int)) := fun zz => Later.cell hcx.c2 (World.block_lt_of_cell? _ _ hcx.c2) zz
                          have c3 : ∀ zz : Later v5.heap.size v5, zz.val.cell? ⟨kb, koff + m * 6 + 3, none⟩ = some (.int .u8 ((x.1, b).2.1.toNat : Int)) := fun zz => Later.cell hcx.c3 (World.block_lt_of_cell? _ _ hcx.c3) zz
                          have c4 : ∀ zz : Later v5.heap.size v5, zz.val.cell? ⟨kb, koff + m * 6 + 4, none⟩ = some (.int .u64 ((x.1, b).2.2.1.toNat : Int)) := fun zz => Later.cell hcx.c4 (World.block_lt_of_cell? _ _ hcx.c4) zz
                          have c5 : ∀ zz : Later v5.heap.size v5, zz.val.cell? ⟨kb, koff + m * 6 + 5, none⟩ = some (.int .u64 ((x.1, b).2.2.2.toNat : Int)) := fun zz => Later.cell hcx.c5 (World.block_lt_of_cell? _ _ hcx.c5) zz
                          have e0 : ∀ zz : Later v5.heap.size v5, zz.val.cell? ⟨wr.heap.size, 0, none⟩ = some (.int .u8 ((x.1, b).1.1.toNat : Int)) := fun zz => Later.cell (box_s0 HX5.out) (blk_lt HX5.out) zz
                          have e1 : ∀ zz : Later v5.heap.size v5, zz.val.cell? ⟨wr.heap.size, 1, none⟩ = some (.int .u64 ((x.1, b).1.2.1.toNat : Int)) := fun zz => Later.cell (box_s1 HX5.out) (blk_lt HX5.out) zz
                          have e2 : ∀ zz : Later v5.heap.size v5, zz.val.cell? ⟨wr.heap.size, 2, none⟩ = some (.int .u64 ((x.1, b).1.2.2.toNat : Int)) := fun zz => Later.cell (box_s2 HX5.out) (blk_lt HX5.out) zz
                          have e3 : ∀ zz : Later v5.heap.size v5, zz.val.cell? ⟨wr.heap.size, 3, none⟩ = some (.int .u8 ((x.1, b).2.1.toNat : Int)) := fun zz => Later.cell (box_s3 HX5.out) (blk_lt HX5.out) zz
                          have e4 : ∀ zz : Later v5.heap.size v5, zz.val.cell? ⟨wr.heap.size, 4, none⟩ = some (.int .u64 ((x.1, b).2.2.1.toNat : Int)) := fun zz => Later.cell (box_s4 HX5.out) (blk_lt HX5.out) zz
                          have e5 : ∀ zz : Later v5.heap.size v5, zz.val.cell? ⟨wr.heap.size, 5, none⟩ = some (.int .u64 ((x.1, b).2.2.2.toNat : Int)) := fun zz => Later.cell (box_s5 HX5.out) (blk_lt HX5.out) zz
                          have n1 : ¬ (l5.length : Int) ≤ (m : Int) := by omega
                          have n2 : decide (l5.length ≤ m) = false := by simp <;> omega
                          have n3 : (m : Int) < (l5.length : Int) := by omega
                          have n4 : (0 : Int) ≤ (m : Int) := by omega
                          have n5 : IntKind.i64.wrap ((m : Int) + 1) = (m : Int) + 1 := by rw [IntKind.wrap_i64]; have := HKB.out; omega
                          have n6 : decide ((l5.length : Int) ≤ (m : Int)) = false := by simp <;> omega
                          have qn : ∀ W, (binOp .neq 38 (encP (x.1, b)) (encP (x.1, b))).run Try.prog W = .ok (.bool false) W := fun W => by
                            have := run_neqS (x.1, b) (x.1, b) W
                            rwa [beq_self_eq_true] at this
                          clear hcs hcx hge hgt hsp h5 hlm
                          refine wp_region_later v5.heap.size (by kernel_rfl) (by kernel_rfl) ?_
                          repeat (go_big_quiet_step (fail))
                          refine wpQuiet_nil ?_
                          rintro wq ⟨zz, rfl⟩
                          have HBQ := Lib.hid (below_step HB5.out zz.prop HB5.out.size)
                          clear c0 c1 c2 c3 c4 c5 e0 e1 e2 e3 e4 e5 qn n1 n2 n3 n6
                          generalize zz.val = wq at *
                          go_wp2_with fail
                          go_roundw
                          case rel => exact ⟨i + 1, m + 1, HLT.out, by go_num, by go_num, by rw [HTL.out, List.length_append, ← HM.out]; rfl, HBQ.out⟩
                          case measure => have := HLT.out; simp [intOf]; omega
                      · have m0 := box_n0 (blk_kept HB3.out GA_25.out)
                        have m1 := box_n1 (blk_kept HB3.out GA_25.out)
                        have m2 := box_n2 (blk_kept HB3.out GA_25.out)
                        have e0 := box_s0 HX3.out
                        have e1 := box_s1 HX3.out
                        have e2 := box_s2 HX3.out
                        have fz : ∀ j, v3.frozen? ⟨wr.heap.size, j, none⟩ = false := fun j => by rw [blk_frozen HX3.out]; simp
                        have HB6 := Lib.hid (show Below x25.heap.size x25 (((v3.setCell ⟨wr.heap.size, 0, none⟩ (.int .u8 (a.1.toNat : Int))).setCell ⟨wr.heap.size, 1, none⟩ (.int .u64 (a.2.1.toNat : Int))).setCell ⟨wr.heap.size, 2, none⟩ (.int .u64 (a.2.2.toNat : Int))) from put_below (o := 0) HB3.out HKX.out a)
                        have HX6 := Lib.hid (show (((v3.setCell ⟨wr.heap.size, 0, none⟩ (.int .u8 (a.1.toNat : Int))).setCell ⟨wr.heap.size, 1, none⟩ (.int .u64 (a.2.1.toNat : Int))).setCell ⟨wr.heap.size, 2, none⟩ (.int .u64 (a.2.2.toNat : Int))).heap[wr.heap.size]? = some (boxS (a, x.2)) from blk_set (blk_set (blk_set HX3.out 0 _) 1 _) 2 _)
                        go_upto_region 29 with (fail)
                        clear m0 m1 m2 e0 e1 e2 fz
                        generalize ((v3.setCell ⟨wr.heap.size, 0, none⟩ (.int .u8 (a.1.toNat : Int))).setCell ⟨wr.heap.size, 1, none⟩ (.int .u64 (a.2.1.toNat : Int))).setCell ⟨wr.heap.size, 2, none⟩ (.int .u64 (a.2.2.toNat : Int)) = v6 at *
                        have o0 := box_n0 (blk_kept HB6.out GB_25.out)
                        have o1 := box_n1 (blk_kept HB6.out GB_25.out)
                        have o2 := box_n2 (blk_kept HB6.out GB_25.out)
                        have e3 := box_s3 HX6.out
                        have e4 := box_s4 HX6.out
                        have e5 := box_s5 HX6.out
                        go_wp2_with fail
                        clear o0 o1 o2 e3 e4 e5
                        refine (B4.out _).mono ?_
                        rintro e v4 ⟨rfl, hb⟩
                        have HB4 := Lib.hid (below_step HB6.out hb HB6.out.size)
                        have HX4 := Lib.hid (blk_kept hb HX6.out)
                        clear hb
                        cases p4
                        · have h5 : [x].filterMap (clip1 a b) = [(a, x.2)] := by simp [HCL.out]
                          have hsp := HSP.out
                          rw [h5] at hsp
                          have hlm : m < l5.length := by rw [hsp, HM.out]; simp <;> omega
                          have hgt : l5[m]? = some (a, x.2) := by rw [hsp, HM.out]; simp
                          have hge : l5[m]'hlm = (a, x.2) := by rw [List.getElem?_eq_getElem hlm] at hgt; exact Option.some.inj hgt
                          obtain ⟨kb, koff, kcap, hve, hcs⟩ := sps_cells (K_25.out.kept HB4.out) (by omega)
                          injection hve with hx1 hx2 hx3
                          subst hx1
                          clear hx2 hx3
                          have hcx := hcs m hlm
                          rw [hge] at hcx
                          have HTL := Lib.hid (show (j.take (i + 1)).filterMap (clip1 a b) = (j.take i).filterMap (clip1 a b) ++ [(a, x.2)] from by rw [HTK.out, h5])
                          have c0 : ∀ zz : Later v4.heap.size v4, zz.val.cell? ⟨kb, koff + m * 6, none⟩ = some (.int .u8 ((a, x.2).1.1.toNat : Int)) := fun zz => Later.cell hcx.c0 (World.block_lt_of_cell? _ _ hcx.c0) zz
                          have c1 : ∀ zz : Later v4.heap.size v4, zz.val.cell? ⟨kb, koff + m * 6 + 1, none⟩ = some (.int .u64 ((a, x.2).1.2.1.toNat : Int)) := fun zz => Later.cell hcx.c1 (World.block_lt_of_cell? _ _ hcx.c1) zz
                          have c2 : ∀ zz : Later v4.heap.size v4, zz.val.cell? ⟨kb, koff + m * 6 + 2, none⟩ = some (.int .u64 ((a, x.2).1.2.2.toNat : Int)) := fun zz => Later.cell hcx.c2 (World.block_lt_of_cell? _ _ hcx.c2) zz
                          have c3 : ∀ zz : Later v4.heap.size v4, zz.val.cell? ⟨kb, koff + m * 6 + 3, none⟩ = some (.int .u8 ((a, x.2).2.1.toNat : Int)) := fun zz => Later.cell hcx.c3 (World.block_lt_of_cell? _ _ hcx.c3) zz
                          have c4 : ∀ zz : Later v4.heap.size v4, zz.val.cell? ⟨kb, koff + m * 6 + 4, none⟩ = some (.int .u64 ((a, x.2).2.2.1.toNat : Int)) := fun zz => Later.cell hcx.c4 (World.block_lt_of_cell? _ _ hcx.c4) zz
                          have c5 : ∀ zz : Later v4.heap.size v4, zz.val.cell? ⟨kb, koff + m * 6 + 5, none⟩ = some (.int .u64 ((a, x.2).2.2.2.toNat : Int)) := fun zz => Later.cell hcx.c5 (World.block_lt_of_cell? _ _ hcx.c5) zz
                          have e0 : ∀ zz : Later v4.heap.size v4, zz.val.cell? ⟨wr.heap.size, 0, none⟩ = some (.int .u8 ((a, x.2).1.1.toNat : Int)) := fun zz => Later.cell (box_s0 HX4.out) (blk_lt HX4.out) zz
                          have e1 : ∀ zz : Later v4.heap.size v4, zz.val.cell? ⟨wr.heap.size, 1, none⟩ = some (.int .u64 ((a, x.2).1.2.1.toNat : Int)) := fun zz => Later.cell (box_s1 HX4.out) (blk_lt HX4.out) zz
                          have e2 : ∀ zz : Later v4.heap.size v4, zz.val.cell? ⟨wr.heap.size, 2, none⟩ = some (.int .u64 ((a, x.2).1.2.2.toNat : Int)) := fun zz => Later.cell (box_s2 HX4.out) (blk_lt HX4.out) zz
                          have e3 : ∀ zz : Later v4.heap.size v4, zz.val.cell? ⟨wr.heap.size, 3, none⟩ = some (.int .u8 ((a, x.2).2.1.toNat : Int)) := fun zz => Later.cell (box_s3 HX4.out) (blk_lt HX4.out) zz
                          have e4 : ∀ zz : Later v4.heap.size v4, zz.val.cell? ⟨wr.heap.size, 4, none⟩ = some (.int .u64 ((a, x.2).2.2.1.toNat : Int)) := fun zz => Later.cell (box_s4 HX4.out) (blk_lt HX4.out) zz
                          have e5 : ∀ zz : Later v4.heap.size v4, zz.val.cell? ⟨wr.heap.size, 5, none⟩ = some (.int .u64 ((a, x.2).2.2.2.toNat : Int)) := fun zz => Later.cell (box_s5 HX4.out) (blk_lt HX4.out) zz
                          have n1 : ¬ (l5.length : Int) ≤ (m : Int) := by omega
                          have n2 : decide (l5.length ≤ m) = false := by simp <;> omega
                          have n3 : (m : Int) < (l5.length : Int) := by omega
                          have n4 : (0 : Int) ≤ (m : Int) := by omega
                          have n5 : IntKind.i64.wrap ((m : Int) + 1) = (m : Int) + 1 := by rw [IntKind.wrap_i64]; have := HKB.out; omega
                          have n6 : decide ((l5.length : Int) ≤ (m : Int)) = false := by simp <;> omega
                          have qn : ∀ W, (binOp .neq 38 (encP (a, x.2)) (encP (a, x.2))).run Try.prog W = .ok (.bool false) W := fun W => by
                            have := run_neqS (a, x.2) (a, x.2) W
                            rwa [beq_self_eq_true] at this
                          clear hcs hcx hge hgt hsp h5 hlm
                          go_wp2_with fail
                          refine wp_region_later v4.heap.size (by kernel_rfl) (by kernel_rfl) ?_
                          repeat (go_big_quiet_step (fail))
                          refine wpQuiet_nil ?_
                          rintro wq ⟨zz, rfl⟩
                          have HBQ := Lib.hid (below_step HB4.out zz.prop HB4.out.size)
                          clear c0 c1 c2 c3 c4 c5 e0 e1 e2 e3 e4 e5 qn n1 n2 n3 n6
                          generalize zz.val = wq at *
                          go_wp2_with fail
                          go_roundw
                          case rel => exact ⟨i + 1, m + 1, HLT.out, by go_num, by go_num, by rw [HTL.out, List.length_append, ← HM.out]; rfl, HBQ.out⟩
                          case measure => have := HLT.out; simp [intOf]; omega
                        · have o0 := box_n0 (blk_kept HB4.out GB_25.out)
                          have o1 := box_n1 (blk_kept HB4.out GB_25.out)
                          have o2 := box_n2 (blk_kept HB4.out GB_25.out)
                          have e3 := box_s3 HX4.out
                          have e4 := box_s4 HX4.out
                          have e5 := box_s5 HX4.out
                          have fz : ∀ j, v4.frozen? ⟨wr.heap.size, j, none⟩ = false := fun j => by rw [blk_frozen HX4.out]; simp
                          have HB5 := Lib.hid (show Below x25.heap.size x25 (((v4.setCell ⟨wr.heap.size, 3, none⟩ (.int .u8 (b.1.toNat : Int))).setCell ⟨wr.heap.size, 4, none⟩ (.int .u64 (b.2.1.toNat : Int))).setCell ⟨wr.heap.size, 5, none⟩ (.int .u64 (b.2.2.toNat : Int))) from put_below (o := 3) HB4.out HKX.out b)
                          have HX5 := Lib.hid (show (((v4.setCell ⟨wr.heap.size, 3, none⟩ (.int .u8 (b.1.toNat : Int))).setCell ⟨wr.heap.size, 4, none⟩ (.int .u64 (b.2.1.toNat : Int))).setCell ⟨wr.heap.size, 5, none⟩ (.int .u64 (b.2.2.toNat : Int))).heap[wr.heap.size]? = some (boxS (a, b)) from blk_set (blk_set (blk_set HX4.out 3 _) 4 _) 5 _)
                          go_upto_region 31 with (fail)
                          clear o0 o1 o2 e3 e4 e5 fz
                          generalize ((v4.setCell ⟨wr.heap.size, 3, none⟩ (.int .u8 (b.1.toNat : Int))).setCell ⟨wr.heap.size, 4, none⟩ (.int .u64 (b.2.1.toNat : Int))).setCell ⟨wr.heap.size, 5, none⟩ (.int .u64 (b.2.2.toNat : Int)) = v5 at *
                          have h5 : [x].filterMap (clip1 a b) = [(a, b)] := by simp [HCL.out]
                          have hsp := HSP.out
                          rw [h5] at hsp
                          have hlm : m < l5.length := by rw [hsp, HM.out]; simp <;> omega
                          have hgt : l5[m]? = some (a, b) := by rw [hsp, HM.out]; simp
                          have hge : l5[m]'hlm = (a, b) := by rw [List.getElem?_eq_getElem hlm] at hgt; exact Option.some.inj hgt
                          obtain ⟨kb, koff, kcap, hve, hcs⟩ := sps_cells (K_25.out.kept HB5.out) (by omega)
                          injection hve with hx1 hx2 hx3
                          subst hx1
                          clear hx2 hx3
                          have hcx := hcs m hlm
                          rw [hge] at hcx
                          have HTL := Lib.hid (show (j.take (i + 1)).filterMap (clip1 a b) = (j.take i).filterMap (clip1 a b) ++ [(a, b)] from by rw [HTK.out, h5])
                          have c0 : ∀ zz : Later v5.heap.size v5, zz.val.cell? ⟨kb, koff + m * 6, none⟩ = some (.int .u8 ((a, b).1.1.toNat : Int)) := fun zz => Later.cell hcx.c0 (World.block_lt_of_cell? _ _ hcx.c0) zz
                          have c1 : ∀ zz : Later v5.heap.size v5, zz.val.cell? ⟨kb, koff + m * 6 + 1, none⟩ = some (.int .u64 ((a, b).1.2.1.toNat : Int)) := fun zz => Later.cell hcx.c1 (World.block_lt_of_cell? _ _ hcx.c1) zz
                          have c2 : ∀ zz : Later v5.heap.size v5, zz.val.cell? ⟨kb, koff + m * 6 + 2, none⟩ = some (.int .u64 ((a, b).1.2.2.toNat : Int)) := fun zz => Later.cell hcx.c2 (World.block_lt_of_cell? _ _ hcx.c2) zz
                          have c3 : ∀ zz : Later v5.heap.size v5, zz.val.cell? ⟨kb, koff + m * 6 + 3, none⟩ = some (.int .u8 ((a, b).2.1.toNat : Int)) := fun zz => Later.cell hcx.c3 (World.block_lt_of_cell? _ _ hcx.c3) zz
                          have c4 : ∀ zz : Later v5.heap.size v5, zz.val.cell? ⟨kb, koff + m * 6 + 4, none⟩ = some (.int .u64 ((a, b).2.2.1.toNat : Int)) := fun zz => Later.cell hcx.c4 (World.block_lt_of_cell? _ _ hcx.c4) zz
                          have c5 : ∀ zz : Later v5.heap.size v5, zz.val.cell? ⟨kb, koff + m * 6 + 5, none⟩ = some (.int .u64 ((a, b).2.2.2.toNat : Int)) := fun zz => Later.cell hcx.c5 (World.block_lt_of_cell? _ _ hcx.c5) zz
                          have e0 : ∀ zz : Later v5.heap.size v5, zz.val.cell? ⟨wr.heap.size, 0, none⟩ = some (.int .u8 ((a, b).1.1.toNat : Int)) := fun zz => Later.cell (box_s0 HX5.out) (blk_lt HX5.out) zz
                          have e1 : ∀ zz : Later v5.heap.size v5, zz.val.cell? ⟨wr.heap.size, 1, none⟩ = some (.int .u64 ((a, b).1.2.1.toNat : Int)) := fun zz => Later.cell (box_s1 HX5.out) (blk_lt HX5.out) zz
                          have e2 : ∀ zz : Later v5.heap.size v5, zz.val.cell? ⟨wr.heap.size, 2, none⟩ = some (.int .u64 ((a, b).1.2.2.toNat : Int)) := fun zz => Later.cell (box_s2 HX5.out) (blk_lt HX5.out) zz
                          have e3 : ∀ zz : Later v5.heap.size v5, zz.val.cell? ⟨wr.heap.size, 3, none⟩ = some (.int .u8 ((a, b).2.1.toNat : Int)) := fun zz => Later.cell (box_s3 HX5.out) (blk_lt HX5.out) zz
                          have e4 : ∀ zz : Later v5.heap.size v5, zz.val.cell? ⟨wr.heap.size, 4, none⟩ = some (.int .u64 ((a, b).2.2.1.toNat : Int)) := fun zz => Later.cell (box_s4 HX5.out) (blk_lt HX5.out) zz
                          have e5 : ∀ zz : Later v5.heap.size v5, zz.val.cell? ⟨wr.heap.size, 5, none⟩ = some (.int .u64 ((a, b).2.2.2.toNat : Int)) := fun zz => Later.cell (box_s5 HX5.out) (blk_lt HX5.out) zz
                          have n1 : ¬ (l5.length : Int) ≤ (m : Int) := by omega
                          have n2 : decide (l5.length ≤ m) = false := by simp <;> omega
                          have n3 : (m : Int) < (l5.length : Int) := by omega
                          have n4 : (0 : Int) ≤ (m : Int) := by omega
                          have n5 : IntKind.i64.wrap ((m : Int) + 1) = (m : Int) + 1 := by rw [IntKind.wrap_i64]; have := HKB.out; omega
                          have n6 : decide ((l5.length : Int) ≤ (m : Int)) = false := by simp <;> omega
                          have qn : ∀ W, (binOp .neq 38 (encP (a, b)) (encP (a, b))).run Try.prog W = .ok (.bool false) W := fun W => by
                            have := run_neqS (a, b) (a, b) W
                            rwa [beq_self_eq_true] at this
                          clear hcs hcx hge hgt hsp h5 hlm
                          refine wp_region_later v5.heap.size (by kernel_rfl) (by kernel_rfl) ?_
                          repeat (go_big_quiet_step (fail))
                          refine wpQuiet_nil ?_
                          rintro wq ⟨zz, rfl⟩
                          have HBQ := Lib.hid (below_step HB5.out zz.prop HB5.out.size)
                          clear c0 c1 c2 c3 c4 c5 e0 e1 e2 e3 e4 e5 qn n1 n2 n3 n6
                          generalize zz.val = wq at *
                          go_wp2_with fail
                          go_roundw
                          case rel => exact ⟨i + 1, m + 1, HLT.out, by go_num, by go_num, by rw [HTL.out, List.length_append, ← HM.out]; rfl, HBQ.out⟩
                          case measure => have := HLT.out; simp [intOf]; omega
                    · go_wp2_with fail
                      go_roundw
                      case rel => exact ⟨i + 1, m, HLT.out, by go_num, rfl, by rw [HTK.out, show [x].filterMap (clip1 a b) = [] from by simp [HCL.out], List.append_nil]; exact HM.out, HB2.out⟩
                      case measure => have := HLT.out; simp [intOf]; omega
                  · go_wp2_with fail
                    go_roundw
                    case rel => exact ⟨i + 1, m, HLT.out, by go_num, rfl, by rw [HTK.out, show [x].filterMap (clip1 a b) = [] from by simp [HCL.out], List.append_nil]; exact HM.out, HB1.out⟩
                    case measure => have := HLT.out; simp [intOf]; omega
              · obtain rfl : j.length = i := by omega
                rw [List.take_length, ← HBC.out] at hm
                subst hm
                have k2 : ¬ (j.length : Int) < (j.length : Int) := by omega
                have HBZ := Lib.hid (below_step BE_25.out hbel BE_25.out.size)
                clear hbel hi hlt
                go_wp2_with fail
                refine (awake_any _).mono ?_
                rintro e wz ⟨rfl, hb⟩
                have HBY := Lib.hid (below_step HBZ.out hb HBZ.out.size)
                clear hb
                go_wp2_with fail
                go_ret
                exact ⟨rfl, HBY.out⟩
      · have e1 : (((p + 1 : Nat) : Int) - 1) = (p : Int) := by omega
        rw [e1] at hvi
        subst hvi
        have hpl : p < ls.length := hk
        obtain ⟨b', off, cap', hve, hcs⟩ := LS1.out.cell (by omega)
        injection hve with hx1 hx2 hx3
        subst hx1
        clear hx2 hx3
        obtain ⟨u, hu2, hue⟩ := hcs p hpl
        obtain ⟨g, hg⟩ : ∃ g, g = ls[p]'hpl := ⟨_, rfl⟩
        have HG20 := Lib.hid (show g.length ≤ 20 from by rw [hg]; exact HSM.out.one hpl)
        have HDR := Lib.hid (show (ls.drop p).flatten.reverse = (ls.drop (p + 1)).flatten.reverse ++ g.reverse from by
          rw [List.drop_eq_getElem_cons hpl, List.flatten_cons, List.reverse_append, hg])
        have HDL := Lib.hid (show (ls.drop (p + 1)).flatten.reverse.length + g.length ≤ 80 from by
          have h1 : (ls.take p).flatten.length + (ls.drop p).flatten.reverse.length ≤ 80 := by rw [List.length_reverse, ← List.length_append, ← List.flatten_append, List.take_append_drop, ← HAE.out]; exact HFL.out
          rw [HDR.out, List.length_append] at h1
          simp only [List.length_reverse] at h1 ⊢
          omega)
        replace hue : SpsAt w2 u g := by rw [hg]; exact hue
        obtain ⟨uo, uc, hub⟩ := elems_slice hue
        subst hub
        have HUE := Lib.hid hue
        have HU2 := Lib.hid hu2
        obtain ⟨D, hD⟩ : ∃ D, D = (ls.drop (p + 1)).flatten.reverse := ⟨_, rfl⟩
        rw [← hD] at ho HDR HDL
        obtain ⟨oo, oc, hov⟩ := owns_slice1 ho
        subst hov
        have HO := Lib.hid ho
        have HPL := Lib.hid hpl
        have k1 : (0 : Int) ≤ (p : Int) := by omega
        have k2 : (p : Int) < (ls.length : Int) := by omega
        have k4 : IntKind.i64.wrap ((p : Int) - 1) = (p : Int) - 1 := by rw [IntKind.wrap_i64]; have := HL4.out; omega
        have k5 : IntKind.i64.wrap ((g.length : Int) - 1) = (g.length : Int) - 1 := by rw [IntKind.wrap_i64]; have := HG20.out; omega
        have hu := cell_kept hbel hu2
        clear hbel hcs hue hu2 hg hk hpl ho hD e1
        go_wp2_with fail
        clear hu k5
        go_loopw [7, 9] (fun vo vk W => ∃ q : Nat, q ≤ g.length ∧ vk = .int .i64 ((q : Int) - 1) ∧ W.ownsRow w2.heap.size TE 6 vo (D ++ (g.drop q).reverse).length ((D ++ (g.drop q).reverse).flatMap encC) ∧ Below w2.heap.size w2 W ) (fun _ vk _ => (intOf vk + 1).toNat)
        case atStart => exact ⟨g.length, Nat.le_refl _, rfl, by rw [List.drop_length]; simpa using HO.out, HB.out⟩
        case round =>
          obtain ⟨q, hq, hvk, ho, hbel⟩ := hrel
          have HB2 := Lib.hid hbel
          have hu := cell_kept hbel HU2.out
          rcases q with _ | q
          · have e0 : (((0 : Nat) : Int) - 1) = -1 := rfl
            rw [e0] at hvk
            subst hvk
            rw [List.drop_zero, ← HDR.out] at ho
            have HO2 := Lib.hid ho
            obtain ⟨o2, c2, hov⟩ := owns_slice1 ho
            subst hov
            clear ho hbel hq e0
            go_wp2_with fail
            go_roundw
            case rel => exact ⟨p, by have := HPL.out; omega, rfl, HO2.out, HB2.out⟩
            case measure => first | (simp [intOf]; done) | (simp [intOf]; omega)
          · have e1 : (((q + 1 : Nat) : Int) - 1) = (q : Int) := by omega
            rw [e1] at hvk
            subst hvk
            have hql : q < g.length := hq
            obtain ⟨gb, go_, gc, hub, hgc⟩ := sps_cells HUE.out (by omega)
            injection hub with hu1 _ hu3
            subst hu1
            obtain rfl : gc = uc := hu3.symm
            have hcx := (hgc q hql).kept hbel
            obtain ⟨x, hx⟩ : ∃ x, x = g[q]'hql := ⟨_, rfl⟩
            rw [← hx] at hcx
            have HTK := Lib.hid (show (D ++ (g.drop q).reverse) = (D ++ (g.drop (q + 1)).reverse) ++ [x] from by rw [List.drop_eq_getElem_cons hql, List.reverse_cons, ← hx, List.append_assoc])
            obtain ⟨E, hE⟩ : ∃ E, E = D ++ (g.drop (q + 1)).reverse := ⟨_, rfl⟩
            rw [← hE] at ho HTK
            have HEL := Lib.hid (show E.length ≤ 80 from by rw [hE, List.length_append, List.length_reverse, List.length_drop]; have := HDL.out; omega)
            obtain ⟨o2, c2, hov⟩ := owns_slice1 ho
            subst hov
            have HO2 := Lib.hid ho
            have HQL := Lib.hid hql
            have j1 : (0 : Int) ≤ (q : Int) := by omega
            have j2 : (q : Int) < (g.length : Int) := by omega
            have j4 : IntKind.i64.wrap ((q : Int) - 1) = (q : Int) - 1 := by rw [IntKind.wrap_i64]; have := HG20.out; omega
            have HL9 := Lib.hid (show E.length + 1 ≤ 1099511627776 by have := HEL.out; omega)
            have HZ9 := Lib.hid HB2.out.size
            have d0 := hcx.c0
            have d1 := hcx.c1
            have d2 := hcx.c2
            have d3 := hcx.c3
            have d4 := hcx.c4
            have d5 := hcx.c5
            clear ho hbel hgc hcx hx hq hql hE e1
            go_wp2_with (at_builtin; refine wpList_append1 rfl (.tmp 41) (.tmp 49) 28 rfl w2.heap.size TE _ 6 48 Try.underlying28 infoE rfl (by decide) _ E.length _ (encC x) rfl HO2.out _ 1 rfl rfl rfl (encC_one1 x) HL9.out (by decide) HZ9.out w2.heap.size w2 HB2.out (Nat.le_refl _) ?_; intro v5 w5 ho5 hgr5 hb5 hsz5; have HO5 := Lib.hid ho5; have HB5 := Lib.hid hb5; clear ho5 hgr5 hb5 hsz5 d0 d1 d2 d3 d4 d5 hu)
            go_roundw
            case rel => exact ⟨q, by have := HQL.out; omega, rfl, by rw [HTK.out, List.length_append, List.flatMap_append]; simpa using HO5.out, HB5.out⟩
            case measure => first | (simp [intOf]; done) | (simp [intOf]; omega)
  · go_wp2_with fail
    refine (awake_any _).mono ?_
    rintro e w3 ⟨rfl, hb⟩
    have HB3 := Lib.hid (below_step BE1.out hb BE1.out.size)
    clear hb
    go_wp2_with fail
    go_ret
    exact ⟨rfl, HB3.out⟩
end Go.Proofs.Try.Gp
