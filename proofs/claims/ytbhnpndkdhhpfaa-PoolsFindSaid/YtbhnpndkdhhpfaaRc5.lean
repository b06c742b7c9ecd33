/- The document's lists of prefixes: the innermost one. -/
import Derived.Test.YtbhnpndkdhhpfaaRc2
import Derived.Test.YtbhnpndkdhhpfaaPsN
set_option linter.unusedVariables false
set_option linter.unusedSimpArgs false
namespace Go.Proofs.Try.Pfx
open Go.RowKit Go.Cph Go.Cph.Px

theorem fold_keep {such : Pf → Bool} {x : Pf} : ∀ r : List Pf, (∀ y ∈ r, such y = true → y.2 ≤ x.2) → r.foldl (stepM such) (some x) = some x
  | [], _ => rfl
  | y :: r, h => by
    have e : stepM such (some x) y = some x := by
      unfold stepM
      cases hs : such y with
      | false => simp
      | true => have := h y (by simp) hs; simp [better]; omega
    rw [List.foldl_cons, e]
    exact fold_keep r fun z hz => h z (by simp [hz])
theorem most_first {such : Pf → Bool} {l : List Pf} {i : Nat} (hi : i < l.length) (hs : such l[i] = true) (hmax : ∀ x ∈ l, such x = true → x.2 ≤ l[i].2) (hfirst : ∀ j (h : j < i), such (l[j]'(by omega)) = true → (l[j]'(by omega)).2 ≠ l[i].2) : mostL such l = some l[i] := by
  have e : mostL such l = (l.drop (i + 1)).foldl (stepM such) (mostL such (l.take (i + 1))) := by
    unfold mostL
    rw [← List.foldl_append, List.take_append_drop]
  have e2 : mostL such (l.take (i + 1)) = some l[i] := by
    rw [List.take_succ_eq_append_getElem hi, mostL_snoc]
    unfold stepM
    have hb : better (mostL such (l.take i)) l[i] = true := by
      cases hm : mostL such (l.take i) with
      | none => rfl
      | some x =>
        obtain ⟨h1, h2⟩ := (mostL_is such (l.take i)).mem x hm
        obtain ⟨j, hj, rfl⟩ := List.getElem_of_mem h1
        rw [List.length_take] at hj
        rw [List.getElem_take] at h2 ⊢
        have h3 := hmax _ (List.getElem_mem (show j < l.length by omega)) h2
        have h4 := hfirst j (by omega) h2
        simp only [better, decide_eq_true_eq]
        omega
    rw [hs, hb]; rfl
  rw [e, e2]
  exact fold_keep _ fun y hy => hmax y (List.mem_of_mem_drop hy)
theorem most_none {such : Pf → Bool} {l : List Pf} (h : ∀ x ∈ l, such x = false) : mostL such l = none := by
  cases hm : mostL such l with
  | none => rfl
  | some x =>
    obtain ⟨h1, h2⟩ := (mostL_is such l).mem x hm
    rw [h x h1] at h2; cases h2

set_option maxRecDepth 100000 in
set_option maxHeartbeats 4000000 in
theorem innermost22 (v : Value) (l : List Pf) (a : Ad) (w : World) (h : PfsAt w v l) (hn : l.length ≤ 1000000) :
    Calls Try.prog 13 #[v, encA a] w (MostPost (fun q => hasP q a) l w) := by
  obtain ⟨ao, cap, hv⟩ := elems_slice h
  have HV := Lib.hid h
  subst hv
  have HCA := Lib.hid (fun q w => rhasP q a w)
  have HRNG := Lib.hid (show ∀ q, (fun q => hasP q a) q = true → 0 ≤ q.2 ∧ q.2 ≤ 128 from fun q h => by have h := has_iff.1 h; have := width_pos q.1.1; exact ⟨h.lo, by have := h.hi; omega⟩)
  obtain ⟨such, hsuch⟩ : ∃ s : Pf → Bool, s = (fun q => hasP q a) := ⟨_, rfl⟩
  have HSU := Lib.hid hsuch
  have HCB := Lib.hid (show ∀ q w, Calls Try.prog 38 #[encP q, encA a] w fun e w' => e = .returned (.bool (such q)) ∧ Below w.heap.size w w' from fun q w => by rw [HSU.out]; exact HCA.out q w)
  rw [← hsuch] at HRNG ⊢
  clear h hsuch
  have hb0 : Below w.heap.size w ((w.alloc (.cells #[.int .u8 (a.1.toNat : Int), .int .u64 (a.2.1.toNat : Int), .int .u64 (a.2.2.toNat : Int)] 34)).alloc (.cells #[.int .u8 0, .int .u64 0, .int .u64 0, .int .i64 0] 36)) := (((Below.refl _ _).alloc (Nat.le_refl _) _).alloc (by simp) _)
  have h1 : ((w.alloc (.cells #[.int .u8 (a.1.toNat : Int), .int .u64 (a.2.1.toNat : Int), .int .u64 (a.2.2.toNat : Int)] 34)).alloc (.cells #[.int .u8 0, .int .u64 0, .int .u64 0, .int .i64 0] 36)).heap[w.heap.size]? = some (.cells #[.int .u8 (a.1.toNat : Int), .int .u64 (a.2.1.toNat : Int), .int .u64 (a.2.2.toNat : Int)] 34 (0, 0)) := (blk_alloc (heap_alloc_new w (.cells #[.int .u8 (a.1.toNat : Int), .int .u64 (a.2.1.toNat : Int), .int .u64 (a.2.2.toNat : Int)] 34)) _)
  have h2 : ((w.alloc (.cells #[.int .u8 (a.1.toNat : Int), .int .u64 (a.2.1.toNat : Int), .int .u64 (a.2.2.toNat : Int)] 34)).alloc (.cells #[.int .u8 0, .int .u64 0, .int .u64 0, .int .i64 0] 36)).heap[w.heap.size + 1]? = some (.cells #[.int .u8 0, .int .u64 0, .int .u64 0, .int .i64 0] 36 (0, 0)) := by have h := (heap_alloc_new (w.alloc (.cells #[.int .u8 (a.1.toNat : Int), .int .u64 (a.2.1.toNat : Int), .int .u64 (a.2.2.toNat : Int)] 34)) (.cells #[.int .u8 0, .int .u64 0, .int .u64 0, .int .i64 0] 36)); simpa [World.size_alloc] using h
  have H1 := Lib.hid h1
  have H2 := Lib.hid h2
  have HB0 := Lib.hid hb0
  clear hb0 h1 h2
  go_enter Try.func13, Try.ntmps13
  go_wp2_with fail
  generalize ((w.alloc (.cells #[.int .u8 (a.1.toNat : Int), .int .u64 (a.2.1.toNat : Int), .int .u64 (a.2.2.toNat : Int)] 34)).alloc (.cells #[.int .u8 0, .int .u64 0, .int .u64 0, .int .i64 0] 36)) = w0 at *
  have hz2 : w.heap.size + 1 < w0.heap.size := blk_lt H2.out
  go_loopw [6, 7] (fun v6 v7 wr => ∃ b : Nat, b ≤ 129 ∧ v6 = .int .i64 ((b : Int) - 1) ∧ Hid (∀ x ∈ l, such x = true → x.2 < (b : Int)) ∧ Below w0.heap.size w0 wr) (fun v6 _ _ => (intOf v6 + 1).toNat)
  case atStart => exact ⟨129, by omega, by simp, Lib.hid (fun x _ hx => by have := (HRNG.out x hx).2; omega), Below.refl _ _⟩
  case round =>
    obtain ⟨wo, rfl⟩ : ∃ wo : World, wo = wr := ⟨_, rfl⟩
    obtain ⟨b, hb, rfl, HA, hbel⟩ := hrel
    have HBE := Lib.hid hbel
    clear hbel
    have HG1 := Lib.hid (blk_below HBE.out H1.out (by omega))
    have HG2 := Lib.hid (blk_below HBE.out H2.out (by omega))
    rcases Nat.eq_zero_or_pos b with hb0 | hb0
    · subst hb0
      have HX := Lib.hid (most_none (such := such) (l := l) fun x hx => by
        rw [Bool.eq_false_iff]; intro hs
        have h1 := HA.out x hx hs
        have h2 := (HRNG.out x hs).1
        omega)
      have s0 : wo.cell? ⟨w.heap.size + 1, 0, none⟩ = some (.int .u8 0) := (by rw [blk_cell HG2.out]; rfl)
      have s1 : wo.cell? ⟨w.heap.size + 1, 1, none⟩ = some (.int .u64 0) := (by rw [blk_cell HG2.out]; rfl)
      have s2 : wo.cell? ⟨w.heap.size + 1, 2, none⟩ = some (.int .u64 0) := (by rw [blk_cell HG2.out]; rfl)
      have s3 : wo.cell? ⟨w.heap.size + 1, 3, none⟩ = some (.int .i64 0) := (by rw [blk_cell HG2.out]; rfl)
      have f0 : wo.frozen? ⟨w.heap.size + 1, 0, none⟩ = false := (by rw [blk_frozen HG2.out]; rfl)
      have f1 : wo.frozen? ⟨w.heap.size + 1, 1, none⟩ = false := (by rw [blk_frozen HG2.out]; rfl)
      have f2 : wo.frozen? ⟨w.heap.size + 1, 2, none⟩ = false := (by rw [blk_frozen HG2.out]; rfl)
      have f3 : wo.frozen? ⟨w.heap.size + 1, 3, none⟩ = false := (by rw [blk_frozen HG2.out]; rfl)
      go_wp2_with fail
      refine bodyPost_ret (v := .tuple #[encP zeroP, .bool false]) (by simp [results, Try.results13, go_sem, s0, s1, s2, s3, zeroP, zeroA]) rfl ⟨by rw [HX.out]; rfl, ?_⟩
      have h3 := HB0.out.trans (HBE.out.mono (show w.heap.size ≤ w0.heap.size by omega))
      exact (((h3.setCell (p := ⟨w.heap.size + 1, 0, none⟩) (by simp) _).setCell (p := ⟨w.heap.size + 1, 1, none⟩) (by simp) _).setCell (p := ⟨w.heap.size + 1, 2, none⟩) (by simp) _).setCell (p := ⟨w.heap.size + 1, 3, none⟩) (by simp) _
    · obtain ⟨c, rfl⟩ : ∃ j, b = j + 1 := ⟨b - 1, by omega⟩
      have e1 : (((c + 1 : Nat) : Int) - 1) = (c : Int) := by omega
      rw [e1]
      clear e1
      go_wp2_with fail
      go_loopw [7] (fun v7 wr => ∃ i : Nat, i ≤ l.length ∧ v7 = .int .i64 i ∧ Hid (∀ j (h : j < l.length), j < i → such l[j] = true → l[j].2 ≠ (c : Int)) ∧ Below w0.heap.size w0 wr) (fun v7 _ => l.length - (intOf v7).toNat)
      case atStart => exact ⟨0, Nat.zero_le _, rfl, Lib.hid (fun j _ h => absurd h (by omega)), HBE.out⟩
      case round =>
        obtain ⟨i, hi, rfl, HI, hbel⟩ := hrel
        have HBI := Lib.hid hbel
        clear hbel
        by_cases hlt : i < l.length
        · obtain ⟨bb, off, cap', hve, hcs⟩ := pfs_cells ((HV.out.kept HB0.out).kept HBI.out) (by omega)
          cases hve
          have hcm := hcs i hlt
          obtain ⟨q, hq⟩ : ∃ q, q = l[i] := ⟨_, rfl⟩
          rw [← hq] at hcm
          have HQ := Lib.hid hq
          have HLT := Lib.hid hlt
          have HCM := Lib.hid hcm
          obtain ⟨r, hr⟩ : ∃ c, c = such q := ⟨_, rfl⟩
          have HRR := Lib.hid hr
          have HC := Lib.hid (fun w => HCB.out q w)
          rw [← hr] at HC
          have HG3 := Lib.hid (blk_below HBI.out H1.out (by omega))
          have HG4 := Lib.hid (blk_below HBI.out H2.out (by omega))
          have m0 : (0 : Int) ≤ (i : Int) := by omega
          have m1 : (i : Int) < (l.length : Int) := by omega
          clear hq hcs hr
          have q0 : ∀ zz : Later wr.heap.size wr, zz.val.cell? ⟨bb, off + i * 4, none⟩ = some (.int .u8 (q.1.1.toNat : Int)) := fun zz => Later.cell hcm.c0 (World.block_lt_of_cell? _ _ hcm.c0) zz
          have q1 : ∀ zz : Later wr.heap.size wr, zz.val.cell? ⟨bb, off + i * 4 + 1, none⟩ = some (.int .u64 (q.1.2.1.toNat : Int)) := fun zz => Later.cell hcm.c1 (World.block_lt_of_cell? _ _ hcm.c1) zz
          have q2 : ∀ zz : Later wr.heap.size wr, zz.val.cell? ⟨bb, off + i * 4 + 2, none⟩ = some (.int .u64 (q.1.2.2.toNat : Int)) := fun zz => Later.cell hcm.c2 (World.block_lt_of_cell? _ _ hcm.c2) zz
          have q3 : ∀ zz : Later wr.heap.size wr, zz.val.cell? ⟨bb, off + i * 4 + 3, none⟩ = some (.int .i64 q.2) := fun zz => Later.cell hcm.c3 (World.block_lt_of_cell? _ _ hcm.c3) zz
          have p0 : ∀ zz : Later wr.heap.size wr, zz.val.cell? ⟨w.heap.size, 0, none⟩ = some (.int .u8 (a.1.toNat : Int)) := fun zz => Later.cell (by rw [blk_cell HG3.out]; rfl) (blk_lt HG3.out) zz
          have p1 : ∀ zz : Later wr.heap.size wr, zz.val.cell? ⟨w.heap.size, 1, none⟩ = some (.int .u64 (a.2.1.toNat : Int)) := fun zz => Later.cell (by rw [blk_cell HG3.out]; rfl) (blk_lt HG3.out) zz
          have p2 : ∀ zz : Later wr.heap.size wr, zz.val.cell? ⟨w.heap.size, 2, none⟩ = some (.int .u64 (a.2.2.toNat : Int)) := fun zz => Later.cell (by rw [blk_cell HG3.out]; rfl) (blk_lt HG3.out) zz
          clear hcm
          by_cases hqc : q.2 = (c : Int)
          · have zq : (q.2 == (c : Int)) = true := by simpa using hqc
            have HQC := Lib.hid hqc
            clear hqc
            cases r
            · have HI2 : Hid (∀ j (h : j < l.length), j < i + 1 → such l[j] = true → l[j].2 ≠ (c : Int)) := Lib.hid (fun j h hj hs => by
                rcases Nat.lt_or_ge j i with h1 | h1
                · exact HI.out j h h1 hs
                · have : j = i := by omega
                  subst this
                  rw [← HQ.out, ← HRR.out] at hs; cases hs)
              go_wp2_with fail
              refine wp_region_later wr.heap.size (by kernel_rfl) (by kernel_rfl) ?_
              repeat (go_big_quiet_step ((go_at_call 38; with_reducible exact Later.calls (Nat.le_refl _) (HC.out _))))
              refine wpQuiet_nil ?_
              rintro w9 ⟨yy, rfl⟩
              have HB9 := Lib.hid (below_step HBI.out yy.prop HBI.out.size)
              clear q0 q1 q2 q3 p0 p1 p2 zq
              go_wp2_with fail
              go_roundw
              case rel => exact ⟨i + 1, hlt, by go_num, HI2, HB9.out⟩
              case measure => simp [intOf]; omega
            · have HX := Lib.hid (show mostL such l = some q by
                have h1 := most_first HLT.out (such := such) (by rw [← HQ.out]; exact HRR.out.symm) (fun x hx hs => by
                  have := HA.out x hx hs
                  rw [← HQ.out, HQC.out]; omega) (fun j hj hs => by rw [← HQ.out, HQC.out]; exact HI.out j (by have := HLT.out; omega) hj hs)
                rw [h1, ← HQ.out])
              go_wp2_with fail
              refine wp_region_later wr.heap.size (by kernel_rfl) (by kernel_rfl) ?_
              repeat (go_big_quiet_step ((go_at_call 38; with_reducible exact Later.calls (Nat.le_refl _) (HC.out _))))
              refine wpQuiet_nil ?_
              rintro w9 ⟨yy, rfl⟩
              have HB9 := Lib.hid (below_step HBI.out yy.prop HBI.out.size)
              have HG9 := Lib.hid (blk_kept yy.prop HG4.out)
              have hq9 := HCM.out.kept yy.prop
              clear q0 q1 q2 q3 p0 p1 p2 zq
              generalize yy.val = w9 at *
              have hz9 : bb ≠ w.heap.size + 1 := fun e => by
                obtain ⟨b2, off2, cap2, hve2, hcs2⟩ := pfs_cells HV.out (by have := HLT.out; omega)
                cases hve2
                have := World.block_lt_of_cell? _ _ (hcs2 i HLT.out).c0
                simp at this; omega
              have q0 := hq9.c0
              have q1 := hq9.c1
              have q2 := hq9.c2
              have q3 := hq9.c3
              have s0 : w9.cell? ⟨w.heap.size + 1, 0, none⟩ = some (.int .u8 0) := (by rw [blk_cell HG9.out]; rfl)
              have s1 : w9.cell? ⟨w.heap.size + 1, 1, none⟩ = some (.int .u64 0) := (by rw [blk_cell HG9.out]; rfl)
              have s2 : w9.cell? ⟨w.heap.size + 1, 2, none⟩ = some (.int .u64 0) := (by rw [blk_cell HG9.out]; rfl)
              have s3 : w9.cell? ⟨w.heap.size + 1, 3, none⟩ = some (.int .i64 0) := (by rw [blk_cell HG9.out]; rfl)
              have f0 : w9.frozen? ⟨w.heap.size + 1, 0, none⟩ = false := (by rw [blk_frozen HG9.out]; rfl)
              have f1 : w9.frozen? ⟨w.heap.size + 1, 1, none⟩ = false := (by rw [blk_frozen HG9.out]; rfl)
              have f2 : w9.frozen? ⟨w.heap.size + 1, 2, none⟩ = false := (by rw [blk_frozen HG9.out]; rfl)
              have f3 : w9.frozen? ⟨w.heap.size + 1, 3, none⟩ = false := (by rw [blk_frozen HG9.out]; rfl)
              clear hq9
              go_wp2_with fail
              refine bodyPost_ret (v := .tuple #[encP q, .bool true]) (by simp [results, Try.results13, go_sem, s0, s1, s2, s3]) rfl ⟨by rw [HX.out]; rfl, ?_⟩
              have h3 := HB0.out.trans (HB9.out.mono (show w.heap.size ≤ w0.heap.size by omega))
              exact (((h3.setCell (p := ⟨w.heap.size + 1, 0, none⟩) (by simp) _).setCell (p := ⟨w.heap.size + 1, 1, none⟩) (by simp) _).setCell (p := ⟨w.heap.size + 1, 2, none⟩) (by simp) _).setCell (p := ⟨w.heap.size + 1, 3, none⟩) (by simp) _
          · have zq : (q.2 == (c : Int)) = false := by simpa using hqc
            have HI2 : Hid (∀ j (h : j < l.length), j < i + 1 → such l[j] = true → l[j].2 ≠ (c : Int)) := Lib.hid (fun j h hj hs => by
              rcases Nat.lt_or_ge j i with h1 | h1
              · exact HI.out j h h1 hs
              · have : j = i := by omega
                subst this
                rw [← HQ.out]; exact hqc)
            clear hqc
            go_wp2_with fail
            refine wp_region_later wr.heap.size (by kernel_rfl) (by kernel_rfl) ?_
            repeat (go_big_quiet_step (fail))
            refine wpQuiet_nil ?_
            rintro w9 ⟨yy, rfl⟩
            have HB9 := Lib.hid (below_step HBI.out yy.prop HBI.out.size)
            clear q0 q1 q2 q3 p0 p1 p2 zq
            go_wp2_with fail
            go_roundw
            case rel => exact ⟨i + 1, hlt, by go_num, HI2, HB9.out⟩
            case measure => simp [intOf]; omega
        · obtain rfl : i = l.length := by omega
          have HA2 : Hid (∀ x ∈ l, such x = true → x.2 < (c : Int)) := Lib.hid (fun x hx hs => by
            have h1 := HA.out x hx hs
            obtain ⟨j, hj, rfl⟩ := List.getElem_of_mem hx
            have h2 := HI.out j hj hj hs
            omega)
          go_wp2_with fail
          go_roundw
          case rel => exact ⟨c, by omega, by simp, HA2, HBI.out⟩
          case measure => simp [intOf]

set_option maxRecDepth 100000 in
set_option maxHeartbeats 4000000 in
theorem whole22 (v : Value) (l : List Pf) (p : Pf) (w : World) (h : PfsAt w v l) (hn : l.length ≤ 1000000) :
    Calls Try.prog 16 #[v, encP p] w (MostPost (fun q => within p q) l w) := by
  obtain ⟨ao, cap, hv⟩ := elems_slice h
  have HV := Lib.hid h
  subst hv
  have HCA := Lib.hid (fun q w => rwithin p q w)
  have HRNG := Lib.hid (show ∀ q, (fun q => within p q) q = true → 0 ≤ q.2 ∧ q.2 ≤ 128 from fun q h => by have h := (Go.Cph.Px.within_iff.1 h).2.2; have := width_pos q.1.1; exact ⟨h.lo, by have := h.hi; omega⟩)
  obtain ⟨such, hsuch⟩ : ∃ s : Pf → Bool, s = (fun q => within p q) := ⟨_, rfl⟩
  have HSU := Lib.hid hsuch
  have HCB := Lib.hid (show ∀ q w, Calls Try.prog 39 #[encP p, encP q] w fun e w' => e = .returned (.bool (such q)) ∧ Below w.heap.size w w' from fun q w => by rw [HSU.out]; exact HCA.out q w)
  rw [← hsuch] at HRNG ⊢
  clear h hsuch
  have hb0 : Below w.heap.size w ((w.alloc (.cells #[.int .u8 (p.1.1.toNat : Int), .int .u64 (p.1.2.1.toNat : Int), .int .u64 (p.1.2.2.toNat : Int), .int .i64 p.2] 36)).alloc (.cells #[.int .u8 0, .int .u64 0, .int .u64 0, .int .i64 0] 36)) := (((Below.refl _ _).alloc (Nat.le_refl _) _).alloc (by simp) _)
  have h1 : ((w.alloc (.cells #[.int .u8 (p.1.1.toNat : Int), .int .u64 (p.1.2.1.toNat : Int), .int .u64 (p.1.2.2.toNat : Int), .int .i64 p.2] 36)).alloc (.cells #[.int .u8 0, .int .u64 0, .int .u64 0, .int .i64 0] 36)).heap[w.heap.size]? = some (.cells #[.int .u8 (p.1.1.toNat : Int), .int .u64 (p.1.2.1.toNat : Int), .int .u64 (p.1.2.2.toNat : Int), .int .i64 p.2] 36 (0, 0)) := (blk_alloc (heap_alloc_new w (.cells #[.int .u8 (p.1.1.toNat : Int), .int .u64 (p.1.2.1.toNat : Int), .int .u64 (p.1.2.2.toNat : Int), .int .i64 p.2] 36)) _)
  have h2 : ((w.alloc (.cells #[.int .u8 (p.1.1.toNat : Int), .int .u64 (p.1.2.1.toNat : Int), .int .u64 (p.1.2.2.toNat : Int), .int .i64 p.2] 36)).alloc (.cells #[.int .u8 0, .int .u64 0, .int .u64 0, .int .i64 0] 36)).heap[w.heap.size + 1]? = some (.cells #[.int .u8 0, .int .u64 0, .int .u64 0, .int .i64 0] 36 (0, 0)) := by have h := (heap_alloc_new (w.alloc (.cells #[.int .u8 (p.1.1.toNat : Int), .int .u64 (p.1.2.1.toNat : Int), .int .u64 (p.1.2.2.toNat : Int), .int .i64 p.2] 36)) (.cells #[.int .u8 0, .int .u64 0, .int .u64 0, .int .i64 0] 36)); simpa [World.size_alloc] using h
  have H1 := Lib.hid h1
  have H2 := Lib.hid h2
  have HB0 := Lib.hid hb0
  clear hb0 h1 h2
  go_enter Try.func16, Try.ntmps16
  go_wp2_with fail
  generalize ((w.alloc (.cells #[.int .u8 (p.1.1.toNat : Int), .int .u64 (p.1.2.1.toNat : Int), .int .u64 (p.1.2.2.toNat : Int), .int .i64 p.2] 36)).alloc (.cells #[.int .u8 0, .int .u64 0, .int .u64 0, .int .i64 0] 36)) = w0 at *
  have hz2 : w.heap.size + 1 < w0.heap.size := blk_lt H2.out
  go_loopw [6, 7] (fun v6 v7 wr => ∃ b : Nat, b ≤ 129 ∧ v6 = .int .i64 ((b : Int) - 1) ∧ Hid (∀ x ∈ l, such x = true → x.2 < (b : Int)) ∧ Below w0.heap.size w0 wr) (fun v6 _ _ => (intOf v6 + 1).toNat)
  case atStart => exact ⟨129, by omega, by simp, Lib.hid (fun x _ hx => by have := (HRNG.out x hx).2; omega), Below.refl _ _⟩
  case round =>
    obtain ⟨wo, rfl⟩ : ∃ wo : World, wo = wr := ⟨_, rfl⟩
    obtain ⟨b, hb, rfl, HA, hbel⟩ := hrel
    have HBE := Lib.hid hbel
    clear hbel
    have HG1 := Lib.hid (blk_below HBE.out H1.out (by omega))
    have HG2 := Lib.hid (blk_below HBE.out H2.out (by omega))
    rcases Nat.eq_zero_or_pos b with hb0 | hb0
    · subst hb0
      have HX := Lib.hid (most_none (such := such) (l := l) fun x hx => by
        rw [Bool.eq_false_iff]; intro hs
        have h1 := HA.out x hx hs
        have h2 := (HRNG.out x hs).1
        omega)
      have s0 : wo.cell? ⟨w.heap.size + 1, 0, none⟩ = some (.int .u8 0) := (by rw [blk_cell HG2.out]; rfl)
      have s1 : wo.cell? ⟨w.heap.size + 1, 1, none⟩ = some (.int .u64 0) := (by rw [blk_cell HG2.out]; rfl)
      have s2 : wo.cell? ⟨w.heap.size + 1, 2, none⟩ = some (.int .u64 0) := (by rw [blk_cell HG2.out]; rfl)
      have s3 : wo.cell? ⟨w.heap.size + 1, 3, none⟩ = some (.int .i64 0) := (by rw [blk_cell HG2.out]; rfl)
      have f0 : wo.frozen? ⟨w.heap.size + 1, 0, none⟩ = false := (by rw [blk_frozen HG2.out]; rfl)
      have f1 : wo.frozen? ⟨w.heap.size + 1, 1, none⟩ = false := (by rw [blk_frozen HG2.out]; rfl)
      have f2 : wo.frozen? ⟨w.heap.size + 1, 2, none⟩ = false := (by rw [blk_frozen HG2.out]; rfl)
      have f3 : wo.frozen? ⟨w.heap.size + 1, 3, none⟩ = false := (by rw [blk_frozen HG2.out]; rfl)
      go_wp2_with fail
      refine bodyPost_ret (v := .tuple #[encP zeroP, .bool false]) (by simp [results, Try.results16, go_sem, s0, s1, s2, s3, zeroP, zeroA]) rfl ⟨by rw [HX.out]; rfl, ?_⟩
      have h3 := HB0.out.trans (HBE.out.mono (show w.heap.size ≤ w0.heap.size by omega))
      exact (((h3.setCell (p := ⟨w.heap.size + 1, 0, none⟩) (by simp) _).setCell (p := ⟨w.heap.size + 1, 1, none⟩) (by simp) _).setCell (p := ⟨w.heap.size + 1, 2, none⟩) (by simp) _).setCell (p := ⟨w.heap.size + 1, 3, none⟩) (by simp) _
    · obtain ⟨c, rfl⟩ : ∃ j, b = j + 1 := ⟨b - 1, by omega⟩
      have e1 : (((c + 1 : Nat) : Int) - 1) = (c : Int) := by omega
      rw [e1]
      clear e1
      go_wp2_with fail
      go_loopw [7] (fun v7 wr => ∃ i : Nat, i ≤ l.length ∧ v7 = .int .i64 i ∧ Hid (∀ j (h : j < l.length), j < i → such l[j] = true → l[j].2 ≠ (c : Int)) ∧ Below w0.heap.size w0 wr) (fun v7 _ => l.length - (intOf v7).toNat)
      case atStart => exact ⟨0, Nat.zero_le _, rfl, Lib.hid (fun j _ h => absurd h (by omega)), HBE.out⟩
      case round =>
        obtain ⟨i, hi, rfl, HI, hbel⟩ := hrel
        have HBI := Lib.hid hbel
        clear hbel
        by_cases hlt : i < l.length
        · obtain ⟨bb, off, cap', hve, hcs⟩ := pfs_cells ((HV.out.kept HB0.out).kept HBI.out) (by omega)
          cases hve
          have hcm := hcs i hlt
          obtain ⟨q, hq⟩ : ∃ q, q = l[i] := ⟨_, rfl⟩
          rw [← hq] at hcm
          have HQ := Lib.hid hq
          have HLT := Lib.hid hlt
          have HCM := Lib.hid hcm
          obtain ⟨r, hr⟩ : ∃ c, c = such q := ⟨_, rfl⟩
          have HRR := Lib.hid hr
          have HC := Lib.hid (fun w => HCB.out q w)
          rw [← hr] at HC
          have HG3 := Lib.hid (blk_below HBI.out H1.out (by omega))
          have HG4 := Lib.hid (blk_below HBI.out H2.out (by omega))
          have m0 : (0 : Int) ≤ (i : Int) := by omega
          have m1 : (i : Int) < (l.length : Int) := by omega
          clear hq hcs hr
          have q0 : ∀ zz : Later wr.heap.size wr, zz.val.cell? ⟨bb, off + i * 4, none⟩ = some (.int .u8 (q.1.1.toNat : Int)) := fun zz => Later.cell hcm.c0 (World.block_lt_of_cell? _ _ hcm.c0) zz
          have q1 : ∀ zz : Later wr.heap.size wr, zz.val.cell? ⟨bb, off + i * 4 + 1, none⟩ = some (.int .u64 (q.1.2.1.toNat : Int)) := fun zz => Later.cell hcm.c1 (World.block_lt_of_cell? _ _ hcm.c1) zz
          have q2 : ∀ zz : Later wr.heap.size wr, zz.val.cell? ⟨bb, off + i * 4 + 2, none⟩ = some (.int .u64 (q.1.2.2.toNat : Int)) := fun zz => Later.cell hcm.c2 (World.block_lt_of_cell? _ _ hcm.c2) zz
          have q3 : ∀ zz : Later wr.heap.size wr, zz.val.cell? ⟨bb, off + i * 4 + 3, none⟩ = some (.int .i64 q.2) := fun zz => Later.cell hcm.c3 (World.block_lt_of_cell? _ _ hcm.c3) zz
          have p0 : ∀ zz : Later wr.heap.size wr, zz.val.cell? ⟨w.heap.size, 0, none⟩ = some (.int .u8 (p.1.1.toNat : Int)) := fun zz => Later.cell (by rw [blk_cell HG3.out]; rfl) (blk_lt HG3.out) zz
          have p1 : ∀ zz : Later wr.heap.size wr, zz.val.cell? ⟨w.heap.size, 1, none⟩ = some (.int .u64 (p.1.2.1.toNat : Int)) := fun zz => Later.cell (by rw [blk_cell HG3.out]; rfl) (blk_lt HG3.out) zz
          have p2 : ∀ zz : Later wr.heap.size wr, zz.val.cell? ⟨w.heap.size, 2, none⟩ = some (.int .u64 (p.1.2.2.toNat : Int)) := fun zz => Later.cell (by rw [blk_cell HG3.out]; rfl) (blk_lt HG3.out) zz
          have p3 : ∀ zz : Later wr.heap.size wr, zz.val.cell? ⟨w.heap.size, 3, none⟩ = some (.int .i64 p.2) := fun zz => Later.cell (by rw [blk_cell HG3.out]; rfl) (blk_lt HG3.out) zz
          clear hcm
          by_cases hqc : q.2 = (c : Int)
          · have zq : (q.2 == (c : Int)) = true := by simpa using hqc
            have HQC := Lib.hid hqc
            clear hqc
            cases r
            · have HI2 : Hid (∀ j (h : j < l.length), j < i + 1 → such l[j] = true → l[j].2 ≠ (c : Int)) := Lib.hid (fun j h hj hs => by
                rcases Nat.lt_or_ge j i with h1 | h1
                · exact HI.out j h h1 hs
                · have : j = i := by omega
                  subst this
                  rw [← HQ.out, ← HRR.out] at hs; cases hs)
              go_wp2_with fail
              refine wp_region_later wr.heap.size (by kernel_rfl) (by kernel_rfl) ?_
              repeat (go_big_quiet_step ((go_at_call 39; with_reducible exact Later.calls (Nat.le_refl _) (HC.out _))))
              refine wpQuiet_nil ?_
              rintro w9 ⟨yy, rfl⟩
              have HB9 := Lib.hid (below_step HBI.out yy.prop HBI.out.size)
              clear q0 q1 q2 q3 p0 p1 p2 p3 zq
              go_wp2_with fail
              go_roundw
              case rel => exact ⟨i + 1, hlt, by go_num, HI2, HB9.out⟩
              case measure => simp [intOf]; omega
            · have HX := Lib.hid (show mostL such l = some q by
                have h1 := most_first HLT.out (such := such) (by rw [← HQ.out]; exact HRR.out.symm) (fun x hx hs => by
                  have := HA.out x hx hs
                  rw [← HQ.out, HQC.out]; omega) (fun j hj hs => by rw [← HQ.out, HQC.out]; exact HI.out j (by have := HLT.out; omega) hj hs)
                rw [h1, ← HQ.out])
              go_wp2_with fail
              refine wp_region_later wr.heap.size (by kernel_rfl) (by kernel_rfl) ?_
              repeat (go_big_quiet_step ((go_at_call 39; with_reducible exact Later.calls (Nat.le_refl _) (HC.out _))))
              refine wpQuiet_nil ?_
              rintro w9 ⟨yy, rfl⟩
              have HB9 := Lib.hid (below_step HBI.out yy.prop HBI.out.size)
              have HG9 := Lib.hid (blk_kept yy.prop HG4.out)
              have hq9 := HCM.out.kept yy.prop
              clear q0 q1 q2 q3 p0 p1 p2 p3 zq
              generalize yy.val = w9 at *
              have hz9 : bb ≠ w.heap.size + 1 := fun e => by
                obtain ⟨b2, off2, cap2, hve2, hcs2⟩ := pfs_cells HV.out (by have := HLT.out; omega)
                cases hve2
                have := World.block_lt_of_cell? _ _ (hcs2 i HLT.out).c0
                simp at this; omega
              have q0 := hq9.c0
              have q1 := hq9.c1
              have q2 := hq9.c2
              have q3 := hq9.c3
              have s0 : w9.cell? ⟨w.heap.size + 1, 0, none⟩ = some (.int .u8 0) := (by rw [blk_cell HG9.out]; rfl)
              have s1 : w9.cell? ⟨w.heap.size + 1, 1, none⟩ = some (.int .u64 0) := (by rw [blk_cell HG9.out]; rfl)
              have s2 : w9.cell? ⟨w.heap.size + 1, 2, none⟩ = some (.int .u64 0) := (by rw [blk_cell HG9.out]; rfl)
              have s3 : w9.cell? ⟨w.heap.size + 1, 3, none⟩ = some (.int .i64 0) := (by rw [blk_cell HG9.out]; rfl)
              have f0 : w9.frozen? ⟨w.heap.size + 1, 0, none⟩ = false := (by rw [blk_frozen HG9.out]; rfl)
              have f1 : w9.frozen? ⟨w.heap.size + 1, 1, none⟩ = false := (by rw [blk_frozen HG9.out]; rfl)
              have f2 : w9.frozen? ⟨w.heap.size + 1, 2, none⟩ = false := (by rw [blk_frozen HG9.out]; rfl)
              have f3 : w9.frozen? ⟨w.heap.size + 1, 3, none⟩ = false := (by rw [blk_frozen HG9.out]; rfl)
              clear hq9
              go_wp2_with fail
              refine bodyPost_ret (v := .tuple #[encP q, .bool true]) (by simp [results, Try.results16, go_sem, s0, s1, s2, s3]) rfl ⟨by rw [HX.out]; rfl, ?_⟩
              have h3 := HB0.out.trans (HB9.out.mono (show w.heap.size ≤ w0.heap.size by omega))
              exact (((h3.setCell (p := ⟨w.heap.size + 1, 0, none⟩) (by simp) _).setCell (p := ⟨w.heap.size + 1, 1, none⟩) (by simp) _).setCell (p := ⟨w.heap.size + 1, 2, none⟩) (by simp) _).setCell (p := ⟨w.heap.size + 1, 3, none⟩) (by simp) _
          · have zq : (q.2 == (c : Int)) = false := by simpa using hqc
            have HI2 : Hid (∀ j (h : j < l.length), j < i + 1 → such l[j] = true → l[j].2 ≠ (c : Int)) := Lib.hid (fun j h hj hs => by
              rcases Nat.lt_or_ge j i with h1 | h1
              · exact HI.out j h h1 hs
              · have : j = i := by omega
                subst this
                rw [← HQ.out]; exact hqc)
            clear hqc
            go_wp2_with fail
            refine wp_region_later wr.heap.size (by kernel_rfl) (by kernel_rfl) ?_
            repeat (go_big_quiet_step (fail))
            refine wpQuiet_nil ?_
            rintro w9 ⟨yy, rfl⟩
            have HB9 := Lib.hid (below_step HBI.out yy.prop HBI.out.size)
            clear q0 q1 q2 q3 p0 p1 p2 p3 zq
            go_wp2_with fail
            go_roundw
            case rel => exact ⟨i + 1, hlt, by go_num, HI2, HB9.out⟩
            case measure => simp [intOf]; omega
        · obtain rfl : i = l.length := by omega
          have HA2 : Hid (∀ x ∈ l, such x = true → x.2 < (c : Int)) := Lib.hid (fun x hx hs => by
            have h1 := HA.out x hx hs
            obtain ⟨j, hj, rfl⟩ := List.getElem_of_mem hx
            have h2 := HI.out j hj hj hs
            omega)
          go_wp2_with fail
          go_roundw
          case rel => exact ⟨c, by omega, by simp, HA2, HBI.out⟩
          case measure => simp [intOf]
end Go.Proofs.Try.Pfx
