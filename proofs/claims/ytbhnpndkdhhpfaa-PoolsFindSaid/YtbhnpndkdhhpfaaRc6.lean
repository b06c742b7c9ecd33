/- The document's lists of prefixes: those within one. -/
import Derived.Test.YtbhnpndkdhhpfaaRc2
import Derived.Test.YtbhnpndkdhhpfaaPsP
set_option linter.unusedVariables false
set_option linter.unusedSimpArgs false
namespace Go.Proofs.Try.Pfx
open Go.RowKit Go.Cph Go.Cph.Px

def isChild (m : List Pf) (q : Pf) : Bool := m.all fun r => r == q || !within q r
theorem children_ref (l : List Pf) (p : Pf) : (l.filter fun q => inside q p).filter (isChild (l.filter fun q => inside q p)) = childrenL l p := by
  unfold childrenL
  rw [List.filter_filter]
  refine List.filter_congr fun q hq => ?_
  rw [Bool.eq_iff_iff, Bool.and_eq_true, child_iff]
  unfold isChild
  rw [List.all_eq_true]
  constructor
  · rintro ⟨h1, h2⟩
    refine ⟨h2, fun r hr hri => ?_⟩
    have h3 := h1 r (List.mem_filter.2 ⟨hr, hri⟩)
    rw [Bool.eq_false_iff]; intro hc
    obtain ⟨c1, c2⟩ := inside_iff.1 hc
    rw [Bool.or_eq_true, beq_iff_eq] at h3
    rcases h3 with h3 | h3
    · exact c1 h3.symm
    · rw [c2] at h3; cases h3
  · rintro ⟨h1, h2⟩
    refine ⟨fun r hr => ?_, h1⟩
    obtain ⟨hr1, hr2⟩ := List.mem_filter.1 hr
    have h3 := h2 r hr1 hr2
    rw [Bool.or_eq_true, beq_iff_eq]
    by_cases e : r = q
    · exact .inl e
    · right
      have h4 : ¬ (inside q r = true) := by rw [h3]; decide
      rw [inside_iff] at h4
      have : ¬ within q r = true := fun h => h4 ⟨fun e' => e e'.symm, h⟩
      simpa using this
theorem filter_one (f : Pf → Bool) (q : Pf) : [q].filter f = if f q then [q] else [] := by cases h : f q <;> simp [h]
theorem filter_next {f : Pf → Bool} {l : List Pf} {i : Nat} (hlt : i < l.length) {q : Pf} (hq : q = l[i]) {c : Bool} (hc : c = f q) : (l.take (i + 1)).filter f = (l.take i).filter f ++ (if c then [q] else []) := by
  rw [List.take_succ_eq_append_getElem hlt, List.filter_append, ← hq, hc, filter_one]

set_option maxRecDepth 100000 in
set_option maxHeartbeats 4000000 in
theorem children22 (v : Value) (l : List Pf) (p : Pf) (w : World) (h : PfsAt w v l) (hn : l.length ≤ 1000000) :
    Calls Try.prog 20 #[v, encP p] w (RefPost (childrenL l p) w) := by
  obtain ⟨ao, cap, hv⟩ := elems_slice h
  have HV := Lib.hid h
  subst hv
  clear h
  have hb0 : Below w.heap.size w (w.alloc (.cells #[.int .u8 (p.1.1.toNat : Int), .int .u64 (p.1.2.1.toNat : Int), .int .u64 (p.1.2.2.toNat : Int), .int .i64 p.2] 36)) := ((Below.refl _ _).alloc (Nat.le_refl _) _)
  have h1 : (w.alloc (.cells #[.int .u8 (p.1.1.toNat : Int), .int .u64 (p.1.2.1.toNat : Int), .int .u64 (p.1.2.2.toNat : Int), .int .i64 p.2] 36)).heap[w.heap.size]? = some (.cells #[.int .u8 (p.1.1.toNat : Int), .int .u64 (p.1.2.1.toNat : Int), .int .u64 (p.1.2.2.toNat : Int), .int .i64 p.2] 36 (0, 0)) := (heap_alloc_new w (.cells #[.int .u8 (p.1.1.toNat : Int), .int .u64 (p.1.2.1.toNat : Int), .int .u64 (p.1.2.2.toNat : Int), .int .i64 p.2] 36))
  have H1 := Lib.hid h1
  have HB0 := Lib.hid hb0
  clear hb0 h1
  go_enter Try.func20, Try.ntmps20
  go_wp2_with fail
  generalize (w.alloc (.cells #[.int .u8 (p.1.1.toNat : Int), .int .u64 (p.1.2.1.toNat : Int), .int .u64 (p.1.2.2.toNat : Int), .int .i64 p.2] 36)) = w0 at *
  have HV0 := Lib.hid (HV.out.kept HB0.out)
  have hzw : w.heap.size < w0.heap.size := blk_lt H1.out
  go_loopw [5, 7] (fun v5 v7 wr => ∃ i n : Nat, i ≤ l.length ∧ n ≤ i ∧ v7 = .int .i64 i ∧ Hid (n = ((l.take i).filter (fun q => inside q p)).length) ∧ wr.ownsRow w0.heap.size TR 4 v5 n (((l.take i).filter (fun q => inside q p)).flatMap encC) ∧ Below w0.heap.size w0 wr) (fun _ v7 _ => l.length - (intOf v7).toNat)
  case atStart => exact ⟨0, 0, Nat.zero_le _, Nat.le_refl _, rfl, Lib.hid rfl, World.ownsRow_nil _ _ _ _, Below.refl _ _⟩
  case round =>
    obtain ⟨wo, rfl⟩ : ∃ wo : World, wo = wr := ⟨_, rfl⟩
    obtain ⟨i, n, hi, hni, rfl, HN, ho, hbel⟩ := hrel
    have HO := Lib.hid ho
    have HBE := Lib.hid hbel
    obtain ⟨oo, oc, hov⟩ := owns_slice1 ho
    subst hov
    clear ho hbel
    by_cases hlt : i < l.length
    · obtain ⟨b, off, cap', hve, hcs⟩ := pfs_cells (HV0.out.kept HBE.out) (by omega)
      cases hve
      have hcm := hcs i hlt
      obtain ⟨q, hq⟩ : ∃ q, q = l[i] := ⟨_, rfl⟩
      rw [← hq] at hcm
      have HCM := Lib.hid hcm
      obtain ⟨e, he⟩ : ∃ c, c = (q == p) := ⟨_, rfl⟩
      obtain ⟨c, hc⟩ : ∃ c, c = within q p := ⟨_, rfl⟩
      have HSN := Lib.hid (filter_next (f := fun q => inside q p) hlt hq (c := !e && c) (by rw [he, hc]; rfl))
      have HWI := Lib.hid (fun w => rwithin q p w)
      rw [← hc] at HWI
      have hnp := fun w => (show (binOp .neq 36 (encP q) (encP p)).run Try.prog w = .ok (.bool (!e)) w by rw [he]; exact run_neqR q p w)
      have HG4 := Lib.hid (blk_below HBE.out H1.out hzw)
      have m0 : (0 : Int) ≤ (i : Int) := by omega
      have m1 : (i : Int) < (l.length : Int) := by omega
      clear hcs hq hc he
      have q0 : ∀ zz : Later wo.heap.size wo, zz.val.cell? ⟨b, off + i * 4, none⟩ = some (.int .u8 (q.1.1.toNat : Int)) := fun zz => Later.cell hcm.c0 (World.block_lt_of_cell? _ _ hcm.c0) zz
      have q1 : ∀ zz : Later wo.heap.size wo, zz.val.cell? ⟨b, off + i * 4 + 1, none⟩ = some (.int .u64 (q.1.2.1.toNat : Int)) := fun zz => Later.cell hcm.c1 (World.block_lt_of_cell? _ _ hcm.c1) zz
      have q2 : ∀ zz : Later wo.heap.size wo, zz.val.cell? ⟨b, off + i * 4 + 2, none⟩ = some (.int .u64 (q.1.2.2.toNat : Int)) := fun zz => Later.cell hcm.c2 (World.block_lt_of_cell? _ _ hcm.c2) zz
      have q3 : ∀ zz : Later wo.heap.size wo, zz.val.cell? ⟨b, off + i * 4 + 3, none⟩ = some (.int .i64 q.2) := fun zz => Later.cell hcm.c3 (World.block_lt_of_cell? _ _ hcm.c3) zz
      have p0 : ∀ zz : Later wo.heap.size wo, zz.val.cell? ⟨w.heap.size, 0, none⟩ = some (.int .u8 (p.1.1.toNat : Int)) := fun zz => Later.cell (by rw [blk_cell HG4.out]; rfl) (blk_lt HG4.out) zz
      have p1 : ∀ zz : Later wo.heap.size wo, zz.val.cell? ⟨w.heap.size, 1, none⟩ = some (.int .u64 (p.1.2.1.toNat : Int)) := fun zz => Later.cell (by rw [blk_cell HG4.out]; rfl) (blk_lt HG4.out) zz
      have p2 : ∀ zz : Later wo.heap.size wo, zz.val.cell? ⟨w.heap.size, 2, none⟩ = some (.int .u64 (p.1.2.2.toNat : Int)) := fun zz => Later.cell (by rw [blk_cell HG4.out]; rfl) (blk_lt HG4.out) zz
      have p3 : ∀ zz : Later wo.heap.size wo, zz.val.cell? ⟨w.heap.size, 3, none⟩ = some (.int .i64 p.2) := fun zz => Later.cell (by rw [blk_cell HG4.out]; rfl) (blk_lt HG4.out) zz
      clear hcm
      have HL := Lib.hid (show n + 1 ≤ 1099511627776 by omega)
      cases e <;> cases c
      all_goals
        go_wp2_with fail
        refine wp_region_later wo.heap.size (by kernel_rfl) (by kernel_rfl) ?_
        repeat (go_big_quiet_step ((go_at_call 39; with_reducible exact Later.calls (Nat.le_refl _) (HWI.out _))))
        refine wpQuiet_nil ?_
        rintro w9 ⟨yy, rfl⟩
        have HB9 := Lib.hid (below_step HBE.out yy.prop HBE.out.size)
        have HO9 := Lib.hid (row_kept1 HO.out fun k hk => yy.prop.block k (HO.out.lt k hk).2)
        have hc9 := HCM.out.kept yy.prop
        clear q0 q1 q2 q3 p0 p1 p2 p3 hnp
        generalize yy.val = w9 at *
        have HS9 := Lib.hid HB9.out.size
        have c0 := hc9.c0
        have c1 := hc9.c1
        have c2 := hc9.c2
        have c3 := hc9.c3
        clear hc9
        first
          | (go_wp2_with fail
             go_roundw
             case rel => exact ⟨i + 1, n, by omega, by omega, by go_num, Lib.hid (by rw [HSN.out]; simpa using HN.out), by rw [HSN.out]; simpa using HO9.out, HB9.out⟩
             case measure => simp [intOf]; omega)
          | (go_wp2_with (at_builtin; refine wpList_append1 rfl (.tmp 31) (.tmp 36) 30 rfl w0.heap.size 36 _ 4 32 Try.underlying30 infoR rfl (by decide) _ n (((l.take i).filter (fun q => inside q p)).flatMap encC) (encC q) rfl HO9.out _ 1 rfl rfl rfl (encC_one1 q) HL.out (by decide) HS9.out w0.heap.size w0 HB9.out (Nat.le_refl _) ?_; intro v' w' ho hgr hb' hsz'; have HO4 := Lib.hid ho; have HB4 := Lib.hid hb'; clear ho hgr hb' hsz')
             go_roundw
             case rel =>
               refine ⟨i + 1, n + 1, by omega, by omega, by go_num, Lib.hid (by rw [HSN.out, List.length_append, ← HN.out]; rfl), ?_, HB4.out⟩
               rw [HSN.out]
               have := HO4.out
               simpa [List.flatMap_append] using this
             case measure => simp [intOf]; omega)
    · obtain rfl : i = l.length := by omega
      obtain ⟨m, hm⟩ : ∃ m, m = l.filter (fun q => inside q p) := ⟨_, rfl⟩
      have hmm : (l.take l.length).filter (fun q => inside q p) = m := by rw [List.take_length, hm]
      have hnm : n = m.length := by rw [← hmm]; exact HN.out
      have HFIN := Lib.hid (show m.filter (isChild m) = childrenL l p by rw [hm]; exact children_ref l p)
      have HIN := Lib.hid (show PfsAt wo (.slice oo m.length oc) m by have := Seg.of_owns HO.out; rw [hmm] at this; rw [hnm] at this; exact this)
      have hml : m.length ≤ l.length := by rw [hm]; exact List.length_filter_le _ _
      subst hnm
      clear hm hmm hni
      go_wp2_with fail
      go_loopw [6, 8] (fun v6 v8 wr => ∃ j n : Nat, j ≤ m.length ∧ n ≤ j ∧ v8 = .int .i64 j ∧ Hid (n = ((m.take j).filter (isChild m)).length) ∧ wr.ownsRow wo.heap.size TR 4 v6 n (((m.take j).filter (isChild m)).flatMap encC) ∧ Below wo.heap.size wo wr) (fun _ v8 _ => m.length - (intOf v8).toNat)
      case atStart => exact ⟨0, 0, Nat.zero_le _, Nat.le_refl _, rfl, Lib.hid rfl, World.ownsRow_nil _ _ _ _, Below.refl _ _⟩
      case round =>
        obtain ⟨wu, rfl⟩ : ∃ wo : World, wo = wr := ⟨_, rfl⟩
        obtain ⟨j, n, hj, hnj, rfl, HN2, ho, hbel⟩ := hrel
        have HO2 := Lib.hid ho
        have HBE2 := Lib.hid hbel
        obtain ⟨oo2, oc2, hov⟩ := owns_slice1 ho
        subst hov
        clear ho hbel
        by_cases hjt : j < m.length
        · obtain ⟨b2, off2, cap2, hve, hcs⟩ := pfs_cells HIN.out (by omega)
          cases hve
          have HCS := Lib.hid hcs
          obtain ⟨q, hq⟩ : ∃ q, q = m[j] := ⟨_, rfl⟩
          have HQ := Lib.hid hq
          have n0 : (0 : Int) ≤ (j : Int) := by omega
          have n1 : (j : Int) < (m.length : Int) := by omega
          clear hcs hq
          go_wp2_with fail
          go_loopw [9, 10] (fun v9 v10 wr => ∃ k : Nat, k ≤ m.length ∧ v10 = .int .i64 k ∧ v9 = .bool (isChild (m.take k) q) ∧ Below wu.heap.size wu wr) (fun _ v10 _ => m.length - (intOf v10).toNat)
          case atStart => exact ⟨0, Nat.zero_le _, rfl, by simp [isChild], Below.refl _ _⟩
          case round =>
            obtain ⟨k, hk, rfl, rfl, hbel⟩ := hrel
            have HB3 := Lib.hid hbel
            clear hbel
            by_cases hkt : k < m.length
            · have hcq := ((HCS.out j hjt).kept HBE2.out).kept HB3.out
              have hcr := ((HCS.out k hkt).kept HBE2.out).kept HB3.out
              rw [← HQ.out] at hcq
              obtain ⟨r, hr⟩ : ∃ q, q = m[k] := ⟨_, rfl⟩
              rw [← hr] at hcr
              obtain ⟨ch, hch⟩ : ∃ c, c = isChild (m.take k) q := ⟨_, rfl⟩
              obtain ⟨e, he⟩ : ∃ c, c = (r == q) := ⟨_, rfl⟩
              obtain ⟨c, hc⟩ : ∃ c, c = within q r := ⟨_, rfl⟩
              have HSN := Lib.hid (show isChild (m.take (k + 1)) q = (ch && (e || !c)) by
                unfold isChild
                rw [List.take_succ_eq_append_getElem hkt, List.all_append, ← hr, he, hc, hch]
                simp [isChild])
              have HWI := Lib.hid (fun w => rwithin q r w)
              rw [← hc] at HWI
              have heq := fun w => (show (binOp .eql 36 (encP r) (encP q)).run Try.prog w = .ok (.bool e) w by rw [he]; exact run_eqlPR r q w)
              rw [← hch]
              have o0 : (0 : Int) ≤ (k : Int) := by omega
              have o1 : (k : Int) < (m.length : Int) := by omega
              clear hr hch he hc
              have q0 : ∀ zz : Later wr.heap.size wr, zz.val.cell? ⟨b2, off2 + j * 4, none⟩ = some (.int .u8 (q.1.1.toNat : Int)) := fun zz => Later.cell hcq.c0 (World.block_lt_of_cell? _ _ hcq.c0) zz
              have q1 : ∀ zz : Later wr.heap.size wr, zz.val.cell? ⟨b2, off2 + j * 4 + 1, none⟩ = some (.int .u64 (q.1.2.1.toNat : Int)) := fun zz => Later.cell hcq.c1 (World.block_lt_of_cell? _ _ hcq.c1) zz
              have q2 : ∀ zz : Later wr.heap.size wr, zz.val.cell? ⟨b2, off2 + j * 4 + 2, none⟩ = some (.int .u64 (q.1.2.2.toNat : Int)) := fun zz => Later.cell hcq.c2 (World.block_lt_of_cell? _ _ hcq.c2) zz
              have q3 : ∀ zz : Later wr.heap.size wr, zz.val.cell? ⟨b2, off2 + j * 4 + 3, none⟩ = some (.int .i64 q.2) := fun zz => Later.cell hcq.c3 (World.block_lt_of_cell? _ _ hcq.c3) zz
              have r0 : ∀ zz : Later wr.heap.size wr, zz.val.cell? ⟨b2, off2 + k * 4, none⟩ = some (.int .u8 (r.1.1.toNat : Int)) := fun zz => Later.cell hcr.c0 (World.block_lt_of_cell? _ _ hcr.c0) zz
              have r1 : ∀ zz : Later wr.heap.size wr, zz.val.cell? ⟨b2, off2 + k * 4 + 1, none⟩ = some (.int .u64 (r.1.2.1.toNat : Int)) := fun zz => Later.cell hcr.c1 (World.block_lt_of_cell? _ _ hcr.c1) zz
              have r2 : ∀ zz : Later wr.heap.size wr, zz.val.cell? ⟨b2, off2 + k * 4 + 2, none⟩ = some (.int .u64 (r.1.2.2.toNat : Int)) := fun zz => Later.cell hcr.c2 (World.block_lt_of_cell? _ _ hcr.c2) zz
              have r3 : ∀ zz : Later wr.heap.size wr, zz.val.cell? ⟨b2, off2 + k * 4 + 3, none⟩ = some (.int .i64 r.2) := fun zz => Later.cell hcr.c3 (World.block_lt_of_cell? _ _ hcr.c3) zz
              clear hcq hcr
              cases ch <;> cases e <;> cases c
              all_goals
                go_wp2_with fail
                refine wp_region_later wr.heap.size (by kernel_rfl) (by kernel_rfl) ?_
                repeat (go_big_quiet_step ((go_at_call 39; with_reducible exact Later.calls (Nat.le_refl _) (HWI.out _))))
                refine wpQuiet_nil ?_
                rintro w9 ⟨yy, rfl⟩
                have HB9 := Lib.hid (below_step HB3.out yy.prop HB3.out.size)
                clear q0 q1 q2 q3 r0 r1 r2 r3 heq
                go_wp2_with fail
                go_roundw
                case rel => exact ⟨k + 1, hkt, by go_num, by rw [HSN.out]; rfl, HB9.out⟩
                case measure => simp [intOf]; omega
            · obtain rfl : k = m.length := by omega
              obtain ⟨ch, hch⟩ : ∃ c, c = isChild m q := ⟨_, rfl⟩
              rw [List.take_length, ← hch]
              have HSN := Lib.hid (filter_next (f := isChild m) hjt HQ.out hch)
              have HO9 := Lib.hid (row_kept1 HO2.out fun k hk => HB3.out.block k (HO2.out.lt k hk).2)
              have HB9 := Lib.hid (below_step HBE2.out HB3.out HBE2.out.size)
              have hcq := ((HCS.out j hjt).kept HBE2.out).kept HB3.out
              rw [← HQ.out] at hcq
              have HL := Lib.hid (show n + 1 ≤ 1099511627776 by omega)
              have HS9 := Lib.hid HB9.out.size
              clear hch
              have c0 := hcq.c0
              have c1 := hcq.c1
              have c2 := hcq.c2
              have c3 := hcq.c3
              clear hcq
              cases ch
              · go_wp2_with fail
                go_roundw
                case rel => exact ⟨j + 1, n, by omega, by omega, by go_num, Lib.hid (by rw [HSN.out]; simpa using HN2.out), by rw [HSN.out]; simpa using HO9.out, HB9.out⟩
                case measure => simp [intOf]; omega
              · go_wp2_with (at_builtin; refine wpList_append1 rfl (.tmp 75) (.tmp 80) 30 rfl wo.heap.size 36 _ 4 32 Try.underlying30 infoR rfl (by decide) _ n (((m.take j).filter (isChild m)).flatMap encC) (encC q) rfl HO9.out _ 1 rfl rfl rfl (encC_one1 q) HL.out (by decide) HS9.out wo.heap.size wo HB9.out (Nat.le_refl _) ?_; intro v' w' ho hgr hb' hsz'; have HO4 := Lib.hid ho; have HB4 := Lib.hid hb'; clear ho hgr hb' hsz')
                go_roundw
                case rel =>
                  refine ⟨j + 1, n + 1, by omega, by omega, by go_num, Lib.hid (by rw [HSN.out, List.length_append, ← HN2.out]; rfl), ?_, HB4.out⟩
                  rw [HSN.out]
                  have := HO4.out
                  simpa [List.flatMap_append] using this
                case measure => simp [intOf]; omega
        · obtain rfl : j = m.length := by omega
          have HX := Lib.hid (show (m.take m.length).filter (isChild m) = childrenL l p by rw [List.take_length]; exact HFIN.out)
          go_wp2_with fail
          go_ret
          refine ⟨_, rfl, ?_, HB0.out.trans ((HBE.out.mono (Nat.le_of_lt hzw)).trans (HBE2.out.mono (by have := HBE.out.size; omega)))⟩
          have h1 := HO2.out
          have h2 := HN2.out
          rw [HX.out] at h1 h2
          rw [← h2]
          exact owns_mono h1 (by have := HBE.out.size; omega)
end Go.Proofs.Try.Pfx
