/- Lists of prefixes: in memory; their order; where one stands; right. -/
import Derived.Test.YtbhnpndkdhhpfaaPsI
set_option linter.unusedVariables false
set_option linter.unusedSimpArgs false
namespace Go.Proofs.Try.Pfx
open Go.RowKit Go.Cph Go.Cph.Px

abbrev encC (p : Pf) : List Value := [.int .u8 (p.1.1.toNat : Int), .int .u64 (p.1.2.1.toNat : Int), .int .u64 (p.1.2.2.toNat : Int), .int .i64 p.2]
abbrev PfsAt (w : World) (v : Value) (l : List Pf) : Prop := Elems encC 4 w v l
theorem encC_len (p : Pf) : (encC p).length = 4 := rfl
theorem encC_one {l : List Pf} : ∀ u ∈ l.flatMap encC, u.oneCell' = true := by
  intro u hu
  obtain ⟨y, _, hy⟩ := List.mem_flatMap.1 hu
  simp only [encC, List.mem_cons, List.not_mem_nil, or_false] at hy
  rcases hy with rfl | rfl | rfl | rfl <;> rfl
structure CellsOf (w : World) (b o : Nat) (p : Pf) : Prop where
  c0 : w.cell? ⟨b, o, none⟩ = some (.int .u8 (p.1.1.toNat : Int))
  c1 : w.cell? ⟨b, o + 1, none⟩ = some (.int .u64 (p.1.2.1.toNat : Int))
  c2 : w.cell? ⟨b, o + 2, none⟩ = some (.int .u64 (p.1.2.2.toNat : Int))
  c3 : w.cell? ⟨b, o + 3, none⟩ = some (.int .i64 p.2)
theorem CellsOf.kept {w w' : World} {b o : Nat} {p : Pf} (h : CellsOf w b o p) (hb : Below w.heap.size w w') : CellsOf w' b o p := ⟨cell_kept hb h.c0, cell_kept hb h.c1, cell_kept hb h.c2, cell_kept hb h.c3⟩
theorem pfs_cells {w : World} {v : Value} {l : List Pf} (h : PfsAt w v l) (h0 : 0 < l.length) :
    ∃ b off cap, v = .slice (some ⟨b, off, none⟩) l.length cap ∧ ∀ i (hi : i < l.length), CellsOf w b (off + i * 4) l[i] := by
  obtain ⟨b, off, cap, hv, hc⟩ := elems_shape encC_len h h0
  exact ⟨b, off, cap, hv, fun i hi => ⟨hc i hi 0 (by omega), hc i hi 1 (by omega), hc i hi 2 (by omega), hc i hi 3 (by omega)⟩⟩
theorem boxP {w : World} {b : Nat} {p : Pf} {E : TypeId} {fr : Nat × Nat} (h : w.heap[b]? = some (.cells #[.int .u8 (p.1.1.toNat : Int), .int .u64 (p.1.2.1.toNat : Int), .int .u64 (p.1.2.2.toNat : Int), .int .i64 p.2] E fr)) : CellsOf w b 0 p :=
  ⟨by rw [blk_cell h]; rfl, by rw [blk_cell h]; rfl, by rw [blk_cell h]; rfl, by rw [blk_cell h]; rfl⟩

def cmpP (p q : Pf) : Int := if before p q then -1 else if before q p then 1 else 0
set_option maxHeartbeats 1000000 in
theorem order_any (p q : Pf) (w : World) : Calls Try.prog 61 #[encP p, encP q] w fun e w' => e = .returned (.int .i64 (cmpP p q)) ∧ Below w.heap.size w w' := by
  have HC := Lib.hid (before_any p q)
  have HD := Lib.hid (before_any q p)
  obtain ⟨r, hr⟩ : ∃ r, r = before p q := ⟨_, rfl⟩
  obtain ⟨h, hh⟩ : ∃ r, r = before q p := ⟨_, rfl⟩
  have HV := Lib.hid (show cmpP p q = if r then -1 else if h then 1 else 0 by rw [hr, hh]; rfl)
  have HR := Lib.hid hr
  have HH := Lib.hid hh
  clear hr hh
  obtain ⟨⟨f, hi, lo⟩, bits⟩ := p
  obtain ⟨⟨g, hj, lp⟩, cb⟩ := q
  have hbx : Below w.heap.size w ((w.alloc (.cells #[.int .u8 (f.toNat : Int), .int .u64 (hi.toNat : Int), .int .u64 (lo.toNat : Int), .int .i64 bits] 27)).alloc (.cells #[.int .u8 (g.toNat : Int), .int .u64 (hj.toNat : Int), .int .u64 (lp.toNat : Int), .int .i64 cb] 27)) := ((Below.refl _ _).alloc (Nat.le_refl _) _).alloc (by simp) _
  have HBX := Lib.hid hbx
  clear hbx
  cases r
  · cases h
    all_goals
      go_enter Try.func61, Try.ntmps61
      go_wp2_with fail
      refine (HC.out _).mono ?_
      rintro e w1 ⟨rfl, hb⟩
      rw [← HR.out]
      have HB := Lib.hid (below_step HBX.out hb HBX.out.size)
      obtain ⟨hc, hf⟩ := bcell hb
      have hz : w.heap.size + 1 < w1.heap.size := by have := hb.size; simp at this; omega
      have hz2 : w.heap.size < w1.heap.size := by omega
      clear hb
      go_wp2_with fail
      refine (HD.out _).mono ?_
      rintro e w2 ⟨rfl, hb⟩
      rw [← HH.out]
      have HB2 := Lib.hid (below_step HB.out hb HB.out.size)
      clear hb hc hf
      go_wp2_with fail
      go_ret
      exact ⟨ret_int (by rw [HV.out]; rfl), HB2.out⟩
  · go_enter Try.func61, Try.ntmps61
    go_wp2_with fail
    refine (HC.out _).mono ?_
    rintro e w1 ⟨rfl, hb⟩
    rw [← HR.out]
    have HB := Lib.hid (below_step HBX.out hb HBX.out.size)
    clear hb
    go_wp2_with fail
    go_ret
    exact ⟨ret_int (by rw [HV.out]; rfl), HB.out⟩
theorem cmpP_neg {p q : Pf} : decide (cmpP p q < 0) = before p q := by
  unfold cmpP
  cases before p q
  · cases before q p <;> simp
  · simp
theorem cmpP_zero {p q : Pf} : (cmpP p q == 0) = (p == q) := by
  unfold cmpP
  by_cases h1 : before p q = true
  · rw [if_pos h1]
    have : p ≠ q := by rintro rfl; rw [before_irrefl] at h1; cases h1
    simp [this]
  · rw [if_neg h1]
    by_cases h2 : before q p = true
    · rw [if_pos h2]
      have : p ≠ q := by rintro rfl; rw [before_irrefl] at h2; cases h2
      simp [this]
    · rw [if_neg h2]
      have := before_total (by simpa using h1) (by simpa using h2)
      simp [this]

/-- What lies within the bounds of a search. -/
structure Bnd (l : List Pf) (p : Pf) (i j : Nat) : Prop where
  le : i ≤ j
  jl : j ≤ l.length
  lo : ∀ a (h : a < l.length), a < i → before l[a] p = true
  hi : ∀ a (h : a < l.length), j ≤ a → before l[a] p = false
theorem Bnd.up {l : List Pf} {p : Pf} {i j h : Nat} (hb : Bnd l p i j) (ho : l.Pairwise (fun p q => before p q = true)) (h1 : h < j) (hl : h < l.length) (hc : before l[h] p = true) : Bnd l p (h + 1) j :=
  ⟨by omega, hb.jl, fun a ha hlt => by
    rcases Nat.lt_or_ge a h with h2 | h2
    · exact before_trans (List.pairwise_iff_getElem.1 ho a h ha hl h2) hc
    · have : a = h := by omega
      subst this; exact hc, hb.hi⟩
theorem Bnd.down {l : List Pf} {p : Pf} {i j h : Nat} (hb : Bnd l p i j) (ho : l.Pairwise (fun p q => before p q = true)) (h0 : i ≤ h) (hl : h < l.length) (hc : before l[h] p = false) : Bnd l p i h :=
  ⟨h0, by omega, hb.lo, fun a ha hle => by
    rcases Nat.lt_or_ge h a with h2 | h2
    · rw [Bool.eq_false_iff]; intro h3
      rw [before_trans (List.pairwise_iff_getElem.1 ho h a hl ha h2) h3] at hc; cases hc
    · have : a = h := by omega
      subst this; exact hc⟩
def SearchPost (l : List Pf) (p : Pf) (w : World) (e : Ending) (w' : World) : Prop :=
  e = .returned (.tuple #[.int .i64 (pos l p), .bool (decide (p ∈ l))]) ∧ Below w.heap.size w w'

set_option maxRecDepth 100000 in
set_option maxHeartbeats 1500000 in
theorem search (v : Value) (l : List Pf) (p : Pf) (w : World) (h : PfsAt w v l) (hr : Rises l) (hn : l.length ≤ 1000000) :
    Calls Try.prog 60 #[v, encP p, .func (.func 61) #[] #[]] w (SearchPost l p w) := by
  obtain ⟨ao, cap, hv⟩ := elems_slice h
  have HV := Lib.hid h
  subst hv
  have HR := Lib.hid hr
  clear h hr
  have hbx : Below w.heap.size w (w.alloc (.cells #[.int .u8 (p.1.1.toNat : Int), .int .u64 (p.1.2.1.toNat : Int), .int .u64 (p.1.2.2.toNat : Int), .int .i64 p.2] 27)) := (Below.refl _ _).alloc (Nat.le_refl _) _
  have HBX := Lib.hid hbx
  have HPX := Lib.hid (heap_alloc_new w (.cells #[.int .u8 (p.1.1.toNat : Int), .int .u64 (p.1.2.1.toNat : Int), .int .u64 (p.1.2.2.toNat : Int), .int .i64 p.2] 27))
  clear hbx
  go_enter Try.func60, Try.ntmps60
  go_wp2_with fail
  generalize (w.alloc (.cells #[.int .u8 (p.1.1.toNat : Int), .int .u64 (p.1.2.1.toNat : Int), .int .u64 (p.1.2.2.toNat : Int), .int .i64 p.2] 27)) = w0 at *
  go_loopw [9, 10] (fun vi vj wr => ∃ i j : Nat, vi = .int .i64 i ∧ vj = .int .i64 j ∧ Bnd l p i j ∧ Below w0.heap.size w0 wr) (fun vi vj _ => (intOf vj - intOf vi).toNat)
  case atStart => exact ⟨0, l.length, rfl, rfl, ⟨Nat.zero_le _, Nat.le_refl _, fun _ _ h => by omega, fun _ _ h => by omega⟩, Below.refl _ _⟩
  case round =>
    obtain ⟨i, j, rfl, rfl, hbd, hbel⟩ := hrel
    have HBD := Lib.hid hbd
    have HBE := Lib.hid hbel
    have hij := hbd.le
    have hjl := hbd.jl
    clear hbd hbel
    by_cases hlt : i < j
    · go_wp2_with fail
      obtain ⟨m, hm⟩ : ∃ m, m = (i + j) / 2 := ⟨_, rfl⟩
      have hmi : i ≤ m := by omega
      have hmj : m < j := by omega
      have hml : m < l.length := by omega
      have e : ((i : Int) + (j : Int)) / 2 = (m : Int) := by omega
      rw [e]
      clear e hm
      have hv := (HV.out.kept HBX.out).kept HBE.out
      obtain ⟨b, off, cap', hve, hcs⟩ := pfs_cells HV.out (by omega)
      cases hve
      have hcm := ((hcs m hml).kept HBX.out).kept HBE.out
      have hcp := (boxP HPX.out).kept HBE.out
      have hord := order_any l[m] p
      have hbef : before l[m] p = true ∧ cmpP l[m] p < 0 ∨ before l[m] p = false ∧ ¬ cmpP l[m] p < 0 := by
        have := @cmpP_neg l[m] p
        cases hb : before l[m] p with
        | true => rw [hb] at this; exact .inl ⟨rfl, by simpa using this⟩
        | false => rw [hb] at this; exact .inr ⟨rfl, by simpa using this⟩
      have HBF := Lib.hid hbef
      clear hbef hv hcs
      generalize cmpP l[m] p = c at *
      obtain ⟨q, hq⟩ : ∃ q, q = l[m] := ⟨_, rfl⟩
      rw [← hq] at hcm hord HBF
      have HQ := Lib.hid hq
      have HO := Lib.hid hord
      clear hq hord
      have d0 : ∀ x : Later wr.heap.size wr, x.val.cell? ⟨b, off + m * 4, none⟩ = some (.int .u8 (q.1.1.toNat : Int)) := fun x => Later.cell hcm.c0 (World.block_lt_of_cell? _ _ hcm.c0) x
      have d1 : ∀ x : Later wr.heap.size wr, x.val.cell? ⟨b, off + m * 4 + 1, none⟩ = some (.int .u64 (q.1.2.1.toNat : Int)) := fun x => Later.cell hcm.c1 (World.block_lt_of_cell? _ _ hcm.c1) x
      have d2 : ∀ x : Later wr.heap.size wr, x.val.cell? ⟨b, off + m * 4 + 2, none⟩ = some (.int .u64 (q.1.2.2.toNat : Int)) := fun x => Later.cell hcm.c2 (World.block_lt_of_cell? _ _ hcm.c2) x
      have d3 : ∀ x : Later wr.heap.size wr, x.val.cell? ⟨b, off + m * 4 + 3, none⟩ = some (.int .i64 q.2) := fun x => Later.cell hcm.c3 (World.block_lt_of_cell? _ _ hcm.c3) x
      have g0 : ∀ x : Later wr.heap.size wr, x.val.cell? ⟨w.heap.size, 0, none⟩ = some (.int .u8 (p.1.1.toNat : Int)) := fun x => Later.cell hcp.c0 (World.block_lt_of_cell? _ _ hcp.c0) x
      have g1 : ∀ x : Later wr.heap.size wr, x.val.cell? ⟨w.heap.size, 1, none⟩ = some (.int .u64 (p.1.2.1.toNat : Int)) := fun x => Later.cell hcp.c1 (World.block_lt_of_cell? _ _ hcp.c1) x
      have g2 : ∀ x : Later wr.heap.size wr, x.val.cell? ⟨w.heap.size, 2, none⟩ = some (.int .u64 (p.1.2.2.toNat : Int)) := fun x => Later.cell hcp.c2 (World.block_lt_of_cell? _ _ hcp.c2) x
      have g3 : ∀ x : Later wr.heap.size wr, x.val.cell? ⟨w.heap.size, 3, none⟩ = some (.int .i64 p.2) := fun x => Later.cell hcp.c3 (World.block_lt_of_cell? _ _ hcp.c3) x
      have m0 : (0 : Int) ≤ (m : Int) := by omega
      have m1 : (m : Int) < (l.length : Int) := by omega
      clear hcm hcp
      refine wp_region_later wr.heap.size (by kernel_rfl) (by kernel_rfl) ?_
      repeat (quiet_step ((go_at_call 61; exact Later.calls (Nat.le_refl _) (HO.out _))))
      refine wpQuiet_nil ?_
      rintro w2 ⟨x, rfl⟩
      have HB2 := Lib.hid (below_step HBE.out x.prop HBE.out.size)
      clear d0 d1 d2 d3 g0 g1 g2 g3
      rcases HBF.out with ⟨hb, hc⟩ | ⟨hb, hc⟩
      · have HB3 := Lib.hid hb
        clear hb
        go_wp2_with fail
        go_roundw
        case rel => exact ⟨m + 1, j, by go_num, rfl, HBD.out.up HR.out.ord hmj hml (by rw [← HQ.out]; exact HB3.out), HB2.out⟩
        case measure => simp [intOf]; omega
      · have HB3 := Lib.hid hb
        clear hb
        go_wp2_with fail
        go_roundw
        case rel => exact ⟨i, m, rfl, rfl, HBD.out.down HR.out.ord hmi hml (by rw [← HQ.out]; exact HB3.out), HB2.out⟩
        case measure => simp [intOf]; omega
    · have hie : i = j := by omega
      subst hie
      have hpl := place_pos (l := l) (p := p) (i := i) ⟨hjl, HBD.out.lo, HBD.out.hi⟩
      have hth := HR.out.there p
      rw [hpl] at hth
      have HP := Lib.hid hpl
      have HT := Lib.hid hth
      clear hpl hth
      by_cases hil : i < l.length
      · have k1 : decide ((i : Int) < (l.length : Int)) = true := by simpa using hil
        obtain ⟨b, off, cap', hve, hcs⟩ := pfs_cells HV.out (by omega)
        cases hve
        have hcm := ((hcs i hil).kept HBX.out).kept HBE.out
        have hcp := (boxP HPX.out).kept HBE.out
        have hord := order_any l[i] p
        have hbef := @cmpP_zero l[i] p
        have HBF := Lib.hid hbef
        clear hbef hcs
        generalize cmpP l[i] p = c at *
        obtain ⟨q, hq⟩ : ∃ q, q = l[i] := ⟨_, rfl⟩
        rw [← hq] at hcm hord HBF
        have HQ := Lib.hid hq
        have HO := Lib.hid hord
        clear hq hord
        have d0 : ∀ x : Later wr.heap.size wr, x.val.cell? ⟨b, off + i * 4, none⟩ = some (.int .u8 (q.1.1.toNat : Int)) := fun x => Later.cell hcm.c0 (World.block_lt_of_cell? _ _ hcm.c0) x
        have d1 : ∀ x : Later wr.heap.size wr, x.val.cell? ⟨b, off + i * 4 + 1, none⟩ = some (.int .u64 (q.1.2.1.toNat : Int)) := fun x => Later.cell hcm.c1 (World.block_lt_of_cell? _ _ hcm.c1) x
        have d2 : ∀ x : Later wr.heap.size wr, x.val.cell? ⟨b, off + i * 4 + 2, none⟩ = some (.int .u64 (q.1.2.2.toNat : Int)) := fun x => Later.cell hcm.c2 (World.block_lt_of_cell? _ _ hcm.c2) x
        have d3 : ∀ x : Later wr.heap.size wr, x.val.cell? ⟨b, off + i * 4 + 3, none⟩ = some (.int .i64 q.2) := fun x => Later.cell hcm.c3 (World.block_lt_of_cell? _ _ hcm.c3) x
        have g0 : ∀ x : Later wr.heap.size wr, x.val.cell? ⟨w.heap.size, 0, none⟩ = some (.int .u8 (p.1.1.toNat : Int)) := fun x => Later.cell hcp.c0 (World.block_lt_of_cell? _ _ hcp.c0) x
        have g1 : ∀ x : Later wr.heap.size wr, x.val.cell? ⟨w.heap.size, 1, none⟩ = some (.int .u64 (p.1.2.1.toNat : Int)) := fun x => Later.cell hcp.c1 (World.block_lt_of_cell? _ _ hcp.c1) x
        have g2 : ∀ x : Later wr.heap.size wr, x.val.cell? ⟨w.heap.size, 2, none⟩ = some (.int .u64 (p.1.2.2.toNat : Int)) := fun x => Later.cell hcp.c2 (World.block_lt_of_cell? _ _ hcp.c2) x
        have g3 : ∀ x : Later wr.heap.size wr, x.val.cell? ⟨w.heap.size, 3, none⟩ = some (.int .i64 p.2) := fun x => Later.cell hcp.c3 (World.block_lt_of_cell? _ _ hcp.c3) x
        have m0 : (0 : Int) ≤ (i : Int) := by omega
        have m1 : (i : Int) < (l.length : Int) := by omega
        clear hcm hcp
        go_wp2_with fail
        refine wp_region_later wr.heap.size (by kernel_rfl) (by kernel_rfl) ?_
        repeat (quiet_step ((go_at_call 61; exact Later.calls (Nat.le_refl _) (HO.out _))))
        refine wpQuiet_nil ?_
        rintro w2 ⟨x, rfl⟩
        have HB2 := Lib.hid (below_step HBE.out x.prop HBE.out.size)
        clear d0 d1 d2 d3 g0 g1 g2 g3
        go_wp2_with fail
        go_ret2
        refine ⟨?_, below_step HBX.out HB2.out HBX.out.size⟩
        rw [HP.out]
        have hb : (q == p) = decide (p ∈ l) := by
          rw [Bool.eq_iff_iff, beq_iff_eq, decide_eq_true_eq, HT.out, HQ.out]
          exact ⟨fun e => ⟨hil, e⟩, fun ⟨_, e⟩ => e⟩
        rw [← hb, ← HBF.out]
        rfl
      · obtain rfl : i = l.length := by omega
        have hnm : decide (p ∈ l) = false := by
          rw [decide_eq_false_iff_not, HT.out]
          rintro ⟨h, _⟩
          omega
        have HN := Lib.hid hnm
        clear hnm hil
        go_wp2_with fail
        go_quiet (fail)
        have HB2 := Lib.hid (show Below w0.heap.size w0 (wr.drewN nq) from HBE.out.trans ⟨rfl, rfl, rfl, Nat.le_refl _, fun _ _ => rfl⟩)
        go_wp2_with fail
        go_ret2
        refine ⟨?_, below_step HBX.out HB2.out HBX.out.size⟩
        rw [HP.out, HN.out]
        rfl
end Go.Proofs.Try.Pfx
