/- Children of a prefix. -/
import Derived.Test.YtbhnpndkdhhpfaaPsO
set_option linter.unusedVariables false
set_option linter.unusedSimpArgs false
namespace Go.Proofs.Try.Pfx
open Go.RowKit Go.Cph Go.Cph.Px

theorem cell_one {w : World} {b : Nat} {v : Value} {E : TypeId} {fr : Nat × Nat} (h : w.heap[b]? = some (.cells #[v] E fr)) : w.cell? ⟨b, 0, none⟩ = some v := by rw [blk_cell h]; rfl
/-- The closure's boxes. -/
structure Kin (w : World) (p : Pf) (wr : World) : Prop where
  box : wr.heap[w.heap.size]? = some (.cells #[.int .u8 (p.1.1.toNat : Int), .int .u64 (p.1.2.1.toNat : Int), .int .u64 (p.1.2.2.toNat : Int), .int .i64 p.2] 27 (0, 0))
  fn : wr.heap[w.heap.size + 1]? = some (.cells #[.func (.func 40) #[] #[]] 64 (0, 0))
  bel : Below w.heap.size w wr
theorem Kin.later {w w0 wr : World} {p : Pf} (h : Kin w p w0) (hb : Below (w.heap.size + 2) w0 wr) : Kin w p wr := ⟨blk_below hb h.box (by omega), blk_below hb h.fn (by omega), h.bel.trans (hb.mono (by omega))⟩
theorem Kin.later1 {w w0 wr : World} {p : Pf} (h : Kin w p w0) (hb : Below w0.heap.size w0 wr) : Kin w p wr := ⟨blk_kept hb h.box, blk_kept hb h.fn, below_step h.bel hb h.bel.size⟩
def ListPost (out : List Pf) (w : World) (e : Ending) (w' : World) : Prop :=
  ∃ v', e = .returned v' ∧ w'.ownsRow w.heap.size TP 4 v' out.length (out.flatMap encC) ∧ Below w.heap.size w w'
set_option maxRecDepth 100000 in
set_option maxHeartbeats 4000000 in
theorem children (v : Value) (l : List Pf) (p : Pf) (w : World) (h : PfsAt w v l) (hn : l.length ≤ 1000000) :
    Calls Try.prog 19 #[v, encP p] w (ListPost (childrenL l p) w) := by
  obtain ⟨ao, cap, hv⟩ := elems_slice h
  have HV := Lib.hid h
  subst hv
  clear h
  go_enter Try.func19, Try.ntmps19
  go_wp2_with fail
  have HK := Lib.hid (show Kin w p ((w.alloc (.cells #[.int .u8 (p.1.1.toNat : Int), .int .u64 (p.1.2.1.toNat : Int), .int .u64 (p.1.2.2.toNat : Int), .int .i64 p.2] 27)).alloc (.cells #[.func (.func 40) #[] #[]] 64)) from by
    refine ⟨blk_alloc (heap_alloc_new _ _) _, ?_, ((Below.refl _ _).alloc (Nat.le_refl _) _).alloc (by simp) _⟩
    have := heap_alloc_new (w.alloc (.cells #[.int .u8 (p.1.1.toNat : Int), .int .u64 (p.1.2.1.toNat : Int), .int .u64 (p.1.2.2.toNat : Int), .int .i64 p.2] 27)) (.cells #[.func (.func 40) #[] #[]] 64)
    rw [World.size_alloc] at this
    exact this)
  generalize (w.alloc (.cells #[.int .u8 (p.1.1.toNat : Int), .int .u64 (p.1.2.1.toNat : Int), .int .u64 (p.1.2.2.toNat : Int), .int .i64 p.2] 27)).alloc (.cells #[.func (.func 40) #[] #[]] 64) = w0 at *
  go_loopw [5, 12] (fun vo vi wr => ∃ k : Nat, k ≤ l.length ∧ vi = .int .i64 k ∧ wr.ownsRow (w.heap.size + 2) TP 4 vo ((l.take k).filter (childB l p)).length (((l.take k).filter (childB l p)).flatMap encC) ∧ Below (w.heap.size + 2) w0 wr) (fun _ vi _ => l.length - (intOf vi).toNat)
  case atStart => exact ⟨0, Nat.zero_le _, rfl, World.ownsRow_nil _ _ _ _, Below.refl _ _⟩
  case round =>
    obtain ⟨k, hk, rfl, hown, hbel⟩ := hrel
    have HO := Lib.hid hown
    have HBE := Lib.hid hbel
    have HKR := Lib.hid (HK.out.later hbel)
    clear hown hbel
    obtain ⟨ov, hov⟩ : ∃ o, o = (l.take k).filter (childB l p) := ⟨_, rfl⟩
    rw [← hov] at HO
    have HOV := Lib.hid hov
    clear hov
    have hol : ov.length ≤ l.length := by rw [HOV.out]; exact Nat.le_trans (List.length_filter_le _ _) (by simp; omega)
    by_cases hlt : k < l.length
    · obtain ⟨b, off, cap', hve, hcs⟩ := pfs_cells HV.out (by omega)
      cases hve
      have hcm := (hcs k hlt).kept HKR.out.bel
      clear hcs
      obtain ⟨q, hq⟩ : ∃ q, q = l[k] := ⟨_, rfl⟩
      rw [← hq] at hcm
      have HSN := Lib.hid (show (l.take (k + 1)).filter (childB l p) = if childB l p q then ov ++ [q] else ov by rw [List.take_succ_eq_append_getElem hlt, List.filter_append, ← HOV.out, ← hq]; cases h : childB l p q <;> simp [h])
      clear hq
      have c0 := hcm.c0
      have c1 := hcm.c1
      have c2 := hcm.c2
      have c3 := hcm.c3
      have m1 : (k : Int) < (l.length : Int) := by omega
      have hbx : Below wr.heap.size wr (wr.alloc (.cells #[.int .u8 (q.1.1.toNat : Int), .int .u64 (q.1.2.1.toNat : Int), .int .u64 (q.1.2.2.toNat : Int), .int .i64 q.2] 27)) := (Below.refl _ _).alloc (Nat.le_refl _) _
      have hfn := cell_one (blk_kept hbx HKR.out.fn)
      have hpp := boxP (p := p) (blk_kept hbx HKR.out.box)
      have hqq := boxP (p := q) (heap_alloc_new wr (.cells #[.int .u8 (q.1.1.toNat : Int), .int .u64 (q.1.2.1.toNat : Int), .int .u64 (q.1.2.2.toNat : Int), .int .i64 q.2] 27))
      have p0 := hpp.c0
      have p1 := hpp.c1
      have p2 := hpp.c2
      have p3 := hpp.c3
      have q0 := hqq.c0
      have q1 := hqq.c1
      have q2 := hqq.c2
      have q3 := hqq.c3
      have HBX := Lib.hid hbx
      have HQ := Lib.hid (heap_alloc_new wr (.cells #[.int .u8 (q.1.1.toNat : Int), .int .u64 (q.1.2.1.toNat : Int), .int .u64 (q.1.2.2.toNat : Int), .int .i64 q.2] 27))
      clear hcm hbx hpp hqq
      obtain ⟨ins, hins⟩ : ∃ r, r = inside q p := ⟨_, rfl⟩
      have HINS := Lib.hid hins
      clear hins
      have hlw : w.heap.size + 1 < wr.heap.size := blk_lt HKR.out.fn
      go_wp2_with fail
      refine (insideFn q p _).mono ?_
      rintro e w2 ⟨rfl, hb⟩
      rw [← HINS.out]
      have HB2 := Lib.hid (below_step (below_step HBE.out (HBX.out.mono (Nat.le_refl _)) (by have := HBE.out.size; omega)) hb (by simp; omega))
      have HKR2 := Lib.hid ((HKR.out.later1 HBX.out).later1 hb)
      have HQ2 := Lib.hid (blk_kept hb HQ.out)
      have HO2 := Lib.hid (row_kept1 (row_kept1 HO.out fun k hk => HBX.out.block k (HO.out.lt k hk).2) fun k hk => hb.block k (by have := (HO.out.lt k hk).2; simp; omega))
      clear hb c0 c1 c2 c3 hfn p0 p1 p2 p3 q0 q1 q2 q3
      have hlw2 : wr.heap.size < w2.heap.size := blk_lt HQ2.out
      cases ins
      · have HCB := Lib.hid (show childB l p q = false by unfold childB; rw [← HINS.out]; rfl)
        go_wp2_with fail
        go_roundw
        case rel => exact ⟨k + 1, hlt, by go_num, by rw [HSN.out, HCB.out]; exact HO2.out, HB2.out⟩
        case measure => simp [intOf]; omega
      · have HCB := Lib.hid (show childB l p q = !(l.any (deeperB p q)) by unfold childB; rw [← HINS.out]; rfl)
        have hcap : Cap p q (w.heap.size + 1) w.heap.size wr.heap.size w2 := ⟨cell_one HKR2.out.fn, boxP (p := p) HKR2.out.box, boxP (p := q) HQ2.out⟩
        have HCAP := Lib.hid hcap
        clear hcap
        go_wp2_with fail
        refine (containsFn _ l p q (w.heap.size + 1) w.heap.size wr.heap.size _ (HV.out.kept HKR2.out.bel) (by omega) HCAP.out).mono ?_
        rintro e w3 ⟨rfl, hb⟩
        have HB3 := Lib.hid (below_step HB2.out hb (by omega))
        have HKR3 := Lib.hid (HKR2.out.later1 hb)
        have HO3 := Lib.hid (row_kept1 HO2.out fun k hk => hb.block k (HO2.out.lt k hk).2)
        have hqq := boxP (p := q) (blk_kept hb HQ2.out)
        have g0 := hqq.c0
        have g1 := hqq.c1
        have g2 := hqq.c2
        have g3 := hqq.c3
        have hlw3 : w2.heap.size ≤ w3.heap.size := hb.size
        clear hb hqq
        obtain ⟨d, hd⟩ : ∃ d, d = l.any (deeperB p q) := ⟨_, rfl⟩
        rw [← hd] at HCB ⊢
        clear hd
        cases d
        · have hB : w.heap.size + 2 ≤ w3.heap.size := by omega
          have HBB := Lib.hid hB
          have HL := Lib.hid (show ov.length + 1 ≤ 1099511627776 by omega)
          clear hB
          go_wp2_with (at_builtin; refine wpList_append1 rfl (.tmp 26) (.tmp 28) 22 rfl (w.heap.size + 2) 27 _ 4 32 Try.underlying22 infoP rfl (by decide) _ ov.length (ov.flatMap encC) (encC q) rfl HO3.out _ 1 rfl rfl rfl (encC_one1 q) HL.out (by decide) HBB.out (w.heap.size + 2) w0 HB3.out (Nat.le_refl _) ?_; intro v' w' ho hgr hb' hsz'; have HO4 := Lib.hid ho; have HB4 := Lib.hid hb'; clear ho hgr hb' hsz')
          go_roundw
          case rel =>
            refine ⟨k + 1, hlt, by go_num, ?_, HB4.out⟩
            rw [HSN.out, HCB.out]
            have := HO4.out
            simpa [List.flatMap_append] using this
          case measure => simp [intOf]; omega
        · go_wp2_with fail
          go_roundw
          case rel => exact ⟨k + 1, hlt, by go_num, by rw [HSN.out, HCB.out]; exact HO3.out, HB3.out⟩
          case measure => simp [intOf]; omega
    · have HX := Lib.hid (show childrenL l p = ov by rw [HOV.out, List.take_of_length_le (by omega)]; rfl)
      go_wp2_with fail
      go_ret
      refine ⟨_, rfl, ?_, HKR.out.bel⟩
      rw [HX.out]
      exact owns_mono HO.out (by omega)
end Go.Proofs.Try.Pfx
