/- The prefix with the most bits of those that are such: of an address, of a prefix. -/
import Derived.Test.YtbhnpndkdhhpfaaPsM
set_option linter.unusedVariables false
set_option linter.unusedSimpArgs false
namespace Go.Proofs.Try.Pfx
open Go.RowKit Go.Cph Go.Cph.Px

def MostPost (such : Pf → Bool) (l : List Pf) (w : World) (e : Ending) (w' : World) : Prop :=
  e = .returned (.tuple #[encP ((mostL such l).getD zeroP), .bool (mostL such l).isSome]) ∧ Below w.heap.size w w'
theorem stepM_no {such : Pf → Bool} {b : Option Pf} {q : Pf} (h : such q = false) : stepM such b q = b := by unfold stepM; rw [h]; simp
theorem stepM_first {such : Pf → Bool} {q : Pf} (h : such q = true) : stepM such none q = some q := by unfold stepM; rw [h]; simp [better]
theorem stepM_up {such : Pf → Bool} {x q : Pf} (h : such q = true) (hb : x.2 < q.2) : stepM such (some x) q = some q := by unfold stepM; rw [h]; simp [better, hb]
theorem stepM_keep {such : Pf → Bool} {x q : Pf} (hb : ¬ x.2 < q.2) : stepM such (some x) q = some x := by unfold stepM; simp [better, hb]
/-- The best one so far lies in the result's box. -/
structure Top (w wr : World) (best : Option Pf) : Prop where
  box : wr.heap[w.heap.size]? = some (.cells #[.int .u8 ((best.getD zeroP).1.1.toNat : Int), .int .u64 ((best.getD zeroP).1.2.1.toNat : Int), .int .u64 ((best.getD zeroP).1.2.2.toNat : Int), .int .i64 (best.getD zeroP).2] 27 (0, 0))
  bel : Below w.heap.size w wr
theorem Top.kept {w wr w' : World} {best : Option Pf} (h : Top w wr best) (hb : Below wr.heap.size wr w') : Top w w' best := ⟨blk_kept hb h.box, below_step h.bel hb h.bel.size⟩
theorem Top.stored {w wr : World} {best : Option Pf} (h : Top w wr best) (q : Pf) :
    Top w ((((wr.setCell ⟨w.heap.size, 0, none⟩ (.int .u8 (q.1.1.toNat : Int))).setCell ⟨w.heap.size, 1, none⟩ (.int .u64 (q.1.2.1.toNat : Int))).setCell ⟨w.heap.size, 2, none⟩ (.int .u64 (q.1.2.2.toNat : Int))).setCell ⟨w.heap.size, 3, none⟩ (.int .i64 q.2)) (some q) :=
  ⟨blk_set (blk_set (blk_set (blk_set h.box 0 _) 1 _) 2 _) 3 _, (((h.bel.setCell (p := ⟨w.heap.size, 0, none⟩) (Nat.le_refl _) _).setCell (p := ⟨w.heap.size, 1, none⟩) (Nat.le_refl _) _).setCell (p := ⟨w.heap.size, 2, none⟩) (Nat.le_refl _) _).setCell (p := ⟨w.heap.size, 3, none⟩) (Nat.le_refl _) _⟩
theorem boxA {w : World} {b : Nat} {a : Ad} {E : TypeId} {fr : Nat × Nat} (h : w.heap[b]? = some (.cells #[.int .u8 (a.1.toNat : Int), .int .u64 (a.2.1.toNat : Int), .int .u64 (a.2.2.toNat : Int)] E fr)) :
    w.cell? ⟨b, 0, none⟩ = some (.int .u8 (a.1.toNat : Int)) ∧ w.cell? ⟨b, 1, none⟩ = some (.int .u64 (a.2.1.toNat : Int)) ∧ w.cell? ⟨b, 2, none⟩ = some (.int .u64 (a.2.2.toNat : Int)) :=
  ⟨by rw [blk_cell h]; rfl, by rw [blk_cell h]; rfl, by rw [blk_cell h]; rfl⟩
set_option maxHeartbeats 1000000 in
theorem innerFn (p : Pf) (a : Ad) (ba : Nat) (w : World) (h : w.heap[ba]? = some (.cells #[.int .u8 (a.1.toNat : Int), .int .u64 (a.2.1.toNat : Int), .int .u64 (a.2.2.toNat : Int)] 25 (0, 0))) :
    Calls Try.prog 37 #[encP p, .pointer (some ⟨ba, 0, none⟩)] w fun e w' => e = .returned (.bool (hasP p a)) ∧ Below w.heap.size w w' := by
  have hbx : Below w.heap.size w (w.alloc (.cells #[.int .u8 (p.1.1.toNat : Int), .int .u64 (p.1.2.1.toNat : Int), .int .u64 (p.1.2.2.toNat : Int), .int .i64 p.2] 27)) := (Below.refl _ _).alloc (Nat.le_refl _) _
  have HBX := Lib.hid hbx
  have hA := boxA (blk_kept hbx h)
  obtain ⟨a0, a1, a2⟩ := hA
  have HH := Lib.hid (hasP_any p a)
  clear hbx h
  go_enter Try.func37, Try.ntmps37
  go_wp2_with fail
  refine (HH.out _).mono ?_
  rintro e w1 ⟨rfl, hb⟩
  have HB := Lib.hid (below_step HBX.out hb HBX.out.size)
  clear hb a0 a1 a2
  go_wp2_with fail
  go_ret
  exact ⟨rfl, HB.out⟩

set_option maxRecDepth 100000 in
set_option maxHeartbeats 4000000 in
theorem mostHas (v : Value) (l : List Pf) (a : Ad) (ba : Nat) (w : World) (h : PfsAt w v l) (hn : l.length ≤ 1000000) (ha : w.heap[ba]? = some (.cells #[.int .u8 (a.1.toNat : Int), .int .u64 (a.2.1.toNat : Int), .int .u64 (a.2.2.toNat : Int)] 25 (0, 0))) :
    Calls Try.prog 36 #[v, .func (.func 37) #[] #[.pointer (some ⟨ba, 0, none⟩)]] w (MostPost (fun p => hasP p a) l w) := by
  obtain ⟨ao, cap, hv⟩ := elems_slice h
  have HV := Lib.hid h
  subst hv
  clear h
  have HA := Lib.hid ha
  clear ha
  have HT0 := Lib.hid (show Top w (w.alloc (.cells #[.int .u8 0, .int .u64 0, .int .u64 0, .int .i64 0] 27)) none from ⟨heap_alloc_new w _, (Below.refl _ _).alloc (Nat.le_refl _) _⟩)
  go_enter Try.func36, Try.ntmps36
  go_wp2_with fail
  generalize w.alloc (.cells #[.int .u8 0, .int .u64 0, .int .u64 0, .int .i64 0] 27) = w0 at *
  go_loopw [5, 10] (fun vo vi wr => ∃ k : Nat, k ≤ l.length ∧ vi = .int .i64 k ∧ vo = .bool (mostL (fun p => hasP p a) (l.take k)).isSome ∧ Top w wr (mostL (fun p => hasP p a) (l.take k))) (fun _ vi _ => l.length - (intOf vi).toNat)
  case atStart => exact ⟨0, Nat.zero_le _, rfl, rfl, HT0.out⟩
  case round =>
    obtain ⟨k, hk, rfl, rfl, htop⟩ := hrel
    obtain ⟨best, hbest⟩ : ∃ b, b = mostL (fun p => hasP p a) (l.take k) := ⟨_, rfl⟩
    rw [← hbest] at htop ⊢
    have HTP := Lib.hid htop
    have HBE := Lib.hid hbest
    clear htop hbest
    by_cases hlt : k < l.length
    · obtain ⟨b, off, cap', hve, hcs⟩ := pfs_cells HV.out (by omega)
      cases hve
      have hcm := (hcs k hlt).kept HTP.out.bel
      clear hcs
      obtain ⟨q, hq⟩ : ∃ q, q = l[k] := ⟨_, rfl⟩
      rw [← hq] at hcm
      have HSN := Lib.hid (show mostL (fun p => hasP p a) (l.take (k + 1)) = stepM (fun p => hasP p a) best q by rw [List.take_succ_eq_append_getElem hlt, mostL_snoc, ← HBE.out, hq])
      clear hq
      obtain ⟨sb, hsb⟩ : ∃ r, r = (fun p => hasP p a) q := ⟨_, rfl⟩
      have HSB := Lib.hid hsb
      clear hsb
      have c0 := hcm.c0
      have c1 := hcm.c1
      have c2 := hcm.c2
      have c3 := hcm.c3
      have m1 : (k : Int) < (l.length : Int) := by omega
      have hbx : Below wr.heap.size wr (wr.alloc (.cells #[.int .u8 (q.1.1.toNat : Int), .int .u64 (q.1.2.1.toNat : Int), .int .u64 (q.1.2.2.toNat : Int), .int .i64 q.2] 27)) := (Below.refl _ _).alloc (Nat.le_refl _) _
      have HBX := Lib.hid hbx
      have HPX := Lib.hid (boxP (p := q) (heap_alloc_new wr (.cells #[.int .u8 (q.1.1.toNat : Int), .int .u64 (q.1.2.1.toNat : Int), .int .u64 (q.1.2.2.toNat : Int), .int .i64 q.2] 27)))
      clear hbx hcm
      go_wp2_with fail
      refine (innerFn q a ba _ (blk_kept HBX.out (blk_kept HTP.out.bel HA.out))).mono ?_
      rintro e w2 ⟨rfl, hb⟩
      rw [← HSB.out]
      have HT2 := Lib.hid ((HTP.out.kept HBX.out).kept hb)
      have HQ2 := Lib.hid (HPX.out.kept hb)
      have HLT := Lib.hid (show wr.heap.size < w2.heap.size by have := hb.size; simp at this; omega)
      have HLW := Lib.hid (show w.heap.size < wr.heap.size from blk_lt HTP.out.box)
      clear hb c0 c1 c2 c3
      have hq2 := HQ2.out
      have c0 := hq2.c0
      have c1 := hq2.c1
      have c2 := hq2.c2
      have c3 := hq2.c3
      have hcase : (sb && better best q) = false ∨ (sb && better best q) = true := by cases (sb && better best q) <;> simp
      have hr2 := boxP (p := best.getD zeroP) HT2.out.box
      have d0 := hr2.c0
      have d1 := hr2.c1
      have d2 := hr2.c2
      have d3 := hr2.c3
      have hfr : ∀ j, w2.frozen? ⟨w.heap.size, j, none⟩ = false := fun j => by rw [blk_frozen HT2.out.box]; simp
      clear hq2 hr2
      cases sb with
      | false =>
        have HST := Lib.hid (show stepM (fun p => hasP p a) best q = best from stepM_no HSB.out.symm)
        clear hcase
        go_wp2_with fail
        go_roundw
        case rel => exact ⟨k + 1, hlt, by go_num, by rw [HSN.out, HST.out], by rw [HSN.out, HST.out]; exact HT2.out⟩
        case measure => simp [intOf]; omega
      | true =>
        cases best with
        | none =>
          have HST := Lib.hid (show stepM (fun p => hasP p a) none q = some q from stepM_first HSB.out.symm)
          clear hcase
          go_wp2_with fail
          go_roundw
          case rel => exact ⟨k + 1, hlt, by go_num, by rw [HSN.out, HST.out]; rfl, by rw [HSN.out, HST.out]; exact HT2.out.stored q⟩
          case measure => simp [intOf]; omega
        | some x =>
          by_cases hlb : x.2 < q.2
          · have HST := Lib.hid (show stepM (fun p => hasP p a) (some x) q = some q from stepM_up HSB.out.symm hlb)
            have z1 : (Option.some x).getD zeroP = x := rfl
            rw [z1] at d0 d1 d2 d3
            clear hcase z1
            go_wp2_with fail
            go_roundw
            case rel => exact ⟨k + 1, hlt, by go_num, by rw [HSN.out, HST.out]; rfl, by rw [HSN.out, HST.out]; exact HT2.out.stored q⟩
            case measure => simp [intOf]; omega
          · have HST := Lib.hid (show stepM (fun p => hasP p a) (some x) q = some x from stepM_keep hlb)
            have z1 : (Option.some x).getD zeroP = x := rfl
            rw [z1] at d0 d1 d2 d3
            clear hcase z1
            go_wp2_with fail
            go_roundw
            case rel => exact ⟨k + 1, hlt, by go_num, by rw [HSN.out, HST.out]; rfl, by rw [HSN.out, HST.out]; exact HT2.out⟩
            case measure => simp [intOf]; omega
    · obtain rfl : k = l.length := by omega
      have HX := Lib.hid (show mostL (fun p => hasP p a) l = best by rw [HBE.out, List.take_length])
      have hr2 := boxP (p := best.getD zeroP) HTP.out.box
      have d0 := hr2.c0
      have d1 := hr2.c1
      have d2 := hr2.c2
      have d3 := hr2.c3
      have hfr : ∀ j, wr.frozen? ⟨w.heap.size, j, none⟩ = false := fun j => by rw [blk_frozen HTP.out.box]; simp
      have HS := Lib.hid (HTP.out.stored (best.getD zeroP))
      clear hr2
      go_wp2_with fail
      clear d0 d1 d2 d3 hfr
      generalize (((wr.setCell ⟨w.heap.size, 0, none⟩ (.int .u8 ((best.getD zeroP).1.1.toNat : Int))).setCell ⟨w.heap.size, 1, none⟩ (.int .u64 ((best.getD zeroP).1.2.1.toNat : Int))).setCell ⟨w.heap.size, 2, none⟩ (.int .u64 ((best.getD zeroP).1.2.2.toNat : Int))).setCell ⟨w.heap.size, 3, none⟩ (.int .i64 (best.getD zeroP).2) = w4 at *
      have hx4 := boxP (p := best.getD zeroP) HS.out.box
      have c0 := hx4.c0
      have c1 := hx4.c1
      have c2 := hx4.c2
      have c3 := hx4.c3
      exact bodyPost_ret (v := .tuple #[encP (best.getD zeroP), .bool best.isSome]) (by simp [results, Try.results36, go_sem, c0, c1, c2, c3]) rfl ⟨by rw [HX.out], HS.out.bel⟩

set_option maxRecDepth 100000 in
set_option maxHeartbeats 4000000 in
theorem mostIn (v : Value) (l : List Pf) (p : Pf) (w : World) (h : PfsAt w v l) (hn : l.length ≤ 1000000) :
    Calls Try.prog 36 #[v, .func (.func 23) #[encP p] #[]] w (MostPost (fun q => within p q) l w) := by
  obtain ⟨ao, cap, hv⟩ := elems_slice h
  have HV := Lib.hid h
  subst hv
  clear h
  have HT0 := Lib.hid (show Top w (w.alloc (.cells #[.int .u8 0, .int .u64 0, .int .u64 0, .int .i64 0] 27)) none from ⟨heap_alloc_new w _, (Below.refl _ _).alloc (Nat.le_refl _) _⟩)
  go_enter Try.func36, Try.ntmps36
  go_wp2_with fail
  generalize w.alloc (.cells #[.int .u8 0, .int .u64 0, .int .u64 0, .int .i64 0] 27) = w0 at *
  go_loopw [5, 10] (fun vo vi wr => ∃ k : Nat, k ≤ l.length ∧ vi = .int .i64 k ∧ vo = .bool (mostL (fun q => within p q) (l.take k)).isSome ∧ Top w wr (mostL (fun q => within p q) (l.take k))) (fun _ vi _ => l.length - (intOf vi).toNat)
  case atStart => exact ⟨0, Nat.zero_le _, rfl, rfl, HT0.out⟩
  case round =>
    obtain ⟨k, hk, rfl, rfl, htop⟩ := hrel
    obtain ⟨best, hbest⟩ : ∃ b, b = mostL (fun q => within p q) (l.take k) := ⟨_, rfl⟩
    rw [← hbest] at htop ⊢
    have HTP := Lib.hid htop
    have HBE := Lib.hid hbest
    clear htop hbest
    by_cases hlt : k < l.length
    · obtain ⟨b, off, cap', hve, hcs⟩ := pfs_cells HV.out (by omega)
      cases hve
      have hcm := (hcs k hlt).kept HTP.out.bel
      clear hcs
      obtain ⟨q, hq⟩ : ∃ q, q = l[k] := ⟨_, rfl⟩
      rw [← hq] at hcm
      have HSN := Lib.hid (show mostL (fun q => within p q) (l.take (k + 1)) = stepM (fun q => within p q) best q by rw [List.take_succ_eq_append_getElem hlt, mostL_snoc, ← HBE.out, hq])
      clear hq
      obtain ⟨sb, hsb⟩ : ∃ r, r = (fun q => within p q) q := ⟨_, rfl⟩
      have HSB := Lib.hid hsb
      clear hsb
      have c0 := hcm.c0
      have c1 := hcm.c1
      have c2 := hcm.c2
      have c3 := hcm.c3
      have m1 : (k : Int) < (l.length : Int) := by omega
      have hbx : Below wr.heap.size wr (wr.alloc (.cells #[.int .u8 (q.1.1.toNat : Int), .int .u64 (q.1.2.1.toNat : Int), .int .u64 (q.1.2.2.toNat : Int), .int .i64 q.2] 27)) := (Below.refl _ _).alloc (Nat.le_refl _) _
      have HBX := Lib.hid hbx
      have HPX := Lib.hid (boxP (p := q) (heap_alloc_new wr (.cells #[.int .u8 (q.1.1.toNat : Int), .int .u64 (q.1.2.1.toNat : Int), .int .u64 (q.1.2.2.toNat : Int), .int .i64 q.2] 27)))
      clear hbx hcm
      go_wp2_with fail
      refine (within_any p q _).mono ?_
      rintro e w2 ⟨rfl, hb⟩
      rw [← HSB.out]
      have HT2 := Lib.hid ((HTP.out.kept HBX.out).kept hb)
      have HQ2 := Lib.hid (HPX.out.kept hb)
      have HLT := Lib.hid (show wr.heap.size < w2.heap.size by have := hb.size; simp at this; omega)
      have HLW := Lib.hid (show w.heap.size < wr.heap.size from blk_lt HTP.out.box)
      clear hb c0 c1 c2 c3
      have hq2 := HQ2.out
      have c0 := hq2.c0
      have c1 := hq2.c1
      have c2 := hq2.c2
      have c3 := hq2.c3
      have hcase : (sb && better best q) = false ∨ (sb && better best q) = true := by cases (sb && better best q) <;> simp
      have hr2 := boxP (p := best.getD zeroP) HT2.out.box
      have d0 := hr2.c0
      have d1 := hr2.c1
      have d2 := hr2.c2
      have d3 := hr2.c3
      have hfr : ∀ j, w2.frozen? ⟨w.heap.size, j, none⟩ = false := fun j => by rw [blk_frozen HT2.out.box]; simp
      clear hq2 hr2
      cases sb with
      | false =>
        have HST := Lib.hid (show stepM (fun q => within p q) best q = best from stepM_no HSB.out.symm)
        clear hcase
        go_wp2_with fail
        go_roundw
        case rel => exact ⟨k + 1, hlt, by go_num, by rw [HSN.out, HST.out], by rw [HSN.out, HST.out]; exact HT2.out⟩
        case measure => simp [intOf]; omega
      | true =>
        cases best with
        | none =>
          have HST := Lib.hid (show stepM (fun q => within p q) none q = some q from stepM_first HSB.out.symm)
          clear hcase
          go_wp2_with fail
          go_roundw
          case rel => exact ⟨k + 1, hlt, by go_num, by rw [HSN.out, HST.out]; rfl, by rw [HSN.out, HST.out]; exact HT2.out.stored q⟩
          case measure => simp [intOf]; omega
        | some x =>
          by_cases hlb : x.2 < q.2
          · have HST := Lib.hid (show stepM (fun q => within p q) (some x) q = some q from stepM_up HSB.out.symm hlb)
            have z1 : (Option.some x).getD zeroP = x := rfl
            rw [z1] at d0 d1 d2 d3
            clear hcase z1
            go_wp2_with fail
            go_roundw
            case rel => exact ⟨k + 1, hlt, by go_num, by rw [HSN.out, HST.out]; rfl, by rw [HSN.out, HST.out]; exact HT2.out.stored q⟩
            case measure => simp [intOf]; omega
          · have HST := Lib.hid (show stepM (fun q => within p q) (some x) q = some x from stepM_keep hlb)
            have z1 : (Option.some x).getD zeroP = x := rfl
            rw [z1] at d0 d1 d2 d3
            clear hcase z1
            go_wp2_with fail
            go_roundw
            case rel => exact ⟨k + 1, hlt, by go_num, by rw [HSN.out, HST.out]; rfl, by rw [HSN.out, HST.out]; exact HT2.out⟩
            case measure => simp [intOf]; omega
    · obtain rfl : k = l.length := by omega
      have HX := Lib.hid (show mostL (fun q => within p q) l = best by rw [HBE.out, List.take_length])
      have hr2 := boxP (p := best.getD zeroP) HTP.out.box
      have d0 := hr2.c0
      have d1 := hr2.c1
      have d2 := hr2.c2
      have d3 := hr2.c3
      have hfr : ∀ j, wr.frozen? ⟨w.heap.size, j, none⟩ = false := fun j => by rw [blk_frozen HTP.out.box]; simp
      have HS := Lib.hid (HTP.out.stored (best.getD zeroP))
      clear hr2
      go_wp2_with fail
      clear d0 d1 d2 d3 hfr
      generalize (((wr.setCell ⟨w.heap.size, 0, none⟩ (.int .u8 ((best.getD zeroP).1.1.toNat : Int))).setCell ⟨w.heap.size, 1, none⟩ (.int .u64 ((best.getD zeroP).1.2.1.toNat : Int))).setCell ⟨w.heap.size, 2, none⟩ (.int .u64 ((best.getD zeroP).1.2.2.toNat : Int))).setCell ⟨w.heap.size, 3, none⟩ (.int .i64 (best.getD zeroP).2) = w4 at *
      have hx4 := boxP (p := best.getD zeroP) HS.out.box
      have c0 := hx4.c0
      have c1 := hx4.c1
      have c2 := hx4.c2
      have c3 := hx4.c3
      exact bodyPost_ret (v := .tuple #[encP (best.getD zeroP), .bool best.isSome]) (by simp [results, Try.results36, go_sem, c0, c1, c2, c3]) rfl ⟨by rw [HX.out], HS.out.bel⟩
end Go.Proofs.Try.Pfx
