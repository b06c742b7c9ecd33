/- Lists of prefixes: cloned; where one stands; one put in. -/
import Derived.Test.YtbhnpndkdhhpfaaPsK
set_option linter.unusedVariables false
set_option linter.unusedSimpArgs false
namespace Go.Proofs.Try.Pfx
open Go.RowKit Go.Cph Go.Cph.Px

def ClonePost (l : List Pf) (w : World) (e : Ending) (w' : World) : Prop :=
  ∃ v', e = .returned v' ∧ w'.ownsRow w.heap.size TP 4 v' l.length (l.flatMap encC) ∧ Below w.heap.size w w'
theorem nil_len {w : World} {n cap : Nat} {size : Nat} {xs : List Value} (h : Seg w size (.slice none n cap) n xs) : n = 0 := by
  obtain ⟨⟨ao, c, hv, hc⟩, _⟩ := h
  rcases Nat.eq_zero_or_pos n with h0 | h0
  · exact h0
  · obtain ⟨b, off, rfl, _⟩ := hc h0
    cases hv
set_option maxRecDepth 100000 in
set_option maxHeartbeats 2000000 in
theorem clone (v : Value) (l : List Pf) (w : World) (h : PfsAt w v l) (hn : l.length ≤ 1000000) :
    Calls Try.prog 47 #[v] w (ClonePost l w) := by
  obtain ⟨ao, cap, hv⟩ := elems_slice h
  subst hv
  have HV := Lib.hid h
  cases ao with
  | none =>
    have hl : l.length = 0 := nil_len h
    have HL := Lib.hid (show l = [] from List.eq_nil_of_length_eq_zero hl)
    have hq := fun w => Lib.run_eql_slice_nil (P := Try.prog) w 22 27 none l.length cap 0 0 Try.underlying22
    clear h hl
    go_enter Try.func47, Try.ntmps47
    go_wp2_with fail
    go_ret
    refine ⟨_, rfl, ?_, Below.refl _ _⟩
    rw [HL.out]
    exact World.ownsRow_nil _ _ _ _
  | some a =>
    have hq := fun w => Lib.run_eql_slice_nil (P := Try.prog) w 22 27 (some a) l.length cap 0 0 Try.underlying22
    have hb : Below w.heap.size w (w.alloc (.cells #[] 27)) := (Below.refl _ _).alloc (Nat.le_refl _) _
    have HO := Lib.hid (owns_empty (heap_alloc_new w (.cells #[] 27)) (base := w.heap.size) (Nat.le_refl _) 4)
    have HS := Lib.hid (h.kept hb)
    have HB := Lib.hid hb
    have HL := Lib.hid (show 0 + l.length ≤ 1099511627776 by omega)
    have HZ := Lib.hid (show w.heap.size ≤ (w.alloc (.cells #[] 27)).heap.size by simp)
    clear h hb
    go_enter Try.func47, Try.ntmps47
    go_wp2_with (at_builtin; refine wpList_append_seg rfl (.tmp 5) (.tmp 6) 22 rfl w.heap.size 27 _ 4 32 Try.underlying22 infoP rfl (by decide) _ 0 [] rfl HO.out _ l.length (l.flatMap encC) rfl HS.out encC_one HL.out (by decide) HZ.out ?_; intro v' w' ho hgr hob; have HO2 := Lib.hid ho; have HG := Lib.hid hgr; clear ho hgr hob)
    go_ret
    refine ⟨_, rfl, ?_, HB.out.grown HG.out HZ.out fun k hk => (HO.out.lt k hk).1⟩
    have := HO2.out
    simpa using this

def placeV (l : List Pf) (p : Pf) : Value := if rightL l && rightP p then .tuple #[.int .i64 (pos l p), .bool (decide (p ∈ l)), .int .i64 0] else .tuple #[.int .i64 0, .bool false, .int .i64 1]
set_option maxRecDepth 100000 in
set_option maxHeartbeats 2000000 in
theorem place_any (v : Value) (l : List Pf) (p : Pf) (w : World) (h : PfsAt w v l) (hn : l.length ≤ 1000000) :
    Calls Try.prog 45 #[v, encP p] w fun e w' => e = .returned (placeV l p) ∧ Below w.heap.size w w' := by
  have HR := Lib.hid (fun w h => rightL_any v l w h hn)
  have HQ := Lib.hid (rightP_any p)
  have HS := Lib.hid (fun w h hr => search v l p w h hr hn)
  obtain ⟨r, hr⟩ : ∃ r, r = rightL l := ⟨_, rfl⟩
  obtain ⟨q, hq⟩ : ∃ r, r = rightP p := ⟨_, rfl⟩
  have HRL := Lib.hid hr
  have HRP := Lib.hid hq
  have HV := Lib.hid h
  clear h hr hq
  have hbx : Below w.heap.size w (w.alloc (.cells #[.int .u8 (p.1.1.toNat : Int), .int .u64 (p.1.2.1.toNat : Int), .int .u64 (p.1.2.2.toNat : Int), .int .i64 p.2] 27)) := (Below.refl _ _).alloc (Nat.le_refl _) _
  have HBX := Lib.hid hbx
  have HPX := Lib.hid (boxP (p := p) (heap_alloc_new w (.cells #[.int .u8 (p.1.1.toNat : Int), .int .u64 (p.1.2.1.toNat : Int), .int .u64 (p.1.2.2.toNat : Int), .int .i64 p.2] 27)))
  clear hbx
  cases r
  · go_enter Try.func45, Try.ntmps45
    go_wp2_with fail
    refine (HR.out _ (HV.out.kept HBX.out)).mono ?_
    rintro e w1 ⟨rfl, hb⟩
    rw [← HRL.out]
    have HB := Lib.hid (below_step HBX.out hb HBX.out.size)
    clear hb
    go_wp2_with fail
    go_ret3
    exact ⟨by unfold placeV; rw [← HRL.out]; rfl, HB.out⟩
  · cases q
    · go_enter Try.func45, Try.ntmps45
      go_wp2_with fail
      refine (HR.out _ (HV.out.kept HBX.out)).mono ?_
      rintro e w1 ⟨rfl, hb⟩
      rw [← HRL.out]
      have HB := Lib.hid (below_step HBX.out hb HBX.out.size)
      have hpx := HPX.out.kept hb
      have c0 := hpx.c0
      have c1 := hpx.c1
      have c2 := hpx.c2
      have c3 := hpx.c3
      clear hb hpx
      go_wp2_with fail
      refine (HQ.out _).mono ?_
      rintro e w2 ⟨rfl, hb⟩
      rw [← HRP.out]
      have HB2 := Lib.hid (below_step HB.out hb HB.out.size)
      clear hb c0 c1 c2 c3
      go_wp2_with fail
      go_ret3
      exact ⟨by unfold placeV; rw [← HRL.out, ← HRP.out]; rfl, HB2.out⟩
    · go_enter Try.func45, Try.ntmps45
      go_wp2_with fail
      refine (HR.out _ (HV.out.kept HBX.out)).mono ?_
      rintro e w1 ⟨rfl, hb⟩
      rw [← HRL.out]
      have HB := Lib.hid (below_step HBX.out hb HBX.out.size)
      have hpx := HPX.out.kept hb
      have HPX1 := Lib.hid hpx
      have c0 := hpx.c0
      have c1 := hpx.c1
      have c2 := hpx.c2
      have c3 := hpx.c3
      clear hb hpx
      go_wp2_with fail
      refine (HQ.out _).mono ?_
      rintro e w2 ⟨rfl, hb⟩
      rw [← HRP.out]
      have HB2 := Lib.hid (below_step HB.out hb HB.out.size)
      have hpx := HPX1.out.kept hb
      clear c0 c1 c2 c3
      have c0 := hpx.c0
      have c1 := hpx.c1
      have c2 := hpx.c2
      have c3 := hpx.c3
      clear hb hpx
      go_wp2_with fail
      refine (HS.out _ (HV.out.kept HB2.out) (rightL_iff.1 HRL.out.symm)).mono ?_
      rintro e w3 ⟨rfl, hb⟩
      have HB3 := Lib.hid (below_step HB2.out hb HB2.out.size)
      clear hb c0 c1 c2 c3
      go_wp2_with fail
      go_ret3
      exact ⟨by unfold placeV; rw [← HRL.out, ← HRP.out]; rfl, HB3.out⟩
end Go.Proofs.Try.Pfx
