/- SkipPlays: asks. -/
import Derived.Test.YthcakgnendnekaaRfQ
import Derived.StillTailTactics
open Go.RowKit Go.Cph Go.Cph.Skip
set_option linter.unusedVariables false
set_option linter.unusedSimpArgs false
namespace Go.Proofs.Try.SkS

theorem get_same {l : List It} (hu : UniqIt l) {key k : ByteArray} {y : V} {ok : Bool} (h : TellKV (kvIt l) (fun z => decide (z = key)) k y ok) : y = (getIt l key).1 ∧ ok = (getIt l key).2 := by
  unfold getIt
  rcases h with ⟨rfl, rfl, rfl, h⟩ | ⟨rfl, h1, h2, _⟩
  · have : l.find? (fun x => decide (x.1 = key)) = none := by
      rw [List.find?_eq_none]
      intro x hx
      have := h _ (List.mem_map.2 ⟨x, hx, rfl⟩)
      simpa using this
    rw [this]; exact ⟨rfl, rfl⟩
  · obtain ⟨x, hx, e⟩ := List.mem_map.1 h1
    simp only [Prod.mk.injEq] at e
    obtain ⟨rfl, rfl⟩ := e
    rw [decide_eq_true_eq] at h2
    cases hf : l.find? (fun x => decide (x.1 = key)) with
    | none =>
      rw [List.find?_eq_none] at hf
      exact absurd (decide_eq_true h2) (hf x hx)
    | some z =>
      have hz := List.mem_of_find?_eq_some hf
      have hz2 := List.find?_some hf
      rw [decide_eq_true_eq] at hz2
      obtain rfl := uniqIt_mem hu hz hx (hz2.trans h2.symm)
      exact ⟨rfl, rfl⟩
theorem may_seek (key : ByteArray) : (fun z => !klt z key) = mayB key false := by funext z; simp [mayB]
theorem may_after (key : ByteArray) : klt key = mayB key true := by
  funext z
  have h := mayB_bound ByteArray.empty [(key, ByteArray.empty, 0)] z
  have e : kvIt [((key, ByteArray.empty, 0) : It)] = [] ++ [(key, ByteArray.empty)] := rfl
  rw [e, bound_snoc] at h
  exact h.symm
theorem least_same {l : List It} (hu : UniqIt l) {p : ByteArray → Bool} {k : ByteArray} {y : V} {ok : Bool} (h : TellKV (kvIt l) p k y ok) {e : Ending}
    (hr : (e = .returned (.tuple #[.agg #[.string ⟨#[]⟩, .string ⟨#[]⟩, .int .i64 0], .bool false]) ∧ LeastIt l p .none) ∨
      ∃ x1 x2 x3, e = .returned (.tuple #[.agg #[.string x1, .string x2, .int .i64 (x3 : Nat)], .bool true]) ∧ LeastIt l p (.some (x1, x2, x3))) :
    ∃ n : Nat, e = .returned (.tuple #[.agg #[.string k, .string y, .int .i64 n], .bool ok]) := by
  rcases h with ⟨rfl, rfl, rfl, h⟩ | ⟨rfl, h1, h2, h3⟩ <;> rcases hr with ⟨rfl, hr⟩ | ⟨x1, x2, x3, rfl, r1, r2, r3⟩
  · exact ⟨0, rfl⟩
  · have := h _ (List.mem_map.2 ⟨_, r1, rfl⟩); simp only at this; rw [r2] at this; cases this
  · obtain ⟨x, hx, e⟩ := List.mem_map.1 h1
    simp only [Prod.mk.injEq] at e
    have := hr x hx; rw [e.1, h2] at this; cases this
  · obtain ⟨x, hx, e⟩ := List.mem_map.1 h1
    simp only [Prod.mk.injEq] at e
    obtain ⟨rfl, rfl⟩ := e
    have hk := klt_total (r3 x hx h2) (h3 _ (List.mem_map.2 ⟨_, r1, rfl⟩) r2)
    have := uniqIt_mem hu hx r1 hk
    subst this
    exact ⟨x3, rfl⟩

set_option maxHeartbeats 4000000 in
theorem asks (x v : Value) (l : List It) (what : Int) (key val : ByteArray) (ht : Int) (w : World) (hx : IsList w x l) (h : ItemsAt w v l) (hs : SmallIts l) (hks : key.size ≤ 1000000) :
    Calls Try.prog 31 #[x, v, .agg #[.int .u8 what, .string key, .string val, .int .i64 ht]] w fun e w' => e = .returned (.bool true) ∧ Below w.heap.size w w' := by
  have hu := hx.uniq
  obtain ⟨ao, cap, hv⟩ := elems_slice h
  obtain ⟨ax, rfl⟩ : ∃ ax, x = .pointer ax := by
    rcases hx with ⟨rfl, _⟩ | ⟨p, _, _, _, rfl, _⟩ <;> exact ⟨_, rfl⟩
  subst hv
  have HX := Lib.hid hx
  have HI := Lib.hid h
  have HS := Lib.hid hs
  have HU := Lib.hid hu
  clear hx h hs hu
  have hb0 : Below w.heap.size w (w.alloc (.cells #[.int .u8 what, .string key, .string val, .int .i64 ht] 35)) := (Below.refl _ _).alloc (Nat.le_refl _) _
  have hbx := heap_alloc_new w (.cells #[.int .u8 what, .string key, .string val, .int .i64 ht] 35)
  obtain ⟨w0, hw0⟩ : ∃ w0, w0 = w.alloc (.cells #[.int .u8 what, .string key, .string val, .int .i64 ht] 35) := ⟨_, rfl⟩
  rw [← hw0] at hb0 hbx
  have HW0 := Lib.hid hw0
  have HX0 := Lib.hid (HX.out.kept hb0)
  have HI0 := Lib.hid (HI.out.kept hb0)
  have HBX := Lib.hid hbx
  have HB0 := Lib.hid hb0
  clear hb0 hbx hw0
  have boxes : ∀ w1 : World, w1.heap[w.heap.size]? = some (.cells #[.int .u8 what, .string key, .string val, .int .i64 ht] 35 (0, 0)) →
      w1.cell? ⟨w.heap.size, 0, none⟩ = some (.int .u8 what) ∧ w1.cell? ⟨w.heap.size, 1, none⟩ = some (.string key) ∧ w1.cell? ⟨w.heap.size, 3, none⟩ = some (.int .i64 ht) := fun w1 h1 => by
    refine ⟨?_, ?_, ?_⟩ <;> (rw [blk_cell h1]; rfl)
  have BOX := Lib.hid boxes
  clear boxes
  by_cases h1 : what = 1
  · subst h1
    have hget := qGet key w0 HX0.out
    go_enter Try.func31, Try.ntmps31
    go_wp2_with fail
    rw [← HW0.out]
    refine hget.mono ?_
    rintro e w1 ⟨⟨k, y, ok, rfl, ht1⟩, hb1⟩
    obtain ⟨rfl, rfl⟩ := get_same HU.out ht1
    have HB1 := Lib.hid (below_step HB0.out hb1 HB0.out.size)
    have c2 := (BOX.out w1 (blk_kept hb1 HBX.out)).2.1
    have hr := rGet _ l key w1 (HI0.out.kept hb1) HS.out
    generalize getIt l key = g at *
    clear hb1 ht1 hget
    go_wp2_with fail
    refine hr.mono ?_
    rintro e w2 ⟨rfl, rfl⟩
    have z1 : (g.1.toList == g.1.toList) = true := by simp
    have z2 : (g.2 == g.2) = true := by simp
    go_wp2_with fail
    go_ret
    exact ⟨rfl, HB1.out⟩
  · have z1 : (what == 1) = false := by simpa using h1
    by_cases h2 : what = 2 ∨ what = 3
    · have hsk := qSeek key w0 HX0.out
      rcases h2 with rfl | rfl
      · go_enter Try.func31, Try.ntmps31
        go_wp2_with fail
        rw [← HW0.out]
        refine hsk.mono ?_
        rintro e w1 ⟨⟨k, y, ok, rfl, ht1⟩, hb1⟩
        rw [may_seek] at ht1
        have HT := Lib.hid ht1
        have HB1 := Lib.hid (below_step HB0.out hb1 HB0.out.size)
        have c1 := (BOX.out w1 (blk_kept hb1 HBX.out)).1
        have c2 := (BOX.out w1 (blk_kept hb1 HBX.out)).2.1
        have hr : Calls Try.prog 19 #[.slice ao l.length cap, .string key, .bool false] w1 _ := rLeast2 _ l key false w1 (HI0.out.kept hb1) HS.out hks
        clear hb1 ht1 hsk
        go_wp2_with fail
        refine hr.mono ?_
        rintro e w2 ⟨hr2, hb2⟩
        obtain ⟨n, rfl⟩ := least_same HU.out HT.out hr2
        have HB2 := Lib.hid (below_step HB1.out hb2 HB1.out.size)
        clear hr2 hb2 hr
        have z2 : (k.toList == k.toList) = true := by simp
        have z3 : (y.toList == y.toList) = true := by simp
        have z4 : (ok == ok) = true := by simp
        go_wp2_with fail
        go_ret
        exact ⟨rfl, HB2.out.alloc HB2.out.size _⟩
      · go_enter Try.func31, Try.ntmps31
        go_wp2_with fail
        rw [← HW0.out]
        refine hsk.mono ?_
        rintro e w1 ⟨⟨k0, y0, ok0, rfl, _⟩, hb1⟩
        have HB1 := Lib.hid (below_step HB0.out hb1 HB0.out.size)
        have HX1 := Lib.hid (HX0.out.kept hb1)
        have HI1 := Lib.hid (HI0.out.kept hb1)
        have HBX1 := Lib.hid (blk_kept hb1 HBX.out)
        have c1 := (BOX.out w1 HBX1.out).1
        have c2 := (BOX.out w1 HBX1.out).2.1
        have haf := qAfter key w1 HX1.out
        clear hb1 hsk
        go_wp2_with fail
        refine haf.mono ?_
        rintro e w2 ⟨⟨k, y, ok, rfl, ht1⟩, hb1⟩
        rw [may_after] at ht1
        have HT := Lib.hid ht1
        have HB2 := Lib.hid (below_step HB1.out hb1 HB1.out.size)
        have c3 := (BOX.out w2 (blk_kept hb1 HBX1.out)).1
        have c4 := (BOX.out w2 (blk_kept hb1 HBX1.out)).2.1
        have hr : Calls Try.prog 19 #[.slice ao l.length cap, .string key, .bool true] w2 _ := rLeast2 _ l key true w2 (HI1.out.kept hb1) HS.out hks
        clear hb1 ht1 haf c1 c2
        go_wp2_with fail
        refine hr.mono ?_
        rintro e w3 ⟨hr2, hb2⟩
        obtain ⟨n, rfl⟩ := least_same HU.out HT.out hr2
        have HB3 := Lib.hid (below_step HB2.out hb2 HB2.out.size)
        clear hr2 hb2 hr
        have z2 : (k.toList == k.toList) = true := by simp
        have z3 : (y.toList == y.toList) = true := by simp
        have z4 : (ok == ok) = true := by simp
        go_wp2_with fail
        go_ret
        exact ⟨rfl, HB3.out.alloc HB3.out.size _⟩
    · have z2 : (what == 2) = false := by simp at h2 ⊢; omega
      have z3 : (what == 3) = false := by simp at h2 ⊢; omega
      by_cases h4 : what = 4
      · subst h4
        go_enter Try.func31, Try.ntmps31
        clear z1 z2 z3 h1 h2
        go_wp2_with fail
        rw [← HW0.out]
        have c3 := (BOX.out w0 HBX.out).2.2
        apply wp_meet (fun (_ : Value) w' => Below w.heap.size w w')
        · go_region_with (first
            | (go_at_call 21; refine (qRow ht _ (HX0.out.kept (Below.refl _ _).drew)).mono ?_; rintro e z1 ⟨⟨u, keys, rfl, hk, ho⟩, hb1⟩; have HB1 := Lib.hid hb1; have HK := Lib.hid hk; have HO := Lib.hid ho; have d3 := (BOX.out z1 (blk_kept hb1 HBX.out)).2.2; clear hb1 hk ho)
            | (go_at_call 48; refine (lawRow w.heap.size _ _ _ l ht _ (owns_mono HO.out (by have := HB0.out.size; simpa using this)) (Nat.le_trans HB0.out.size HB1.out.size) ((HI0.out.kept (Below.refl _ _).drew).kept HB1.out) HS.out HK.out.len HK.out.neg HK.out.pos).mono ?_; rintro e z2 ⟨rfl, hb2⟩))
          all_goals exact ⟨u, rfl, (below_step HB0.out.drew HB1.out HB0.out.drew.size).trans hb2⟩
        · intro u w' hb
          go_wp2_with fail
          go_ret
          exact ⟨rfl, hb⟩
      · have z4 : (what == 4) = false := by simpa using h4
        go_enter Try.func31, Try.ntmps31
        go_wp2_with fail
        go_ret
        rw [← HW0.out]
        exact ⟨rfl, HB0.out⟩
end Go.Proofs.Try.SkS
