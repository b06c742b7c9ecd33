/- The laws' copied. -/
import Derived.Test.YtkeaalacepjadaaVv3
import Derived.Test.YtkeaalacepjadaaVI
import Derived.Test.YtkeaalacepjadaaVF
set_option linter.unusedVariables false
set_option linter.unusedSimpArgs false
set_option maxRecDepth 100000
namespace Go.Proofs.Try.Vr
open Go.RowKit Go.Cph Go.Cph.Skip Go.Cph.So Go.Cph.Ve
open Go.Proofs.Try.Sq (row_kept1 grown_below grown_set encU encU_len TU TUs infoU encU_one)

abbrev TSe : TypeId := 22
theorem infoEd : (Try.prog.info? TEd).map (fun i => (i.zero, i.size, i.bytes)) = some (some (.agg #[.slice none 0 0, .slice none 0 0, .int .u64 0, .int .u64 0, .int .u64 0]), 5, 72) := by kernel_rfl
/-- An edit in memory of its own. -/
structure EdOwn (W : World) (base : Nat) (x : Es) (d : Ed) : Prop where
  add : W.ownsRow base TE 8 x.add d.1.length (d.1.flatMap encC)
  drop : W.ownsRow base TU 1 x.drop d.2.1.length (d.2.1.flatMap encU)
  nums : d.2.2 = (x.log, x.seq, x.nxt)
def ApartE (x : Es) (row : Option Nat) : Prop := ∀ q, (x.add.ownBlock = some q ∨ x.drop.ownBlock = some q) → row ≠ some q
theorem EdOwn.keep {W W' : World} {base : Nat} {x : Es} {d : Ed} (h : EdOwn W base x d) {row : Option Nat} (hg : W.grownBy W' row) (ha : ApartE x row) : EdOwn W' base x d :=
  ⟨row_kept1 h.add fun p hp => hg.block p (h.add.lt p hp).2 (fun e => ha p (.inl hp) e.symm), row_kept1 h.drop fun p hp => hg.block p (h.drop.lt p hp).2 (fun e => ha p (.inr hp) e.symm), h.nums⟩
theorem EdOwn.at' {W : World} {base : Nat} {x : Es} {d : Ed} (h : EdOwn W base x d) : EdAt W x d :=
  ⟨Seg.of_owns h.add, Seg.of_owns h.drop, h.nums, fun a n c e => by
    have h2 := h.add
    rw [e] at h2
    obtain ⟨ao, cap, hv⟩ := owns_slice1 h2
    cases hv
    exact owns_cap1 h2⟩
theorem EdOwn.shape {W : World} {base : Nat} {x : Es} {d : Ed} (h : EdOwn W base x d) : ShapeE x := by
  obtain ⟨a, c, h1⟩ := owns_slice1 h.add
  obtain ⟨a2, c2, h2⟩ := owns_slice1 h.drop
  exact ⟨⟨a, _, c, h1⟩, ⟨a2, _, c2, h2⟩⟩
theorem EdOwn.lt {W : World} {base : Nat} {x : Es} {d : Ed} (h : EdOwn W base x d) : ∀ q, (x.add.ownBlock = some q ∨ x.drop.ownBlock = some q) → base ≤ q ∧ q < W.heap.size := fun q hq => by
  rcases hq with hq | hq
  · exact h.add.lt q hq
  · exact h.drop.lt q hq
theorem size_set1 (w : World) (a : Addr) (v : Value) : (w.setCell a v).heap.size = w.heap.size := by simp
def CopPost (ds : List Ed) (w : World) (e : Ending) (w' : World) : Prop := ∃ v' es', e = .returned v' ∧ EdsAt w' v' es' ds ∧ Below w.heap.size w w'
/-- What is copied so far. -/
def CopInv (w W : World) (ds : List Ed) (i : Nat) (vo : Value) (xs : List Es) : Prop :=
  xs.length = i ∧ W.ownsRow w.heap.size TEd 5 vo i (xs.flatMap encEc) ∧ (∀ j (hj : j < xs.length) (hk : j < ds.length), EdOwn W w.heap.size xs[j] ds[j] ∧ ApartE xs[j] vo.ownBlock) ∧ Below w.heap.size w W

set_option maxHeartbeats 16000000 in
theorem copied_any (av : Value) (es : List Es) (ds : List Ed) (w : World) (hE : EdsAt w av es ds) (hn : ds.length ≤ 1000) (hl : ∀ d ∈ ds, d.1.length ≤ 1000 ∧ d.2.1.length ≤ 1000) :
    Calls Try.prog 9 #[av] w (CopPost ds w) := by
  obtain ⟨ao, cap, hav⟩ := elems_slice hE.row
  rw [hE.len] at hav
  have HE := Lib.hid hE
  have HAV := Lib.hid hav
  have HN := Lib.hid hn
  have HL := Lib.hid hl
  rw [hav]
  clear hE hav hn hl
  go_enter Try.func9, Try.ntmps9
  go_wp2_with fail
  go_loopw [3, 4] (fun vo vi W => ∃ (i : Nat) (oo : Option Addr) (oc : Nat) (xs : List Es), i ≤ ds.length ∧ vi = .int .i64 (i : Int) ∧ vo = .slice oo i oc ∧ Hid (CopInv w W ds i (.slice oo i oc) xs)) (fun _ vi _ => ds.length - (intOf vi).toNat)
  case atStart => exact ⟨0, none, 0, [], Nat.zero_le _, rfl, rfl, Lib.hid ⟨rfl, World.ownsRow_nil _ _ _ _, fun j hj => absurd hj (by simp), Below.refl _ _⟩⟩
  case round =>
    obtain ⟨i, oo, oc, xs, hi, rfl, rfl, HI⟩ := hrel
    by_cases hlt : i < ds.length
    · have HE4 := Lib.hid (HE.out.kept HI.out.2.2.2)
      have hrow := HE4.out.row
      rw [HAV.out] at hrow
      obtain ⟨eb, eoff, ecap, hve, hcs⟩ := elems_shape encEc_len hrow (by rw [HE.out.len]; omega)
      injection hve with hx1 hx2 hx3
      subst hx1
      have hle : i < es.length := by rw [HE.out.len]; omega
      have hcx := hcs i hle
      obtain ⟨x, hx⟩ : ∃ x, x = es[i] := ⟨_, rfl⟩
      have hat := HE4.out.at' i hle hlt
      rw [← hx] at hcx hat
      obtain ⟨ea, edr, el, eq, en⟩ := x
      obtain ⟨tao, tc, hta⟩ := elems_slice hat.add
      obtain ⟨dao, dc, hda⟩ := elems_slice hat.drop
      dsimp only at hta hda
      subst hta hda
      obtain ⟨e, he⟩ : ∃ d, d = ds[i] := ⟨_, rfl⟩
      have HDE := Lib.hid he
      rw [← he] at hat hcx
      have HLE := Lib.hid (show e.1.length ≤ 1000 ∧ e.2.1.length ≤ 1000 from by rw [he]; exact HL.out _ (List.getElem_mem _))
      have HAT := Lib.hid (show ∀ W, Below wr.heap.size wr W → EdAt W ⟨.slice tao e.1.length tc, .slice dao e.2.1.length dc, el, eq, en⟩ e from fun W hb => hat.kept hb)
      have b0 : wr.cell? ⟨eb, eoff + i * 5, none⟩ = some (.slice tao e.1.length tc) := hcx 0 (by omega)
      have b1 : wr.cell? ⟨eb, eoff + i * 5 + 1, none⟩ = some (.slice dao e.2.1.length dc) := hcx 1 (by omega)
      have b2 : wr.cell? ⟨eb, eoff + i * 5 + 2, none⟩ = some (.int .u64 (el.toNat : Int)) := hcx 2 (by omega)
      have b3 : wr.cell? ⟨eb, eoff + i * 5 + 3, none⟩ = some (.int .u64 (eq.toNat : Int)) := hcx 3 (by omega)
      have b4 : wr.cell? ⟨eb, eoff + i * 5 + 4, none⟩ = some (.int .u64 (en.toNat : Int)) := hcx 4 (by omega)
      have HCB := Lib.hid (show ∀ W, Below wr.heap.size wr W → W.cell? ⟨eb, eoff + i * 5, none⟩ = some (.slice tao e.1.length tc) ∧ W.cell? ⟨eb, eoff + i * 5 + 1, none⟩ = some (.slice dao e.2.1.length dc) from fun W hb => ⟨cell_kept hb b0, cell_kept hb b1⟩)
      have j1 : (0 : Int) ≤ (i : Int) := by omega
      have j2 : (i : Int) < (ds.length : Int) := by omega
      have j4 : IntKind.i64.wrap ((i : Int) + 1) = (i : Int) + 1 := by have := HN.out; rw [IntKind.wrap_i64]; omega
      have HLT := Lib.hid hlt
      clear hrow hx2 hx3 hcs hcx hx hat he
      go_upto_region 6 with fail
      clear b0 b1 b2 b3 b4
      have HA1 := Lib.hid (below_of_alloc (w := wr) (boxE ⟨.slice tao e.1.length tc, .slice dao e.2.1.length dc, el, eq, en⟩))
      have HBX := Lib.hid (heap_alloc_new wr (boxE ⟨.slice tao e.1.length tc, .slice dao e.2.1.length dc, el, eq, en⟩))
      obtain ⟨w1, hw1⟩ : ∃ W : World, W = wr.alloc (boxE ⟨.slice tao e.1.length tc, .slice dao e.2.1.length dc, el, eq, en⟩) := ⟨_, rfl⟩
      rw [← hw1] at HA1 HBX
      rw [← hw1]
      have HS1 := Lib.hid (show w1.heap.size = wr.heap.size + 1 from by rw [hw1, World.size_alloc])
      clear hw1
      have hcb := HCB.out (w1.alloc (.cells #[] TE)) (HA1.out.alloc (by have := HS1.out; omega) _)
      obtain ⟨g0, g1⟩ := hcb
      have HT2 := Lib.hid ((HAT.out w1 HA1.out).add.kept (below_of_alloc (w := w1) (.cells #[] TE)))
      go_upto_region 7 with (at_builtin; refine wpList_append_seg rfl (.tmp 16) (.tmp 21) TS rfl w1.heap.size TE _ 8 80 Try.underlying26 infoE rfl (by decide) _ 0 [] rfl (owns_empty (heap_alloc_new w1 _) (Nat.le_refl _) 8) _ e.1.length _ rfl HT2.out encC_one (by have := HLE.out.1; omega) (by decide) (by rw [World.size_alloc]; omega) ?_; intro v6 w2 ho6 hg6 _; obtain ⟨o6, c6, hv6⟩ := owns_slice1 ho6; subst hv6; rw [Nat.zero_add] at ho6 ⊢; have HO6 := Lib.hid ho6; have HB6 := Lib.hid (below_grown (below_of_alloc (w := w1) (.cells #[] TE)) hg6 (owns_empty (heap_alloc_new w1 _) (Nat.le_refl _) 8) (Nat.le_refl _) (by rw [World.size_alloc]; omega)); have HBX2 := Lib.hid (blk_kept HB6.out HBX.out); have k0 : w2.cell? ⟨wr.heap.size, 0, none⟩ = some (.slice tao e.1.length tc) := (blk_cell HBX2.out 0).trans rfl; have kf : w2.frozen? ⟨wr.heap.size, 0, none⟩ = false := (blk_frozen HBX2.out 0).trans (by simp); clear ho6 hg6 g0 g1)
      have HB2 := Lib.hid (show Below wr.heap.size wr w2 from below_step HA1.out (HB6.out) HA1.out.size)
      obtain ⟨w3, hw3⟩ : ∃ W : World, W = w2.setCell ⟨wr.heap.size, 0, none⟩ (.slice o6 e.1.length c6) := ⟨_, rfl⟩
      rw [← hw3]
      have HBX3 := Lib.hid (show w3.heap[wr.heap.size]? = some (boxE ⟨.slice o6 e.1.length c6, .slice dao e.2.1.length dc, el, eq, en⟩) from by rw [hw3, blk_set HBX2.out]; rfl)
      have HB3 := Lib.hid (show Below wr.heap.size wr w3 from by rw [hw3]; exact HB2.out.setCell (p := ⟨wr.heap.size, 0, none⟩) (Nat.le_refl _) _)
      have HO3 := Lib.hid (show w3.ownsRow w1.heap.size TE 8 (.slice o6 e.1.length c6) e.1.length (e.1.flatMap encC) from by
        rw [hw3]
        refine row_kept1 HO6.out fun p hp => ?_
        have := (HO6.out.lt p hp).1
        have := HS1.out
        exact blk_set_other (by show p ≠ wr.heap.size; omega))
      have HS3 := Lib.hid (show w1.heap.size ≤ w3.heap.size from by rw [hw3, size_set1]; exact HB6.out.size)
      clear hw3 k0 kf
      have hcb := HCB.out (w3.alloc (.cells #[] TU)) (HB3.out.alloc HB3.out.size _)
      obtain ⟨g0, g1⟩ := hcb
      have HT3 := Lib.hid ((HAT.out w3 HB3.out).drop.kept (below_of_alloc (w := w3) (.cells #[] TU)))
      go_upto_region 8 with (at_builtin; refine wpList_append_seg rfl (.tmp 24) (.tmp 29) TUs rfl w3.heap.size TU _ 1 8 Try.underlying46 infoU rfl (by decide) _ 0 [] rfl (owns_empty (heap_alloc_new w3 _) (Nat.le_refl _) 1) _ e.2.1.length _ rfl HT3.out encU_one (by have := HLE.out.2; omega) (by decide) (by rw [World.size_alloc]; omega) ?_; intro v7 w4 ho7 hg7 _; obtain ⟨o7, c7, hv7⟩ := owns_slice1 ho7; subst hv7; rw [Nat.zero_add] at ho7 ⊢; have HO7 := Lib.hid ho7; have HB7 := Lib.hid (below_grown (below_of_alloc (w := w3) (.cells #[] TU)) hg7 (owns_empty (heap_alloc_new w3 _) (Nat.le_refl _) 1) (Nat.le_refl _) (by rw [World.size_alloc]; omega)); have HBX4 := Lib.hid (blk_kept HB7.out HBX3.out); have k1 : w4.cell? ⟨wr.heap.size, 1, none⟩ = some (.slice dao e.2.1.length dc) := (blk_cell HBX4.out 1).trans rfl; have kf : w4.frozen? ⟨wr.heap.size, 1, none⟩ = false := (blk_frozen HBX4.out 1).trans (by simp); clear ho7 hg7 g0 g1)
      have HB4 := Lib.hid (show Below wr.heap.size wr w4 from below_step HB3.out HB7.out HB3.out.size)
      obtain ⟨w5, hw5⟩ : ∃ W : World, W = w4.setCell ⟨wr.heap.size, 1, none⟩ (.slice o7 e.2.1.length c7) := ⟨_, rfl⟩
      rw [← hw5]
      have HBX5 := Lib.hid (show w5.heap[wr.heap.size]? = some (boxE ⟨.slice o6 e.1.length c6, .slice o7 e.2.1.length c7, el, eq, en⟩) from by rw [hw5, blk_set HBX4.out]; rfl)
      have HB5 := Lib.hid (show Below wr.heap.size wr w5 from by rw [hw5]; exact HB4.out.setCell (p := ⟨wr.heap.size, 1, none⟩) (Nat.le_refl _) _)
      have HEO := Lib.hid (show EdOwn w5 w.heap.size ⟨.slice o6 e.1.length c6, .slice o7 e.2.1.length c7, el, eq, en⟩ e from by
        have hs1 := HS1.out
        have hs3 := HS3.out
        have hws := HI.out.2.2.2.size
        have hge : ∀ p, wr.heap.size < p → w5.heap[p]? = w4.heap[p]? := fun p hp => by rw [hw5]; exact blk_set_other (by show p ≠ wr.heap.size; omega)
        refine ⟨?_, ?_, ?_⟩
        · refine owns_mono (row_kept1 HO3.out fun p hp => ?_) (show w.heap.size ≤ w1.heap.size by omega)
          have h1 := HO3.out.lt p hp
          rw [hge p (by omega), HB7.out.block p h1.2]
        · refine owns_mono (row_kept1 HO7.out fun p hp => ?_) (show w.heap.size ≤ w3.heap.size by omega)
          have h1 := HO7.out.lt p hp
          exact hge p (by omega)
        · exact (HAT.out w1 HA1.out).nums)
      have HFR := Lib.hid (show ∀ q, ((Value.slice o6 e.1.length c6).ownBlock = some q ∨ (Value.slice o7 e.2.1.length c7).ownBlock = some q) → wr.heap.size ≤ q from fun q hq => by
        have hs1 := HS1.out
        have hs3 := HS3.out
        rcases hq with hq | hq
        · have := (HO3.out.lt q hq).1; omega
        · have := (HO7.out.lt q hq).1; omega)
      clear hw5 k1 kf
      have hbx := HBX5.out
      have k0 : w5.cell? ⟨wr.heap.size, 0, none⟩ = some (.slice o6 e.1.length c6) := (blk_cell hbx 0).trans rfl
      have k1 : w5.cell? ⟨wr.heap.size, 1, none⟩ = some (.slice o7 e.2.1.length c7) := (blk_cell hbx 1).trans rfl
      have k2 : w5.cell? ⟨wr.heap.size, 2, none⟩ = some (.int .u64 (el.toNat : Int)) := (blk_cell hbx 2).trans rfl
      have k3 : w5.cell? ⟨wr.heap.size, 3, none⟩ = some (.int .u64 (eq.toNat : Int)) := (blk_cell hbx 3).trans rfl
      have k4 : w5.cell? ⟨wr.heap.size, 4, none⟩ = some (.int .u64 (en.toNat : Int)) := (blk_cell hbx 4).trans rfl
      have hri := HI.out.2.1
      have HOUT := Lib.hid (show (w5.alloc (.cells (encEc ⟨.slice o6 e.1.length c6, .slice o7 e.2.1.length c7, el, eq, en⟩).toArray TEd)).ownsRow w.heap.size TEd 5 (.slice oo i oc) i (xs.flatMap encEc) from (row_kept1 hri fun p hp => HB5.out.block p (hri.lt p hp).2).alloc _)
      have HOLT := Lib.hid (show ∀ q, (Value.slice oo i oc).ownBlock = some q → q < wr.heap.size from fun q hq => (hri.lt q hq).2)
      have HSEG := Lib.hid (show Seg (w5.alloc (.cells (encEc ⟨.slice o6 e.1.length c6, .slice o7 e.2.1.length c7, el, eq, en⟩).toArray TEd)) 5 (.slice (some ⟨w5.heap.size, 0, none⟩) 1 1) 1 (encEc ⟨.slice o6 e.1.length c6, .slice o7 e.2.1.length c7, el, eq, en⟩) from seg_oneG (heap_alloc_new _ _) rfl)
      have HWS := Lib.hid (show w.heap.size ≤ (w5.alloc (.cells (encEc ⟨.slice o6 e.1.length c6, .slice o7 e.2.1.length c7, el, eq, en⟩).toArray TEd)).heap.size from by rw [World.size_alloc]; have := HI.out.2.2.2.size; have := HB5.out.size; omega)
      clear hbx hri
      go_wp2_with (at_builtin; refine wpList_append_seg rfl (.tmp 32) (.tmp 34) TSe rfl w.heap.size TEd _ 5 72 Try.underlying22 infoEd rfl (by decide) _ i _ rfl HOUT.out _ 1 _ rfl HSEG.out (encEc_one1 (e := ⟨.slice o6 e.1.length c6, .slice o7 e.2.1.length c7, el, eq, en⟩) ⟨⟨_, _, _, rfl⟩, ⟨_, _, _, rfl⟩⟩) (by have := HN.out; omega) (by decide) HWS.out ?_; intro v8 w6 ho8 hg8 hw8; obtain ⟨o8, c8, hv8⟩ := owns_slice1 ho8; subst hv8; have HO8 := Lib.hid ho8; have HG8 := Lib.hid (show (w5.alloc (.cells (encEc ⟨.slice o6 e.1.length c6, .slice o7 e.2.1.length c7, el, eq, en⟩).toArray TEd)).grownBy w6 (Value.slice oo i oc).ownBlock from hg8); have HW8 := Lib.hid (show (Value.slice o8 (i + 1) c8).ownBlock = (Value.slice oo i oc).ownBlock ∨ (Value.slice o8 (i + 1) c8).ownBlock = some (w5.alloc (.cells (encEc ⟨.slice o6 e.1.length c6, .slice o7 e.2.1.length c7, el, eq, en⟩).toArray TEd)).heap.size from hw8); clear ho8 hg8 hw8)
      have HCI := Lib.hid (show CopInv w w6 ds (i + 1) (.slice o8 (i + 1) c8) (xs ++ [⟨.slice o6 e.1.length c6, .slice o7 e.2.1.length c7, el, eq, en⟩]) from by
        have hb56 : Below w5.heap.size w5 (w5.alloc (.cells (encEc ⟨.slice o6 e.1.length c6, .slice o7 e.2.1.length c7, el, eq, en⟩).toArray TEd)) := below_of_alloc _
        have hin := HI.out
        refine ⟨by rw [List.length_append, hin.1]; rfl, by rw [List.flatMap_append]; have := HO8.out; simpa using this, fun j hj hk => ?_, ?_⟩
        · have hap : ∀ (y : Es) (d : Ed) (hy : EdOwn w5 w.heap.size y d) (ha : ApartE y (Value.slice oo i oc).ownBlock), EdOwn w6 w.heap.size y d ∧ ApartE y (Value.slice o8 (i + 1) c8).ownBlock := fun y d hy ha => by
            have h1 := hy.keep (grown_below hb56 none) (fun q hq => by simp)
            refine ⟨h1.keep HG8.out ha, fun q hq ee => ?_⟩
            rcases HW8.out with h | h
            · exact ha q hq (h ▸ ee)
            · rw [h] at ee
              have h2 := (hy.lt q hq).2
              have h3 : (w5.alloc (.cells (encEc ⟨.slice o6 e.1.length c6, .slice o7 e.2.1.length c7, el, eq, en⟩).toArray TEd)).heap.size = q := by injection ee
              rw [World.size_alloc] at h3
              omega
          rcases Nat.lt_or_ge j xs.length with h | h
          · have hold := hin.2.2.1 j h hk
            rw [List.getElem_append_left h]
            refine hap _ _ (hold.1.keep (grown_below HB5.out none) (fun q hq => by simp)) hold.2
          · have hji : j = i := by rw [List.length_append, hin.1] at hj; rw [hin.1] at h; simp at hj; omega
            subst hji
            have e1 : (xs ++ [⟨.slice o6 e.1.length c6, .slice o7 e.2.1.length c7, el, eq, en⟩])[j] = ⟨.slice o6 e.1.length c6, .slice o7 e.2.1.length c7, el, eq, en⟩ := by rw [List.getElem_append_right (by rw [hin.1]; exact Nat.le_refl _)]; simp [hin.1]
            rw [e1, ← HDE.out]
            refine hap _ _ HEO.out fun q hq ee => ?_
            have h2 := HFR.out q hq
            have h3 := HOLT.out q ee
            omega
        · exact (below_step hin.2.2.2 (below_step HB5.out hb56 HB5.out.size) hin.2.2.2.size).grown HG8.out HWS.out fun p hp => (HOUT.out.lt p hp).1)
      go_roundw
      case rel => exact ⟨i + 1, o8, c8, _, hlt, by first | rfl | (congr 1), rfl, HCI⟩
      case measure => simp [intOf]; omega
    · have hil : i = ds.length := by omega
      subst hil
      have i1 : ¬ (ds.length : Int) < (ds.length : Int) := by omega
      go_wp2_with fail
      go_ret
      have hin := HI.out
      exact ⟨_, xs, rfl, ⟨hin.1, by unfold Elems; rw [hin.1]; exact Seg.of_owns hin.2.1, fun j hj hk => (hin.2.2.1 j hj hk).1.at'⟩, hin.2.2.2⟩
end Go.Proofs.Try.Vr
