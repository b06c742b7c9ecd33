/- SkipPlays: the walk. -/
import Derived.Test.YthcakgnendnekaaRfX
import Derived.Deep.RegionHeld3
open Go.RowKit Go.Cph Go.Cph.Skip
set_option linter.unusedVariables false
set_option linter.unusedSimpArgs false
namespace Go.Proofs.Try.SkS

theorem mem_putIt {l : List It} {k : ByteArray} {x : V} {h : Nat} {y : It} (hy : y ∈ putIt l k x h) : y.1 = k ∨ ∃ z ∈ l, z.1 = y.1 := by
  unfold putIt at hy
  split at hy
  · obtain ⟨z, hz, rfl⟩ := List.mem_map.1 hy
    by_cases e : z.1 = k
    · simp [e]
    · rw [if_neg e]; exact .inr ⟨z, hz, rfl⟩
  · rcases List.mem_append.1 hy with hy | hy
    · exact .inr ⟨y, hy, rfl⟩
    · rw [List.mem_singleton.1 hy]; exact .inl rfl
theorem foot_type {w : World} {p : Nat} {nx : Nat → Nat → Nat} {nodes : List (Nd V)} {v : Value} (h : IsAt w p nx nodes v) {k : Nat} (hk : foot p v nodes k) :
    ∃ cur E, w.heap[k]? = some (.cells cur E (0, 0)) ∧ (E = TL ∨ E = TN ∨ E = 3) := by
  rcases hk with rfl | hk | ⟨x, hx, rfl⟩
  · exact ⟨_, _, h.head, .inl rfl⟩
  · obtain ⟨cur, hc⟩ := row_block h.row hk
    exact ⟨cur, _, hc, .inr (.inl rfl)⟩
  · obtain ⟨i, hi, rfl⟩ := List.getElem_of_mem hx
    obtain ⟨cur, hc⟩ := row_block (h.towers i hi) rfl
    exact ⟨cur, _, hc, .inr (.inr rfl)⟩
/-- Another type's row stays as it is when a list is touched. -/
theorem owns_touched {w w' : World} {p : Nat} {nx : Nat → Nat → Nat} {nodes : List (Nd V)} {v : Value} (h : IsAt w p nx nodes v) (ht : Touched (foot p v nodes) w w') {base : Nat} {e : TypeId} {size : Nat} {u : Value} {n : Nat} {xs : List Value}
    (ho : w.ownsRow base e size u n xs) (he : e ≠ TL ∧ e ≠ TN ∧ e ≠ 3) : w'.ownsRow base e size u n xs := by
  refine row_kept ho fun k hk => ht.block k (ho.lt k hk).2 fun hf => ?_
  obtain ⟨cur, hc⟩ := row_block ho hk
  obtain ⟨cur', E, hc', hE⟩ := foot_type h hf
  rw [hc] at hc'
  simp only [Option.some.injEq, Obj.cells.injEq] at hc'
  rcases hE with rfl | rfl | rfl
  · exact he.1 hc'.2.1
  · exact he.2.1 hc'.2.1
  · exact he.2.2 hc'.2.1

theorem emptyAt (w : World) : IsAt (w.alloc (.cells #[.int .i64 0, .int .i64 0, .int .i64 0, .int .i64 0, .int .i64 0, .int .i64 0, .int .i64 0, .int .i64 0, .int .i64 0, .int .i64 0, .int .i64 0, .int .i64 0, .slice none 0 0] TL)) w.heap.size (fun _ _ => 0) ([] : List (Nd V)) (.slice none 0 0) := by
  refine ⟨?_, World.ownsRow_nil _ _ _ _, fun i hi => absurd hi (by simp), fun i j hi => absurd hi (by simp)⟩
  rw [show headCells (fun _ _ => 0) (.slice none 0 0) = #[.int .i64 0, .int .i64 0, .int .i64 0, .int .i64 0, .int .i64 0, .int .i64 0, .int .i64 0, .int .i64 0, .int .i64 0, .int .i64 0, .int .i64 0, .int .i64 0, .slice none 0 0] by simp [headCells, List.range_succ]]
  exact heap_alloc_new _ _

set_option maxRecDepth 100000 in
set_option maxHeartbeats 8000000 in
theorem plays (v0 : Value) (acts : List Ac) (bare : Bool) (w : World) (hv : ActsAt w v0 acts) (hs : ∀ a ∈ acts, a.key.size ≤ maxLen ∧ a.val.size ≤ maxLen) :
    Calls Try.prog 8 #[v0, .bool bare] w (AwakePost w) := by
  have HV := Lib.hid hv
  have hgr := great v0 acts w hv hs
  obtain ⟨ao, cap, rfl, hvc⟩ := hv
  clear hvc
  go_enter Try.func8, Try.ntmps8
  go_wp2_with fail
  refine hgr.mono ?_
  rintro e w1 ⟨⟨g, rfl, hg⟩, hb⟩
  have HV1 := Lib.hid (HV.out.kept hb)
  have HB1 := Lib.hid hb
  clear hb hgr
  cases g with
  | true =>
    have haw := awake w1
    go_wp2_with fail
    refine haw.mono ?_
    rintro e w2 ⟨rfl, hb⟩
    go_wp2_with fail
    go_ret
    exact ⟨rfl, below_step HB1.out hb HB1.out.size⟩
  | false =>
    have HSM := Lib.hid (hg rfl)
    clear hg
    go_wp2_with fail
    refine (cNew w1).mono ?_
    rintro e w2 ⟨rfl, hat, hb⟩
    have HB2 := Lib.hid (below_step HB1.out hb HB1.out.size)
    have HA2 := Lib.hid hat
    have hw12 := HB1.out.size
    have hp0 : w1.heap.size < w2.heap.size := blk_lt hat.head
    clear hat hb
    have H1 := Lib.hid (show IsAt w2 w1.heap.size (fun _ _ => 0) ([] : List (Nd V)) (.slice none 0 0) ∧ Below w.heap.size w w2 ∧ w.heap.size ≤ w1.heap.size from ⟨HA2.out, HB2.out, hw12⟩)
    have H2 := Lib.hid (show IsAt (w2.alloc (.cells #[.int .i64 0, .int .i64 0, .int .i64 0, .int .i64 0, .int .i64 0, .int .i64 0, .int .i64 0, .int .i64 0, .int .i64 0, .int .i64 0, .int .i64 0, .int .i64 0, .slice none 0 0] 63)) w2.heap.size (fun _ _ => 0) ([] : List (Nd V)) (.slice none 0 0) ∧
      Below w.heap.size w (w2.alloc (.cells #[.int .i64 0, .int .i64 0, .int .i64 0, .int .i64 0, .int .i64 0, .int .i64 0, .int .i64 0, .int .i64 0, .int .i64 0, .int .i64 0, .int .i64 0, .int .i64 0, .slice none 0 0] 63)) ∧ w.heap.size ≤ w2.heap.size from ⟨emptyAt w2, HB2.out.alloc HB2.out.size _, by omega⟩)
    cases bare
    go_wp2_with fail
    have HA3 := H1
    generalize w1.heap.size = p at HA3 ⊢
    generalize w2 = w3 at HA3 ⊢
    rotate_left
    go_wp2_with fail
    have HA3 := H2
    generalize w2.alloc (.cells #[.int .i64 0, .int .i64 0, .int .i64 0, .int .i64 0, .int .i64 0, .int .i64 0, .int .i64 0, .int .i64 0, .int .i64 0, .int .i64 0, .int .i64 0, .int .i64 0, .slice none 0 0] 63) = w3 at HA3 ⊢
    generalize w2.heap.size = p at HA3 ⊢
    all_goals
      clear H1 H2 HA2 HB2 hp0
      go_loopw [7, 8] (fun u i wr => ∃ (k : Nat) (nx : Nat → Nat → Nat) (nodes : List (Nd V)) (v : Value), k ≤ acts.length ∧ i = .int .i64 k ∧ IsAt wr p nx nodes v ∧ Linked nodes nx ∧
          wr.ownsRow 0 43 3 u nodes.length ((its nodes).flatMap encIt) ∧ nodes.length ≤ k ∧ (∀ y ∈ its nodes, y.1.size ≤ 20000) ∧ Below w.heap.size w wr ∧ ∀ j, foot p v nodes j → w.heap.size ≤ j)
        (fun _ i _ => acts.length - (intOf i).toNat)
      case atStart =>
        refine ⟨0, _, [], _, by omega, rfl, HA3.out.1, linkedNil, World.ownsRow_nil _ _ _ _, by simp, by simp [its], HA3.out.2.1, ?_⟩
        rintro j (h | h | ⟨y, hy, _⟩)
        · have := HA3.out.2.2; omega
        · simp [Value.ownBlock] at h
        · simp at hy
      case round =>
        obtain ⟨k, nx, nodes, v, hk, rfl, hat, hln, ho, hlen, hsz, hbel, hft⟩ := hrel
        have HA := Lib.hid hat
        have HL := Lib.hid hln
        have HO := Lib.hid ho
        have HSZ := Lib.hid hsz
        have HB := Lib.hid hbel
        have HF := Lib.hid hft
        have hil : (its nodes).length = nodes.length := by simp [its]
        have HIL := Lib.hid hil
        have ha120 := HSM.out.1
        have hsm : SmallIts (its nodes) := ⟨by omega, fun y hy => by have := hsz y hy; omega⟩
        have HSI := Lib.hid hsm
        have hil' : IsList wr (ptr p) (its nodes) := .inr ⟨p, nx, nodes, v, rfl, hat, hln, rfl, by omega⟩
        have HLS := Lib.hid hil'
        have hit : ItemsAt wr u7 (its nodes) := by have := Seg.of_owns ho; rw [← hil] at this; exact this
        have HIT := Lib.hid hit
        obtain ⟨au, cu, hu7⟩ := owns_slice ho
        subst hu7
        clear hat hln ho hsz hbel hft hil hsm hil' hit
        by_cases hlt : k < acts.length
        · have hvv := HV.out
          obtain ⟨ao', cap', hve, hvc⟩ := hvv
          obtain ⟨b, off, hao, hc⟩ := hvc (by omega)
          cases hve
          subst hao
          have hbl : b < w.heap.size := World.block_lt_of_cell? w _ (hc k hlt).1
          have hsk := HSM.out.2 _ (List.getElem_mem hlt)
          have k0 : (0 : Int) ≤ (k : Int) := by omega
          have k1 : (k : Int) < (acts.length : Int) := by omega
          obtain ⟨d0, d1, d2, d3⟩ := hc k hlt
          obtain ⟨ac, hac⟩ : ∃ ac, ac = acts[k] := ⟨_, rfl⟩
          rw [← hac] at d0 d1 d2 d3 hsk
          obtain ⟨what, key, val, height⟩ := ac
          dsimp only at d0 d1 d2 d3 hsk
          have hsk1 := hsk.1
          have DD := Lib.hid (And.intro d0 (And.intro d1 (And.intro d2 d3)))
          have cells : ∀ W, Below w.heap.size w W → W.cell? ⟨b, off + k * 4, none⟩ = some (.int .u8 what) ∧ W.cell? ⟨b, off + k * 4 + 1, none⟩ = some (.string key) ∧ W.cell? ⟨b, off + k * 4 + 2, none⟩ = some (.string val) ∧ W.cell? ⟨b, off + k * 4 + 3, none⟩ = some (.int .i64 height) :=
            fun W hW => ⟨Go.Cph.cell_kept hW DD.out.1, Go.Cph.cell_kept hW DD.out.2.1, Go.Cph.cell_kept hW DD.out.2.2.1, Go.Cph.cell_kept hW DD.out.2.2.2⟩
          have CC := Lib.hid cells
          clear hvc hc d0 d1 d2 d3 hac cells hsk
          have c0 := (CC.out wr HB.out).1
          have c1 := (CC.out wr HB.out).2.1
          have c2 := (CC.out wr HB.out).2.2.1
          have c3 := (CC.out wr HB.out).2.2.2
          by_cases h0 : what = 0
          · subst h0
            have hset := rSet (.slice au nodes.length cu) (its nodes) key val height wr.drew (HIT.out.kept (Below.refl _ _).drew) HSI.out (its_uniq HL.out)
            go_wp2_with fail
            go_region_held3 (fun W => W.cell? ⟨b, off + k * 4 + 1, none⟩ = some (.string key) ∧ W.cell? ⟨b, off + k * 4 + 2, none⟩ = some (.string val) ∧ W.cell? ⟨b, off + k * 4 + 3, none⟩ = some (.int .i64 height))
              (go_keep)
              ((go_at_call 17; refine hset.mono ?_; rintro e w6 ⟨⟨v', n', rfl, ho', hn'⟩, hb6⟩; have HO6 := Lib.hid ho'; have HN6 := Lib.hid hn'; have HB6 := Lib.hid hb6; have q1 := (CC.out w6 (HB.out.trans ((((Below.refl _ _).drew).trans hb6).mono HB.out.size))).2.1; have q2 := (CC.out w6 (HB.out.trans ((((Below.refl _ _).drew).trans hb6).mono HB.out.size))).2.2.1; have q3 := (CC.out w6 (HB.out.trans ((((Below.refl _ _).drew).trans hb6).mono HB.out.size))).2.2.2; clear ho' hn' hb6))
            have HA6 := Lib.hid ((HA.out.kept (Below.refl _ _).drew).kept HB6.out)
            have HB66 := Lib.hid (HB.out.trans ((((Below.refl _ _).drew).trans HB6.out).mono HB.out.size))
            have hset2 := cSet key val height w6.drew (HA6.out.kept (Below.refl _ _).drew) HL.out (by omega)
            have hsetn := fun W => cSetNil key val height W
            obtain ⟨au', cu', hv6⟩ := owns_slice HO6.out
            subst hv6
            clear hset c0 c1 c2 c3
            go_wp2_with fail
            go_region_held3 (fun W => W.cell? ⟨b, off + k * 4 + 1, none⟩ = some (.string key) ∧ W.cell? ⟨b, off + k * 4 + 2, none⟩ = some (.string val) ∧ W.cell? ⟨b, off + k * 4 + 3, none⟩ = some (.int .i64 height))
              (go_keep)
              (first
                | ((go_at_call 16; refine hset2.mono ?_; rintro e w7 ⟨nx', nodes', v', fresh, rfl, hat', hln', htc, hft', his⟩; clear hset2; have hi2 := his.its HL.out.keys; obtain ⟨hi3, rfl⟩ := hi2; have HI3 := Lib.hid hi3; have HA7 := Lib.hid hat'; have HL7 := Lib.hid hln'; have HT7 := Lib.hid htc; have HF7 := Lib.hid hft'; have HLEN := Lib.hid his.len; have HB7 := Lib.hid (HB66.out.trans (((Below.refl w.heap.size w6).drew).trans (htc.below (B := w.heap.size) HB66.out.drew.size HF.out))); have q1 := (CC.out w7 HB7.out).2.1; have q2 := (CC.out w7 HB7.out).2.2.1; have q3 := (CC.out w7 HB7.out).2.2.2; clear hat' hln' htc hft' his hi3; have z1 : ((!(hasIt (its nodes) key)) == (!(hasIt (its nodes) key))) = true := by simp))
                | ((go_at_call 16; refine (hsetn _).mono ?_; rintro e w8 ⟨rfl, rfl⟩)))
            have HREST := Lib.hid (show nodes'.length ≤ k + 1 ∧ ∀ y ∈ its nodes', y.1.size ≤ 20000 from ⟨by have := HLEN.out; omega, fun y hy => by
              rw [HI3.out] at hy
              rcases mem_putIt hy with h | ⟨z, hz, h⟩
              · rw [h]; exact hsk1
              · rw [← h]; exact HSZ.out z hz⟩)
            have hn7 : n' = nodes'.length := by rw [HN6.out, ← HI3.out]; simp [its]
            subst hn7
            have HO7 := Lib.hid (show w7.ownsRow 0 43 3 (.slice au' nodes'.length cu') nodes'.length ((its nodes').flatMap encIt) from by
              have h1 := HO6.out
              rw [← HI3.out] at h1
              exact owns_mono (owns_touched (HA6.out.kept (Below.refl _ _).drew) HT7.out h1 ⟨by decide, by decide, by decide⟩) (Nat.zero_le _))
            have HF8 := Lib.hid (show ∀ j, foot p v' nodes' j → w.heap.size ≤ j from fun j hj => by
              rcases HF7.out j hj with h | h
              · exact HF.out j h
              · exact Nat.le_trans HB66.out.drew.size h)
            have c0 := (CC.out w7 HB7.out).1
            have c1 := (CC.out w7 HB7.out).2.1
            have c2 := (CC.out w7 HB7.out).2.2.1
            have c3 := (CC.out w7 HB7.out).2.2.2
            clear q1 q2 q3 z1
            have hil := show (its nodes').length = nodes'.length by simp [its]
            have hX : IsList w7 (ptr p) (its nodes') := .inr ⟨p, nx', nodes', v', rfl, HA7.out, HL7.out, rfl, by have := (HREST.out).1; omega⟩
            have hI : ItemsAt w7 (.slice au' nodes'.length cu') (its nodes') := by show Seg _ _ _ (its nodes').length _; rw [hil]; exact Seg.of_owns HO7.out
            have hS : SmallIts (its nodes') := ⟨by have := (HREST.out).1; omega, fun y hy => by have := (HREST.out).2 y hy; omega⟩
            have hask := asks (ptr p) (.slice au' nodes'.length cu') (its nodes') 0 key val height w7 hX hI hS (by omega)
            have HXL := Lib.hid hX
            have HIL2 := Lib.hid hil
            clear hX hI hS hil
            go_wp2_with fail
            refine hask.mono ?_
            rintro e y1 ⟨rfl, hb⟩
            have HY1 := Lib.hid (HB7.out.trans (hb.mono HB7.out.size))
            have HYB := Lib.hid hb
            have hask2 := asks (.pointer none) (.slice none 0 0) [] 0 key val height y1 (.inl ⟨rfl, rfl⟩) (Seg.nil _ _) ⟨by simp, by simp⟩ (by omega)
            have e0 := (CC.out y1 HY1.out).1
            have e1 := (CC.out y1 HY1.out).2.1
            have e2 := (CC.out y1 HY1.out).2.2.1
            have e3 := (CC.out y1 HY1.out).2.2.2
            clear hb hask
            go_wp2_with fail
            refine hask2.mono ?_
            rintro e y2 ⟨rfl, hb⟩
            have HYC := Lib.hid (HYB.out.trans (hb.mono HYB.out.size))
            have hlen := qLen y2 (HXL.out.kept HYC.out)
            rw [HIL2.out] at hlen
            have hlen0 := cLenNil y2
            clear hb hask2 e0 e1 e2 e3
            go_wp2_with fail
            refine hlen.mono ?_
            rintro e y3 ⟨rfl, rfl⟩
            go_wp2_with fail
            refine hlen0.mono ?_
            rintro e y3 ⟨rfl, rfl⟩
            clear hlen hlen0
            go_wp2_with fail
            go_roundw
            case rel => exact ⟨k + 1, nx', nodes', v', by omega, by go_num, HA7.out.kept HYC.out, HL7.out, row_kept HO7.out fun j hj => HYC.out.block j (HO7.out.lt j hj).2, by have := (HREST.out).1; omega, (HREST.out).2, HB7.out.trans (HYC.out.mono HB7.out.size), HF8.out⟩
            case measure => simp [intOf]; omega
          · have hz : (what == 0) = false := by simpa using h0
            have hil := show (its nodes).length = nodes.length by simp [its]
            have hX : IsList wr (ptr p) (its nodes) := .inr ⟨p, nx, nodes, v, rfl, HA.out, HL.out, rfl, by have := (show nodes.length ≤ k ∧ ∀ y ∈ its nodes, y.1.size ≤ 20000 from ⟨by omega, HSZ.out⟩).1; omega⟩
            have hI : ItemsAt wr (.slice au nodes.length cu) (its nodes) := by show Seg _ _ _ (its nodes).length _; rw [hil]; exact Seg.of_owns HO.out
            have hS : SmallIts (its nodes) := ⟨by have := (show nodes.length ≤ k ∧ ∀ y ∈ its nodes, y.1.size ≤ 20000 from ⟨by omega, HSZ.out⟩).1; omega, fun y hy => by have := (show nodes.length ≤ k ∧ ∀ y ∈ its nodes, y.1.size ≤ 20000 from ⟨by omega, HSZ.out⟩).2 y hy; omega⟩
            have hask := asks (ptr p) (.slice au nodes.length cu) (its nodes) what key val height wr hX hI hS (by omega)
            have HXL := Lib.hid hX
            have HIL2 := Lib.hid hil
            clear hX hI hS hil
            go_wp2_with fail
            refine hask.mono ?_
            rintro e y1 ⟨rfl, hb⟩
            have HY1 := Lib.hid (HB.out.trans (hb.mono HB.out.size))
            have HYB := Lib.hid hb
            have hask2 := asks (.pointer none) (.slice none 0 0) [] what key val height y1 (.inl ⟨rfl, rfl⟩) (Seg.nil _ _) ⟨by simp, by simp⟩ (by omega)
            have e0 := (CC.out y1 HY1.out).1
            have e1 := (CC.out y1 HY1.out).2.1
            have e2 := (CC.out y1 HY1.out).2.2.1
            have e3 := (CC.out y1 HY1.out).2.2.2
            clear hb hask
            go_wp2_with fail
            refine hask2.mono ?_
            rintro e y2 ⟨rfl, hb⟩
            have HYC := Lib.hid (HYB.out.trans (hb.mono HYB.out.size))
            have hlen := qLen y2 (HXL.out.kept HYC.out)
            rw [HIL2.out] at hlen
            have hlen0 := cLenNil y2
            clear hb hask2 e0 e1 e2 e3
            go_wp2_with fail
            refine hlen.mono ?_
            rintro e y3 ⟨rfl, rfl⟩
            go_wp2_with fail
            refine hlen0.mono ?_
            rintro e y3 ⟨rfl, rfl⟩
            clear hlen hlen0
            go_wp2_with fail
            go_roundw
            case rel => exact ⟨k + 1, nx, nodes, v, by omega, by go_num, HA.out.kept HYC.out, HL.out, row_kept HO.out fun j hj => HYC.out.block j (HO.out.lt j hj).2, by have := (show nodes.length ≤ k ∧ ∀ y ∈ its nodes, y.1.size ≤ 20000 from ⟨by omega, HSZ.out⟩).1; omega, (show nodes.length ≤ k ∧ ∀ y ∈ its nodes, y.1.size ≤ 20000 from ⟨by omega, HSZ.out⟩).2, HB.out.trans (HYC.out.mono HB.out.size), HF.out⟩
            case measure => simp [intOf]; omega
        · have k1 : ¬ (k : Int) < (acts.length : Int) := by omega
          have hw1 := whole (ptr p) (.slice au nodes.length cu) (its nodes) wr HLS.out HIT.out HSI.out
          go_wp2_with fail
          refine hw1.mono ?_
          rintro e y1 ⟨rfl, hb⟩
          have HY1 := Lib.hid (HB.out.trans (hb.mono HB.out.size))
          have hw2 := whole (.pointer none) (.slice none 0 0) [] y1 (.inl ⟨rfl, rfl⟩) (Seg.nil _ _) ⟨by simp, by simp⟩
          clear hb hw1
          go_wp2_with fail
          refine hw2.mono ?_
          rintro e y2 ⟨rfl, hb⟩
          have HY2 := Lib.hid (HY1.out.trans (hb.mono HY1.out.size))
          have haw := awake y2
          clear hb hw2
          go_wp2_with fail
          refine haw.mono ?_
          rintro e y3 ⟨rfl, hb⟩
          go_wp2_with fail
          go_ret
          exact ⟨rfl, HY2.out.trans (hb.mono HY2.out.size)⟩
end Go.Proofs.Try.SkS
