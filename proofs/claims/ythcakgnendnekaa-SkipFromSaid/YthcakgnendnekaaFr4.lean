/- SkipFrom: the walk. -/
import Derived.Test.YthcakgnendnekaaFr3
open Go.RowKit Go.Cph Go.Cph.Skip
set_option linter.unusedVariables false
set_option linter.unusedSimpArgs false
namespace Go.Proofs.Try.SkS
attribute [local go_sem] Oper.semAt_some

theorem resAt_from {tmps : Array Value} {b : Bool} {W : World} {g : Nat} (h1 : tmps.getD 8 undef = .pointer (some ⟨g, 0, none⟩)) (h2 : W.heap[g]? = some (.cells #[.bool b] 4 (0, 0))) : ResAt Try.prog Try.f4 tmps b W :=
  ⟨8, 4, g, rfl, h1, Try.underlying4, h2⟩

theorem awakeP {w w' : World} (h : Below w.heap.size w w') : AwakePost w (.returned (.bool true)) w' := ⟨rfl, h⟩

set_option maxRecDepth 100000 in
set_option maxHeartbeats 8000000 in
theorem from_ (v0 : Value) (acts : List Ac) (key fresh : ByteArray) (leave : Int) (w : World) (hv : ActsAt w v0 acts) (hs : ∀ a ∈ acts, a.key.size ≤ maxLen ∧ a.val.size ≤ maxLen) (hkm : key.size ≤ maxLen) (hfm : fresh.size ≤ maxLen) :
    Calls Try.prog 4 #[v0, .string key, .string fresh, .int .i64 leave] w (AwakePost w) := by
  unfold maxLen at hkm hfm
  have HV := Lib.hid hv
  have hgr := fun W h => great v0 acts W h hs
  have HG := Lib.hid hgr
  obtain ⟨ao, cap, rfl, hvc⟩ := hv
  clear hvc hs hgr
  refine calls_of_wp_marks Try.func4 rfl ?_
  simp only [Try.ntmps4, List.size_toArray, List.length_cons, List.length_nil, Nat.reduceAdd, Nat.reduceSub, Array.replicate_succ, Array.replicate_zero, List.push_toArray, List.append_toArray, List.nil_append, List.cons_append]
  go_wp2_with fail
  have hb0 : Below w.heap.size w (((w.alloc (.cells #[.string fresh] 9)).alloc (.cells #[.int .i64 leave] 3)).alloc (.cells #[.bool false] 4)) := (((Below.refl _ _).alloc (Nat.le_refl _) _).alloc (by simp) _).alloc (by simp; omega) _
  have g6 : (((w.alloc (.cells #[.string fresh] 9)).alloc (.cells #[.int .i64 leave] 3)).alloc (.cells #[.bool false] 4)).heap[w.heap.size]? = some (.cells #[.string fresh] 9 (0, 0)) := blk_alloc (blk_alloc (heap_alloc_new _ _) _) _
  have g7 : (((w.alloc (.cells #[.string fresh] 9)).alloc (.cells #[.int .i64 leave] 3)).alloc (.cells #[.bool false] 4)).heap[w.heap.size + 1]? = some (.cells #[.int .i64 leave] 3 (0, 0)) := by
    have := heap_alloc_new (w.alloc (.cells #[.string fresh] 9)) (.cells #[.int .i64 leave] 3)
    rw [World.size_alloc] at this
    exact blk_alloc this _
  have g8 : (((w.alloc (.cells #[.string fresh] 9)).alloc (.cells #[.int .i64 leave] 3)).alloc (.cells #[.bool false] 4)).heap[w.heap.size + 2]? = some (.cells #[.bool false] 4 (0, 0)) := by
    have := heap_alloc_new ((w.alloc (.cells #[.string fresh] 9)).alloc (.cells #[.int .i64 leave] 3)) (.cells #[.bool false] 4)
    rw [World.size_alloc, World.size_alloc] at this
    exact this
  generalize ((w.alloc (.cells #[.string fresh] 9)).alloc (.cells #[.int .i64 leave] 3)).alloc (.cells #[.bool false] 4) = w0 at *
  refine (HG.out _ (HV.out.kept hb0)).mono ?_
  rintro e w1 ⟨⟨g, rfl, hg⟩, hb⟩
  have HV1 := Lib.hid ((HV.out.kept hb0).kept hb)
  have HB1 := Lib.hid (below_step hb0 hb hb0.size)
  have G6 := Lib.hid (blk_kept hb g6)
  have G7 := Lib.hid (blk_kept hb g7)
  have G8 := Lib.hid (blk_kept hb g8)
  have hsz1 : w.heap.size + 3 ≤ w1.heap.size := blk_lt G8.out
  clear hb hb0 g6 g7 g8
  have c6 := (blk_one G6.out).1
  have haw := awake w1
  by_cases hc : g = true ∨ 20000 < key.size ∨ 20000 < fresh.size
  · have hc' : g = true ∨ (g = false ∧ 20000 < key.size) ∨ (g = false ∧ ¬ 20000 < key.size ∧ 20000 < fresh.size) := by
      cases g
      · rcases hc with h | h | h
        · exact absurd h (by simp)
        · exact .inr (.inl ⟨rfl, h⟩)
        · by_cases h' : 20000 < key.size
          · exact .inr (.inl ⟨rfl, h'⟩)
          · exact .inr (.inr ⟨rfl, h', h⟩)
      · exact .inl rfl
    clear hc hg
    rcases hc' with rfl | ⟨rfl, hc⟩ | ⟨rfl, hc, hc2⟩
    all_goals
      go_wp2_with fail
      refine haw.mono ?_
      rintro e w2 ⟨rfl, hb⟩
      have hres2 := blk_kept hb G8.out
      have hc2 := (blk_one hres2).1
      have hf2 := (blk_one hres2).2
      have HR2 := Lib.hid (blk_one_set hres2 (.bool true))
      have HB2 := Lib.hid ((below_step HB1.out hb HB1.out.size).setCell (p := ⟨w.heap.size + 2, 0, none⟩) (by show w.heap.size ≤ w.heap.size + 2; omega) (.bool true))
      clear hb hres2 haw
      go_wp2_with fail
      exact leaves0 (resAt_from rfl HR2.out) HB2.out fun _ h => awakeP h
  · have hgf : g = false := by cases g <;> simp_all
    subst hgf
    have HSM := Lib.hid (hg rfl)
    have hc1 : ¬ 20000 < key.size := fun h => hc (.inr (.inl h))
    have hc2 : ¬ 20000 < fresh.size := fun h => hc (.inr (.inr h))
    clear hc hg haw
    go_wp2_with fail
    refine (cNew w1).mono ?_
    rintro e w2 ⟨rfl, hat, hb⟩
    have HB2 := Lib.hid hb
    have HA2 := Lib.hid hat
    have hp2 : w1.heap.size < w2.heap.size := blk_lt hat.head
    clear hat hb c6
    go_wp2_with fail
    have g9 : ((w2.alloc (.cells #[ptr w1.heap.size] 25)).alloc (.cells #[.slice none 0 0] 33)).heap[w2.heap.size]? = some (.cells #[ptr w1.heap.size] 25 (0, 0)) := blk_alloc (heap_alloc_new _ _) _
    have g10 := heap_alloc_new (w2.alloc (.cells #[ptr w1.heap.size] 25)) (.cells #[.slice none 0 0] 33)
    rw [World.size_alloc] at g10
    have hb3 : Below w2.heap.size w2 ((w2.alloc (.cells #[ptr w1.heap.size] 25)).alloc (.cells #[.slice none 0 0] 33)) := ((Below.refl _ _).alloc (Nat.le_refl _) _).alloc (by simp) _
    obtain ⟨w3, hw3⟩ : ∃ w3, w3 = (w2.alloc (.cells #[ptr w1.heap.size] 25)).alloc (.cells #[.slice none 0 0] 33) := ⟨_, rfl⟩
    rw [← hw3] at g9 g10 hb3
    have FA0 : FA w fresh leave w1.heap.size w2.heap.size (w2.heap.size + 1) [] [] w3 := by
      refine ⟨blk_kept hb3 (blk_kept HB2.out G6.out), blk_kept hb3 (blk_kept HB2.out G7.out), blk_kept hb3 (blk_kept HB2.out G8.out), g9, ⟨_, [], _, HA2.out.kept hb3, linkedNil, rfl, ?_⟩, ⟨_, 0, g10, World.ownsRow_nil _ _ _ _, rfl⟩, by simp,
        HB1.out.trans ((HB2.out.trans (hb3.mono HB2.out.size)).mono HB1.out.size), hsz1, by omega⟩
      rintro j (h | h | ⟨y, hy, _⟩)
      · exact ⟨by omega, by simp⟩
      · simp [Value.ownBlock] at h
      · simp at hy
    have HFA0 := Lib.hid FA0
    have HW3 := Lib.hid hw3
    clear g9 g10 hb3 hw3 FA0
    rw [← HW3.out]
    go_loopw [11] (fun i wr => ∃ (k : Nat) (L : List It), k ≤ acts.length ∧ i = .int .i64 k ∧ FA w fresh leave w1.heap.size w2.heap.size (w2.heap.size + 1) [] L wr ∧ L.length ≤ k) (fun i _ => acts.length - (intOf i).toNat)
    case atStart => exact ⟨0, [], by omega, rfl, HFA0.out, by simp⟩
    case round =>
      obtain ⟨k, L, hk, rfl, hfa, hlen⟩ := hrel
      have HFA := Lib.hid hfa
      clear hfa
      have ha120 := HSM.out.1
      by_cases hlt : k < acts.length
      · obtain ⟨ao', cap', hve, hvc⟩ := HV.out
        obtain ⟨b, off, hao, hc⟩ := hvc (by omega)
        cases hve
        subst hao
        have hsk := HSM.out.2 _ (List.getElem_mem hlt)
        have k0 : (0 : Int) ≤ (k : Int) := by omega
        have k1 : (k : Int) < (acts.length : Int) := by omega
        obtain ⟨d0, d1, d2, d3⟩ := hc k hlt
        obtain ⟨ac, hac⟩ : ∃ ac, ac = acts[k] := ⟨_, rfl⟩
        rw [← hac] at d0 d1 d2 d3 hsk
        obtain ⟨what, akey, aval, height⟩ := ac
        dsimp only at d0 d1 d2 d3 hsk
        have hsk1 := hsk.1
        have DD := Lib.hid (And.intro d0 (And.intro d1 (And.intro d2 d3)))
        have cells : ∀ W, Below w.heap.size w W → W.cell? ⟨b, off + k * 4, none⟩ = some (.int .u8 what) ∧ W.cell? ⟨b, off + k * 4 + 1, none⟩ = some (.string akey) ∧ W.cell? ⟨b, off + k * 4 + 2, none⟩ = some (.string aval) ∧ W.cell? ⟨b, off + k * 4 + 3, none⟩ = some (.int .i64 height) :=
          fun W hW => ⟨Go.Cph.cell_kept hW DD.out.1, Go.Cph.cell_kept hW DD.out.2.1, Go.Cph.cell_kept hW DD.out.2.2.1, Go.Cph.cell_kept hW DD.out.2.2.2⟩
        have CC := Lib.hid cells
        clear hvc hc d0 d1 d2 d3 hac cells hsk
        have c0 := (CC.out wr HFA.out.bel).1
        have c1 := (CC.out wr HFA.out.bel).2.1
        have c2 := (CC.out wr HFA.out.bel).2.2.1
        have c3 := (CC.out wr HFA.out.bel).2.2.2
        have c9 := (blk_one HFA.out.h9).1
        by_cases h0 : what = 0
        · subst h0
          obtain ⟨nx, nodes, v, hat, hln, hits, hft⟩ := HFA.out.lst
          have HA := Lib.hid hat
          have HL := Lib.hid hln
          have HI := Lib.hid hits
          have HF := Lib.hid hft
          obtain ⟨au, cu, g10, hu⟩ := HFA.out.slice
          have G10 := Lib.hid g10
          have HU := Lib.hid hu
          clear g10 hu
          have hnl : nodes.length = L.length := by rw [← hits]; simp [its]
          have hset := cSet akey aval height wr.drew (hat.kept (Below.refl _ _).drew) hln (by omega)
          clear hat hln hits hft hnl
          go_wp2_with fail
          go_region_held3 (fun W => W.cell? ⟨w2.heap.size, 0, none⟩ = some (ptr w1.heap.size) ∧ W.cell? ⟨b, off + k * 4 + 1, none⟩ = some (.string akey) ∧ W.cell? ⟨b, off + k * 4 + 2, none⟩ = some (.string aval) ∧ W.cell? ⟨b, off + k * 4 + 3, none⟩ = some (.int .i64 height))
            (go_keep)
            ((go_at_call 16; refine hset.mono ?_; rintro e w7 ⟨nx', nodes', v', fr, rfl, hat', hln', htc, hft', his⟩; clear hset; have HA7 := Lib.hid hat'; have HL7 := Lib.hid hln'; have HT7 := Lib.hid htc; have HF7 := Lib.hid hft'; have HIS := Lib.hid his; have hbb := (HFA.out.bel.drew).trans (htc.below (B := w.heap.size) HFA.out.bel.drew.size (fun j hj => by have := (HF.out j hj).1; have := HFA.out.far; omega)); have HB7 := Lib.hid hbb; have q1 := (CC.out w7 hbb).2.1; have q2 := (CC.out w7 hbb).2.2.1; have q3 := (CC.out w7 hbb).2.2.2; have q9 : w7.cell? ⟨w2.heap.size, 0, none⟩ = some (ptr w1.heap.size) := (blk_one (touched_type (HA.out.kept (Below.refl _ _).drew) htc (W := wr.drew) HFA.out.h9 ⟨by decide, by decide, by decide⟩)).1; clear hat' hln' htc hft' his hbb))
          have hg7 := touched_type (HA.out.kept (Below.refl _ _).drew) HT7.out (W := wr.drew) G10.out ⟨by decide, by decide, by decide⟩
          have G107 := Lib.hid hg7
          have q10 := (blk_one hg7).1
          have hset2 := rSet (.slice au L.length cu) L akey aval height w7.drew (Seg.of_owns (owns_touched (HA.out.kept (Below.refl _ _).drew) HT7.out (owns_drewN HU.out 1) ⟨by decide, by decide, by decide⟩)) HFA.out.small HFA.out.uniq
          clear q9 hg7 c0 c1 c2 c3 c9
          go_wp2_with fail
          have hits := (HIS.out.its HL.out.keys).1
          rw [HI.out] at hits
          have HITS := Lib.hid hits
          have hln7 : (its nodes').length ≤ k + 1 := by
            have e1 := HIS.out.len
            have e2 : nodes.length = L.length := by rw [← HI.out]; simp [its]
            have e3 : (its nodes').length = nodes'.length := by simp [its]
            omega
          have HLN := Lib.hid hln7
          clear hln7
          clear hits
          apply wp_meet3 (fun (_ : Option Addr) (_ _ : Nat) W => FA w fresh leave w1.heap.size w2.heap.size (w2.heap.size + 1) [] (its nodes') W)
          · go_region_with (go_at_call 17; refine hset2.mono ?_; rintro e w8 ⟨⟨u', n', rfl, ho', hn'⟩, hb8⟩; obtain ⟨av, cv, hv8⟩ := owns_slice ho'; subst hv8; have HO8 := Lib.hid ho'; have HN8 := Lib.hid hn'; have HB8 := Lib.hid hb8; have r4 := Go.Cph.cell_kept hb8 q10; have r5 := (blk_one (blk_kept hb8 G107.out)).2; clear ho' hn' hb8)
            all_goals
              refine ⟨av, n', cv, rfl, ?_⟩
              have ho := HO8.out
              have hn := HN8.out
              rw [← HITS.out] at ho hn
              refine FA.next (HFA.out.below (Below.refl _ _).drew) (HA.out.kept (Below.refl _ _).drew) HF.out HT7.out HA7.out HL7.out HF7.out (by simp) (blk_lt (HA.out.kept (Below.refl _ _).drew).head) rfl (W2 := w8) ((Below.refl _ _).drew.trans HB8.out) ho hn ⟨by have := HLN.out; omega, fun y hy => ?_⟩
              rw [HITS.out] at hy
              rcases mem_putIt hy with h | ⟨z, hz, h⟩
              · rw [h]; exact hsk1
              · rw [← h]; exact HFA.out.sz.2 z hz
          · intro av n' cv W hW
            have HW := Lib.hid hW
            clear hW q1 q2 q3 q10 hset2
            go_wp2_with fail
            go_roundw
            case rel => exact ⟨k + 1, its nodes', by omega, by go_num, HW.out, HLN.out⟩
            case measure => simp [intOf]; omega
        · have hz : (what == 0) = false := by simpa using h0
          go_wp2_with fail
          go_roundw
          case rel => exact ⟨k + 1, L, by omega, by go_num, HFA.out, by omega⟩
          case measure => simp [intOf]; omega
      · have k1 : ¬ (k : Int) < (acts.length : Int) := by omega
        have hl120 : L.length ≤ 120 := by omega
        have c9 := (blk_one HFA.out.h9).1
        clear hk hlen hlt
        go_wp2_with fail
        refine (cFromB (some ⟨w1.heap.size, 0, none⟩) key wr).mono ?_
        rintro e w4 ⟨rfl, hbx⟩
        have hwr : w1.heap.size + 2 < wr.heap.size := by have e1 := blk_lt HFA.out.slice.choose_spec.choose_spec.1; omega
        have HFB := Lib.hid (show FB w fresh leave w1.heap.size w2.heap.size (w2.heap.size + 1) wr.heap.size key [] L w4 from ⟨HFA.out.below hbx.bel, hbx.hC, hbx.hD⟩)
        have hw4 : w4.heap.size = wr.heap.size + 2 := hbx.size
        have hw2 : w2.heap.size + 1 < wr.heap.size := blk_lt HFA.out.slice.choose_spec.choose_spec.1
        obtain ⟨C, hC⟩ : ∃ C, C = wr.heap.size := ⟨_, rfl⟩
        rw [← hC] at HFB hw4 hwr hw2 ⊢
        have HW4 := Lib.hid hw4
        clear hbx hC c9 k1 hw4
        go_wp2_with fail
        have hb13 := heap_alloc_new w4 (.cells #[.int .i64 0] 3)
        have hsz5 : (w4.alloc (.cells #[.int .i64 0] 3)).heap.size = w4.heap.size + 1 := by simp
        have hfb5 := (HFB.out.more (Nat.le_refl _)).below ((Below.refl _ _).alloc (Nat.le_refl _) (.cells #[.int .i64 0] 3))
        generalize w4.alloc (.cells #[.int .i64 0] 3) = W0 at *
        have HF0 := Lib.hid hfb5
        have H130 := Lib.hid hb13
        have hs0 : w4.heap.size < W0.heap.size := by omega
        clear hsz5
        have hb0' : w2.heap.size + 1 < C ∧ C + 1 < w4.heap.size ∧ w.heap.size + 3 ≤ w2.heap.size := by have := HFB.out.fa.far; have := HW4.out; omega
        generalize w4.heap.size = b0 at *
        clear hfb5 hb13 hwr hw2
        refine wp_loop_rounds 4 ?_
        rw [rounds_succ]
        have q13 := (blk_one H130.out).1
        have hrn := run_from_nil C
        go_wp2_with fail
        clear q13 hrn
        have hbz : Below W0.heap.size W0 (((W0.alloc (.cells #[.string key] 9)).alloc (.cells #[.bool false] 4)).alloc (.cells #[.int .i64 0] 3)) := (((Below.refl _ _).alloc (Nat.le_refl _) _).alloc (by simp) _).alloc (by simp; omega) _
        have k14 : (((W0.alloc (.cells #[.string key] 9)).alloc (.cells #[.bool false] 4)).alloc (.cells #[.int .i64 0] 3)).heap[W0.heap.size]? = some (.cells #[.string key] 9 (0, 0)) := blk_alloc (blk_alloc (heap_alloc_new _ _) _) _
        have k15 : (((W0.alloc (.cells #[.string key] 9)).alloc (.cells #[.bool false] 4)).alloc (.cells #[.int .i64 0] 3)).heap[W0.heap.size + 1]? = some (.cells #[.bool false] 4 (0, 0)) := by
          have := heap_alloc_new (W0.alloc (.cells #[.string key] 9)) (.cells #[.bool false] 4)
          rw [World.size_alloc] at this
          exact blk_alloc this _
        have k16 : (((W0.alloc (.cells #[.string key] 9)).alloc (.cells #[.bool false] 4)).alloc (.cells #[.int .i64 0] 3)).heap[W0.heap.size + 2]? = some (.cells #[.int .i64 0] 3 (0, 0)) := by
          have := heap_alloc_new ((W0.alloc (.cells #[.string key] 9)).alloc (.cells #[.bool false] 4)) (.cells #[.int .i64 0] 3)
          rw [World.size_alloc, World.size_alloc] at this
          exact this
        generalize ((W0.alloc (.cells #[.string key] 9)).alloc (.cells #[.bool false] 4)).alloc (.cells #[.int .i64 0] 3) = Z0 at *
        have hz0 : W0.heap.size + 3 ≤ Z0.heap.size := blk_lt k16
        have HR0 := Lib.hid (show RD w fresh leave w1.heap.size w2.heap.size (w2.heap.size + 1) C key ((W0.heap.size + 2) :: [b0]) L b0 W0.heap.size 0 ((kvIt L).map (·.1)) [] Z0 from
          ⟨(HF0.out.more (by omega)).below hbz, blk_kept hbz H130.out, k14, k15, k16, by rw [List.length_nil, Nat.zero_add]; exact List.countP_le_length, by show key.size ≤ 20000; omega⟩)
        have HBZ0 := Lib.hid hbz
        clear k14 k15 k16 hbz
        obtain ⟨s0, hs_0⟩ : ∃ s, s = W0.heap.size := ⟨_, rfl⟩
        rw [← hs_0] at HR0 hz0 ⊢
        have hbs0 : b0 < s0 := by omega
        have HSE0 := Lib.hid hs_0
        clear hs_0
        have hbt0 : w2.heap.size + 1 < C ∧ C + 1 < s0 ∧ w.heap.size + 3 ≤ w2.heap.size := by omega
        have ne1 : b0 ≠ s0 := by omega
        have ne2 : b0 ≠ s0 + 1 := by omega
        have ne3 : b0 ≠ s0 + 1 + 1 := by omega
        have ne4 : w.heap.size + 1 ≠ s0 := by omega
        have ne5 : w.heap.size + 1 ≠ s0 + 1 := by omega
        have ne6 : w.heap.size + 1 ≠ s0 + 1 + 1 := by omega
        refine' wp_rangeFunc_break (gf := 39) (lb := #[.pointer (some ⟨C, 0, none⟩), .pointer (some ⟨C + 1, 0, none⟩)]) rfl (enters_of Try.func39 (by kernel_rfl) rfl)
          (from_tells (fun _ => kvIt L) key C (C + 1) w1.heap.size ((kvIt L).map (·.1)) (fun _ y hy => List.mem_map.2 ⟨y, hy, rfl⟩) (fun _ _ _ => List.prefix_rfl)) (fun _ => rfl)
          (fun pre Y => RD w fresh leave w1.heap.size w2.heap.size (w2.heap.size + 1) C key ((s0 + 2) :: [b0]) L b0 s0 0 ((kvIt L).map (·.1)) pre Y ∧ True)
          (fun pre Y => RD w fresh leave w1.heap.size w2.heap.size (w2.heap.size + 1) C key ((s0 + 2) :: [b0]) L b0 s0 0 ((kvIt L).map (·.1)) pre Y ∧ (pre.length : Int) = leave)
          ?hI0 ?hIb0 ?hIL0 ?h00 _ ?assign0 ?body0 ?after0
        case assign0 =>
          intro l x W K hK
          gi_wp2
          exact hK
        case hI0 => exact fun s A A' h hk => ⟨h.1.kept hk (by have := HR0.out.fb.fa.bel.size; omega), trivial⟩
        case hIb0 => exact fun s A A' h hk => ⟨h.1.kept hk (by have := HR0.out.fb.fa.bel.size; omega), h.2⟩
        case hIL0 => exact fun pre Y h => h.1.fb.list rfl
        case h00 => exact ⟨HR0.out, trivial⟩
        case body0 =>
          rintro l pre ⟨kk, xv⟩ Y ⟨hrd, hex⟩ hx
          have HEX := Lib.hid hex
          clear hex
          obtain ⟨au, cu, g10, hu⟩ := hrd.fb.fa.slice
          have q10 := (blk_one g10).1
          have q13 := (blk_one hrd.g13).1
          have q14 := (blk_one hrd.g14).1
          have q15 := (blk_one hrd.g15).1
          have q16 := (blk_one hrd.g16).1
          have q7 := (blk_one hrd.fb.fa.h7).1
          have HRD := Lib.hid hrd
          have HX := Lib.hid hx
          have hls := hrd.lk
          have hcn := hrd.cnt
          have hleast := rLeast2 (.slice au (L).length cu) (L) (lastKV key pre) (!pre.isEmpty) Y (Seg.of_owns hu) hrd.fb.fa.small (by omega)
          have hpl : pre.length ≤ 1000 := by have e1 := hrd.fb.fa.sz.1; simp only [kvIt, List.length_map] at hcn; omega
          clear hls g10 hu hrd hx hcn
          generalize hlk : lastKV key pre = lk at *
          have HLK := Lib.hid hlk
          generalize hpe : (!pre.isEmpty) = pe at *
          have HPE := Lib.hid hpe
          clear hlk hpe
          have z1 : (kk.toList == kk.toList) = true := by simp
          have z2 : (xv.toList == xv.toList) = true := by simp
          by_cases hl : (pre.length : Int) + 1 = leave
          · have z3 : (((pre.length : Int) + 1) == leave) = true := by simpa using hl
            have HLV := Lib.hid hl
            clear hl
            gi_wp2_with (refine ⟨trivial, ?_⟩; gi_at_call 19; refine (CallsIn.inRound l (callsIn_wide.2 hleast)).mono ?_; rintro e y1 ⟨hr, hb⟩; rw [← HLK.out, ← HPE.out] at hr; obtain ⟨nn, rfl⟩ := least_next HRD.out.fb.fa.uniq (st := (fun _ => kvIt L)) rfl HX.out hr; have HBY := Lib.hid hb; have hc := (Below.refl y1.heap.size y1).alloc (Nat.le_refl _) (.cells #[.string kk, .string xv, .int .i64 nn] 43); have p13 := Go.Cph.cell_kept hc (Go.Cph.cell_kept hb q13); have p7 := Go.Cph.cell_kept hc (Go.Cph.cell_kept hb q7); have p14 := (blk_one (blk_kept hc (blk_kept hb HRD.out.g14))).2; have p15 := (blk_one (blk_kept hc (blk_kept hb HRD.out.g15))).2; have p16 := (blk_one (blk_kept hc (blk_kept hb HRD.out.g16))).2; have o14 := Go.Cph.cell_kept hc (Go.Cph.cell_kept hb q14); have o15 := Go.Cph.cell_kept hc (Go.Cph.cell_kept hb q15); have o16 := Go.Cph.cell_kept hc (Go.Cph.cell_kept hb q16); clear hc hb hr)
            have hrd2 := ((HRD.out.kept (B0 := w.heap.size) (.of_below HBY.out) (Nat.le_refl _)).kept (B0 := w.heap.size) (.of_below ((Below.refl _ y1).alloc (Nat.le_refl _) (.cells #[.string kk, .string xv, .int .i64 nn] 43))) (Nat.le_refl _)).step (x := (kk, xv)) (by simp) (by omega) (by omega) (by omega) (by omega) (by omega)
              (cnt_step (st := (fun _ => kvIt L)) (fun y hy => List.mem_map.2 ⟨y, hy, rfl⟩) HX.out HRD.out.cnt) (next_size HRD.out.fb.fa (st := (fun _ => kvIt L)) rfl HX.out)
            have hke : KeepsOthers Y ((((y1.alloc (.cells #[.string kk, .string xv, .int .i64 nn] 43)).setCell ⟨s0, 0, none⟩ (.string kk)).setCell ⟨s0 + 1, 0, none⟩ (.bool true)).setCell ⟨s0 + 2, 0, none⟩ (.int .i64 ((pre.length : Int) + 1))) :=
              ((((KeepsOthers.mk HBY.out.size fun k o hk _ => blk_kept HBY.out hk).trans (KeepsOthers.alloc _ _)).trans (KeepsOthers.setCell _ _ _)).trans (KeepsOthers.setCell _ _ _)).trans (KeepsOthers.setCell _ _ _)
            exact ⟨hke.from _, rfl, hrd2, by rw [List.length_append, ← HLV.out]; simp⟩
          · have z3 : (((pre.length : Int) + 1) == leave) = false := by simpa using hl
            clear hl
            gi_wp2_with (refine ⟨trivial, ?_⟩; gi_at_call 19; refine (CallsIn.inRound l (callsIn_wide.2 hleast)).mono ?_; rintro e y1 ⟨hr, hb⟩; rw [← HLK.out, ← HPE.out] at hr; obtain ⟨nn, rfl⟩ := least_next HRD.out.fb.fa.uniq (st := (fun _ => kvIt L)) rfl HX.out hr; have HBY := Lib.hid hb; have hc := (Below.refl y1.heap.size y1).alloc (Nat.le_refl _) (.cells #[.string kk, .string xv, .int .i64 nn] 43); have p13 := Go.Cph.cell_kept hc (Go.Cph.cell_kept hb q13); have p7 := Go.Cph.cell_kept hc (Go.Cph.cell_kept hb q7); have p14 := (blk_one (blk_kept hc (blk_kept hb HRD.out.g14))).2; have p15 := (blk_one (blk_kept hc (blk_kept hb HRD.out.g15))).2; have p16 := (blk_one (blk_kept hc (blk_kept hb HRD.out.g16))).2; have o14 := Go.Cph.cell_kept hc (Go.Cph.cell_kept hb q14); have o15 := Go.Cph.cell_kept hc (Go.Cph.cell_kept hb q15); have o16 := Go.Cph.cell_kept hc (Go.Cph.cell_kept hb q16); clear hc hb hr)
            have hrd2 := ((HRD.out.kept (B0 := w.heap.size) (.of_below HBY.out) (Nat.le_refl _)).kept (B0 := w.heap.size) (.of_below ((Below.refl _ y1).alloc (Nat.le_refl _) (.cells #[.string kk, .string xv, .int .i64 nn] 43))) (Nat.le_refl _)).step (x := (kk, xv)) (by simp) (by omega) (by omega) (by omega) (by omega) (by omega)
              (cnt_step (st := (fun _ => kvIt L)) (fun y hy => List.mem_map.2 ⟨y, hy, rfl⟩) HX.out HRD.out.cnt) (next_size HRD.out.fb.fa (st := (fun _ => kvIt L)) rfl HX.out)
            have hke : KeepsOthers Y ((((y1.alloc (.cells #[.string kk, .string xv, .int .i64 nn] 43)).setCell ⟨s0, 0, none⟩ (.string kk)).setCell ⟨s0 + 1, 0, none⟩ (.bool true)).setCell ⟨s0 + 2, 0, none⟩ (.int .i64 ((pre.length : Int) + 1))) :=
              ((((KeepsOthers.mk HBY.out.size fun k o hk _ => blk_kept HBY.out hk).trans (KeepsOthers.alloc _ _)).trans (KeepsOthers.setCell _ _ _)).trans (KeepsOthers.setCell _ _ _)).trans (KeepsOthers.setCell _ _ _)
            exact ⟨hke.from _, trivial, hrd2, trivial⟩
        case after0 =>
          intro D0 xs Y hD0 hor hK0
          have hrd : RD w fresh leave w1.heap.size w2.heap.size (w2.heap.size + 1) C key ((s0 + 2) :: [b0]) L b0 s0 0 ((kvIt L).map (·.1)) xs Y := hor.elim (fun h => h.2.1) (fun h => h.1)
          have hex : True := trivial
          have hdn : DoneKV (fun _ => kvIt L) key xs ∨ (xs.length : Int) = leave := hor.elim (fun h => .inl h.1) (fun h => .inr h.2)
          obtain ⟨M, hLq⟩ : ∃ M, M = (L) := ⟨_, rfl⟩
          rw [← hLq] at hrd
          have HST := Lib.hid (show (fun _ => kvIt L) xs = kvIt M by rw [hLq])
          have HLQ := Lib.hid hLq
          clear hLq
          obtain ⟨au, cu, g10, hu⟩ := hrd.fb.fa.slice
          have q10 := (blk_one g10).1
          have q14 := (blk_one hrd.g14).1
          have q15 := (blk_one hrd.g15).1
          have hls := hrd.lk
          have hleast := rLeast2 (.slice au M.length cu) M (lastKV key xs) (!xs.isEmpty) Y (Seg.of_owns hu) hrd.fb.fa.small (by omega)
          have HRD := Lib.hid hrd
          have HEX := Lib.hid hex
          have HDN := Lib.hid hdn
          have HDK := Lib.hid hK0
          have HDL0 := Lib.hid hD0
          clear hls g10 hu hrd hex hdn hK0 hD0 hor
          generalize hlk : lastKV key xs = lk at *
          have HLK := Lib.hid hlk
          generalize hpe : (!xs.isEmpty) = pe at *
          have HPE := Lib.hid hpe
          clear hlk hpe
          go_wp2_with fail
          refine hleast.mono ?_
          rintro e y2 ⟨hr, hb⟩
          rw [← HLK.out, ← HPE.out] at hr
          have hr3 : ∃ (x1 x2 : ByteArray) (x3 : Nat) (m : Bool), e = .returned (.tuple #[.agg #[.string x1, .string x2, .int .i64 x3], .bool m]) ∧ (m = true → (xs.length : Int) = leave) := by
            rcases HDN.out with h | h
            · exact ⟨_, _, 0, false, least_done (st := (fun _ => kvIt L)) HST.out h hr, fun h => by cases h⟩
            · rcases hr with ⟨h1, _⟩ | ⟨x1, x2, x3, h1, _⟩
              · exact ⟨_, _, 0, false, h1, fun h => by cases h⟩
              · exact ⟨x1, x2, x3, true, h1, fun _ => h⟩
          obtain ⟨x1, x2, x3, m, rfl, hm⟩ := hr3
          have HM := Lib.hid hm
          have HBY := Lib.hid hb
          have hc := (Below.refl y2.heap.size y2).alloc (Nat.le_refl _) (.cells #[.string x1, .string x2, .int .i64 x3] 43)
          have p13 := Go.Cph.cell_kept hc (Go.Cph.cell_kept hb (blk_one HRD.out.g13).1)
          have p7 := Go.Cph.cell_kept hc (Go.Cph.cell_kept hb (blk_one HRD.out.fb.fa.h7).1)
          have o16 := Go.Cph.cell_kept hc (Go.Cph.cell_kept hb (blk_one HRD.out.g16).1)
          have HFBn := Lib.hid ((((HRD.out.fb.below hb).below hc).more (k := y2.heap.size + 1) (by simp)).below ((Below.refl _ _).alloc (Nat.le_refl _) (.cells #[.int .i64 1] 3)))
          have HDKn := Lib.hid (blk_alloc (blk_kept hc (blk_kept hb HDK.out)) (.cells #[.int .i64 1] 3))
          skip
          have hn13 := heap_alloc_new (y2.alloc (.cells #[.string x1, .string x2, .int .i64 x3] 43)) (.cells #[.int .i64 1] 3)
          rw [World.size_alloc] at hn13
          have HN13 := Lib.hid hn13
          have hyl : s0 + 2 < y2.heap.size := blk_lt (blk_kept hb HRD.out.g16)
          clear hm hb hc hr hleast q10 q14 q15 hn13
          have hmm : m = false ∨ (m = true ∧ ((xs.length : Int) != leave) = false) := by
            cases m
            · exact .inl rfl
            · exact .inr ⟨rfl, by simp [HM.out rfl]⟩
          rcases hmm with rfl | ⟨rfl, hmm⟩
          all_goals
            go_wp2_with fail
            generalize (y2.alloc (.cells #[.string x1, .string x2, .int .i64 x3] 43)).alloc (.cells #[.int .i64 1] 3) = W1 at *
            obtain ⟨b1, hb1⟩ : ∃ b, b = y2.heap.size + 1 := ⟨_, rfl⟩
            rw [← hb1] at HFBn HN13 ⊢
            have hsb1 : b1 < W1.heap.size := blk_lt HN13.out
            have htb1 : w2.heap.size + 1 < C ∧ C + 1 < b1 ∧ w.heap.size + 3 ≤ w2.heap.size := by omega
            have htcb1 : s0 + 2 < b1 := by omega
            clear hb1 p13 p7 o16 hyl
            try clear hmm
            obtain ⟨L1, hLn⟩ : ∃ L', L' = M := ⟨_, rfl⟩
            rw [← hLn] at HFBn
            have HLN1 := Lib.hid (hLn.trans HLQ.out)
            clear hLn HRD HEX HDN HDK HLK HPE HM HBY
            have HF1 := HFBn
            have H131 := HN13
            have hdl0 : D0 < W1.heap.size := blk_lt HDKn.out
            have HX0 := HDKn
            clear HFBn HN13 HDKn
            rw [rounds_succ]
            have q13 := (blk_one H131.out).1
            have hrn := run_from_nil C
            go_wp2_with fail
            clear q13 hrn
            have hbz : Below W1.heap.size W1 (((W1.alloc (.cells #[.string key] 9)).alloc (.cells #[.bool false] 4)).alloc (.cells #[.int .i64 0] 3)) := (((Below.refl _ _).alloc (Nat.le_refl _) _).alloc (by simp) _).alloc (by simp; omega) _
            have k14 : (((W1.alloc (.cells #[.string key] 9)).alloc (.cells #[.bool false] 4)).alloc (.cells #[.int .i64 0] 3)).heap[W1.heap.size]? = some (.cells #[.string key] 9 (0, 0)) := blk_alloc (blk_alloc (heap_alloc_new _ _) _) _
            have k15 : (((W1.alloc (.cells #[.string key] 9)).alloc (.cells #[.bool false] 4)).alloc (.cells #[.int .i64 0] 3)).heap[W1.heap.size + 1]? = some (.cells #[.bool false] 4 (0, 0)) := by
              have := heap_alloc_new (W1.alloc (.cells #[.string key] 9)) (.cells #[.bool false] 4)
              rw [World.size_alloc] at this
              exact blk_alloc this _
            have k16 : (((W1.alloc (.cells #[.string key] 9)).alloc (.cells #[.bool false] 4)).alloc (.cells #[.int .i64 0] 3)).heap[W1.heap.size + 2]? = some (.cells #[.int .i64 0] 3 (0, 0)) := by
              have := heap_alloc_new ((W1.alloc (.cells #[.string key] 9)).alloc (.cells #[.bool false] 4)) (.cells #[.int .i64 0] 3)
              rw [World.size_alloc, World.size_alloc] at this
              exact this
            generalize ((W1.alloc (.cells #[.string key] 9)).alloc (.cells #[.bool false] 4)).alloc (.cells #[.int .i64 0] 3) = Z1 at *
            have hz1 : W1.heap.size + 3 ≤ Z1.heap.size := blk_lt k16
            have HR1 := Lib.hid (show RD w fresh leave w1.heap.size w2.heap.size (w2.heap.size + 1) C key ((W1.heap.size + 2) :: (b1 :: (s0 + 2) :: [b0])) L1 b1 W1.heap.size 1 ((kvIt L1 ++ kvIt (putIt L1 fresh nwV (clampH leave))).map (·.1)) [] Z1 from
              ⟨(HF1.out.more (by omega)).below hbz, blk_kept hbz H131.out, k14, k15, k16, by rw [List.length_nil, Nat.zero_add]; exact List.countP_le_length, by show key.size ≤ 20000; omega⟩)
            have HBZ1 := Lib.hid hbz
            clear k14 k15 k16 hbz
            obtain ⟨s1, hs_1⟩ : ∃ s, s = W1.heap.size := ⟨_, rfl⟩
            rw [← hs_1] at HR1 hz1 ⊢
            have hbs1 : b1 < s1 := by omega
            have HSE1 := Lib.hid hs_1
            clear hs_1
            have hbt1 : w2.heap.size + 1 < C ∧ C + 1 < s1 ∧ w.heap.size + 3 ≤ w2.heap.size := by omega
            have ne1 : b1 ≠ s1 := by omega
            have ne2 : b1 ≠ s1 + 1 := by omega
            have ne3 : b1 ≠ s1 + 1 + 1 := by omega
            have ne4 : w.heap.size + 1 ≠ s1 := by omega
            have ne5 : w.heap.size + 1 ≠ s1 + 1 := by omega
            have ne6 : w.heap.size + 1 ≠ s1 + 1 + 1 := by omega
            refine' wp_rangeFunc_break (gf := 39) (lb := #[.pointer (some ⟨C, 0, none⟩), .pointer (some ⟨C + 1, 0, none⟩)]) rfl (enters_of Try.func39 (by kernel_rfl) rfl)
              (from_tells (fun pre => kvIt (if 1 ≤ leave ∧ leave ≤ (pre.length : Int) then putIt L1 fresh nwV (clampH leave) else L1)) key C (C + 1) w1.heap.size ((kvIt L1 ++ kvIt (putIt L1 fresh nwV (clampH leave))).map (·.1)) (fun pre y hy => all_one hy) (fun pre x _ => prefix_one (putIt_prefix _ _ _ _) pre x)) (fun _ => rfl)
              (fun pre Y => RD w fresh leave w1.heap.size w2.heap.size (w2.heap.size + 1) C key ((s1 + 2) :: (b1 :: (s0 + 2) :: [b0])) (if 1 ≤ leave ∧ leave ≤ (pre.length : Int) then putIt L1 fresh nwV (clampH leave) else L1) b1 s1 1 ((kvIt L1 ++ kvIt (putIt L1 fresh nwV (clampH leave))).map (·.1)) pre Y ∧ Y.heap[D0]? = some (.deferred (some [])))
              (fun pre Y => False)
              ?hI1 ?hIb1 ?hIL1 ?h01 _ ?assign1 ?body1 ?after1
            case assign1 =>
              intro l x W K hK
              gi_wp2
              exact hK
            case hI1 => exact fun s A A' h hk => ⟨h.1.kept hk (by have := HR1.out.fb.fa.bel.size; omega), hk.same _ _ h.2 (.inl (by have := blk_lt HX0.out; have := HSE1.out; omega))⟩
            case hIb1 => exact fun _ _ _ h _ => h
            case hIL1 => exact fun pre Y h => h.1.fb.list rfl
            case h01 => exact ⟨by rw [if_neg (by simp; omega)]; exact HR1.out, blk_kept HBZ1.out HX0.out⟩
            case body1 =>
              rintro l pre ⟨kk, xv⟩ Y ⟨hrd, hex⟩ hx
              obtain ⟨M, hLq⟩ : ∃ M, M = ((if 1 ≤ leave ∧ leave ≤ (pre.length : Int) then putIt L1 fresh nwV (clampH leave) else L1)) := ⟨_, rfl⟩
              rw [← hLq] at hrd
              have HST := Lib.hid (show (fun pre => kvIt (if 1 ≤ leave ∧ leave ≤ (pre.length : Int) then putIt L1 fresh nwV (clampH leave) else L1)) pre = kvIt M by rw [hLq])
              have HLQ := Lib.hid hLq
              clear hLq
              have HEX := Lib.hid hex
              clear hex
              obtain ⟨au, cu, g10, hu⟩ := hrd.fb.fa.slice
              have q10 := (blk_one g10).1
              have q13 := (blk_one hrd.g13).1
              have q14 := (blk_one hrd.g14).1
              have q15 := (blk_one hrd.g15).1
              have q16 := (blk_one hrd.g16).1
              have q7 := (blk_one hrd.fb.fa.h7).1
              have HRD := Lib.hid hrd
              have HX := Lib.hid hx
              have hls := hrd.lk
              have hcn := hrd.cnt
              have hleast := rLeast2 (.slice au (M).length cu) (M) (lastKV key pre) (!pre.isEmpty) Y (Seg.of_owns hu) hrd.fb.fa.small (by omega)
              have hpl : pre.length ≤ 1000 := by have e1 := hrd.fb.fa.sz.1; have e2 := HLN1.out; have e3 := putIt_len L1 fresh nwV (clampH leave); simp only [kvIt, List.length_map, List.length_append] at hcn; rw [e2] at hcn e3; omega
              clear hls g10 hu hrd hx hcn
              generalize hlk : lastKV key pre = lk at *
              have HLK := Lib.hid hlk
              generalize hpe : (!pre.isEmpty) = pe at *
              have HPE := Lib.hid hpe
              clear hlk hpe
              have z1 : (kk.toList == kk.toList) = true := by simp
              have z2 : (xv.toList == xv.toList) = true := by simp
              by_cases hl : (pre.length : Int) + 1 = leave
              · have z3 : (((pre.length : Int) + 1) == leave) = true := by simpa using hl
                have HLV := Lib.hid hl
                have HML := Lib.hid (show M = L1 by rw [HLQ.out, if_neg (by omega)])
                have HLF := Lib.hid (show (if 1 ≤ leave ∧ leave ≤ ((pre ++ [(kk, xv)]).length : Int) then putIt L1 fresh nwV (clampH leave) else L1) = putIt L1 fresh nwV (clampH leave) by rw [if_pos ⟨by omega, by simp; omega⟩])
                clear hl
                have q6 := (blk_one HRD.out.fb.fa.h6).1
                have q9 := (blk_one HRD.out.fb.fa.h9).1
                have nf1 : w.heap.size ≠ s1 := by omega
                have nf2 : w.heap.size ≠ s1 + 1 := by omega
                have nf3 : w.heap.size ≠ s1 + 1 + 1 := by omega
                have nf4 : w2.heap.size ≠ s1 := by omega
                have nf5 : w2.heap.size ≠ s1 + 1 := by omega
                have nf6 : w2.heap.size ≠ s1 + 1 + 1 := by omega
                gi_wp2_with (refine ⟨trivial, ?_⟩; gi_at_call 19; refine (CallsIn.inRound l (callsIn_wide.2 hleast)).mono ?_; rintro e y1 ⟨hr, hb⟩; rw [← HLK.out, ← HPE.out] at hr; obtain ⟨nn, rfl⟩ := least_next HRD.out.fb.fa.uniq (st := (fun pre => kvIt (if 1 ≤ leave ∧ leave ≤ (pre.length : Int) then putIt L1 fresh nwV (clampH leave) else L1))) HST.out HX.out hr; have HBY := Lib.hid hb; have hc := (Below.refl y1.heap.size y1).alloc (Nat.le_refl _) (.cells #[.string kk, .string xv, .int .i64 nn] 43); have p13 := Go.Cph.cell_kept hc (Go.Cph.cell_kept hb q13); have p7 := Go.Cph.cell_kept hc (Go.Cph.cell_kept hb q7); have p6 := Go.Cph.cell_kept hc (Go.Cph.cell_kept hb q6); have p9 := Go.Cph.cell_kept hc (Go.Cph.cell_kept hb q9); have p14 := (blk_one (blk_kept hc (blk_kept hb HRD.out.g14))).2; have p15 := (blk_one (blk_kept hc (blk_kept hb HRD.out.g15))).2; have p16 := (blk_one (blk_kept hc (blk_kept hb HRD.out.g16))).2; have o14 := Go.Cph.cell_kept hc (Go.Cph.cell_kept hb q14); have o15 := Go.Cph.cell_kept hc (Go.Cph.cell_kept hb q15); have o16 := Go.Cph.cell_kept hc (Go.Cph.cell_kept hb q16); clear hc hb hr)
                have hrd2 := ((HRD.out.kept (B0 := w.heap.size) (.of_below HBY.out) (Nat.le_refl _)).kept (B0 := w.heap.size) (.of_below ((Below.refl _ y1).alloc (Nat.le_refl _) (.cells #[.string kk, .string xv, .int .i64 nn] 43))) (Nat.le_refl _)).step (x := (kk, xv)) (by simp) (by omega) (by omega) (by omega) (by omega) (by omega)
                  (cnt_step (st := (fun pre => kvIt (if 1 ≤ leave ∧ leave ≤ (pre.length : Int) then putIt L1 fresh nwV (clampH leave) else L1))) (fun y hy => all_one hy) HX.out HRD.out.cnt) (next_size HRD.out.fb.fa (st := (fun pre => kvIt (if 1 ≤ leave ∧ leave ≤ (pre.length : Int) then putIt L1 fresh nwV (clampH leave) else L1))) HST.out HX.out)
                have hke : KeepsOthers Y ((((y1.alloc (.cells #[.string kk, .string xv, .int .i64 nn] 43)).setCell ⟨s1, 0, none⟩ (.string kk)).setCell ⟨s1 + 1, 0, none⟩ (.bool true)).setCell ⟨s1 + 2, 0, none⟩ (.int .i64 ((pre.length : Int) + 1))) :=
                  ((((KeepsOthers.mk HBY.out.size fun k o hk _ => blk_kept HBY.out hk).trans (KeepsOthers.alloc _ _)).trans (KeepsOthers.setCell _ _ _)).trans (KeepsOthers.setCell _ _ _)).trans (KeepsOthers.setCell _ _ _)
                obtain ⟨Y2, hY2⟩ : ∃ Y2, Y2 = ((((y1.alloc (.cells #[.string kk, .string xv, .int .i64 nn] 43)).setCell ⟨s1, 0, none⟩ (.string kk)).setCell ⟨s1 + 1, 0, none⟩ (.bool true)).setCell ⟨s1 + 1 + 1, 0, none⟩ (.int .i64 ((pre.length : Int) + 1))) := ⟨_, rfl⟩
                rw [← hY2]
                have HRD2 := Lib.hid (show RD w fresh leave w1.heap.size w2.heap.size (w2.heap.size + 1) C key ((s1 + 2) :: (b1 :: (s0 + 2) :: [b0])) M b1 s1 1 ((kvIt L1 ++ kvIt (putIt L1 fresh nwV (clampH leave))).map (·.1)) (pre ++ [(kk, xv)]) Y2 by rw [hY2]; exact hrd2)
                have HKE := Lib.hid (show KeepsOthers Y Y2 by rw [hY2]; exact hke)
                clear hrd2 hke hY2 p13 p7 p6 p9 p14 p15 p16 o14 o15 o16 q6 q9 q10 q13 q14 q15 q16 q7
                obtain ⟨nx, nodes, v, hat, hln, hits, hft⟩ := HRD2.out.fb.fa.lst
                have HA := Lib.hid hat
                have HL := Lib.hid hln
                have HI := Lib.hid hits
                have HF := Lib.hid hft
                obtain ⟨au2, cu2, g10, hu⟩ := HRD2.out.fb.fa.slice
                have G10 := Lib.hid g10
                have HU := Lib.hid hu
                clear g10 hu
                have hml : M.length ≤ 120 := by rw [HML.out, HLN1.out]; exact hl120
                have hnl : nodes.length = M.length := by rw [← hits]; simp [its]
                have hset := cSet fresh nwV ((pre.length : Int) + 1) Y2 hat hln (by omega)
                clear hat hln hits hft hnl
                refine ⟨trivial, ?_⟩
                refine (CallsIn.inRound l (callsIn_wide.2 hset)).mono ?_
                rintro e w7 ⟨nx', nodes', v', fr, rfl, hat', hln', htc, hft', his⟩
                clear hset
                have HA7 := Lib.hid hat'
                have HL7 := Lib.hid hln'
                have HT7 := Lib.hid htc
                have HF7 := Lib.hid hft'
                have HIS := Lib.hid his
                clear hat' hln' htc hft' his
                have hg7 := touched_type HA.out HT7.out G10.out ⟨by decide, by decide, by decide⟩
                have G107 := Lib.hid hg7
                have q10 := (blk_one hg7).1
                have q6 := (blk_one (touched_type HA.out HT7.out HRD2.out.fb.fa.h6 ⟨by decide, by decide, by decide⟩)).1
                have hg16 := touched_blk HT7.out HRD2.out.g16 (fun hf => (HF.out _ hf).2 (by simp))
                have hl2 : (((pre ++ [(kk, xv)]).length : Nat) : Int) = (pre.length : Int) + 1 := by simp
                rw [hl2] at hg16
                have G167 := Lib.hid hg16
                have q16 := (blk_one hg16).1
                have hset2 := rSet (.slice au2 M.length cu2) M fresh nwV ((pre.length : Int) + 1) w7 (Seg.of_owns (owns_touched HA.out HT7.out HU.out ⟨by decide, by decide, by decide⟩)) HRD2.out.fb.fa.small HRD2.out.fb.fa.uniq
                clear hg7 hg16 hl2
                gi_wp2_with fail
                refine ⟨trivial, ?_⟩
                refine (CallsIn.inRound l (callsIn_wide.2 hset2)).mono ?_
                rintro e w8 ⟨⟨u', n', rfl, ho', hn'⟩, hb8⟩
                obtain ⟨av, cv, hv8⟩ := owns_slice ho'
                subst hv8
                have HO8 := Lib.hid ho'
                have HN8 := Lib.hid hn'
                have HB8 := Lib.hid hb8
                have r4 := Go.Cph.cell_kept hb8 q10
                have r5 := (blk_one (blk_kept hb8 G107.out)).2
                clear ho' hn' hb8 hset2 q10 q6 q16
                gi_wp2_with fail
                have hits := (HIS.out.its HL.out.keys).1
                rw [HI.out] at hits
                have hn := HN8.out
                have ho := HO8.out
                rw [HML.out, HLV.out] at hits hn ho
                have hL' : (putIt L1 fresh nwV (clampH leave)).length ≤ 200 ∧ ∀ y ∈ putIt L1 fresh nwV (clampH leave), y.1.size ≤ 20000 := by
                  refine ⟨by have e3 := putIt_len L1 fresh nwV (clampH leave); rw [← HML.out] at e3 ⊢; omega, fun y hy => ?_⟩
                  rcases mem_putIt hy with h | ⟨z, hz, h⟩
                  · rw [h]; omega
                  · rw [← h]; exact HRD2.out.fb.fa.sz.2 z (by rw [HML.out]; exact hz)
                have hszY : Y2.heap.size ≤ w7.heap.size := HT7.out.size
                have hlt2 : s1 + 2 < Y2.heap.size := blk_lt HRD2.out.g16
                have hfa := FA.next HRD2.out.fb.fa HA.out HF.out HT7.out HA7.out HL7.out HF7.out (by simp; omega) (blk_lt HA.out.head) hits HB8.out ho hn hL'
                have hke2 : KeepsOthers Y (w8.setCell ⟨w2.heap.size + 1, 0, none⟩ (.slice av n' cv)) :=
                  ((HKE.out.trans ⟨HT7.out.size, fun k o hk hc => touched_blk HT7.out hk fun hf => by
                    obtain ⟨cur, E, hc', _⟩ := foot_type HA.out hf
                    rw [hk] at hc'
                    cases hc'
                    cases hc⟩).trans (KeepsOthers.mk HB8.out.size fun k o hk _ => blk_kept HB8.out hk)).trans (KeepsOthers.setCell _ _ _)
                have hpc : w1.heap.size < w2.heap.size := by have e1 := HRD2.out.fb.fa.far; omega
                have hrd3 : RD w fresh leave w1.heap.size w2.heap.size (w2.heap.size + 1) C key ((s1 + 2) :: (b1 :: (s0 + 2) :: [b0])) (if 1 ≤ leave ∧ leave ≤ ((pre ++ [(kk, xv)]).length : Int) then putIt L1 fresh nwV (clampH leave) else L1) b1 s1 1 ((kvIt L1 ++ kvIt (putIt L1 fresh nwV (clampH leave))).map (·.1)) (pre ++ [(kk, xv)]) (w8.setCell ⟨w2.heap.size + 1, 0, none⟩ (.slice av n' cv)) := by
                  rw [HLF.out]
                  refine ⟨⟨hfa, (blk_set_other (by show C ≠ w2.heap.size + 1; omega)).trans (blk_kept HB8.out (touched_type HA.out HT7.out HRD2.out.fb.hC ⟨by decide, by decide, by decide⟩)), (blk_set_other (by show C + 1 ≠ w2.heap.size + 1; omega)).trans (blk_kept HB8.out (touched_type HA.out HT7.out HRD2.out.fb.hD ⟨by decide, by decide, by decide⟩))⟩,
                    (blk_set_other (by show b1 ≠ w2.heap.size + 1; omega)).trans (blk_kept HB8.out (touched_blk HT7.out HRD2.out.g13 (fun hf => (HF.out _ hf).2 (by simp)))),
                    (blk_set_other (by show s1 ≠ w2.heap.size + 1; omega)).trans (blk_kept HB8.out (touched_type HA.out HT7.out HRD2.out.g14 ⟨by decide, by decide, by decide⟩)),
                    (blk_set_other (by show s1 + 1 ≠ w2.heap.size + 1; omega)).trans (blk_kept HB8.out (touched_type HA.out HT7.out HRD2.out.g15 ⟨by decide, by decide, by decide⟩)),
                    (blk_set_other (by show s1 + 2 ≠ w2.heap.size + 1; omega)).trans (blk_kept HB8.out (touched_blk HT7.out HRD2.out.g16 (fun hf => (HF.out _ hf).2 (by simp)))), HRD2.out.cnt, HRD2.out.lk⟩
                exact ⟨hke2.from _, trivial, hrd3, hke2.same _ _ HEX.out rfl⟩
              · have z3 : (((pre.length : Int) + 1) == leave) = false := by simpa using hl
                have HLV := Lib.hid hl
                clear hl
                gi_wp2_with (refine ⟨trivial, ?_⟩; gi_at_call 19; refine (CallsIn.inRound l (callsIn_wide.2 hleast)).mono ?_; rintro e y1 ⟨hr, hb⟩; rw [← HLK.out, ← HPE.out] at hr; obtain ⟨nn, rfl⟩ := least_next HRD.out.fb.fa.uniq (st := (fun pre => kvIt (if 1 ≤ leave ∧ leave ≤ (pre.length : Int) then putIt L1 fresh nwV (clampH leave) else L1))) HST.out HX.out hr; have HBY := Lib.hid hb; have hc := (Below.refl y1.heap.size y1).alloc (Nat.le_refl _) (.cells #[.string kk, .string xv, .int .i64 nn] 43); have p13 := Go.Cph.cell_kept hc (Go.Cph.cell_kept hb q13); have p7 := Go.Cph.cell_kept hc (Go.Cph.cell_kept hb q7); have p14 := (blk_one (blk_kept hc (blk_kept hb HRD.out.g14))).2; have p15 := (blk_one (blk_kept hc (blk_kept hb HRD.out.g15))).2; have p16 := (blk_one (blk_kept hc (blk_kept hb HRD.out.g16))).2; have o14 := Go.Cph.cell_kept hc (Go.Cph.cell_kept hb q14); have o15 := Go.Cph.cell_kept hc (Go.Cph.cell_kept hb q15); have o16 := Go.Cph.cell_kept hc (Go.Cph.cell_kept hb q16); clear hc hb hr)
                have hrd2 := ((HRD.out.kept (B0 := w.heap.size) (.of_below HBY.out) (Nat.le_refl _)).kept (B0 := w.heap.size) (.of_below ((Below.refl _ y1).alloc (Nat.le_refl _) (.cells #[.string kk, .string xv, .int .i64 nn] 43))) (Nat.le_refl _)).step (x := (kk, xv)) (by simp) (by omega) (by omega) (by omega) (by omega) (by omega)
                  (cnt_step (st := (fun pre => kvIt (if 1 ≤ leave ∧ leave ≤ (pre.length : Int) then putIt L1 fresh nwV (clampH leave) else L1))) (fun y hy => all_one hy) HX.out HRD.out.cnt) (next_size HRD.out.fb.fa (st := (fun pre => kvIt (if 1 ≤ leave ∧ leave ≤ (pre.length : Int) then putIt L1 fresh nwV (clampH leave) else L1))) HST.out HX.out)
                have hke : KeepsOthers Y ((((y1.alloc (.cells #[.string kk, .string xv, .int .i64 nn] 43)).setCell ⟨s1, 0, none⟩ (.string kk)).setCell ⟨s1 + 1, 0, none⟩ (.bool true)).setCell ⟨s1 + 2, 0, none⟩ (.int .i64 ((pre.length : Int) + 1))) :=
                  ((((KeepsOthers.mk HBY.out.size fun k o hk _ => blk_kept HBY.out hk).trans (KeepsOthers.alloc _ _)).trans (KeepsOthers.setCell _ _ _)).trans (KeepsOthers.setCell _ _ _)).trans (KeepsOthers.setCell _ _ _)
                have hM2 : (if 1 ≤ leave ∧ leave ≤ ((pre ++ [(kk, xv)]).length : Int) then putIt L1 fresh nwV (clampH leave) else L1) = M := by
                  rw [HLQ.out]
                  have e : (((pre ++ [(kk, xv)]).length : Nat) : Int) = (pre.length : Int) + 1 := by simp
                  rw [e]
                  by_cases h1 : 1 ≤ leave ∧ leave ≤ (pre.length : Int)
                  · rw [if_pos h1, if_pos (by omega)]
                  · rw [if_neg h1, if_neg (by have := HLV.out; omega)]
                rw [← hM2] at hrd2
                exact ⟨hke.from _, trivial, hrd2, hke.same _ _ HEX.out rfl⟩
            case after1 =>
              intro D1 xs Y hD1 hor hK1
              have hrd : RD w fresh leave w1.heap.size w2.heap.size (w2.heap.size + 1) C key ((s1 + 2) :: (b1 :: (s0 + 2) :: [b0])) (if 1 ≤ leave ∧ leave ≤ (xs.length : Int) then putIt L1 fresh nwV (clampH leave) else L1) b1 s1 1 ((kvIt L1 ++ kvIt (putIt L1 fresh nwV (clampH leave))).map (·.1)) xs Y := hor.elim (fun h => h.2.1) (fun h => h.elim)
              have hex : Y.heap[D0]? = some (.deferred (some [])) := hor.elim (fun h => h.2.2) (fun h => h.elim)
              have hdn : DoneKV (fun pre => kvIt (if 1 ≤ leave ∧ leave ≤ (pre.length : Int) then putIt L1 fresh nwV (clampH leave) else L1)) key xs ∨ False := .inl (hor.elim (fun h => h.1) (fun h => h.elim))
              obtain ⟨M, hLq⟩ : ∃ M, M = ((if 1 ≤ leave ∧ leave ≤ (xs.length : Int) then putIt L1 fresh nwV (clampH leave) else L1)) := ⟨_, rfl⟩
              rw [← hLq] at hrd
              have HST := Lib.hid (show (fun pre => kvIt (if 1 ≤ leave ∧ leave ≤ (pre.length : Int) then putIt L1 fresh nwV (clampH leave) else L1)) xs = kvIt M by rw [hLq])
              have HLQ := Lib.hid hLq
              clear hLq
              obtain ⟨au, cu, g10, hu⟩ := hrd.fb.fa.slice
              have q10 := (blk_one g10).1
              have q14 := (blk_one hrd.g14).1
              have q15 := (blk_one hrd.g15).1
              have hls := hrd.lk
              have hleast := rLeast2 (.slice au M.length cu) M (lastKV key xs) (!xs.isEmpty) Y (Seg.of_owns hu) hrd.fb.fa.small (by omega)
              have HRD := Lib.hid hrd
              have HEX := Lib.hid hex
              have HDN := Lib.hid hdn
              have HDK := Lib.hid hK1
              have HDL1 := Lib.hid hD1
              clear hls g10 hu hrd hex hdn hK1 hD1 hor
              generalize hlk : lastKV key xs = lk at *
              have HLK := Lib.hid hlk
              generalize hpe : (!xs.isEmpty) = pe at *
              have HPE := Lib.hid hpe
              clear hlk hpe
              go_wp2_with fail
              refine hleast.mono ?_
              rintro e y2 ⟨hr, hb⟩
              rw [← HLK.out, ← HPE.out] at hr
              obtain ⟨x1, x2, x3, rfl⟩ : ∃ (x1 x2 : ByteArray) (x3 : Nat), e = .returned (.tuple #[.agg #[.string x1, .string x2, .int .i64 x3], .bool false]) := by
                rcases HDN.out with h | h
                · exact ⟨_, _, 0, least_done (st := (fun pre => kvIt (if 1 ≤ leave ∧ leave ≤ (pre.length : Int) then putIt L1 fresh nwV (clampH leave) else L1))) HST.out h hr⟩
                · exact h.elim
              have HBY := Lib.hid hb
              have hc := (Below.refl y2.heap.size y2).alloc (Nat.le_refl _) (.cells #[.string x1, .string x2, .int .i64 x3] 43)
              have p13 := Go.Cph.cell_kept hc (Go.Cph.cell_kept hb (blk_one HRD.out.g13).1)
              have p7 := Go.Cph.cell_kept hc (Go.Cph.cell_kept hb (blk_one HRD.out.fb.fa.h7).1)
              have o16 := Go.Cph.cell_kept hc (Go.Cph.cell_kept hb (blk_one HRD.out.g16).1)
              have HFBn := Lib.hid ((((HRD.out.fb.below hb).below hc).more (k := y2.heap.size + 1) (by simp)).below ((Below.refl _ _).alloc (Nat.le_refl _) (.cells #[.int .i64 2] 3)))
              have HDKn := Lib.hid (blk_alloc (blk_kept hc (blk_kept hb HDK.out)) (.cells #[.int .i64 2] 3))
              have HX0n := Lib.hid (blk_alloc (blk_kept hc (blk_kept hb HEX.out)) (.cells #[.int .i64 2] 3))
              have hn13 := heap_alloc_new (y2.alloc (.cells #[.string x1, .string x2, .int .i64 x3] 43)) (.cells #[.int .i64 2] 3)
              rw [World.size_alloc] at hn13
              have HN13 := Lib.hid hn13
              have hyl : s1 + 2 < y2.heap.size := blk_lt (blk_kept hb HRD.out.g16)
              clear hb hc hr hleast q10 q14 q15 hn13
              all_goals
                go_wp2_with fail
                generalize (y2.alloc (.cells #[.string x1, .string x2, .int .i64 x3] 43)).alloc (.cells #[.int .i64 2] 3) = W2 at *
                obtain ⟨b2, hb2⟩ : ∃ b, b = y2.heap.size + 1 := ⟨_, rfl⟩
                rw [← hb2] at HFBn HN13 ⊢
                have hsb2 : b2 < W2.heap.size := blk_lt HN13.out
                have htb2 : w2.heap.size + 1 < C ∧ C + 1 < b2 ∧ w.heap.size + 3 ≤ w2.heap.size := by omega
                have htcb2 : s1 + 2 < b2 := by omega
                clear hb2 p13 p7 o16 hyl
                try clear hmm
                obtain ⟨L2, hLn⟩ : ∃ L', L' = M := ⟨_, rfl⟩
                rw [← hLn] at HFBn
                have HLN2 := Lib.hid (hLn.trans HLQ.out)
                clear hLn HRD HEX HDN HDK HLK HPE HBY
                have HF2 := HFBn
                have H132 := HN13
                have hdl1 : D1 < W2.heap.size := blk_lt HDKn.out
                have HX0 := HX0n; have HX1 := HDKn; clear HX0n
                clear HFBn HN13 HDKn
                rw [rounds_succ]
                have q13 := (blk_one H132.out).1
                have hrn := run_from_nil C
                go_wp2_with fail
                clear q13 hrn
                have hbz : Below W2.heap.size W2 (((W2.alloc (.cells #[.string key] 9)).alloc (.cells #[.bool false] 4)).alloc (.cells #[.int .i64 0] 3)) := (((Below.refl _ _).alloc (Nat.le_refl _) _).alloc (by simp) _).alloc (by simp; omega) _
                have k14 : (((W2.alloc (.cells #[.string key] 9)).alloc (.cells #[.bool false] 4)).alloc (.cells #[.int .i64 0] 3)).heap[W2.heap.size]? = some (.cells #[.string key] 9 (0, 0)) := blk_alloc (blk_alloc (heap_alloc_new _ _) _) _
                have k15 : (((W2.alloc (.cells #[.string key] 9)).alloc (.cells #[.bool false] 4)).alloc (.cells #[.int .i64 0] 3)).heap[W2.heap.size + 1]? = some (.cells #[.bool false] 4 (0, 0)) := by
                  have := heap_alloc_new (W2.alloc (.cells #[.string key] 9)) (.cells #[.bool false] 4)
                  rw [World.size_alloc] at this
                  exact blk_alloc this _
                have k16 : (((W2.alloc (.cells #[.string key] 9)).alloc (.cells #[.bool false] 4)).alloc (.cells #[.int .i64 0] 3)).heap[W2.heap.size + 2]? = some (.cells #[.int .i64 0] 3 (0, 0)) := by
                  have := heap_alloc_new ((W2.alloc (.cells #[.string key] 9)).alloc (.cells #[.bool false] 4)) (.cells #[.int .i64 0] 3)
                  rw [World.size_alloc, World.size_alloc] at this
                  exact this
                generalize ((W2.alloc (.cells #[.string key] 9)).alloc (.cells #[.bool false] 4)).alloc (.cells #[.int .i64 0] 3) = Z2 at *
                have hz2 : W2.heap.size + 3 ≤ Z2.heap.size := blk_lt k16
                have HR2 := Lib.hid (show RD w fresh leave w1.heap.size w2.heap.size (w2.heap.size + 1) C key ((W2.heap.size + 2) :: (b2 :: (s1 + 2) :: b1 :: (s0 + 2) :: [b0])) L2 b2 W2.heap.size 2 ((kvIt L2).map (·.1)) [] Z2 from
                  ⟨(HF2.out.more (by omega)).below hbz, blk_kept hbz H132.out, k14, k15, k16, by rw [List.length_nil, Nat.zero_add]; exact List.countP_le_length, by show key.size ≤ 20000; omega⟩)
                have HBZ2 := Lib.hid hbz
                clear k14 k15 k16 hbz
                obtain ⟨s2, hs_2⟩ : ∃ s, s = W2.heap.size := ⟨_, rfl⟩
                rw [← hs_2] at HR2 hz2 ⊢
                have hbs2 : b2 < s2 := by omega
                have HSE2 := Lib.hid hs_2
                clear hs_2
                have hbt2 : w2.heap.size + 1 < C ∧ C + 1 < s2 ∧ w.heap.size + 3 ≤ w2.heap.size := by omega
                have ne1 : b2 ≠ s2 := by omega
                have ne2 : b2 ≠ s2 + 1 := by omega
                have ne3 : b2 ≠ s2 + 1 + 1 := by omega
                have ne4 : w.heap.size + 1 ≠ s2 := by omega
                have ne5 : w.heap.size + 1 ≠ s2 + 1 := by omega
                have ne6 : w.heap.size + 1 ≠ s2 + 1 + 1 := by omega
                refine' wp_rangeFunc_break (gf := 39) (lb := #[.pointer (some ⟨C, 0, none⟩), .pointer (some ⟨C + 1, 0, none⟩)]) rfl (enters_of Try.func39 (by kernel_rfl) rfl)
                  (from_tells (fun _ => kvIt L2) key C (C + 1) w1.heap.size ((kvIt L2).map (·.1)) (fun _ y hy => List.mem_map.2 ⟨y, hy, rfl⟩) (fun _ _ _ => List.prefix_rfl)) (fun _ => rfl)
                  (fun pre Y => RD w fresh leave w1.heap.size w2.heap.size (w2.heap.size + 1) C key ((s2 + 2) :: (b2 :: (s1 + 2) :: b1 :: (s0 + 2) :: [b0])) L2 b2 s2 2 ((kvIt L2).map (·.1)) pre Y ∧ Y.heap[D0]? = some (.deferred (some [])) ∧ Y.heap[D1]? = some (.deferred (some [])))
                  (fun pre Y => False)
                  ?hI2 ?hIb2 ?hIL2 ?h02 _ ?assign2 ?body2 ?after2
                case assign2 =>
                  intro l x W K hK
                  gi_wp2
                  exact hK
                case hI2 => exact fun s A A' h hk => ⟨h.1.kept hk (by have := HR2.out.fb.fa.bel.size; omega), hk.same _ _ h.2.1 (.inl (by have := blk_lt HX0.out; have := HSE2.out; omega)), hk.same _ _ h.2.2 (.inl (by have := blk_lt HX1.out; have := HSE2.out; omega))⟩
                case hIb2 => exact fun _ _ _ h _ => h
                case hIL2 => exact fun pre Y h => h.1.fb.list rfl
                case h02 => exact ⟨HR2.out, blk_kept HBZ2.out HX0.out, blk_kept HBZ2.out HX1.out⟩
                case body2 =>
                  rintro l pre ⟨kk, xv⟩ Y ⟨hrd, hex⟩ hx
                  have HEX := Lib.hid hex
                  clear hex
                  obtain ⟨au, cu, g10, hu⟩ := hrd.fb.fa.slice
                  have q10 := (blk_one g10).1
                  have q13 := (blk_one hrd.g13).1
                  have q14 := (blk_one hrd.g14).1
                  have q15 := (blk_one hrd.g15).1
                  have q16 := (blk_one hrd.g16).1
                  have q7 := (blk_one hrd.fb.fa.h7).1
                  have HRD := Lib.hid hrd
                  have HX := Lib.hid hx
                  have hls := hrd.lk
                  have hcn := hrd.cnt
                  have hleast := rLeast2 (.slice au (L2).length cu) (L2) (lastKV key pre) (!pre.isEmpty) Y (Seg.of_owns hu) hrd.fb.fa.small (by omega)
                  have hpl : pre.length ≤ 1000 := by have e1 := hrd.fb.fa.sz.1; simp only [kvIt, List.length_map] at hcn; omega
                  clear hls g10 hu hrd hx hcn
                  generalize hlk : lastKV key pre = lk at *
                  have HLK := Lib.hid hlk
                  generalize hpe : (!pre.isEmpty) = pe at *
                  have HPE := Lib.hid hpe
                  clear hlk hpe
                  have z1 : (kk.toList == kk.toList) = true := by simp
                  have z2 : (xv.toList == xv.toList) = true := by simp
                  gi_wp2_with (refine ⟨trivial, ?_⟩; gi_at_call 19; refine (CallsIn.inRound l (callsIn_wide.2 hleast)).mono ?_; rintro e y1 ⟨hr, hb⟩; rw [← HLK.out, ← HPE.out] at hr; obtain ⟨nn, rfl⟩ := least_next HRD.out.fb.fa.uniq (st := (fun _ => kvIt L2)) rfl HX.out hr; have HBY := Lib.hid hb; have hc := (Below.refl y1.heap.size y1).alloc (Nat.le_refl _) (.cells #[.string kk, .string xv, .int .i64 nn] 43); have p13 := Go.Cph.cell_kept hc (Go.Cph.cell_kept hb q13); have p7 := Go.Cph.cell_kept hc (Go.Cph.cell_kept hb q7); have p14 := (blk_one (blk_kept hc (blk_kept hb HRD.out.g14))).2; have p15 := (blk_one (blk_kept hc (blk_kept hb HRD.out.g15))).2; have p16 := (blk_one (blk_kept hc (blk_kept hb HRD.out.g16))).2; have o14 := Go.Cph.cell_kept hc (Go.Cph.cell_kept hb q14); have o15 := Go.Cph.cell_kept hc (Go.Cph.cell_kept hb q15); have o16 := Go.Cph.cell_kept hc (Go.Cph.cell_kept hb q16); clear hc hb hr)
                  have hrd2 := ((HRD.out.kept (B0 := w.heap.size) (.of_below HBY.out) (Nat.le_refl _)).kept (B0 := w.heap.size) (.of_below ((Below.refl _ y1).alloc (Nat.le_refl _) (.cells #[.string kk, .string xv, .int .i64 nn] 43))) (Nat.le_refl _)).step (x := (kk, xv)) (by simp) (by omega) (by omega) (by omega) (by omega) (by omega)
                    (cnt_step (st := (fun _ => kvIt L2)) (fun y hy => List.mem_map.2 ⟨y, hy, rfl⟩) HX.out HRD.out.cnt) (next_size HRD.out.fb.fa (st := (fun _ => kvIt L2)) rfl HX.out)
                  have hke : KeepsOthers Y ((((y1.alloc (.cells #[.string kk, .string xv, .int .i64 nn] 43)).setCell ⟨s2, 0, none⟩ (.string kk)).setCell ⟨s2 + 1, 0, none⟩ (.bool true)).setCell ⟨s2 + 2, 0, none⟩ (.int .i64 ((pre.length : Int) + 1))) :=
                    ((((KeepsOthers.mk HBY.out.size fun k o hk _ => blk_kept HBY.out hk).trans (KeepsOthers.alloc _ _)).trans (KeepsOthers.setCell _ _ _)).trans (KeepsOthers.setCell _ _ _)).trans (KeepsOthers.setCell _ _ _)
                  exact ⟨hke.from _, trivial, hrd2, hke.same _ _ HEX.out.1 rfl, hke.same _ _ HEX.out.2 rfl⟩
                case after2 =>
                  intro D2 xs Y hD2 hor hK2
                  have hrd : RD w fresh leave w1.heap.size w2.heap.size (w2.heap.size + 1) C key ((s2 + 2) :: (b2 :: (s1 + 2) :: b1 :: (s0 + 2) :: [b0])) L2 b2 s2 2 ((kvIt L2).map (·.1)) xs Y := hor.elim (fun h => h.2.1) (fun h => h.elim)
                  have hex : Y.heap[D0]? = some (.deferred (some [])) ∧ Y.heap[D1]? = some (.deferred (some [])) := hor.elim (fun h => h.2.2) (fun h => h.elim)
                  have hdn : DoneKV (fun _ => kvIt L2) key xs ∨ False := .inl (hor.elim (fun h => h.1) (fun h => h.elim))
                  obtain ⟨M, hLq⟩ : ∃ M, M = (L2) := ⟨_, rfl⟩
                  rw [← hLq] at hrd
                  have HST := Lib.hid (show (fun _ => kvIt L2) xs = kvIt M by rw [hLq])
                  have HLQ := Lib.hid hLq
                  clear hLq
                  obtain ⟨au, cu, g10, hu⟩ := hrd.fb.fa.slice
                  have q10 := (blk_one g10).1
                  have q14 := (blk_one hrd.g14).1
                  have q15 := (blk_one hrd.g15).1
                  have hls := hrd.lk
                  have hleast := rLeast2 (.slice au M.length cu) M (lastKV key xs) (!xs.isEmpty) Y (Seg.of_owns hu) hrd.fb.fa.small (by omega)
                  have HRD := Lib.hid hrd
                  have HEX := Lib.hid hex
                  have HDN := Lib.hid hdn
                  have HDK := Lib.hid hK2
                  have HDL2 := Lib.hid hD2
                  clear hls g10 hu hrd hex hdn hK2 hD2 hor
                  generalize hlk : lastKV key xs = lk at *
                  have HLK := Lib.hid hlk
                  generalize hpe : (!xs.isEmpty) = pe at *
                  have HPE := Lib.hid hpe
                  clear hlk hpe
                  go_wp2_with fail
                  refine hleast.mono ?_
                  rintro e y2 ⟨hr, hb⟩
                  rw [← HLK.out, ← HPE.out] at hr
                  obtain ⟨x1, x2, x3, rfl⟩ : ∃ (x1 x2 : ByteArray) (x3 : Nat), e = .returned (.tuple #[.agg #[.string x1, .string x2, .int .i64 x3], .bool false]) := by
                    rcases HDN.out with h | h
                    · exact ⟨_, _, 0, least_done (st := (fun _ => kvIt L2)) HST.out h hr⟩
                    · exact h.elim
                  have HBY := Lib.hid hb
                  have hc := (Below.refl y2.heap.size y2).alloc (Nat.le_refl _) (.cells #[.string x1, .string x2, .int .i64 x3] 43)
                  have p13 := Go.Cph.cell_kept hc (Go.Cph.cell_kept hb (blk_one HRD.out.g13).1)
                  have p7 := Go.Cph.cell_kept hc (Go.Cph.cell_kept hb (blk_one HRD.out.fb.fa.h7).1)
                  have o16 := Go.Cph.cell_kept hc (Go.Cph.cell_kept hb (blk_one HRD.out.g16).1)
                  have HFBn := Lib.hid ((((HRD.out.fb.below hb).below hc).more (k := y2.heap.size + 1) (by simp)).below ((Below.refl _ _).alloc (Nat.le_refl _) (.cells #[.int .i64 3] 3)))
                  have HDKn := Lib.hid (blk_alloc (blk_kept hc (blk_kept hb HDK.out)) (.cells #[.int .i64 3] 3))
                  have HX0n := Lib.hid (blk_alloc (blk_kept hc (blk_kept hb HEX.out.1)) (.cells #[.int .i64 3] 3)); have HX1n := Lib.hid (blk_alloc (blk_kept hc (blk_kept hb HEX.out.2)) (.cells #[.int .i64 3] 3))
                  have hn13 := heap_alloc_new (y2.alloc (.cells #[.string x1, .string x2, .int .i64 x3] 43)) (.cells #[.int .i64 3] 3)
                  rw [World.size_alloc] at hn13
                  have HN13 := Lib.hid hn13
                  have hyl : s2 + 2 < y2.heap.size := blk_lt (blk_kept hb HRD.out.g16)
                  clear hb hc hr hleast q10 q14 q15 hn13
                  all_goals
                    go_wp2_with fail
                    generalize (y2.alloc (.cells #[.string x1, .string x2, .int .i64 x3] 43)).alloc (.cells #[.int .i64 3] 3) = W3 at *
                    obtain ⟨b3, hb3⟩ : ∃ b, b = y2.heap.size + 1 := ⟨_, rfl⟩
                    rw [← hb3] at HFBn HN13 ⊢
                    have hsb3 : b3 < W3.heap.size := blk_lt HN13.out
                    have htb3 : w2.heap.size + 1 < C ∧ C + 1 < b3 ∧ w.heap.size + 3 ≤ w2.heap.size := by omega
                    have htcb3 : s2 + 2 < b3 := by omega
                    clear hb3 p13 p7 o16 hyl
                    try clear hmm
                    obtain ⟨L3, hLn⟩ : ∃ L', L' = M := ⟨_, rfl⟩
                    rw [← hLn] at HFBn
                    have HLN3 := Lib.hid (hLn.trans HLQ.out)
                    clear hLn HRD HEX HDN HDK HLK HPE HBY
                    have HF3 := HFBn
                    have H133 := HN13
                    have hdl2 : D2 < W3.heap.size := blk_lt HDKn.out
                    have HX0 := HX0n; have HX1 := HX1n; have HX2 := HDKn; clear HX0n HX1n
                    clear HFBn HN13 HDKn
                    rw [rounds_succ]
                    have q13 := (blk_one H133.out).1
                    go_wp2_with fail
                    have haw := awake W3
                    refine haw.mono ?_
                    rintro e v3 ⟨rfl, hb⟩
                    have hres := blk_kept hb HF3.out.fa.h8
                    have c8 := (blk_one hres).1
                    have f8 := (blk_one hres).2
                    have HRS := Lib.hid (blk_one_set hres (.bool true))
                    have HBE := Lib.hid ((below_step HF3.out.fa.bel hb HF3.out.fa.bel.size).setCell (p := ⟨w.heap.size + 2, 0, none⟩) (by show w.heap.size ≤ w.heap.size + 2; omega) (.bool true))
                    have HE0 := Lib.hid (show (v3.setCell ⟨w.heap.size + 2, 0, none⟩ (.bool true)).heap[D0]? = some (.deferred (some [])) from (blk_set_other (by show D0 ≠ w.heap.size + 2; have := HDL0.out; omega)).trans (blk_kept hb HX0.out))
                    have HE1 := Lib.hid (show (v3.setCell ⟨w.heap.size + 2, 0, none⟩ (.bool true)).heap[D1]? = some (.deferred (some [])) from (blk_set_other (by show D1 ≠ w.heap.size + 2; have := HDL1.out; omega)).trans (blk_kept hb HX1.out))
                    have HE2 := Lib.hid (show (v3.setCell ⟨w.heap.size + 2, 0, none⟩ (.bool true)).heap[D2]? = some (.deferred (some [])) from (blk_set_other (by show D2 ≠ w.heap.size + 2; have := HDL2.out; omega)).trans (blk_kept hb HX2.out))
                    clear hb hres haw q13
                    go_wp2_with fail
                    have e0 := HDL0.out
                    have e1 := HDL1.out
                    have e2 := HDL2.out
                    have e3 := HSE1.out
                    have e4 := HSE2.out
                    refine leaves3 HE2.out HE1.out HE0.out (by omega) (by omega) (by omega) (by omega) (by omega) (by omega) (resAt_from rfl HRS.out) HBE.out fun _ h => awakeP h
end Go.Proofs.Try.SkS
