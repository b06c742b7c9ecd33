/- MemPlays: its walk. -/
import Derived.Test.YtkikjbcmdlghnaaDoorLo
set_option linter.unusedVariables false
set_option linter.unusedSimpArgs false
set_option maxRecDepth 100000
namespace Go.Proofs.Tryd.Skm
open Go.RowKit Go.Cph Go.Cph.Skip Go.Cph.Skm Go.Cph.Ok Go.Proofs.Tryd.Ok
/-- What a memory has behind the first puts. -/
def dl (l : List Pu) (i : Nat) : List Et := (l.take i).foldl (fun es p => putE es p.1) []
theorem dl_succ {l : List Pu} {i : Nat} (h : i < l.length) : dl l (i + 1) = putE (dl l i) l[i].1 := by
  unfold dl
  rw [List.take_succ_eq_append_getElem h, List.foldl_append]; rfl
theorem putE_uniq {es : List Et} {e : Et} (h : Uniq2 es) : Uniq2 (putE es e) := by
  unfold putE
  split
  · rename_i hr
    unfold Uniq2
    rw [List.pairwise_append]
    refine ⟨h, by simp, fun a ha b hb c => ?_⟩
    rw [List.mem_singleton.1 hb] at c
    unfold putR at hr
    split at hr
    · omega
    · split at hr
      · omega
      · rename_i hn
        exact hn (List.any_eq_true.2 ⟨a, ha, by simp [c.1, c.2]⟩)
  · exact h
theorem dl_uniq {l : List Pu} : ∀ i, i ≤ l.length → Uniq2 (dl l i)
  | 0, _ => List.Pairwise.nil
  | i + 1, h => by rw [dl_succ h]; exact putE_uniq (dl_uniq i (by omega))
theorem putE_len (es : List Et) (e : Et) : (putE es e).length ≤ es.length + 1 := by unfold putE; split <;> simp
theorem putE_mem {es : List Et} {e x : Et} (h : x ∈ putE es e) : x ∈ es ∨ x = e := by
  unfold putE at h
  split at h
  · rcases List.mem_append.1 h with h | h
    · exact .inl h
    · exact .inr (List.mem_singleton.1 h)
  · exact .inl h
theorem dl_len {l : List Pu} : ∀ i, i ≤ l.length → (dl l i).length ≤ i
  | 0, _ => Nat.le_refl _
  | i + 1, h => by rw [dl_succ h]; have := dl_len (l := l) i (by omega); have := putE_len (dl l i) (l[i]'h).1; omega
theorem dl_mem {l : List Pu} : ∀ i, i ≤ l.length → ∀ x ∈ dl l i, ∃ p ∈ l, p.1 = x
  | 0, _, x, hx => by cases hx
  | i + 1, h, x, hx => by
    rw [dl_succ h] at hx
    rcases putE_mem hx with hx | rfl
    · exact dl_mem i (by omega) x hx
    · exact ⟨_, List.getElem_mem h, rfl⟩
theorem newest_put (es : List Et) (e : Et) : newest (putE es e) = if putR es e = 0 then max (newest es) e.2.2.1.toNat else newest es := by
  unfold putE
  split
  · rw [newest_snoc]
  · rfl
theorem bytes_put (es : List Et) (e : Et) : bytesN (putE es e) = if putR es e = 0 then bytesN es + (e.1.size + e.2.1.size) else bytesN es := by
  unfold putE
  split
  · rw [bytesN_snoc]
  · rfl
theorem putR_le (es : List Et) (e : Et) : putR es e ≤ 5 := by unfold putR; split; omega; split <;> omega
abbrev boxM0 : Obj := .cells #[.pointer none, .int .u64 0, .int .i64 0] TM (0, 0)
theorem noMem0 (w : World) : NoMem w (.pointer none) := ⟨.inl rfl⟩
theorem noMem1 {w : World} {b : Nat} (h : w.heap[b]? = some boxM0) : NoMem w (ptr b) := ⟨.inr ⟨b, rfl, h⟩⟩
theorem MemIn.small {l : List Pu} (hs : ∀ p ∈ l, p.1.1.size ≤ 20000 ∧ p.1.2.1.size ≤ 20000) (hn : l.length ≤ 100) {i : Nat} (hi : i ≤ l.length) : (dl l i).length ≤ 100 ∧ bytesN (dl l i) ≤ 4000000 ∧ ∀ e ∈ dl l i, e.1.size ≤ 20000 ∧ e.2.1.size ≤ 20000 := by
  have h3 : ∀ e ∈ dl l i, e.1.size ≤ 20000 ∧ e.2.1.size ≤ 20000 := fun e he => by obtain ⟨p, hp, rfl⟩ := dl_mem i hi e he; exact hs p hp
  have h1 := dl_len i hi
  have h2 := bytesN_le h3
  exact ⟨by omega, by omega, h3⟩
theorem wrap64_id (a : Int) (h0 : 0 ≤ a) (h1 : a < 1000000000000) : wrap64 a = a := by unfold wrap64; omega
theorem ents_touched {S : Nat → Prop} {W W' : World} {v : Value} {ds : List Et} (h : EntsAt W v ds) (ht : Touched S W W') (hd : ∀ k, v.ownBlock = some k → 0 < ds.length → ¬ S k) : EntsAt W' v ds := by
  obtain ⟨⟨ao, cap, rfl, hc⟩, hl⟩ := h
  refine ⟨⟨ao, cap, rfl, fun h0 => ?_⟩, hl⟩
  obtain ⟨b, off, rfl, hcc⟩ := hc h0
  refine ⟨b, off, rfl, fun j hj => ?_⟩
  have hj' : j < (ds.flatMap encE).length := by omega
  have := hcc j hj
  rw [List.getElem?_eq_getElem hj'] at this ⊢
  exact touched_cell ht this (hd b rfl h0)
theorem ents_lt {W : World} {v : Value} {ds : List Et} (h : EntsAt W v ds) (h0 : 0 < ds.length) {k : Nat} (hk : v.ownBlock = some k) : k < W.heap.size := by
  obtain ⟨b, off, cap, rfl, hc⟩ := ents_cells h h0
  have hc0 := (hc 0 h0).c0
  simp only [Value.ownBlock, Option.some.injEq] at hk
  subst hk
  exact World.block_lt_of_cell? _ _ hc0
/-- A memory, and the document's list, apart from it. -/
structure PlS (w1 : World) (p : Nat) (es : List Et) (v : Value) (ds : List Et) (W : World) : Prop where
  out : ∃ F : Nat → Prop, IsMem F W p es ∧ (∀ k, F k → w1.heap.size ≤ k) ∧ (∀ k, v.ownBlock = some k → 0 < ds.length → ¬ F k)
  ents : EntsAt W v ds
  bel : Below w1.heap.size w1 W
section
variable {w1 W W' : World} {p : Nat} {es ds : List Et} {v v' : Value} {m : Int}
theorem PlS.mem (h : PlS w1 p es v ds W) : MemIn w1.heap.size w1 p es W := by
  obtain ⟨F, h1, h2, _⟩ := h.out
  exact ⟨⟨F, h1, h2⟩, h.bel⟩
theorem PlS.later (h : PlS w1 p es v ds W) (hb : Below W.heap.size W W') : PlS w1 p es v ds W' := by
  obtain ⟨F, h1, h2, h3⟩ := h.out
  exact ⟨⟨F, h1.kept hb, h2, h3⟩, h.ents.kept hb, below_step h.bel hb h.bel.size⟩
theorem PlS.doc (h : PlS w1 p es v es W) (hb : Below W.heap.size W W') (he : EntsAt W' v' ds) (hv : v' = v ∨ ∀ k, v'.ownBlock = some k → W.heap.size ≤ k) : PlS w1 p es v' ds W' := by
  obtain ⟨F, h1, h2, h3⟩ := h.out
  refine ⟨⟨F, h1.kept hb, h2, fun k hk h0 hf => ?_⟩, he, below_step h.bel hb h.bel.size⟩
  rcases hv with rfl | hv
  · obtain ⟨ao, cap, e1⟩ := elems_slice h.ents
    obtain ⟨ao', cap', e2⟩ := elems_slice he
    rw [e1] at e2
    injection e2 with _ e3 _
    exact h3 k hk (by omega) hf
  · have := hv k hk
    have := h1.lt k hf
    omega
theorem PlS.put (h : PlS w1 p es v ds W) (hm : MaxAt m w1) (e : Et) (height : Int) (hk : e.1.size ≤ 1000000) (hv : e.2.1.size ≤ 1000000) (hn : es.length ≤ 1000000) (hby : bytesN es ≤ 1000000000) :
    Calls Tryd.prog 12 #[ptr p, encV e, .int .i64 height] W fun r W' => r = .returned (.int .i64 (putR es e)) ∧ PlS w1 p (putE es e) v ds W' := by
  obtain ⟨F, h1, h2, h3⟩ := h.out
  refine (mPut e height m W h1 (max_kept hm h.bel (max_lt hm)) hk hv hn hby).mono ?_
  rintro r W' ⟨F', hr, hmem, ht, hf⟩
  refine ⟨hr, ⟨F', hmem, fun k hk => ?_, fun k hk h0 hk' => ?_⟩, ents_touched h.ents ht h3, h.bel.trans (ht.below h.bel.size h2)⟩
  · rcases hf k hk with h6 | h6
    · exact h2 k h6
    · exact Nat.le_trans h.bel.size h6
  · rcases hf k hk' with h6 | h6
    · exact h3 k hk h0 h6
    · have := ents_lt h.ents h0 hk; omega
end
set_option maxHeartbeats 6400000 in
theorem plays_u (v : Value) (l : List Pu) (key from_ to_ : ByteArray) (at_ : UInt64) (m : Int) (w : World) (h : PutsAt w v l) (hl : l.length ≤ 9223372036854775807) (hm : MaxAt m w) :
    Calls Tryd.prog 5 #[v, .string key, .string from_, .string to_, .int .u64 (at_.toNat : Int)] w (AwPost w) := by
  have HAW := Lib.hid (show ∀ W, Below w.heap.size w W → Calls Tryd.prog 7 #[] W (AwPost w) from fun W hW => (awake_any m W (max_kept hm hW (max_lt hm))).mono fun e w' h => aw_mono h hW)
  have HGX := Lib.hid (pgreat_any v l w h hl)
  have H := Lib.hid h
  have HM := Lib.hid hm
  clear h hl hm
  go_enter Tryd.func5, Tryd.ntmps5
  go_wp2_with fail
  refine HGX.out.mono ?_
  rintro e w1 ⟨r, rfl, hsm, hb⟩
  have B1 := Lib.hid hb
  have HSM := Lib.hid hsm
  clear hsm hb HGX
  by_cases hr : r = true
  · subst hr
    clear HSM
    go_wp2_with fail
    refine (HAW.out w1 B1.out).mono ?_
    rintro e w2 ⟨rfl, hb⟩
    have HB := Lib.hid hb
    clear hb
    go_wp2_with fail
    go_ret
    exact ⟨rfl, HB.out⟩
  · obtain rfl : r = false := by cases r <;> simp_all
    have hsmall := HSM.out rfl
    clear hr HSM
    by_cases hk1 : 20000 < key.size
    · have k1 : (20000 : Int) < (key.size : Int) := by omega
      clear hk1
      go_wp2_with fail
      refine (HAW.out w1 B1.out).mono ?_
      rintro e w2 ⟨rfl, hb⟩
      have HB := Lib.hid hb
      clear hb
      go_wp2_with fail
      go_ret
      exact ⟨rfl, HB.out⟩
    · have k1 : ¬ (20000 : Int) < (key.size : Int) := by omega
      have k1d : decide ((20000 : Int) < (key.size : Int)) = false := decide_eq_false k1
      by_cases hk2 : 20000 < from_.size
      · have k2 : (20000 : Int) < (from_.size : Int) := by omega
        clear hk1 hk2
        go_wp2_with fail
        refine (HAW.out w1 B1.out).mono ?_
        rintro e w2 ⟨rfl, hb⟩
        have HB := Lib.hid hb
        clear hb
        go_wp2_with fail
        go_ret
        exact ⟨rfl, HB.out⟩
      · have k2 : ¬ (20000 : Int) < (from_.size : Int) := by omega
        have k2d : decide ((20000 : Int) < (from_.size : Int)) = false := decide_eq_false k2
        by_cases hk3 : 20000 < to_.size
        · have k3 : (20000 : Int) < (to_.size : Int) := by omega
          clear hk1 hk2 hk3
          go_wp2_with fail
          refine (HAW.out w1 B1.out).mono ?_
          rintro e w2 ⟨rfl, hb⟩
          have HB := Lib.hid hb
          clear hb
          go_wp2_with fail
          go_ret
          exact ⟨rfl, HB.out⟩
        · have k3 : ¬ (20000 : Int) < (to_.size : Int) := by omega
          have k3d : decide ((20000 : Int) < (to_.size : Int)) = false := decide_eq_false k3
          have HKS := Lib.hid (show key.size ≤ 20000 ∧ from_.size ≤ 20000 ∧ to_.size ≤ 20000 from by omega)
          have HN := Lib.hid hsmall.num
          have HS := Lib.hid hsmall.each
          have HL1 := Lib.hid (H.out.kept B1.out)
          have HM1 := Lib.hid (max_kept HM.out B1.out (max_lt HM.out))
          clear hk1 hk2 hk3 hsmall
          go_wp2_with fail
          refine (new_in w1).mono ?_
          rintro e w2 ⟨p, rfl, hmem⟩
          have M0 := Lib.hid (show PlS w1 p (dl l 0) (.slice none 0 0) (dl l 0) w2 from by
            obtain ⟨F, h1, h2⟩ := hmem.out
            exact ⟨⟨F, h1, h2, fun k hk => by cases hk⟩, Seg.nil _ _, hmem.bel⟩)
          clear hmem
          go_wp2_with fail
          obtain ⟨n, hn⟩ : ∃ n, n = l.length := ⟨_, rfl⟩
          have HNL := Lib.hid hn
          have hn100 : n ≤ 100 := by rw [hn]; exact HN.out
          obtain ⟨ao, cap, hv⟩ := elems_slice HL1.out
          subst hv
          rw [← hn] at HL1 ⊢
          clear hn
          go_loopw [13, 14, 15, 16] (fun v13 v14 v15 vi W => ∃ i : Nat, i ≤ n ∧ vi = .int .i64 i ∧ v14 = .int .u64 (newest (dl l i) : Nat) ∧ v15 = .int .i64 (bytesN (dl l i) : Nat) ∧ PlS w1 p (dl l i) v13 (dl l i) W) (fun _ _ _ vi _ => n - (intOf vi).toNat)
          case atStart => exact ⟨0, Nat.zero_le _, rfl, rfl, rfl, M0.out⟩
          case round =>
            obtain ⟨i, hi, rfl, rfl, rfl, hmem⟩ := hrel
            obtain ⟨eo, ec, hev⟩ := elems_slice hmem.ents
            subst hev
            have hil : i ≤ l.length := by rw [← HNL.out]; exact hi
            obtain ⟨es, hese⟩ : ∃ es, es = dl l i := ⟨_, rfl⟩
            rw [← hese] at hmem ⊢
            have HSMA := Lib.hid (show es.length ≤ 100 ∧ bytesN es ≤ 4000000 ∧ ∀ e ∈ es, e.1.size ≤ 20000 ∧ e.2.1.size ≤ 20000 from by rw [hese]; exact MemIn.small HS.out HN.out hil)
            have HUQ := Lib.hid (show Uniq2 es from by rw [hese]; exact dl_uniq i hil)
            have HMEM := Lib.hid hmem
            have HESE := Lib.hid hese
            by_cases hlt : i < n
            · have hiu : i < l.length := by rw [← HNL.out]; exact hlt
              have hrw := HL1.out
              rw [HNL.out] at hrw
              obtain ⟨b, off, cap', hve, hcs⟩ := puts_cells hrw (by omega)
              injection hve with hx1 hx2 hx3
              subst hx1
              obtain ⟨x, hx⟩ : ∃ x, x = l[i]'hiu := ⟨_, rfl⟩
              have hcw := hcs i hiu
              rw [← hx] at hcw
              have HCW := Lib.hid (show ∀ W, Below w1.heap.size w1 W → CellsU W b (off + i * 5) x from fun W hW => hcw.kept hW)
              have HXS := Lib.hid (show x.1.1.size ≤ 20000 ∧ x.1.2.1.size ≤ 20000 from by rw [hx]; exact HS.out _ (List.getElem_mem hiu))
              have HNXT := Lib.hid (show dl l (i + 1) = putE es x.1 from by rw [dl_succ hiu, ← hx, ← hese])
              have HLT := Lib.hid hlt
              have hcw2 := HCW.out wr hmem.bel
              have d0 := hcw2.c0
              have d1 := hcw2.c1
              have d2 := hcw2.c2
              have d3 := hcw2.c3
              have d4 := hcw2.c4
              have q1 : (0 : Int) ≤ (i : Int) := by omega
              have q2 : (i : Int) < (n : Int) := by omega
              have q4 : IntKind.i64.wrap ((i : Int) + 1) = (i : Int) + 1 := by rw [IntKind.wrap_i64]; omega
              have HRP := Lib.hid (rPut _ es x.1 wr HMEM.out.ents (by have := HSMA.out.1; omega))
              clear hx2 hx3 hcs hcw hcw2 hx hese hmem hlt hrw hi hil
              go_upto_region 11 with (fail)
              go_upto_region 13 with (go_at_call 14; refine HRP.out.mono ?_; rintro e w3 ⟨v', rfl, hes3, hvo, hb3⟩)
              have HPL := Lib.hid (HMEM.out.doc hb3 hes3 hvo)
              have HBW := Lib.hid HPL.out.bel
              clear hes3 hb3 hvo HRP
              obtain ⟨eo3, ec3, hev⟩ := elems_slice HPL.out.ents
              subst hev
              obtain ⟨pr, hpr⟩ : ∃ pr, pr = putR es x.1 := ⟨_, rfl⟩
              obtain ⟨es2, hes2⟩ : ∃ es2, es2 = putE es x.1 := ⟨_, rfl⟩
              have HPR := Lib.hid hpr
              have HE2 := Lib.hid hes2
              rw [← hpr, ← hes2]
              rw [← hes2] at HPL
              clear hpr hes2
              have HPUT := Lib.hid (show Calls Tryd.prog 12 #[ptr p, encV x.1, .int .i64 x.2] w3.drew fun r w' => r = .returned (.int .i64 pr) ∧ PlS w1 p es2 (.slice eo3 es2.length ec3) es2 w' from by
                rw [HPR.out]
                have := (HPL.out.later (Below.refl _ _).drew).put HM1.out x.1 x.2 (by have := HXS.out.1; omega) (by have := HXS.out.2; omega) (by have := HSMA.out.1; omega) (by have := HSMA.out.2.1; omega)
                rw [← HE2.out] at this
                exact this)
              have HPN := Lib.hid (show ∀ W (u : Value) (hgt : Int), NoMem W u → Calls Tryd.prog 12 #[u, encV x.1, .int .i64 hgt] W fun r w' => r = .returned (.int .i64 2) ∧ Below W.heap.size W w' from fun W u hgt hu => mPutN x.1 hgt W hu)
              have HSC := Lib.hid (show ∀ W, Below w1.heap.size w1 W → W.cell? ⟨b, off + i * 5, none⟩ = some (.string x.1.1) ∧ W.cell? ⟨b, off + i * 5 + 1, none⟩ = some (.string x.1.2.1) ∧ W.cell? ⟨b, off + i * 5 + 2, none⟩ = some (.int .u64 (x.1.2.2.1.toNat : Int)) ∧ W.cell? ⟨b, off + i * 5 + 3, none⟩ = some (.bool x.1.2.2.2) ∧ W.cell? ⟨b, off + i * 5 + 4, none⟩ = some (.int .i64 x.2) from fun W hW => ⟨(HCW.out W hW).c0, (HCW.out W hW).c1, (HCW.out W hW).c2, (HCW.out W hW).c3, (HCW.out W hW).c4⟩)
              have z1 : ((pr : Int) != (pr : Int)) = false := by simp
              have z2 : ((pr : Int) == (pr : Int)) = true := by simp
              have hcw3 := HCW.out w3 HBW.out
              clear d0 d1 d2 d3 d4
              have d0 := hcw3.c0
              have d1 := hcw3.c1
              have d2 := hcw3.c2
              have d3 := hcw3.c3
              have d4 := hcw3.c4
              clear hcw3
              go_cut [102] (fun s102 wx => s102 = .bool false ∧ PlS w1 p es2 (.slice eo3 es2.length ec3) es2 wx)
              case first =>
                have HD := Lib.hid (bel_drew HBW.out)
                go_region_held3 (fun W => W.cell? ⟨b, off + i * 5, none⟩ = some (.string x.1.1) ∧ W.cell? ⟨b, off + i * 5 + 1, none⟩ = some (.string x.1.2.1) ∧ W.cell? ⟨b, off + i * 5 + 2, none⟩ = some (.int .u64 (x.1.2.2.1.toNat : Int)) ∧ W.cell? ⟨b, off + i * 5 + 3, none⟩ = some (.bool x.1.2.2.2) ∧ W.cell? ⟨b, off + i * 5 + 4, none⟩ = some (.int .i64 x.2))
                  (((refine HSC.out _ ?_); (repeat (first | exact MX3.out | exact MX2.out | exact MX1.out.bel | exact HBW.out | refine bel_drew ?_ | refine bel_alloc ?_ _)); done))
                  ((go_at_call 12; (first
                    | ((with_reducible refine HPUT.out.mono ?_); rintro r u1 ⟨rfl, hm1⟩; have MX1 := Lib.hid hm1; clear hm1)
                    | ((with_reducible refine (HPN.out u1 (.pointer none) x.2 (noMem0 _)).mono ?_); rintro r u2 ⟨rfl, hb⟩; have NX2 := Lib.hid (MX1.out.later hb); have MX2 := Lib.hid NX2.out.bel; clear hb)
                    | (refine (HPN.out (u2.alloc boxM0) (ptr _) 1 (noMem1 (heap_alloc_new _ _))).mono ?_; rintro r u3 ⟨rfl, hb⟩; have NX3 := Lib.hid ((NX2.out.later ((Below.refl _ _).alloc (Nat.le_refl _) boxM0)).later hb); have MX3 := Lib.hid NX3.out.bel; clear hb))))
                all_goals
                  go_wp2_with fail
                  go_meet
                  case rel => exact ⟨rfl, NX3.out⟩
              case rest =>
                obtain ⟨rfl, hpl⟩ := hcut
                have HP2 := Lib.hid hpl
                have hcw4 := HCW.out wc hpl.bel
                clear d0 d1 d2 d3 d4 z1 z2 hpl HPUT HPN HSC HPL HBW
                have d0 := hcw4.c0
                have d1 := hcw4.c1
                have d2 := hcw4.c2
                clear hcw4
                obtain ⟨wd, hwd⟩ : ∃ wd : World, wd = wc := ⟨_, rfl⟩
                subst hwd
                obtain ⟨cz, hcz⟩ : ∃ cz, cz = ((pr : Int) == 0) := ⟨_, rfl⟩
                have HCZ := Lib.hid hcz
                have hcz2 := hcz.symm
                clear hcz
                go_upto_if 104 with (fail)
                clear hcz2
                go_cut [14, 15] (fun s14 s15 wx => s14 = .int .u64 (newest es2 : Nat) ∧ s15 = .int .i64 (bytesN es2 : Nat) ∧ Below wd.heap.size wd wx)
                case first =>
                  by_cases hz : pr = 0
                  · obtain rfl : cz = true := by rw [HCZ.out, hz]; rfl
                    have HMX := Lib.hid (show max ((newest es : Nat) : Int) (x.1.2.2.1.toNat : Int) = ((newest es2 : Nat) : Int) from by rw [HE2.out, newest_put, if_pos (by rw [← HPR.out]; exact hz)]; omega)
                    have hb1 := HSMA.out.2.1
                    have hb2 := HXS.out
                    have HS2 := Lib.hid (show wrap64 (wrap64 (((bytesN es : Nat) : Int) + (x.1.1.size : Int)) + (x.1.2.1.size : Int)) = ((bytesN es2 : Nat) : Int) from by
                      rw [HE2.out, bytes_put, if_pos (by rw [← HPR.out]; exact hz)]
                      rw [wrap64_id (((bytesN es : Nat) : Int) + (x.1.1.size : Int)) (by omega) (by omega), wrap64_id _ (by omega) (by omega)]; omega)
                    clear hz hb1 hb2
                    go_wp2_with fail
                    go_quiet (fail)
                    go_wp2_with fail
                    go_meet
                    case rel => exact ⟨by rw [HMX.out], by rw [HS2.out], ⟨rfl, rfl, rfl, Nat.le_refl _, fun _ _ => rfl⟩⟩
                  · obtain rfl : cz = false := by rw [HCZ.out, beq_eq_false_iff_ne]; omega
                    have HMX := Lib.hid (show newest es = newest es2 ∧ bytesN es = bytesN es2 from by rw [HE2.out, newest_put, bytes_put, if_neg (by rw [← HPR.out]; exact hz), if_neg (by rw [← HPR.out]; exact hz)]; exact ⟨rfl, rfl⟩)
                    clear hz
                    go_wp2_with fail
                    go_meet
                    case rel => exact ⟨by rw [HMX.out.1], by rw [HMX.out.2], Below.refl _ _⟩
                case rest =>
                  obtain ⟨rfl, rfl, hbd⟩ := hcut
                  have HP3 := Lib.hid (HP2.out.later hbd)
                  clear hbd d0 d1 d2 HP2
                  have HUQ2 := Lib.hid (show Uniq2 es2 from by rw [HE2.out]; exact putE_uniq HUQ.out)
                  have HLEN2 := Lib.hid (show es2.length ≤ 101 from by rw [HE2.out]; have := putE_len es x.1; have := HSMA.out.1; omega)
                  have HAT := Lib.hid (at_in key at_ HP3.out.mem (Nat.le_refl _) HM1.out (max_lt HM1.out) (by have := HKS.out.1; omega))
                  go_upto_region 18 with (fail)
                  go_upto_region 19 with (go_at_call 13; refine HAT.out.mono ?_; rintro r w5 ⟨⟨y, ok, rfl, hax⟩, hb⟩)
                  have HAX := Lib.hid hax
                  have hby : Below w5.heap.size w5 (w5.alloc (boxE y)) := (Below.refl _ _).alloc (Nat.le_refl _) _
                  have HP5 := Lib.hid ((HP3.out.later hb).later hby)
                  have HGY := Lib.hid (heap_alloc_new w5 (boxE y))
                  clear hb hax hby HAT HP3
                  have HRA := Lib.hid (show ∀ W, Below (w5.alloc (boxE y)).heap.size (w5.alloc (boxE y)) W → Calls Tryd.prog 15 #[.slice eo3 es2.length ec3, .string key, .int .u64 (at_.toNat : Int)] W fun r w' => r = .returned (.tuple #[encV y, .bool ok]) ∧ Below W.heap.size W w' from fun W hW =>
                    (rAt _ es2 key at_ W (HP5.out.later hW).ents (by have := HLEN2.out; omega)).mono fun r w' ⟨z, is, h1, h2, h3⟩ => by
                      obtain ⟨rfl, rfl⟩ := AtIs.one HUQ2.out HAX.out h2
                      exact ⟨h1, h3⟩)
                  go_upto_region 20 with (go_at_call 15; refine (HRA.out _ (Below.refl _ _)).mono ?_; rintro r w7 ⟨rfl, hb⟩)
                  have hbz : Below w7.heap.size w7 (w7.alloc (boxE y)) := (Below.refl _ _).alloc (Nat.le_refl _) _
                  have HP8 := Lib.hid ((HP5.out.later hb).later hbz)
                  have HGY8 := Lib.hid (blk_kept hbz (blk_kept hb HGY.out))
                  have HGZ8 := Lib.hid (heap_alloc_new w7 (boxE y))
                  clear hb hbz HRA HP5 HGY
                  obtain ⟨by_, hby⟩ : ∃ k, k = w5.heap.size := ⟨_, rfl⟩
                  obtain ⟨bz, hbz⟩ : ∃ k, k = w7.heap.size := ⟨_, rfl⟩
                  rw [← hby] at HGY8 ⊢
                  rw [← hbz] at HGZ8 ⊢
                  clear hby hbz
                  generalize w7.alloc (boxE y) = w8 at *
                  have y0 : w8.cell? ⟨by_, 0, none⟩ = some (.string y.1) := (boxE_cells HGY8.out).c0
                  have y1 : w8.cell? ⟨by_, 1, none⟩ = some (.string y.2.1) := (boxE_cells HGY8.out).c1
                  have y2 : w8.cell? ⟨by_, 2, none⟩ = some (.int .u64 (y.2.2.1.toNat : Int)) := (boxE_cells HGY8.out).c2
                  have y3 : w8.cell? ⟨by_, 3, none⟩ = some (.bool y.2.2.2) := (boxE_cells HGY8.out).c3
                  have z0 : w8.cell? ⟨bz, 0, none⟩ = some (.string y.1) := (boxE_cells HGZ8.out).c0
                  have z1 : w8.cell? ⟨bz, 1, none⟩ = some (.string y.2.1) := (boxE_cells HGZ8.out).c1
                  have z2 : w8.cell? ⟨bz, 2, none⟩ = some (.int .u64 (y.2.2.1.toNat : Int)) := (boxE_cells HGZ8.out).c2
                  have z3 : w8.cell? ⟨bz, 3, none⟩ = some (.bool y.2.2.2) := (boxE_cells HGZ8.out).c3
                  have hne : ∀ W, (binOp .neq TE (encV y) (encV y)).run Tryd.prog W = .ok (.bool false) W := fun W => by
                    have := run_neqE y y W
                    rw [show (!decide (y = y)) = false from by simp] at this
                    exact this
                  have zk : (ok != ok) = false := by cases ok <;> rfl
                  obtain ⟨N, hN⟩ : ∃ N, N = newest es2 := ⟨_, rfl⟩
                  obtain ⟨Y, hY⟩ : ∃ Y, Y = bytesN es2 := ⟨_, rfl⟩
                  have HNW := Lib.hid (show Calls Tryd.prog 16 #[ptr p] w8 fun r w' => r = .returned (.int .u64 (N : Int)) ∧ w8 = w' from by rw [hN]; exact newest_in HP8.out.mem)
                  have HBY := Lib.hid (show Calls Tryd.prog 17 #[ptr p] w8 fun r w' => r = .returned (.int .i64 (Y : Int)) ∧ w8 = w' from by rw [hY]; exact bytes_in HP8.out.mem)
                  obtain ⟨q, hq, _, hlen⟩ := HP8.out.mem.list
                  have HLN := Lib.hid (hlen w8 (Below.refl _ _))
                  have HNN := Lib.hid hN
                  have HYY := Lib.hid hY
                  rw [← hN, ← hY]
                  have zn : ((N : Int) != (N : Int)) = false := by simp
                  have zy : ((Y : Int) != (Y : Int)) = false := by simp
                  have zl : ((es2.length : Int) != (es2.length : Int)) = false := by simp
                  clear hN hY hlen
                  go_wp2_with fail
                  refine HNW.out.mono ?_
                  rintro r w9 ⟨rfl, rfl⟩
                  go_wp2_with fail
                  refine HBY.out.mono ?_
                  rintro r w9 ⟨rfl, rfl⟩
                  go_wp2_with fail
                  refine HLN.out.mono ?_
                  rintro r w9 ⟨rfl, rfl⟩
                  clear y0 y1 y2 y3 z0 z1 z2 z3 hne zk
                  go_wp2_with fail
                  go_roundw
                  case rel => exact ⟨i + 1, HLT.out, by go_num, by rw [HNXT.out, ← HE2.out, ← HNN.out], by rw [HNXT.out, ← HE2.out, ← HYY.out], by rw [HNXT.out, ← HE2.out]; exact HP8.out⟩
                  case measure => have := HLT.out; simp [intOf]; omega
            · have hie : i = n := by omega
              have hq : ¬ (i : Int) < (n : Int) := by omega
              have HRI := Lib.hid (show RangeIs es from_ to_ ((Mg.sortD es).filter fun e => inR from_ to_ e.1) from sorted_range HUQ.out from_ to_)
              have HRW := Lib.hid (show RangeIs es ⟨#[]⟩ ⟨#[]⟩ (Mg.sortD es) from sorted_whole HUQ.out)
              clear hlt hese hmem hi hil hie
              go_upto_region 22 with (fail)
              go_upto_region 23 with (go_at_call 13; refine (mAtN key at_ wr (noMem0 _)).mono ?_; rintro r w3 ⟨rfl, hb⟩)
              have hbz : Below w3.heap.size w3 (w3.alloc boxZ) := (Below.refl _ _).alloc (Nat.le_refl _) _
              have HP4 := Lib.hid ((HMEM.out.later hb).later hbz)
              clear hb hbz HMEM
              generalize w3.alloc boxZ = w4 at *
              have hbm : Below w4.heap.size w4 (w4.alloc boxM0) := (Below.refl _ _).alloc (Nat.le_refl _) _
              have HP5 := Lib.hid (HP4.out.later hbm)
              clear hbm
              go_upto_region 24 with (go_at_call 13; refine (mAtN key at_ _ (noMem1 (heap_alloc_new w4 boxM0))).mono ?_; rintro r w6 ⟨rfl, hb⟩)
              have hbz : Below w6.heap.size w6 (w6.alloc boxZ) := (Below.refl _ _).alloc (Nat.le_refl _) _
              have HP7 := Lib.hid ((HP5.out.later hb).later hbz)
              clear hb hbz HP4 HP5
              generalize w6.alloc boxZ = w7 at *
              have HESL := Lib.hid (show es.length ≤ 100 from HSMA.out.1)
              have HR1 := Lib.hid (range_in from_ to_ HP7.out.mem (Nat.le_refl _) HM1.out (max_lt HM1.out) (by have := HKS.out.2.1; omega) (by have := HSMA.out.1; omega))
              obtain ⟨L1, hL1⟩ : ∃ L, L = (Mg.sortD es).filter fun e => inR from_ to_ e.1 := ⟨_, rfl⟩
              obtain ⟨L2, hL2⟩ : ∃ L, L = Mg.sortD es := ⟨_, rfl⟩
              have hL2n : L2.length ≤ 100 := by rw [hL2, Mg.sortD_length]; exact HESL.out
              have hL1n : L1.length ≤ 100 := by rw [hL1]; exact Nat.le_trans (List.length_filter_le _ _) (by rw [← hL2]; exact hL2n)
              have HKO := Lib.hid (show ∀ e ∈ es, e.1.size ≤ 1000000 from fun e he => by have := (HSMA.out.2.2 e he).1; omega)
              have HRR := Lib.hid (show ∀ W, Below w7.heap.size w7 W → Calls Tryd.prog 21 #[.slice eo es.length ec, .string from_, .string to_] W (RRangePost L1 W) from fun W hW => by
                rw [hL1]
                exact rRange _ es from_ to_ W (HP7.out.later hW).ents (by have := HESL.out; omega) HKO.out (by have := HKS.out.2.1; omega) (by have := HKS.out.2.2; omega))
              have HSO := Lib.hid (show ∀ W, Below w7.heap.size w7 W → Calls Tryd.prog 22 #[.slice eo es.length ec] W (Mg.NewRow W L2) from fun W hW => by
                rw [hL2]
                exact Mg.sorted09 _ es W (HP7.out.later hW).ents (by have := HESL.out; omega) HKO.out)
              rw [← hL1] at HRI
              rw [← hL2] at HRW
              clear hL1 hL2
              have HB7 := Lib.hid (show Below w7.heap.size w7 w7 from Below.refl _ _)
              go_wp2_with fail
              refine HR1.out.mono ?_
              rintro r w8 ⟨v1, l1, rfl, hr1, hrow, hb⟩
              obtain rfl := hr1.unique HRI.out
              have HB8 := Lib.hid hb
              have HE1 := Lib.hid (show EntsAt w8 v1 l1 from Seg.of_owns hrow)
              clear hr1 hrow hb HR1
              go_wp2_with fail
              refine (HRR.out w8 HB8.out).mono ?_
              rintro r w9 ⟨v2, rfl, he2, hb⟩
              have HE2 := Lib.hid he2
              have HE1b := Lib.hid (HE1.out.kept hb)
              have HB9 := Lib.hid (below_step HB8.out hb HB8.out.size)
              clear he2 hb HRR HE1
              go_wp2_with fail
              refine (same_any v1 v2 l1 l1 w9 HE1b.out HE2.out (by omega) (by omega)).mono ?_
              rintro r w10 ⟨rfl, hb⟩
              have HB10 := Lib.hid (below_step HB9.out hb HB9.out.size)
              have zt : decide (l1 = l1) = true := by simp
              rw [zt]
              clear hb zt
              have HR2 := Lib.hid (range_in ⟨#[]⟩ ⟨#[]⟩ (HP7.out.later HB10.out).mem (Nat.le_refl _) HM1.out (max_lt HM1.out) (by decide) (by have := HESL.out; omega))
              go_wp2_with fail
              refine HR2.out.mono ?_
              rintro r w11 ⟨v3, l3, rfl, hr3, hrow, hb⟩
              obtain rfl := hr3.unique HRW.out
              have HB11 := Lib.hid (below_step HB10.out hb HB10.out.size)
              have HE3 := Lib.hid (show EntsAt w11 v3 l3 from Seg.of_owns hrow)
              clear hr3 hrow hb HR2
              go_wp2_with fail
              refine (HSO.out w11 HB11.out).mono ?_
              rintro r w12 ⟨v4, rfl, hrow, hb⟩
              have HE4 := Lib.hid (show EntsAt w12 v4 l3 from Seg.of_owns hrow)
              have HE3b := Lib.hid (HE3.out.kept hb)
              have HB12 := Lib.hid (below_step HB11.out hb HB11.out.size)
              clear hrow hb HSO HE3
              go_wp2_with fail
              refine (same_any v3 v4 l3 l3 w12 HE3b.out HE4.out (by omega) (by omega)).mono ?_
              rintro r w13 ⟨rfl, hb⟩
              have HB13 := Lib.hid (below_step HB12.out hb HB12.out.size)
              have zt : decide (l3 = l3) = true := by simp
              rw [zt]
              clear hb zt
              go_wp2_with fail
              refine (mRangeN from_ to_ w13 (noMem0 _)).mono ?_
              rintro r w14 ⟨rfl, hb⟩
              have HB14 := Lib.hid (below_step HB13.out hb HB13.out.size)
              clear hb
              go_wp2_with fail
              refine (mRangeN from_ to_ _ (noMem1 (heap_alloc_new w14 boxM0))).mono ?_
              rintro r w15 ⟨rfl, hb⟩
              have HB15 := Lib.hid (below_step (HB14.out.alloc HB14.out.size boxM0) hb (HB14.out.alloc HB14.out.size boxM0).size)
              clear hb
              go_wp2_with fail
              refine (mNewest0 w15).mono ?_
              rintro r w16 ⟨rfl, rfl⟩
              go_wp2_with fail
              refine (mBytes0 w15).mono ?_
              rintro r w16 ⟨rfl, rfl⟩
              have HBL := Lib.hid (below_step B1.out (below_step HP7.out.bel HB15.out HP7.out.bel.size) B1.out.size)
              go_wp2_with fail
              refine (HAW.out w15 HBL.out).mono ?_
              rintro r w16 ⟨rfl, hb⟩
              have BF := Lib.hid hb
              clear hb
              go_wp2_with fail
              go_ret
              exact ⟨rfl, BF.out⟩
theorem plays_law (v : Value) (l : List Pu) (key from_ to_ : ByteArray) (at_ : Int) (m : Int) (w : World) (h : PutsAt w v l) (hl : l.length ≤ 9223372036854775807) (ha : (Lit.int .u64 at_).wf = true) (hm : MaxAt m w) :
    Calls Tryd.prog 5 #[v, .string key, .string from_, .string to_, .int .u64 at_] w (AwPost w) := by
  obtain ⟨at_, rfl⟩ := mu64_of ha
  exact plays_u v l key from_ to_ at_ m w h hl hm
end Go.Proofs.Tryd.Skm
