/- The walk of VersionRight. -/
import Derived.Test.YtkeaalacepjadaaVz7
import Derived.Deep.RegionLaw
set_option linter.unusedVariables false
set_option linter.unusedSimpArgs false
set_option maxRecDepth 100000
namespace Go.Proofs.Try.Vr
open Go.RowKit Go.Cph Go.Cph.Skip Go.Cph.So Go.Cph.Ve
open Go.Proofs.Try.Sq (row_kept1 grown_below grown_set encU encU_len TU TUs infoU encU_one)

def esK (v : Vn) (k : Nat) : List Es := (List.range k).map fun j => ⟨v.lev j, .slice none 0 0, 0, 0, 0⟩
def dsK (lv : Nat → List Tb) (k : Nat) : List Ed := (List.range k).map fun j => (lv j, [], 0, 0, 0)
def cutK (lv : Nat → List Tb) (k : Nat) : List Tb := (List.range k).flatMap fun j => (lv j).take 31
def stdB (lv : Nat → List Tb) (k : Nat) : Bool := (List.range k).all fun j => ((lv j).take 31).all (onL j)
theorem esK_next (v : Vn) (k : Nat) : esK v (k + 1) = esK v k ++ [⟨v.lev k, .slice none 0 0, 0, 0, 0⟩] := by
  unfold esK
  rw [List.range_succ, List.map_append]
  rfl
theorem esK_len (v : Vn) (k : Nat) : (esK v k).length = k := by unfold esK; simp
theorem dsK_len (lv : Nat → List Tb) (k : Nat) : (dsK lv k).length = k := by unfold dsK; simp
theorem cutK_next (lv : Nat → List Tb) (k : Nat) : cutK lv (k + 1) = cutK lv k ++ (lv k).take 31 := by
  unfold cutK
  rw [List.range_succ, List.flatMap_append]
  simp
theorem stdB_next (lv : Nat → List Tb) (k : Nat) : stdB lv (k + 1) = (stdB lv k && ((lv k).take 31).all (onL k)) := by
  unfold stdB
  rw [List.range_succ, List.all_append]
  simp
theorem cutK_le (lv : Nat → List Tb) (k : Nat) : (cutK lv k).length ≤ k * 31 := by
  induction k with
  | zero => simp [cutK]
  | succ k ih =>
    rw [cutK_next, List.length_append, List.length_take]
    omega
theorem cutK_all {lv : Nat → List Tb} (h : ∀ k, k < 4 → (lv k).length ≤ 30) : cutK lv 4 = tabs lv := by
  unfold cutK tabs
  show [0, 1, 2, 3].flatMap _ = [0, 1, 2, 3].flatMap _
  simp only [List.flatMap_cons, List.flatMap_nil]
  rw [List.take_of_length_le (by have := h 0 (by omega); omega), List.take_of_length_le (by have := h 1 (by omega); omega), List.take_of_length_le (by have := h 2 (by omega); omega), List.take_of_length_le (by have := h 3 (by omega); omega)]
theorem stdB_iff {lv : Nat → List Tb} (h : ∀ k, k < 4 → (lv k).length ≤ 30) : stdB lv 4 = true ↔ ∀ k, k < 4 → ∀ t ∈ lv k, tV t = (k : Int) := by
  unfold stdB
  rw [List.all_eq_true]
  constructor
  · intro g k hk t ht
    have := g k (List.mem_range.2 hk)
    rw [List.take_of_length_le (by have := h k hk; omega), List.all_eq_true] at this
    have := this t ht
    unfold onL at this
    rwa [decide_eq_true_eq] at this
  · intro g k hk
    have hk := List.mem_range.1 hk
    rw [List.take_of_length_le (by have := h k hk; omega), List.all_eq_true]
    intro t ht
    unfold onL
    rw [decide_eq_true_eq]
    exact g k hk t ht
/-- Right here, and by the document: the tables stand on their levels, in their order. -/
theorem right_both {lv : Nat → List Tb} {log seq next : UInt64} : RightV lv log seq next ↔ (∀ k, k < 4 → ∀ t ∈ lv k, tV t = (k : Int)) ∧ RightD (tabs lv) log seq next ∧ ∀ k, k < 4 → lv k = levelD (tabs lv) k := by
  constructor
  · intro h
    have hr := rel_tabs (m := (log, seq, next)) h
    exact ⟨fun k hk t ht => ((h.lev k hk).all t ht).2.1, hr.rd, fun k hk => hr.level k hk⟩
  · rintro ⟨h1, h2, h3⟩
    have hP : ∀ k, k < 4 → (lv k).Perm ((tabs lv).filter (onL k)) := fun k hk => by rw [tabs_filter h1 hk]
    refine ((right_iff hP fun k hk => ?_).2 h2).1
    rw [h3 k hk]
    exact strict_sorted (levelD_strict h2 hk)
theorem eds_at {W : World} {v : Vn} {lv : Nat → List Tb} {ve : Value} {base : Nat} (h : VerAt W v lv) (hc : ∀ k, k < 4 → ∀ a n c, v.lev k = .slice a n c → n ≤ c) (ho : W.ownsRow base TEd 5 ve 4 ((esK v 4).flatMap encEc)) : EdsAt W ve (esK v 4) (dsK lv 4) := by
  refine ⟨by rw [esK_len, dsK_len], ?_, fun i hi hk => ?_⟩
  · have := Seg.of_owns ho
    show Seg W 5 ve (esK v 4).length _
    rw [esK_len]
    exact this
  · rw [esK_len] at hi
    have e1 : (esK v 4)[i]'(by rw [esK_len]; exact hi) = ⟨v.lev i, .slice none 0 0, 0, 0, 0⟩ := by unfold esK; simp
    have e2 : (dsK lv 4)[i]'(by rw [dsK_len]; exact hi) = (lv i, [], 0, 0, 0) := by unfold dsK; simp
    rw [e1, e2]
    exact ⟨h.at hi, Seg.nil W 1, rfl, hc i hi⟩
/-- The world in the middle of VersionRight: the version's box, the document's box, the row of edits, the row of tables. -/
structure VrSt (w : World) (v : Vn) (k : Nat) (L : List Tb) (ve vl : Value) (W : World) : Prop where
  bv : W.heap[w.heap.size]? = some (boxV v)
  bd : W.heap[w.heap.size + 1]? = some (boxD ⟨vl, v.log, v.seq, v.nxt⟩)
  eds : W.ownsRow (w.heap.size + 2) TEd 5 ve k ((esK v k).flatMap encEc)
  tbs : W.ownsRow (w.heap.size + 2) TE 8 vl L.length (L.flatMap encC)
  dif : ∀ p, ve.ownBlock = some p → vl.ownBlock ≠ some p
  bel : Below w.heap.size w W
section
variable {w W W' : World} {v : Vn} {k : Nat} {L : List Tb} {ve vl : Value}
theorem VrSt.two (h : VrSt w v k L ve vl W) : w.heap.size + 2 ≤ W.heap.size := blk_lt h.bd
theorem VrSt.kept (h : VrSt w v k L ve vl W) (hb : Below W.heap.size W W') : VrSt w v k L ve vl W' :=
  ⟨blk_kept hb h.bv, blk_kept hb h.bd, row_kept1 h.eds fun p hp => hb.block p (h.eds.lt p hp).2, row_kept1 h.tbs fun p hp => hb.block p (h.tbs.lt p hp).2, h.dif, below_step h.bel hb h.bel.size⟩
theorem VrSt.edit (h : VrSt w v k L ve vl W) {ve' : Value} (hg : W.grownBy W' ve.ownBlock) (ho : W'.ownsRow (w.heap.size + 2) TEd 5 ve' (k + 1) ((esK v (k + 1)).flatMap encEc)) (hw : ve'.ownBlock = ve.ownBlock ∨ ve'.ownBlock = some W.heap.size) : VrSt w v (k + 1) L ve' vl W' := by
  have far : ∀ b, b < w.heap.size + 2 → ve.ownBlock ≠ some b := fun b hb e => by have := (h.eds.lt b e).1; omega
  have l2 := h.two
  refine ⟨by rw [hg.block _ (by omega) (fun e => far _ (by omega) e.symm)]; exact h.bv, by rw [hg.block _ (by omega) (fun e => far _ (by omega) e.symm)]; exact h.bd, ho, row_kept1 h.tbs fun p hp => hg.block p (h.tbs.lt p hp).2 (fun e => h.dif p e.symm hp), fun p hp hq => ?_, h.bel.grown hg h.bel.size fun p hp => by have := (h.eds.lt p hp).1; omega⟩
  rcases hw with e | e
  · exact h.dif p (by rw [← e]; exact hp) hq
  · rw [e] at hp
    injection hp with hp
    have := (h.tbs.lt p hq).2
    omega
theorem VrSt.tab (h : VrSt w v k L ve vl W) {vl' : Value} {M : List Tb} (hg : W.grownBy W' vl.ownBlock) (ho : W'.ownsRow (w.heap.size + 2) TE 8 vl' M.length (M.flatMap encC)) (hw : vl'.ownBlock = vl.ownBlock ∨ ∀ p, vl'.ownBlock = some p → W.heap.size ≤ p) : VrSt w v k M ve vl' (W'.setCell ⟨w.heap.size + 1, 0, none⟩ vl') := by
  have far : ∀ b, b < w.heap.size + 2 → vl.ownBlock ≠ some b := fun b hb e => by have := (h.tbs.lt b e).1; omega
  have l2 := h.two
  have b1 : W'.heap[w.heap.size]? = some (boxV v) := by rw [hg.block _ (by omega) (fun e => far _ (by omega) e.symm)]; exact h.bv
  have b2 : W'.heap[w.heap.size + 1]? = some (boxD ⟨vl, v.log, v.seq, v.nxt⟩) := by rw [hg.block _ (by omega) (fun e => far _ (by omega) e.symm)]; exact h.bd
  have gs := grown_set W' (w.heap.size + 1) 0 vl'
  refine ⟨by rw [gs.block _ (blk_lt b1) (by intro e; injection e with e; omega)]; exact b1, by rw [blk_set b2]; rfl, ?_, ?_, fun p hp hq => ?_, (h.bel.grown hg h.bel.size fun p hp => by have := (h.tbs.lt p hp).1; omega).setCell (p := ⟨w.heap.size + 1, 0, none⟩) (Nat.le_succ _) _⟩
  · have h1 : W'.ownsRow (w.heap.size + 2) TEd 5 ve k ((esK v k).flatMap encEc) := row_kept1 h.eds fun p hp => hg.block p (h.eds.lt p hp).2 (fun e => h.dif p hp e.symm)
    exact row_kept1 h1 fun p hp => gs.block p (h1.lt p hp).2 (fun e => by have := (h1.lt p hp).1; injection e with e; omega)
  · exact row_kept1 ho fun p hp => gs.block p (ho.lt p hp).2 (fun e => by have := (ho.lt p hp).1; injection e with e; omega)
  · rcases hw with e | e
    · exact h.dif p hp (by rw [← e]; exact hq)
    · have := e p hq
      have := (h.eds.lt p hp).2
      omega
/-- .. between the row's growing and the store of the document's box. -/
theorem VrSt.mid (h : VrSt w v k L ve vl W) (hg : W.grownBy W' vl.ownBlock) : W'.heap[w.heap.size]? = some (boxV v) ∧ W'.heap[w.heap.size + 1]? = some (boxD ⟨vl, v.log, v.seq, v.nxt⟩) := by
  have far : ∀ b, b < w.heap.size + 2 → vl.ownBlock ≠ some b := fun b hb e => by have := (h.tbs.lt b e).1; omega
  have l2 := h.two
  exact ⟨by rw [hg.block _ (by omega) (fun e => far _ (by omega) e.symm)]; exact h.bv, by rw [hg.block _ (by omega) (fun e => far _ (by omega) e.symm)]; exact h.bd⟩
end

set_option maxHeartbeats 16000000 in
theorem right_law (v : Vn) (lv : Nat → List Tb) (w : World) (h : VerAt w v lv) (hc : ∀ k, k < 4 → ∀ a n c, v.lev k = .slice a n c → n ≤ c) : Calls Try.prog 4 #[encV v] w (fun e w' => e = .returned (.bool true) ∧ Below w.heap.size w w') := by
  have HV := Lib.hid h
  have HCP := Lib.hid hc
  have HST := Lib.hid (show VrSt w v 0 [] (.slice none 0 0) (.slice none 0 0) ((w.alloc (boxV v)).alloc (boxD ⟨.slice none 0 0, v.log, v.seq, v.nxt⟩)) from
    ⟨blk_alloc (heap_alloc_new _ _) _, alloc2_new _ _ _, World.ownsRow_nil _ _ _ _, World.ownsRow_nil _ _ _ _, fun p hp => by simp [Value.ownBlock] at hp, bel2 _ _⟩)
  have hbv := heap_alloc_new w (boxV v)
  have c4 : (w.alloc (boxV v)).cell? ⟨w.heap.size, 4, none⟩ = some (.int .u64 (v.log.toNat : Int)) := (blk_cell hbv 4).trans rfl
  have c5 : (w.alloc (boxV v)).cell? ⟨w.heap.size, 5, none⟩ = some (.int .u64 (v.seq.toNat : Int)) := (blk_cell hbv 5).trans rfl
  have c6 : (w.alloc (boxV v)).cell? ⟨w.heap.size, 6, none⟩ = some (.int .u64 (v.nxt.toNat : Int)) := (blk_cell hbv 6).trans rfl
  clear h hc hbv
  go_enter Try.func4, Try.ntmps4
  go_wp2_with fail
  go_loopw [3, 5, 6] (fun ve vs vk W => ∃ (k : Nat) (s : Bool) (eo : Option Addr) (ec : Nat) (vl : Value), k ≤ 4 ∧ vk = .int .i64 (k : Int) ∧ vs = .bool s ∧ ve = .slice eo k ec ∧ Hid (s = stdB lv k) ∧ Hid (VrSt w v k (cutK lv k) (.slice eo k ec) vl W)) (fun _ _ vk _ => 4 - (intOf vk).toNat)
  case atStart => exact ⟨0, true, none, 0, _, by omega, rfl, rfl, rfl, Lib.hid rfl, HST⟩
  case round =>
    obtain ⟨k, s, eo, ec, vl, hk, rfl, rfl, rfl, HS, HT⟩ := hrel
    by_cases hlt : k < 4
    · obtain ⟨ao, cap, hlv⟩ := elems_slice (HV.out.at hlt)
      obtain ⟨l, hl⟩ : ∃ l, l = lv k := ⟨_, rfl⟩
      rw [← hl] at hlv
      have HL := Lib.hid hl
      have HLV := Lib.hid hlv
      have HK := Lib.hid hlt
      have c1 : wr.cell? ⟨w.heap.size, k, none⟩ = some (.slice ao l.length cap) := by rw [← hlv]; exact boxV_lev HT.out.bv hlt
      have k1 : (k : Int) < 4 := by omega
      have k0 : (0 : Int) ≤ (k : Int) := by omega
      have k3 : IntKind.i64.wrap ((k : Int) + 1) = (k : Int) + 1 := by rw [IntKind.wrap_i64]; omega
      have HT1 := Lib.hid (HT.out.kept (below_of_alloc (boxE ⟨.slice ao l.length cap, .slice none 0 0, 0, 0, 0⟩)))
      have HSEG := Lib.hid (show Seg (wr.alloc (boxE ⟨.slice ao l.length cap, .slice none 0 0, 0, 0, 0⟩)) 5 (.slice (some ⟨wr.heap.size, 0, none⟩) 1 1) 1 (encEc ⟨.slice ao l.length cap, .slice none 0 0, 0, 0, 0⟩) from seg_oneG (heap_alloc_new _ _) rfl)
      clear hl hlv hlt
      go_upto_region 9 with (at_builtin; refine wpList_append_seg rfl (.tmp 23) (.tmp 29) TSe rfl (w.heap.size + 2) TEd _ 5 72 Try.underlying22 infoEd rfl (by decide) _ k _ rfl HT1.out.eds _ 1 _ rfl HSEG.out (encEc_one1 ⟨⟨_, _, _, rfl⟩, ⟨_, _, _, rfl⟩⟩) (by omega) (by decide) HT1.out.two ?_; intro v6 w6 ho6 hg6 hw6; obtain ⟨o6, c6, hv6⟩ := owns_slice1 ho6; subst hv6; have HT6 := Lib.hid (HT1.out.edit hg6 (by rw [esK_next, List.flatMap_append, HLV.out]; simpa using ho6) hw6); clear ho6 hg6 hw6)
      clear c1 HT1 HSEG
      go_loopw [5, 7] (fun vs vi W => ∃ (i : Nat) (s2 : Bool) (vl2 : Value), i ≤ 31 ∧ i ≤ l.length ∧ vi = .int .i64 (i : Int) ∧ vs = .bool s2 ∧ Hid (s2 = (stdB lv k && (l.take i).all (onL k))) ∧ Hid (VrSt w v (k + 1) (cutK lv k ++ l.take i) (.slice o6 (k + 1) c6) vl2 W)) (fun _ vi _ => 31 - (intOf vi).toNat)
      case atStart => exact ⟨0, s, vl, by omega, Nat.zero_le _, rfl, rfl, Lib.hid (by rw [HS.out]; simp), Lib.hid (by simpa using HT6.out)⟩
      case round =>
        obtain ⟨i, s2, vl2, hi, hil, rfl, rfl, HS2, HT2⟩ := hrel
        have c1 : wr.cell? ⟨w.heap.size, k, none⟩ = some (.slice ao l.length cap) := by rw [← HLV.out]; exact boxV_lev HT2.out.bv HK.out
        by_cases hlt : i < l.length
        · by_cases h31 : i ≤ 30
          · have hT := HV.out.at HK.out
            rw [HLV.out, ← HL.out] at hT
            obtain ⟨tb, tof, tc', hve, hcs⟩ := tbs_cells (l := l) (Seg.kept hT HT2.out.bel) (by omega)
            injection hve with h1 _ h3
            subst h1
            have HLT := Lib.hid hlt
            obtain ⟨x, hx⟩ : ∃ x, x = l[i]'HLT.out := ⟨_, rfl⟩
            have HX := Lib.hid hx
            have hcx := hcs i HLT.out
            rw [← hx] at hcx
            have d0 := hcx.c0
            have d1 := hcx.c1
            have d2 := hcx.c2
            have d3 := hcx.c3
            have d4 := hcx.c4
            have d5 := hcx.c5
            have d6 := hcx.c6
            have d7 := hcx.c7
            have j1 : (0 : Int) ≤ (i : Int) := by omega
            have j2 : (i : Int) < (l.length : Int) := by omega
            have j3 : (i : Int) ≤ 30 := by omega
            have j4 : IntKind.i64.wrap ((i : Int) + 1) = (i : Int) + 1 := by rw [IntKind.wrap_i64]; omega
            have HI := Lib.hid (show i + 1 ≤ 31 from by omega)
            obtain ⟨q, hq⟩ : ∃ q, q = (s2 && onL k x) := ⟨_, rfl⟩
            have HQ := Lib.hid (show q = (stdB lv k && (l.take (i + 1)).all (onL k)) from by
              rw [hq, HS2.out, List.take_succ_eq_append_getElem HLT.out, List.all_append, HX.out, Bool.and_assoc]
              simp)
            obtain ⟨M, hM⟩ : ∃ M, M = cutK lv k ++ l.take i := ⟨_, rfl⟩
            have HM := Lib.hid (show cutK lv k ++ l.take (i + 1) = M ++ [x] from by rw [hM, List.take_succ_eq_append_getElem HLT.out, HX.out, List.append_assoc])
            have HML := Lib.hid (show M.length ≤ 1000000 from by have := cutK_le lv k; rw [hM, List.length_append, List.length_take]; have := HK.out; omega)
            have HT3 := HT2
            rw [← hM] at HT3
            obtain ⟨eo3, ec3, hvl⟩ := owns_slice1 HT3.out.tbs
            subst hvl
            clear hT hcs h3 hx hcx hM hlt h31 hi hil
            go_upto_region 11 with fail
            go_cut [5] (fun vs W => vs = .bool q ∧ wr = W)
            case first =>
              cases s2
              · have hq2 : q = false := by rw [hq]; rfl
                subst hq2
                clear hq
                go_wp2_with fail
                go_meet
                exact ⟨rfl, rfl⟩
              · have hq2 : (x.2.1 == (k : Int)) = q := by rw [hq]; unfold onL; rw [Bool.true_and, Bool.eq_iff_iff, beq_iff_eq, decide_eq_true_eq]
                clear hq
                go_wp2_with fail
                go_meet
                exact ⟨rfl, rfl⟩
            case rest =>
              obtain ⟨rfl, rfl⟩ := hcut
              clear hq
              have HT4 := Lib.hid (HT3.out.kept (below_of_alloc (w := wr) (boxT x)).drew)
              have HOW := Lib.hid HT4.out.tbs
              have b0 : wr.cell? ⟨w.heap.size + 1, 0, none⟩ = some (.slice eo3 M.length ec3) := by rw [blk_cell HT3.out.bd]; rfl
              have fz : wr.frozen? ⟨w.heap.size + 1, 0, none⟩ = false := by rw [blk_frozen HT3.out.bd]; simp
              have ba : (wr.alloc (boxT x)).cell? ⟨w.heap.size + 1, 0, none⟩ = some (.slice eo3 M.length ec3) := by rw [blk_cell (blk_alloc HT3.out.bd _)]; rfl
              have ca : (wr.alloc (boxT x)).cell? ⟨w.heap.size, k, none⟩ = some (.slice (some ⟨tb, tof, none⟩) l.length cap) := by rw [← HLV.out]; exact boxV_lev (blk_alloc HT3.out.bv _) HK.out
              go_upto_region 12 with fail
              refine wp_then_intro ?_
              intro KK HKK
              go_cut [] (fun W => ∃ vl3 : Value, Hid (VrSt w v (k + 1) (M ++ [x]) (.slice o6 (k + 1) c6) vl3 W))
              case first =>
                clear HKK
                go_region_law (refine step_appT rfl (.tmp 58) (.tmp 66) rfl (t := x) (by simp [Act.eval, Act.put]) (by simp [Act.eval, Act.put]) (show ((wr.alloc (boxT x)).drew).heap[wr.heap.size]? = some (boxT x) from heap_alloc_new _ _) HOW.out HML.out HT4.out.two ?_; intro v7 W7 ho7 hg7 hw7; obtain ⟨xo7, xc7, hx7⟩ := owns_slice1 ho7; subst hx7; have HO7 := Lib.hid ho7; have HG7 := Lib.hid hg7; have HW7 := Lib.hid hw7; obtain ⟨hm1, hm2⟩ := HT4.out.mid hg7; have b6 : W7.cell? ⟨w.heap.size + 1, 0, none⟩ = some (.slice eo3 M.length ec3) := (by rw [blk_cell hm2]; rfl); have f6 : W7.frozen? ⟨w.heap.size + 1, 0, none⟩ = false := (by rw [blk_frozen hm2]; simp); clear ho7 hg7 hw7 hm1 hm2)
                all_goals (go_wp2_with fail; go_meet; exact ⟨.slice xo7 (M.length + 1) xc7, Lib.hid (HT4.out.tab HG7.out (by have h := HO7.out; simp only [List.length_append, List.length_cons, List.length_nil, Nat.zero_add] at h ⊢; exact h) (by have h := HW7.out; simp only [List.length_append, List.length_cons, List.length_nil, Nat.zero_add] at h ⊢; exact h))⟩)
              case rest =>
                rename World => w7
                obtain ⟨vl3, HT7⟩ := hcut
                refine HKK _ _ ?_
                clear HKK
                go_wp2_with fail
                go_roundw
                case rel => exact ⟨i + 1, q, vl3, HI.out, HLT.out, by first | rfl | (congr 1), rfl, HQ, by rw [HM.out]; exact HT7⟩
                case measure => simp [intOf]; have := HI.out; omega
          · have h31' : i = 31 := by omega
            have HE := Lib.hid (show l.take i = l.take 31 from by rw [h31'])
            have j2 : (i : Int) < (l.length : Int) := by omega
            have j3 : ¬ (i : Int) ≤ 30 := by omega
            clear h31 h31' hlt
            go_wp2_with fail
            go_roundw
            case rel => exact ⟨k + 1, s2, o6, c6, vl2, HK.out, by first | rfl | (congr 1), rfl, rfl, Lib.hid (by rw [stdB_next, HS2.out, HE.out, HL.out]), Lib.hid (by rw [cutK_next, ← HL.out, ← HE.out]; exact HT2.out)⟩
            case measure => simp [intOf]; have := HK.out; omega
        · have HE := Lib.hid (show l.take i = l.take 31 from by rw [List.take_of_length_le (by omega), List.take_of_length_le (by omega)])
          have j2 : ¬ (i : Int) < (l.length : Int) := by omega
          clear hlt
          go_wp2_with fail
          go_roundw
          case rel => exact ⟨k + 1, s2, o6, c6, vl2, HK.out, by first | rfl | (congr 1), rfl, rfl, Lib.hid (by rw [stdB_next, HS2.out, HE.out, HL.out]), Lib.hid (by rw [cutK_next, ← HL.out, ← HE.out]; exact HT2.out)⟩
          case measure => simp [intOf]; have := HK.out; omega
    · have hk4 : k = 4 := by omega
      subst hk4
      have k1 : ¬ (4 : Int) < 4 := by omega
      clear hlt
      rename World => wp
      have HEA := Lib.hid (eds_at (HV.out.kept HT.out.bel) HCP.out HT.out.eds)
      have HC := Lib.hid (great_any (.slice eo 4 ec) (.slice none 0 0) (esK v 4) (dsK lv 4) [] wp HEA.out ⟨_, _, rfl, fun h => absurd h (by simp)⟩ (by simp))
      go_wp2_with fail
      refine HC.out.mono ?_
      rintro e w1 ⟨b, rfl, hb, rfl⟩
      have HG := Lib.hid hb
      clear HC hb
      cases b
      · obtain ⟨-, hok, -⟩ := HG.out rfl
        have hmem : ∀ k, k < 4 → OkE (lv k, [], 0, 0, 0) := fun k hk => hok _ (by unfold dsK; rw [List.mem_map]; exact ⟨k, List.mem_range.2 hk, rfl⟩)
        have h30 : ∀ k, k < 4 → (lv k).length ≤ 30 := fun k hk => (hmem k hk).1
        have HSM := Lib.hid (show SmallL (tabs lv) from fun t ht => by
          obtain ⟨k, hk, hm⟩ := mem_tabs.1 ht
          have h1 := (hmem k hk).2.2 t hm
          exact ⟨Nat.le_trans h1.1 (by decide), Nat.le_trans h1.2 (by decide)⟩)
        have h120 : (tabs lv).length ≤ 120 := by
          rw [tabs_eq]
          simp only [List.length_append]
          have := h30 0 (by omega)
          have := h30 1 (by omega)
          have := h30 2 (by omega)
          have := h30 3 (by omega)
          omega
        have H30 := Lib.hid h30
        have H120 := Lib.hid h120
        have HSD := Lib.hid (show s = true ↔ ∀ k, k < 4 → ∀ t ∈ lv k, tV t = (k : Int) from by rw [HS.out]; exact stdB_iff h30)
        rw [cutK_all h30] at HT
        obtain ⟨L, hL⟩ : ∃ L, L = tabs lv := ⟨_, rfl⟩
        rw [← hL] at HT HSM H120
        have HLL := Lib.hid hL
        obtain ⟨qa, qc, hvl⟩ := owns_slice1 HT.out.tbs
        subst hvl
        have hbv := HT.out.bv
        have hbd := HT.out.bd
        have c0 : wp.cell? ⟨w.heap.size, 0, none⟩ = some (v.s0) := (blk_cell hbv 0).trans rfl
        have c1 : wp.cell? ⟨w.heap.size, 1, none⟩ = some (v.s1) := (blk_cell hbv 1).trans rfl
        have c2 : wp.cell? ⟨w.heap.size, 2, none⟩ = some (v.s2) := (blk_cell hbv 2).trans rfl
        have c3 : wp.cell? ⟨w.heap.size, 3, none⟩ = some (v.s3) := (blk_cell hbv 3).trans rfl
        have c4 : wp.cell? ⟨w.heap.size, 4, none⟩ = some (.int .u64 (v.log.toNat : Int)) := (blk_cell hbv 4).trans rfl
        have c5 : wp.cell? ⟨w.heap.size, 5, none⟩ = some (.int .u64 (v.seq.toNat : Int)) := (blk_cell hbv 5).trans rfl
        have c6 : wp.cell? ⟨w.heap.size, 6, none⟩ = some (.int .u64 (v.nxt.toNat : Int)) := (blk_cell hbv 6).trans rfl
        have d0 : wp.cell? ⟨w.heap.size + 1, 0, none⟩ = some (.slice qa L.length qc) := (blk_cell hbd 0).trans rfl
        have d1 : wp.cell? ⟨w.heap.size + 1, 1, none⟩ = some (.int .u64 (v.log.toNat : Int)) := (blk_cell hbd 1).trans rfl
        have d2 : wp.cell? ⟨w.heap.size + 1, 2, none⟩ = some (.int .u64 (v.seq.toNat : Int)) := (blk_cell hbd 2).trans rfl
        have d3 : wp.cell? ⟨w.heap.size + 1, 3, none⟩ = some (.int .u64 (v.nxt.toNat : Int)) := (blk_cell hbd 3).trans rfl
        have HCL := Lib.hid (show ∀ W, Below wp.heap.size wp W → W.cell? ⟨w.heap.size, 0, none⟩ = some (v.s0) ∧ W.cell? ⟨w.heap.size, 1, none⟩ = some (v.s1) ∧ W.cell? ⟨w.heap.size, 2, none⟩ = some (v.s2) ∧ W.cell? ⟨w.heap.size, 3, none⟩ = some (v.s3) ∧ W.cell? ⟨w.heap.size, 4, none⟩ = some (.int .u64 (v.log.toNat : Int)) ∧ W.cell? ⟨w.heap.size, 5, none⟩ = some (.int .u64 (v.seq.toNat : Int)) ∧ W.cell? ⟨w.heap.size, 6, none⟩ = some (.int .u64 (v.nxt.toNat : Int)) ∧ W.cell? ⟨w.heap.size + 1, 0, none⟩ = some (.slice qa L.length qc) ∧ W.cell? ⟨w.heap.size + 1, 1, none⟩ = some (.int .u64 (v.log.toNat : Int)) ∧ W.cell? ⟨w.heap.size + 1, 2, none⟩ = some (.int .u64 (v.seq.toNat : Int)) ∧ W.cell? ⟨w.heap.size + 1, 3, none⟩ = some (.int .u64 (v.nxt.toNat : Int)) from fun W hb => ⟨cell_kept hb c0, cell_kept hb c1, cell_kept hb c2, cell_kept hb c3, cell_kept hb c4, cell_kept hb c5, cell_kept hb c6, cell_kept hb d0, cell_kept hb d1, cell_kept hb d2, cell_kept hb d3⟩)
        have HTD := Lib.hid (show TbsAt wp (.slice qa L.length qc) L from Seg.of_owns HT.out.tbs)
        have HVP := Lib.hid (HV.out.kept HT.out.bel)
        have HDR := Lib.hid (dright_any (⟨.slice qa L.length qc, v.log, v.seq, v.nxt⟩ : Dn) L wp HTD.out (by have := H120.out; omega) HSM.out)
        have HBP := Lib.hid HT.out.bel
        clear hok hmem h30 h120 hL hbv hbd HEA HG k1 HS HT
        go_upto_region 15 with fail
        go_cut [8] (fun vb W => ∃ q : Bool, vb = .bool q ∧ Hid (q = true ↔ s = true ∧ RightD L v.log v.seq v.nxt) ∧ Hid (Below wp.heap.size wp W))
        case first =>
          cases s
          · go_wp2_with fail
            go_meet
            exact ⟨false, rfl, Lib.hid (by simp), Lib.hid (Below.refl _ _)⟩
          · go_wp2_with fail
            refine HDR.out.mono ?_
            rintro e wz ⟨b, rfl, hb, hbb⟩
            have HB := Lib.hid hb
            have HBB := Lib.hid hbb
            clear hb hbb
            go_wp2_with fail
            go_meet
            exact ⟨b, rfl, Lib.hid (by rw [HB.out]; simp), HBB⟩
        case rest =>
          rename World => w3
          obtain ⟨q0, rfl, HQ0, HB3⟩ := hcut
          clear HDR c0 c1 c2 c3 c4 c5 c6 d0 d1 d2 d3
          go_wp2_with fail
          go_loopw [8, 9] (fun vq vj W => ∃ (j : Nat) (q : Bool), j ≤ 4 ∧ vj = .int .i64 (j : Int) ∧ vq = .bool q ∧ Hid (q = true ↔ (s = true ∧ RightD L v.log v.seq v.nxt) ∧ ∀ i, i < j → lv i = levelD L i) ∧ Hid (Below wp.heap.size wp W)) (fun _ vj _ => 4 - (intOf vj).toNat)
          case atStart => exact ⟨0, q0, by omega, rfl, rfl, Lib.hid (by rw [HQ0.out]; simp), HB3⟩
          case round =>
            obtain ⟨j, q, hj, rfl, rfl, HQ, HB⟩ := hrel
            obtain ⟨c0, c1, c2, c3, c4, c5, c6, d0, d1, d2, d3⟩ := HCL.out wr HB.out
            by_cases hlt : j < 4
            · cases q
              · have j2 : (j : Int) < 4 := by omega
                have HNR := Lib.hid (show ¬ RightV lv v.log v.seq v.nxt from fun h => by
                  obtain ⟨h1, h2, h3⟩ := right_both.1 h
                  have := HQ.out.2 ⟨⟨HSD.out.2 h1, by rw [HLL.out]; exact h2⟩, fun i hi => by rw [HLL.out]; exact h3 i (by omega)⟩
                  cases this)
                clear hlt
                have HAP := Lib.hid (apply_any v lv L (.slice none 0 0) [] [] (1, [], 0, 0, 0) wr (HVP.out.kept HB.out) (by rw [← HLL.out]; have := H120.out; omega) ⟨rfl, Seg.nil wr 5, fun i hi => absurd hi (by simp)⟩ (fun h => absurd h HNR.out) (fun _ => rfl) (by have := H120.out; simp [sumA]; omega) (by simp) (by simp))
                go_wp2_with fail
                refine HAP.out.mono ?_
                rintro e w6 ⟨v6, A6, rfl, ho6, -, hb6, -, hbad⟩
                obtain ⟨rfl, rfl⟩ := hbad (show (1 : Int) ≠ 0 by decide)
                rw [encV_zero]
                have HB6 := Lib.hid (below_step HB.out hb6 HB.out.size)
                have HB7 := Lib.hid (HB6.out.alloc HB6.out.size boxZ)
                have HX7 := Lib.hid (heap_alloc_new w6 boxZ)
                clear HAP ho6 hb6 hbad c0 c1 c2 c3 c4 c5 c6 d0 d1 d2 d3
                obtain ⟨c0, c1, c2, c3, c4, c5, c6, d0, d1, d2, d3⟩ := HCL.out _ HB7.out
                have HC := Lib.hid (verRight_any v lv _ (HVP.out.kept HB7.out) (by rw [← HLL.out]; have := H120.out; omega))
                go_wp2_with fail
                refine HC.out.mono ?_
                rintro e w8 ⟨b8, rfl, hb8, hbb8⟩
                have hbt : b8 = false := by cases b8 with
                  | false => rfl
                  | true => exact absurd (hb8.1 rfl) HNR.out
                subst hbt
                have HB8 := Lib.hid (below_step HB7.out hbb8 HB7.out.size)
                have HX8 := Lib.hid (blk_kept hbb8 HX7.out)
                have hx8 := HX8.out
                have z0 : w8.cell? ⟨w6.heap.size, 0, none⟩ = some (.slice none 0 0) := (blk_cell hx8 0).trans rfl
                have z1 : w8.cell? ⟨w6.heap.size, 1, none⟩ = some (.slice none 0 0) := (blk_cell hx8 1).trans rfl
                have z2 : w8.cell? ⟨w6.heap.size, 2, none⟩ = some (.slice none 0 0) := (blk_cell hx8 2).trans rfl
                have z3 : w8.cell? ⟨w6.heap.size, 3, none⟩ = some (.slice none 0 0) := (blk_cell hx8 3).trans rfl
                have z4 : w8.cell? ⟨w6.heap.size, 4, none⟩ = some (.int .u64 0) := (blk_cell hx8 4).trans rfl
                have z5 : w8.cell? ⟨w6.heap.size, 5, none⟩ = some (.int .u64 0) := (blk_cell hx8 5).trans rfl
                have z6 : w8.cell? ⟨w6.heap.size, 6, none⟩ = some (.int .u64 0) := (blk_cell hx8 6).trans rfl
                have HC2 := Lib.hid (tablesN_any zVn (fun _ => []) w8 ⟨Seg.nil w8 8, Seg.nil w8 8, Seg.nil w8 8, Seg.nil w8 8⟩ (by decide))
                rw [encV_zero] at HC2
                clear HC hb8 hbb8 hx8 c0 c1 c2 c3 c4 c5 c6 d0 d1 d2 d3
                go_wp2_with fail
                refine HC2.out.mono ?_
                rintro e w9 ⟨vt, rfl, hot, hbt⟩
                obtain ⟨ta, tc, hvt⟩ := owns_slice1 hot
                subst hvt
                have hz : (tabs fun _ => []).length = 0 := rfl
                rw [hz]
                have HB9 := Lib.hid (below_step HB8.out hbt HB8.out.size)
                have HX9 := Lib.hid (blk_kept hbt HX8.out)
                have hx9 := HX9.out
                clear z0 z1 z2 z3 z4 z5 z6 hot hbt hz HC2
                have z0 : w9.cell? ⟨w6.heap.size, 0, none⟩ = some (.slice none 0 0) := (blk_cell hx9 0).trans rfl
                have z1 : w9.cell? ⟨w6.heap.size, 1, none⟩ = some (.slice none 0 0) := (blk_cell hx9 1).trans rfl
                have z2 : w9.cell? ⟨w6.heap.size, 2, none⟩ = some (.slice none 0 0) := (blk_cell hx9 2).trans rfl
                have z3 : w9.cell? ⟨w6.heap.size, 3, none⟩ = some (.slice none 0 0) := (blk_cell hx9 3).trans rfl
                have z4 : w9.cell? ⟨w6.heap.size, 4, none⟩ = some (.int .u64 0) := (blk_cell hx9 4).trans rfl
                have z5 : w9.cell? ⟨w6.heap.size, 5, none⟩ = some (.int .u64 0) := (blk_cell hx9 5).trans rfl
                have z6 : w9.cell? ⟨w6.heap.size, 6, none⟩ = some (.int .u64 0) := (blk_cell hx9 6).trans rfl
                clear hx9
                go_wp2_with fail
                refine (awake_any _).mono ?_
                rintro e w10 ⟨rfl, hb10⟩
                have hb11 := below_step HB9.out hb10 HB9.out.size
                have HBZ := Lib.hid (below_step HBP.out hb11 HBP.out.size)
                clear hb10 hb11
                go_wp2_with fail
                go_ret
                exact ⟨rfl, HBZ.out⟩
              · have HJ := Lib.hid hlt
                obtain ⟨ao, cap, hlv⟩ := elems_slice (HVP.out.at HJ.out)
                have c1 : wr.cell? ⟨w.heap.size, j, none⟩ = some (.slice ao (lv j).length cap) := by
                  rw [← hlv]
                  have h1 := HCL.out wr HB.out
                  rcases (show j = 0 ∨ j = 1 ∨ j = 2 ∨ j = 3 by have := HJ.out; omega) with rfl | rfl | rfl | rfl
                  · exact h1.1
                  · exact h1.2.1
                  · exact h1.2.2.1
                  · exact h1.2.2.2.1
                obtain ⟨l, hl⟩ : ∃ l, l = lv j := ⟨_, rfl⟩
                have hTJ := HVP.out.at HJ.out
                rw [hlv] at hTJ
                rw [← hl] at c1 hTJ
                have HTJ := Lib.hid hTJ
                have HLJ := Lib.hid hl
                have hl30 : l.length ≤ 30 := by rw [hl]; exact H30.out j HJ.out
                have HL30 := Lib.hid hl30
                obtain ⟨b, hb⟩ : ∃ b, b = decide (l = levelD L j) := ⟨_, rfl⟩
                have HBB := Lib.hid hb
                have j1 : (0 : Int) ≤ (j : Int) := by omega
                have j2 : (j : Int) < 4 := by omega
                have j3 : IntKind.i64.wrap ((j : Int) + 1) = (j : Int) + 1 := by rw [IntKind.wrap_i64]; omega
                have HLV := Lib.hid (show ∀ W, Below wr.heap.size wr W → Calls Try.prog 19 #[encD (⟨.slice qa L.length qc, v.log, v.seq, v.nxt⟩ : Dn), .int .i64 (j : Int)] W (NewRow W (levelD L j)) from fun W hw => by
                  rw [← levelZ_D]
                  exact level14_any _ L (j : Int) W ((HTD.out.kept HB.out).kept hw) (by have := H120.out; omega) HSM.out)
                obtain ⟨ol, hol⟩ : ∃ n, n = (levelD L j).length := ⟨_, rfl⟩
                have HOL := Lib.hid hol
                have HSA := Lib.hid (show ∀ (W : World) (oa : Option Addr) (oc : Nat), Below wr.heap.size wr W → TbsAt W (.slice oa (levelD L j).length oc) (levelD L j) → Calls Try.prog 17 #[.slice ao l.length cap, .slice oa ol oc] W (fun e w' => e = .returned (.bool b) ∧ Below W.heap.size W w') from fun W oa oc hw ho => by
                  rw [HBB.out, HOL.out]
                  exact same_any _ _ _ _ W ((HTJ.out.kept HB.out).kept hw) ho (by have := HL30.out; omega) (by have := levelD_le L j; have := H120.out; omega))
                have HCJ := Lib.hid (show ∀ W, Below wr.heap.size wr W → W.cell? ⟨w.heap.size, j, none⟩ = some (.slice ao l.length cap) ∧ W.cell? ⟨w.heap.size + 1, 0, none⟩ = some (.slice qa L.length qc) ∧ W.cell? ⟨w.heap.size + 1, 1, none⟩ = some (.int .u64 (v.log.toNat : Int)) ∧ W.cell? ⟨w.heap.size + 1, 2, none⟩ = some (.int .u64 (v.seq.toNat : Int)) ∧ W.cell? ⟨w.heap.size + 1, 3, none⟩ = some (.int .u64 (v.nxt.toNat : Int)) from fun W hw => ⟨cell_kept hw c1, cell_kept hw d0, cell_kept hw d1, cell_kept hw d2, cell_kept hw d3⟩)
                clear hlv hl hTJ hl30 hb hol hlt c0 c2 c3 c4 c5 c6
                go_upto_region 19 with fail
                refine wp_then_intro ?_
                intro KK HKK
                go_cut [8] (fun vb W => vb = .bool b ∧ Hid (Below wr.heap.size wr W))
                case first =>
                  clear HKK
                  go_region_held3 (fun W => W.cell? ⟨w.heap.size, j, none⟩ = some (.slice ao l.length cap) ∧ W.cell? ⟨w.heap.size + 1, 0, none⟩ = some (.slice qa L.length qc) ∧ W.cell? ⟨w.heap.size + 1, 1, none⟩ = some (.int .u64 (v.log.toNat : Int)) ∧ W.cell? ⟨w.heap.size + 1, 2, none⟩ = some (.int .u64 (v.seq.toNat : Int)) ∧ W.cell? ⟨w.heap.size + 1, 3, none⟩ = some (.int .u64 (v.nxt.toNat : Int)))
                    (go_keep)
                    (first
                      | (go_at_call 19; refine (HLV.out _ (by first | exact (Below.refl _ _).drew | exact Below.refl _ _)).mono ?_; rintro eO wO ⟨vO, rfl, hoO, hbO⟩; obtain ⟨oa, oc, hvO⟩ := owns_slice1 hoO; subst hvO; have HBO := Lib.hid (show Below wr.heap.size wr wO from below_step (by first | exact (Below.refl _ _).drew | exact Below.refl _ _) hbO (Nat.le_refl _)); have HOO := Lib.hid (Seg.of_owns hoO); rw [← HOL.out] at HOO ⊢; obtain ⟨c1, d0, d1, d2, d3⟩ := HCJ.out wO HBO.out; clear hoO hbO)
                      | (go_at_call 17; refine (HSA.out wO oa oc HBO.out (by have h := HOO.out; rw [HOL.out] at h; exact h)).mono ?_; rintro eT wT ⟨rfl, hbT⟩; have HBT := Lib.hid (below_step HBO.out hbT HBO.out.size); obtain ⟨c1, d0, d1, d2, d3⟩ := HCJ.out wT HBT.out; clear hbT)
                      )
                  all_goals (go_wp2_with fail; go_meet; exact ⟨rfl, HBT⟩)
                case rest =>
                  rename World => w5
                  obtain ⟨rfl, HB5⟩ := hcut
                  refine HKK _ _ ?_
                  clear HKK c1 d0 d1 d2 d3
                  go_wp2_with fail
                  go_roundw
                  case rel =>
                    refine ⟨j + 1, b, HJ.out, by first | rfl | (congr 1), rfl, Lib.hid ?_, Lib.hid (below_step HB.out HB5.out HB.out.size)⟩
                    rw [HBB.out, decide_eq_true_eq]
                    have h1 := HQ.out.1 rfl
                    constructor
                    · intro h
                      refine ⟨h1.1, fun i hi => ?_⟩
                      rcases Nat.lt_or_eq_of_le (Nat.le_of_lt_succ hi) with h2 | rfl
                      · exact h1.2 i h2
                      · rw [← HLJ.out]; exact h
                    · intro h
                      rw [HLJ.out]
                      exact h.2 j (Nat.lt_succ_self _)
                  case measure => simp [intOf]; have := HJ.out; omega
            · have hj4 : j = 4 := by omega
              subst hj4
              have j2 : ¬ (4 : Int) < 4 := by omega
              clear hlt
              cases q
              · have HNR := Lib.hid (show ¬ RightV lv v.log v.seq v.nxt from fun h => by
                  obtain ⟨h1, h2, h3⟩ := right_both.1 h
                  have := HQ.out.2 ⟨⟨HSD.out.2 h1, by rw [HLL.out]; exact h2⟩, fun i hi => by rw [HLL.out]; exact h3 i hi⟩
                  cases this)
                have HAP := Lib.hid (apply_any v lv L (.slice none 0 0) [] [] (1, [], 0, 0, 0) wr (HVP.out.kept HB.out) (by rw [← HLL.out]; have := H120.out; omega) ⟨rfl, Seg.nil wr 5, fun i hi => absurd hi (by simp)⟩ (fun h => absurd h HNR.out) (fun _ => rfl) (by have := H120.out; simp [sumA]; omega) (by simp) (by simp))
                go_wp2_with fail
                refine HAP.out.mono ?_
                rintro e w6 ⟨v6, A6, rfl, ho6, -, hb6, -, hbad⟩
                obtain ⟨rfl, rfl⟩ := hbad (show (1 : Int) ≠ 0 by decide)
                rw [encV_zero]
                have HB6 := Lib.hid (below_step HB.out hb6 HB.out.size)
                have HB7 := Lib.hid (HB6.out.alloc HB6.out.size boxZ)
                have HX7 := Lib.hid (heap_alloc_new w6 boxZ)
                clear HAP ho6 hb6 hbad c0 c1 c2 c3 c4 c5 c6 d0 d1 d2 d3
                obtain ⟨c0, c1, c2, c3, c4, c5, c6, d0, d1, d2, d3⟩ := HCL.out _ HB7.out
                have HC := Lib.hid (verRight_any v lv _ (HVP.out.kept HB7.out) (by rw [← HLL.out]; have := H120.out; omega))
                go_wp2_with fail
                refine HC.out.mono ?_
                rintro e w8 ⟨b8, rfl, hb8, hbb8⟩
                have hbt : b8 = false := by cases b8 with
                  | false => rfl
                  | true => exact absurd (hb8.1 rfl) HNR.out
                subst hbt
                have HB8 := Lib.hid (below_step HB7.out hbb8 HB7.out.size)
                have HX8 := Lib.hid (blk_kept hbb8 HX7.out)
                have hx8 := HX8.out
                have z0 : w8.cell? ⟨w6.heap.size, 0, none⟩ = some (.slice none 0 0) := (blk_cell hx8 0).trans rfl
                have z1 : w8.cell? ⟨w6.heap.size, 1, none⟩ = some (.slice none 0 0) := (blk_cell hx8 1).trans rfl
                have z2 : w8.cell? ⟨w6.heap.size, 2, none⟩ = some (.slice none 0 0) := (blk_cell hx8 2).trans rfl
                have z3 : w8.cell? ⟨w6.heap.size, 3, none⟩ = some (.slice none 0 0) := (blk_cell hx8 3).trans rfl
                have z4 : w8.cell? ⟨w6.heap.size, 4, none⟩ = some (.int .u64 0) := (blk_cell hx8 4).trans rfl
                have z5 : w8.cell? ⟨w6.heap.size, 5, none⟩ = some (.int .u64 0) := (blk_cell hx8 5).trans rfl
                have z6 : w8.cell? ⟨w6.heap.size, 6, none⟩ = some (.int .u64 0) := (blk_cell hx8 6).trans rfl
                have HC2 := Lib.hid (tablesN_any zVn (fun _ => []) w8 ⟨Seg.nil w8 8, Seg.nil w8 8, Seg.nil w8 8, Seg.nil w8 8⟩ (by decide))
                rw [encV_zero] at HC2
                clear HC hb8 hbb8 hx8 c0 c1 c2 c3 c4 c5 c6 d0 d1 d2 d3
                go_wp2_with fail
                refine HC2.out.mono ?_
                rintro e w9 ⟨vt, rfl, hot, hbt⟩
                obtain ⟨ta, tc, hvt⟩ := owns_slice1 hot
                subst hvt
                have hz : (tabs fun _ => []).length = 0 := rfl
                rw [hz]
                have HB9 := Lib.hid (below_step HB8.out hbt HB8.out.size)
                have HX9 := Lib.hid (blk_kept hbt HX8.out)
                have hx9 := HX9.out
                clear z0 z1 z2 z3 z4 z5 z6 hot hbt hz HC2
                have z0 : w9.cell? ⟨w6.heap.size, 0, none⟩ = some (.slice none 0 0) := (blk_cell hx9 0).trans rfl
                have z1 : w9.cell? ⟨w6.heap.size, 1, none⟩ = some (.slice none 0 0) := (blk_cell hx9 1).trans rfl
                have z2 : w9.cell? ⟨w6.heap.size, 2, none⟩ = some (.slice none 0 0) := (blk_cell hx9 2).trans rfl
                have z3 : w9.cell? ⟨w6.heap.size, 3, none⟩ = some (.slice none 0 0) := (blk_cell hx9 3).trans rfl
                have z4 : w9.cell? ⟨w6.heap.size, 4, none⟩ = some (.int .u64 0) := (blk_cell hx9 4).trans rfl
                have z5 : w9.cell? ⟨w6.heap.size, 5, none⟩ = some (.int .u64 0) := (blk_cell hx9 5).trans rfl
                have z6 : w9.cell? ⟨w6.heap.size, 6, none⟩ = some (.int .u64 0) := (blk_cell hx9 6).trans rfl
                clear hx9
                go_wp2_with fail
                refine (awake_any _).mono ?_
                rintro e w10 ⟨rfl, hb10⟩
                have hb11 := below_step HB9.out hb10 HB9.out.size
                have HBZ := Lib.hid (below_step HBP.out hb11 HBP.out.size)
                clear hb10 hb11
                go_wp2_with fail
                go_ret
                exact ⟨rfl, HBZ.out⟩
              · have HRV := Lib.hid (show RightV lv v.log v.seq v.nxt from by
                  obtain ⟨⟨h1, h2⟩, h3⟩ := HQ.out.1 rfl
                  rw [HLL.out] at h2 h3
                  exact right_both.2 ⟨HSD.out.1 h1, h2, h3⟩)
                have HAP := Lib.hid (apply_any v lv L (.slice none 0 0) [] [] (0, L, v.log, v.seq, v.nxt) wr (HVP.out.kept HB.out) (by rw [← HLL.out]; have := H120.out; omega) ⟨rfl, Seg.nil wr 5, fun i hi => absurd hi (by simp)⟩ (fun _ => ⟨by rw [HLL.out]; exact rel_tabs (m := (v.log, v.seq, v.nxt)) HRV.out, rfl⟩) (fun h => absurd HRV.out h) (by have := H120.out; simp [sumA]; omega) (by simp) (by simp))
                go_wp2_with fail
                refine HAP.out.mono ?_
                rintro e w6 ⟨v6, A6, rfl, ho6, hn6, hb6, hok6, -⟩
                have HO6 := Lib.hid ho6
                have HB6 := Lib.hid (below_step HB.out hb6 HB.out.size)
                have HR6 := Lib.hid (show Rel A6 L (v.log, v.seq, v.nxt) from hok6 rfl)
                have HN6 := Lib.hid hn6
                clear HAP ho6 hn6 hb6 hok6 c0 c1 c2 c3 c4 c5 c6 d0 d1 d2 d3
                obtain ⟨x0, x1, x2, x3, ul, us, un⟩ := v6
                obtain ⟨ua0, uc0, e0⟩ := owns_slice1 (HO6.out.own 0 (by omega))
                obtain ⟨ua1, uc1, e1⟩ := owns_slice1 (HO6.out.own 1 (by omega))
                obtain ⟨ua2, uc2, e2⟩ := owns_slice1 (HO6.out.own 2 (by omega))
                obtain ⟨ua3, uc3, e3⟩ := owns_slice1 (HO6.out.own 3 (by omega))
                dsimp only [Vn.lev] at e0 e1 e2 e3
                subst e0 e1 e2 e3
                have HB7 := Lib.hid (HB6.out.alloc HB6.out.size (boxV (⟨.slice ua0 (A6 0).length uc0, .slice ua1 (A6 1).length uc1, .slice ua2 (A6 2).length uc2, .slice ua3 (A6 3).length uc3, ul, us, un⟩ : Vn)))
                have HW7 := Lib.hid (below_step HBP.out HB7.out HBP.out.size)
                have HV7 := Lib.hid (VerOwn.at' (HO6.out.kept (below_of_alloc (boxV (⟨.slice ua0 (A6 0).length uc0, .slice ua1 (A6 1).length uc1, .slice ua2 (A6 2).length uc2, .slice ua3 (A6 3).length uc3, ul, us, un⟩ : Vn)))))
                have HX7 := Lib.hid (heap_alloc_new w6 (boxV (⟨.slice ua0 (A6 0).length uc0, .slice ua1 (A6 1).length uc1, .slice ua2 (A6 2).length uc2, .slice ua3 (A6 3).length uc3, ul, us, un⟩ : Vn)))
                obtain ⟨c0, c1, c2, c3, c4, c5, c6, d0, d1, d2, d3⟩ := HCL.out _ HB7.out
                have HC := Lib.hid (verRight_any v lv _ (HVP.out.kept HB7.out) (by rw [← HLL.out]; have := H120.out; omega))
                go_wp2_with fail
                refine HC.out.mono ?_
                rintro e w8 ⟨b8, rfl, hb8, hbb8⟩
                have hbt : b8 = true := hb8.2 HRV.out
                subst hbt
                have HB8 := Lib.hid (below_step HB7.out hbb8 HB7.out.size)
                have HX8 := Lib.hid (blk_kept hbb8 HX7.out)
                have HV8 := Lib.hid (HV7.out.kept hbb8)
                have hx8 := HX8.out
                have z0 : w8.cell? ⟨w6.heap.size, 0, none⟩ = some (.slice ua0 (A6 0).length uc0) := (blk_cell hx8 0).trans rfl
                have z1 : w8.cell? ⟨w6.heap.size, 1, none⟩ = some (.slice ua1 (A6 1).length uc1) := (blk_cell hx8 1).trans rfl
                have z2 : w8.cell? ⟨w6.heap.size, 2, none⟩ = some (.slice ua2 (A6 2).length uc2) := (blk_cell hx8 2).trans rfl
                have z3 : w8.cell? ⟨w6.heap.size, 3, none⟩ = some (.slice ua3 (A6 3).length uc3) := (blk_cell hx8 3).trans rfl
                have z4 : w8.cell? ⟨w6.heap.size, 4, none⟩ = some (.int .u64 (ul.toNat : Int)) := (blk_cell hx8 4).trans rfl
                have z5 : w8.cell? ⟨w6.heap.size, 5, none⟩ = some (.int .u64 (us.toNat : Int)) := (blk_cell hx8 5).trans rfl
                have z6 : w8.cell? ⟨w6.heap.size, 6, none⟩ = some (.int .u64 (un.toNat : Int)) := (blk_cell hx8 6).trans rfl
                clear HC hb8 hbb8 c0 c1 c2 c3 c4 c5 c6 d0 d1 d2 d3
                obtain ⟨c0, c1, c2, c3, c4, c5, c6, d0, d1, d2, d3⟩ := HCL.out _ HB8.out
                have HAL := Lib.hid (show Alike (⟨.slice ua0 (A6 0).length uc0, .slice ua1 (A6 1).length uc1, .slice ua2 (A6 2).length uc2, .slice ua3 (A6 3).length uc3, ul, us, un⟩ : Vn) A6 (⟨.slice qa L.length qc, v.log, v.seq, v.nxt⟩ : Dn) L from by
                  have h := HN6.out
                  injection h with h1 h2
                  injection h2 with h2 h3
                  exact ⟨fun k hk => HR6.out.level k hk, h1, h2, h3⟩)
                have hl6 : (tabs A6).length ≤ 1000000 := (rel_lens HR6.out (N := 100000) (by have := H120.out; omega) (by omega)).2
                have HC := Lib.hid (alike_any (⟨.slice ua0 (A6 0).length uc0, .slice ua1 (A6 1).length uc1, .slice ua2 (A6 2).length uc2, .slice ua3 (A6 3).length uc3, ul, us, un⟩ : Vn) A6 (⟨.slice qa L.length qc, v.log, v.seq, v.nxt⟩ : Dn) L w8 HV8.out (HTD.out.kept HB8.out) hl6 (by have := H120.out; omega) HSM.out)
                clear hl6 hx8
                go_wp2_with fail
                refine HC.out.mono ?_
                rintro e w9 ⟨b9, rfl, hb9, hbb9⟩
                have hbt : b9 = true := hb9.2 HAL.out
                subst hbt
                have HB9 := Lib.hid (below_step HB8.out hbb9 HB8.out.size)
                clear HC hb9 hbb9
                go_wp2_with fail
                refine (awake_any _).mono ?_
                rintro e w10 ⟨rfl, hb10⟩
                have hb11 := below_step HB9.out hb10 HB9.out.size
                have HBZ := Lib.hid (below_step HBP.out hb11 HBP.out.size)
                clear hb10 hb11
                go_wp2_with fail
                go_ret
                exact ⟨rfl, HBZ.out⟩
      · go_wp2_with fail
        refine (awake_any _).mono ?_
        rintro e w2 ⟨rfl, hb2⟩
        have HBZ := Lib.hid (below_step HT.out.bel hb2 HT.out.bel.size)
        clear hb2
        go_wp2_with fail
        go_ret
        exact ⟨rfl, HBZ.out⟩
end Go.Proofs.Try.Vr
