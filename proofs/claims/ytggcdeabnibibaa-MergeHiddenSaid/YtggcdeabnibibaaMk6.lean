/- What must stay of a list. -/
import Derived.Test.YtggcdeabnibibaaMk5
set_option linter.unusedVariables false
set_option linter.unusedSimpArgs false
namespace Go.Proofs.Try.Mg
open Go.RowKit Go.Cph Go.Cph.Skip Go.Cph.So

abbrev encN (n : UInt64) : List Value := [.int .u64 (n.toNat : Int)]
abbrev NumsAt (w : World) (v : Value) (l : List UInt64) : Prop := Elems encN 1 w v l
theorem encN_len (n : UInt64) : (encN n).length = 1 := rfl
theorem nums_cells {w : World} {v : Value} {l : List UInt64} (h : NumsAt w v l) (h0 : 0 < l.length) :
    ∃ b off cap, v = .slice (some ⟨b, off, none⟩) l.length cap ∧ ∀ i (hi : i < l.length), w.cell? ⟨b, off + i, none⟩ = some (.int .u64 (l[i].toNat : Int)) := by
  obtain ⟨b, off, cap, hv, hc⟩ := elems_shape encN_len h h0
  exact ⟨b, off, cap, hv, fun i hi => by have := hc i hi 0 (by omega); simpa using this⟩
def stepS (g : List Ent) (s : List Bool) (at_ : UInt64) : List Bool := match g.findIdx? (mayC at_) with
  | some i => s.set i true
  | none => s
/-- Which versions stay, for a row of snapshots. -/
def stL (g : List Ent) (snaps : List UInt64) : List Bool := snaps.foldl (stepS g) ((List.replicate g.length false).set 0 true)
theorem stepS_length (g : List Ent) (s : List Bool) (a : UInt64) : (stepS g s a).length = s.length := by unfold stepS; split <;> simp
theorem stL_length (g : List Ent) (snaps : List UInt64) : (stL g snaps).length = g.length := by
  unfold stL
  suffices h : ∀ (ns : List UInt64) (s : List Bool), s.length = g.length → (ns.foldl (stepS g) s).length = g.length from h _ _ (by simp)
  intro ns
  induction ns with
  | nil => intro s h; exact h
  | cons a ns ih => intro s h; exact ih _ (by rw [stepS_length]; exact h)
theorem stL_snoc (g : List Ent) (snaps : List UInt64) {k : Nat} (h : k < snaps.length) : stL g (snaps.take (k + 1)) = stepS g (stL g (snaps.take k)) snaps[k] := by
  unfold stL; rw [List.take_succ_eq_append_getElem h, List.foldl_append]; rfl
def pickL (g : List Ent) (st : List Bool) : List Ent := ((g.zip st).filter (·.2)).map (·.1)
theorem pickL_snoc (g : List Ent) (st : List Bool) {k : Nat} (h : k < g.length) (hs : k < st.length) : pickL (g.take (k + 1)) (st.take (k + 1)) = pickL (g.take k) (st.take k) ++ (if st[k] then [g[k]] else []) := by
  unfold pickL
  rw [List.take_succ_eq_append_getElem h, List.take_succ_eq_append_getElem hs, List.zip_append (by simp; omega), List.filter_append, List.map_append]
  cases st[k] <;> simp
theorem pickL_le (g : List Ent) (st : List Bool) : (pickL g st).length ≤ g.length := by
  unfold pickL
  rw [List.length_map]
  exact Nat.le_trans (List.length_filter_le _ _) (by rw [List.length_zip]; omega)
def dropR (l : List Ent) : List Ent := (l.reverse.dropWhile (·.2.2.2)).reverse
theorem dropR_snoc (l : List Ent) (x : Ent) : dropR (l ++ [x]) = if x.2.2.2 then dropR l else l ++ [x] := by
  unfold dropR
  rw [List.reverse_append, List.reverse_singleton, List.singleton_append, List.dropWhile_cons]
  split <;> simp
theorem dropR_app (a b : List Ent) (h : ∀ x ∈ b, x.2.2.2 = true) : dropR (a ++ b) = dropR a := by
  unfold dropR
  rw [List.reverse_append, List.dropWhile_append_of_pos (fun x hx => h x (List.mem_reverse.1 hx))]
theorem dropR_take {l : List Ent} {j : Nat} (hj : j ≤ l.length) (h : ∀ i (h : i < l.length), j ≤ i → l[i].2.2.2 = true) (hs : ∀ (h : 0 < j), (l[j - 1]'(by omega)).2.2.2 = false) : dropR l = l.take j := by
  conv => lhs; rw [← List.take_append_drop j l]
  rw [dropR_app _ _ (fun x hx => by
    obtain ⟨i, hi, rfl⟩ := List.getElem_of_mem hx
    rw [List.length_drop] at hi
    rw [List.getElem_drop]; exact h _ (by omega) (by omega))]
  rcases Nat.eq_zero_or_pos j with rfl | h0
  · rfl
  · obtain ⟨i, rfl⟩ : ∃ i, j = i + 1 := ⟨j - 1, by omega⟩
    have := hs h0
    simp only [Nat.add_sub_cancel] at this
    rw [List.take_succ_eq_append_getElem (by omega), dropR_snoc, if_neg (by rw [this]; simp)]
def keepG (bottom : Bool) (snaps : List UInt64) (g : List Ent) : List Ent := if bottom then dropR (pickL g (stL g snaps)) else pickL g (stL g snaps)
def keepL (m : List Ent) (bottom : Bool) (snaps : List UInt64) : List Ent := (groupsR m).flatMap (keepG bottom snaps)
theorem keepG_le (bottom : Bool) (snaps : List UInt64) (g : List Ent) : (keepG bottom snaps g).length ≤ g.length := by
  unfold keepG
  split
  · unfold dropR
    rw [List.length_reverse]
    refine Nat.le_trans (List.dropWhile_sublist _).length_le ?_
    rw [List.length_reverse]; exact pickL_le _ _
  · exact pickL_le _ _
theorem flatMap_take (f : List Ent → List Ent) (gs : List (List Ent)) {k : Nat} (h : k < gs.length) : (gs.take (k + 1)).flatMap f = (gs.take k).flatMap f ++ f gs[k] := by
  rw [List.take_succ_eq_append_getElem h, List.flatMap_append]; simp
theorem flatMap_keep_le (bottom : Bool) (snaps : List UInt64) : ∀ gs : List (List Ent), (gs.flatMap (keepG bottom snaps)).length ≤ gs.flatten.length
  | [] => by simp
  | g :: gs => by
    have := flatMap_keep_le bottom snaps gs
    have := keepG_le bottom snaps g
    rw [List.flatMap_cons, List.flatten_cons, List.length_append, List.length_append]; omega
def boolsV (st : List Bool) : Array Value := (st.map Value.bool).toArray
theorem boolsV_at (st : List Bool) (j : Nat) (h : j < st.length) : (boolsV st)[j]? = some (.bool st[j]) := by simp [boolsV, h]
theorem boolsV_set (st : List Bool) (j : Nat) (b : Bool) : (boolsV st).setIfInBounds j (.bool b) = boolsV (st.set j b) := by
  unfold boolsV; apply Array.ext'; simp [List.map_set]
theorem boolsV_make (n : Nat) : (List.replicate n (Value.bool false)).toArray = boolsV (List.replicate n false) := by simp [boolsV]
theorem own_cells {W : World} {base g n cap : Nat} {l : List Ent} (h : W.ownsRow base TE 4 (.slice (some ⟨g, 0, none⟩) n cap) l.length (l.flatMap encC)) {q : Nat} {x : Ent} (hid : q < l.length) (hcx : l[q]? = some x) : CellsOf W g (q * 4) x := by
  obtain ⟨g', cap', hv, -, -, -, hcell, -⟩ := owns_shape h (by omega)
  cases hv
  have e : x = l[q] := by rw [List.getElem?_eq_getElem hid] at hcx; exact (Option.some.inj hcx).symm
  subst e
  refine ⟨(hcell (q * 4 + 0) (by omega)).trans ?_, (hcell (q * 4 + 1) (by omega)).trans ?_, (hcell (q * 4 + 2) (by omega)).trans ?_, (hcell (q * 4 + 3) (by omega)).trans ?_⟩ <;> exact flat_at encC_len l q hid _ (by decide)
/-- In a key's round: the row that is being made, and the marks. -/
structure KIn (w2 : World) (sb : Nat) (st : List Bool) (vo : Value) (l : List Ent) (wr : World) : Prop where
  own : wr.ownsRow w2.heap.size TE 4 vo l.length (l.flatMap encC)
  stays : wr.heap[sb]? = some (.cells (boolsV st) 4 (0, 0))
  apart : vo.ownBlock ≠ some sb
  bel : Below w2.heap.size w2 wr
  high : w2.heap.size ≤ sb
theorem KIn.kept {w2 : World} {sb : Nat} {st : List Bool} {vo : Value} {l : List Ent} {wr w' : World} (h : KIn w2 sb st vo l wr) (hb : Below wr.heap.size wr w') : KIn w2 sb st vo l w' :=
  ⟨row_kept1 h.own fun k hk => hb.block k (h.own.lt k hk).2, blk_kept hb h.stays, h.apart, below_step h.bel hb h.bel.size, h.high⟩
theorem KIn.set {w2 : World} {sb : Nat} {st : List Bool} {vo : Value} {l : List Ent} {wr : World} (h : KIn w2 sb st vo l wr) (i : Nat) : KIn w2 sb (st.set i true) vo l (wr.setCell ⟨sb, i, none⟩ (.bool true)) :=
  ⟨row_kept1 h.own fun k hk => blk_set_other (fun e => h.apart (by rw [hk, e])), by rw [blk_set h.stays, boolsV_set], h.apart, h.bel.setCell (p := ⟨sb, i, none⟩) h.high _, h.high⟩
theorem KIn.start {w2 wr : World} {vo : Value} {l : List Ent} (ho : wr.ownsRow w2.heap.size TE 4 vo l.length (l.flatMap encC)) (hb : Below w2.heap.size w2 wr) (g : List Ent) :
    KIn w2 wr.heap.size (stL g []) vo l (wr.alloc (.cells ((Array.replicate g.length (Value.bool false)).setIfInBounds 0 (Value.bool true)) 4)) :=
  ⟨ho.alloc _, by
    have e : (Array.replicate g.length (Value.bool false)).setIfInBounds 0 (Value.bool true) = boolsV (stL g []) := by
      show _ = boolsV ((List.replicate g.length false).set 0 true)
      rw [← boolsV_set]
      congr 1
      apply Array.ext'; simp [boolsV]
    rw [e]; exact heap_alloc_new _ _, fun e => by have := (ho.lt _ e).2; omega, hb.alloc hb.size _, hb.size⟩
theorem KIn.cell {w2 : World} {sb : Nat} {st : List Bool} {vo : Value} {l : List Ent} {wr : World} (h : KIn w2 sb st vo l wr) {j : Nat} (hj : j < st.length) : wr.cell? ⟨sb, j, none⟩ = some (.bool st[j]) := by
  rw [blk_cell h.stays]; exact boolsV_at st j hj
theorem KIn.free {w2 : World} {sb : Nat} {st : List Bool} {vo : Value} {l : List Ent} {wr : World} (h : KIn w2 sb st vo l wr) (j : Nat) : wr.frozen? ⟨sb, j, none⟩ = false := by
  rw [blk_frozen h.stays]; simp
theorem KIn.more {w2 : World} {sb : Nat} {st : List Bool} {vo v' : Value} {l : List Ent} {wr w' : World} (h : KIn w2 sb st vo l wr) (x : Ent) (ho : w'.ownsRow w2.heap.size TE 4 v' (l.length + 1) (l.flatMap encC ++ encC x)) (hg : wr.grownBy w' vo.ownBlock)
    (hv : v'.ownBlock = vo.ownBlock ∨ v'.ownBlock = some wr.heap.size) : KIn w2 sb st v' (l ++ [x]) w' :=
  ⟨by rw [List.length_append, List.flatMap_append]; simpa using ho, (hg.block _ (blk_lt h.stays) (fun e => h.apart e.symm)).trans h.stays, by
    rcases hv with e | e
    · rw [e]; exact h.apart
    · rw [e]; intro e2; have := blk_lt h.stays; simp at e2; omega, below_grown h.bel hg h.own (Nat.le_refl _) h.bel.size, h.high⟩
theorem KIn.less {w2 : World} {sb : Nat} {st : List Bool} {g cap n : Nat} {l : List Ent} {wr : World} (h : KIn w2 sb st (.slice (some ⟨g, 0, none⟩) n cap) l wr) (hn : n = l.length) {m : Nat} (hm : m ≤ l.length) : KIn w2 sb st (.slice (some ⟨g, 0, none⟩) m cap) (l.take m) wr := by
  subst hn
  refine ⟨?_, h.stays, h.apart, h.bel, h.high⟩
  have hl : (l.take m).length = m := by rw [List.length_take]; omega
  have := owns_less h.own hm
  rw [hl, ← flat_takeE]; exact this

set_option maxRecDepth 100000 in
set_option maxHeartbeats 12000000 in
theorem keep_any (v : Value) (l : List Ent) (bottom : Bool) (sv : Value) (snaps : List UInt64) (w : World) (h : EntsAt w v l) (hn : l.length ≤ 100000) (hs : NumsAt w sv snaps) (hsn : snaps.length ≤ 100000) :
    Calls Try.prog 16 #[v, .bool bottom, sv] w (NewRow w (keepL (mergeL ltE l) bottom snaps)) := by
  obtain ⟨ao, cap, hv⟩ := elems_slice h
  obtain ⟨so, scap, hsv⟩ := elems_slice hs
  have hb0 : Below w.heap.size w (w.alloc (.cells #[v] TS)) := (Below.refl _ _).alloc (Nat.le_refl _) _
  have HM := Lib.hid (merge_any _ [l] _ (Lists.one (c := 1) (heap_alloc_new w (.cells #[v] TS)) (h.kept hb0)) (by simp) (by simpa using Nat.le_trans hn (by omega)))
  have HB0 := Lib.hid hb0
  subst hv hsv
  have HS0 := Lib.hid hs
  obtain ⟨m, hm⟩ : ∃ m, m = mergeL ltE l := ⟨_, rfl⟩
  simp only [List.flatten_cons, List.flatten_nil, List.append_nil, ← hm] at HM
  rw [← hm]
  have hml : m.length ≤ 100000 := by rw [hm]; exact Nat.le_trans (mergeL_length weakE l) hn
  clear h hs hb0 hm
  go_enter Try.func16, Try.ntmps16
  go_wp2_with fail
  refine HM.out.mono ?_
  rintro e w1 ⟨v1, rfl, ho, hb⟩
  have HB1 := Lib.hid (below_step HB0.out hb HB0.out.size)
  obtain ⟨o1, c1, hv1⟩ := owns_slice1 ho
  subst hv1
  have hcc := owns_caps ho
  have HK := Lib.hid (keys_any o1 c1 m w1 (Seg.of_owns ho) hcc.1 hcc.2 (by omega))
  clear ho hb hcc
  go_wp2_with fail
  refine HK.out.mono ?_
  rintro e w2 ⟨v2, rfl, hl2, hb⟩
  have HB2 := Lib.hid (below_step HB1.out hb HB1.out.size)
  have HS2 := Lib.hid (HS0.out.kept HB2.out)
  have HL2 := Lib.hid hl2
  obtain ⟨o2, c2, hv2⟩ := hl2.slice
  subst hv2
  obtain ⟨gs, hgs⟩ : ∃ gs, gs = groupsR m := ⟨_, rfl⟩
  rw [← hgs] at HL2 ⊢
  have HGS := Lib.hid hgs
  have hgl : gs.length ≤ 100000 := by rw [hgs]; exact Nat.le_trans (groupsR_length m) hml
  have HKL := Lib.hid (show ∀ k, ((gs.take k).flatMap (keepG bottom snaps)).length ≤ 100000 from fun k => by
    refine Nat.le_trans (flatMap_keep_le bottom snaps _) (Nat.le_trans (flatten_le gs k) ?_)
    rw [hgs, groupsR_flat]; exact hml)
  have HEQ := Lib.hid (show gs.flatMap (keepG bottom snaps) = keepL m bottom snaps by rw [hgs]; rfl)
  clear hb hl2 hgs HM HK HS0
  go_wp2_with fail
  go_loopw [7, 23] (fun vo vi wr => ∃ k : Nat, k ≤ gs.length ∧ vi = .int .i64 k ∧ wr.ownsRow w2.heap.size TE 4 vo ((gs.take k).flatMap (keepG bottom snaps)).length (((gs.take k).flatMap (keepG bottom snaps)).flatMap encC) ∧ Below w2.heap.size w2 wr) (fun _ vi _ => gs.length - (intOf vi).toNat)
  case atStart => exact ⟨0, Nat.zero_le _, rfl, World.ownsRow_nil _ _ _ _, Below.refl _ _⟩
  case round =>
    obtain ⟨k, hk, rfl, ho, hbel⟩ := hrel
    have HO := Lib.hid ho
    have HBE := Lib.hid hbel
    obtain ⟨oo, oc, hov⟩ := owns_slice1 ho
    subst hov
    by_cases hlt : k < gs.length
    · obtain ⟨b, off, cap', hve, hcs⟩ := HL2.out.cell (by omega)
      cases hve
      obtain ⟨u, hu2, hue⟩ := hcs k hlt
      have hu : wr.cell? ⟨b, off + k, none⟩ = some u := (hbel.cell (World.block_lt_of_cell? _ _ hu2)).trans hu2
      obtain ⟨g, hg⟩ : ∃ g, g = gs[k] := ⟨_, rfl⟩
      have hgm : 0 < g.length ∧ g.length ≤ 100000 := by
        have : g ∈ groupsR m := by rw [← HGS.out, hg]; exact List.getElem_mem _
        obtain ⟨h1, h2⟩ := group_small this
        exact ⟨h1, by omega⟩
      obtain ⟨hg0, hg1⟩ := hgm
      rw [← hg] at hue
      obtain ⟨gb, go_, gc, hub, hgc⟩ := ents_cells hue hg0
      subst hub
      have HUE := Lib.hid hue
      obtain ⟨pre, hpre⟩ : ∃ p, p = (gs.take k).flatMap (keepG bottom snaps) := ⟨_, rfl⟩
      have HSN := Lib.hid (show (gs.take (k + 1)).flatMap (keepG bottom snaps) = pre ++ keepG bottom snaps g by rw [hg, hpre]; exact flatMap_take _ _ hlt)
      have hpl : pre.length ≤ 100000 := by rw [hpre]; exact HKL.out k
      rw [← hpre] at HO ⊢
      have k1 : (0 : Int) ≤ (k : Int) := by omega
      have k2 : (k : Int) < (gs.length : Int) := by omega
      have HK0 := Lib.hid (KIn.start HO.out HBE.out g)
      have HGC := Lib.hid (show ∀ W, Below w2.heap.size w2 W → ∀ i (hi : i < g.length), CellsOf W gb (go_ + i * 4) g[i] from fun W hb i hi => (hgc i hi).kept hb)
      have hmk := fun W => run_make_one (P := Try.prog) W 54 4 (.bool false) 1 Try.underlying54 (by kernel_rfl) rfl .i64 .i64 g.length (by omega) (by omega)
      have HMK := Lib.hid hmk
      clear ho hbel hcs hue hgc hg hpre hmk hu2
      have hmk := HMK.out
      go_wp2_with fail
      clear hmk
      generalize wr.alloc (.cells ((Array.replicate g.length (Value.bool false)).setIfInBounds 0 (Value.bool true)) 4) = wq at *
      obtain ⟨sb, hsb⟩ : ∃ b, b = wr.heap.size := ⟨_, rfl⟩
      rw [← hsb] at HK0 ⊢
      clear hsb
      go_loopw [34] (fun vi W => ∃ j : Nat, j ≤ snaps.length ∧ vi = .int .i64 j ∧ KIn w2 sb (stL g (snaps.take j)) (.slice oo pre.length oc) pre W) (fun vi _ => snaps.length - (intOf vi).toNat)
      case atStart => exact ⟨0, Nat.zero_le _, rfl, HK0.out⟩
      case round =>
        obtain ⟨wo, rfl⟩ : ∃ wo : World, wo = wr := ⟨_, rfl⟩
        rename_i wp _
        obtain ⟨j, hj, rfl, hkin⟩ := hrel
        have HKI := Lib.hid hkin
        by_cases hjl : j < snaps.length
        · obtain ⟨nb, no, nc, hnv, hnc⟩ := nums_cells (HS2.out.kept hkin.bel) (by omega)
          cases hnv
          have n0 := hnc j hjl
          obtain ⟨a, ha⟩ : ∃ a, a = snaps[j] := ⟨_, rfl⟩
          rw [← ha] at n0
          have HST := Lib.hid (show stL g (snaps.take (j + 1)) = stepS g (stL g (snaps.take j)) a by rw [ha]; exact stL_snoc g snaps hjl)
          have HC := Lib.hid (fun W (h : Below w2.heap.size w2 W) => counts_any _ g a W (HUE.out.kept h) (by omega))
          have j1 : (0 : Int) ≤ (j : Int) := by omega
          have j2 : (j : Int) < (snaps.length : Int) := by omega
          clear ha hnc hkin
          go_wp2_with fail
          refine (HC.out _ HKI.out.bel).mono ?_
          rintro e w3 ⟨⟨i, ⟨hin, rfl⟩ | ⟨hnone, rfl⟩⟩, hb⟩
          · obtain ⟨hi, hmay, hnot⟩ := hin
            have HK3 := Lib.hid (HKI.out.kept hb)
            have HF := Lib.hid (show g.findIdx? (mayC a) = some i from by
              rw [List.findIdx?_eq_some_iff_getElem]
              exact ⟨hi, hmay, fun j hj => by rw [hnot j hj]; simp⟩)
            have hsl : i < (stL g (snaps.take j)).length := by rw [stL_length]; exact hi
            obtain ⟨bv, c0⟩ : ∃ bv, w3.cell? ⟨sb, i, none⟩ = some (.bool bv) := ⟨_, HK3.out.cell hsl⟩
            have f0 := HK3.out.free i
            have i1 : (0 : Int) ≤ (i : Int) := by omega
            have i2 : (i : Int) < (g.length : Int) := by omega
            clear hmay hnot hb hsl
            go_wp2_with fail
            clear c0 f0
            go_roundw
            case rel => exact ⟨j + 1, hjl, by go_num, by rw [HST.out]; unfold stepS; rw [HF.out]; exact HK3.out.set i⟩
            case measure => simp [intOf]; omega
          · have HK3 := Lib.hid (HKI.out.kept hb)
            have HF := Lib.hid (show g.findIdx? (mayC a) = none from by
              rw [List.findIdx?_eq_none_iff]; exact hnone)
            clear hnone hb
            go_wp2_with fail
            go_roundw
            case rel => exact ⟨j + 1, hjl, by go_num, by rw [HST.out]; unfold stepS; rw [HF.out]; exact HK3.out⟩
            case measure => simp [intOf]; omega
        · obtain ⟨st, hst⟩ : ∃ st, st = stL g snaps := ⟨_, rfl⟩
          have HK4 := Lib.hid (show KIn w2 sb st (.slice oo pre.length oc) pre wo from by
            rw [hst]
            have e : snaps.take j = snaps := List.take_of_length_le (by omega)
            rw [e] at hkin; exact hkin)
          have hstl : st.length = g.length := by rw [hst, stL_length]
          have HSL := Lib.hid hstl
          have HST := Lib.hid hst
          clear hkin hst hstl
          go_wp2_with fail
          go_loopw [7, 53] (fun vo vi W => ∃ (i : Nat) (ob : Option Addr) (oc' : Nat), i ≤ g.length ∧ vi = .int .i64 i ∧ vo = .slice ob (pre ++ pickL (g.take i) (st.take i)).length oc' ∧ KIn w2 sb st vo (pre ++ pickL (g.take i) (st.take i)) W) (fun _ vi _ => g.length - (intOf vi).toNat)
          case atStart => exact ⟨0, oo, oc, Nat.zero_le _, rfl, by simp [pickL], by simpa [pickL] using HK4.out⟩
          case round =>
            obtain ⟨wz, rfl⟩ : ∃ wz : World, wz = wr := ⟨_, rfl⟩
            obtain ⟨i, ob, oc', hi, rfl, rfl, hkin⟩ := hrel
            have HK5 := Lib.hid hkin
            have hppl : (pre ++ pickL (g.take i) (st.take i)).length ≤ 200000 := by
              rw [List.length_append]
              have := pickL_le (g.take i) (st.take i)
              rw [List.length_take] at this; omega
            by_cases hig : i < g.length
            · have hci := HGC.out _ hkin.bel i hig
              have hist : i < st.length := by rw [HSL.out]; exact hig
              have HPS := Lib.hid (show pickL (g.take (i + 1)) (st.take (i + 1)) = pickL (g.take i) (st.take i) ++ (if st[i] then [g[i]] else []) from pickL_snoc g st hig hist)
              have c0 := hkin.cell hist
              obtain ⟨x, hx⟩ : ∃ x, x = g[i] := ⟨_, rfl⟩
              obtain ⟨sv, hsv⟩ : ∃ x, x = st[i] := ⟨_, rfl⟩
              rw [← hx] at hci
              rw [← hsv] at c0
              rw [← hx, ← hsv] at HPS
              have i1 : (0 : Int) ≤ (i : Int) := by omega
              have i2 : (i : Int) < (g.length : Int) := by omega
              have d0 := hci.c0
              have d1 := hci.c1
              have d2 := hci.c2
              have d3 := hci.c3
              have hslt : sb < wz.heap.size := blk_lt hkin.stays
              obtain ⟨cur, hcur⟩ : ∃ l, l = pre ++ pickL (g.take i) (st.take i) := ⟨_, rfl⟩
              rw [← hcur] at HK5 hppl ⊢
              have HCUR := Lib.hid hcur
              have HK6 := Lib.hid (HK5.out.kept ((Below.refl _ _).alloc (Nat.le_refl _) (.cells #[.string x.1, .string x.2.1, .int .u64 (x.2.2.1.toNat : Int), .bool x.2.2.2] TE)))
              have hbx := heap_alloc_new wz (.cells #[.string x.1, .string x.2.1, .int .u64 (x.2.2.1.toNat : Int), .bool x.2.2.2] TE)
              have HBX := Lib.hid hbx
              have HWS := Lib.hid (World.size_alloc wz (.cells #[.string x.1, .string x.2.1, .int .u64 (x.2.2.1.toNat : Int), .bool x.2.2.2] TE))
              clear hci hkin hx hsv hist hcur hbx
              cases sv
              · go_wp2_with fail
                go_roundw
                case rel =>
                  have e : pre ++ pickL (g.take (i + 1)) (st.take (i + 1)) = cur := by rw [HPS.out, HCUR.out]; simp
                  exact ⟨i + 1, ob, oc', hig, by go_num, by rw [e], by rw [e]; exact HK6.out⟩
                case measure => simp [intOf]; omega
              · have HK7 := Lib.hid (HK6.out.kept ((Below.refl _ _).alloc (Nat.le_refl _) (.cells #[.string x.1, .string x.2.1, .int .u64 (x.2.2.1.toNat : Int), .bool x.2.2.2] TE)))
                have hbx2 := heap_alloc_new (wz.alloc (.cells #[.string x.1, .string x.2.1, .int .u64 (x.2.2.1.toNat : Int), .bool x.2.2.2] TE)) (.cells #[.string x.1, .string x.2.1, .int .u64 (x.2.2.1.toNat : Int), .bool x.2.2.2] TE)
                rw [HWS.out] at hbx2
                have HSEG := Lib.hid (show Seg ((wz.alloc (.cells #[.string x.1, .string x.2.1, .int .u64 (x.2.2.1.toNat : Int), .bool x.2.2.2] TE)).alloc (.cells #[.string x.1, .string x.2.1, .int .u64 (x.2.2.1.toNat : Int), .bool x.2.2.2] TE)) 4 (.slice (some ⟨wz.heap.size + 1, 0, none⟩) 1 1) 1 (encC x) from
                  ⟨⟨_, _, rfl, fun _ => ⟨wz.heap.size + 1, 0, rfl, fun j hj => by rw [Nat.zero_add, blk_cell hbx2]; simp⟩⟩, rfl⟩)
                have HL9 := Lib.hid (show cur.length + 1 ≤ 1099511627776 by omega)
                have HSZ7 := Lib.hid HK7.out.bel.size
                clear hbx2
                go_wp2_with (at_builtin; refine wpList_append_seg rfl (.tmp 62) (.tmp 64) 25 rfl w2.heap.size TE _ 4 48 Try.underlying25 infoE rfl (by decide) _ cur.length (cur.flatMap encC) rfl HK7.out.own _ 1 (encC x) rfl HSEG.out (encC_one1 x) HL9.out (by decide) HSZ7.out ?_; intro v' w' ho hgr hv'; have HK8 := Lib.hid (HK7.out.more x ho hgr hv'); clear ho hgr hv')
                obtain ⟨ob', oc'', hov'⟩ := owns_slice1 HK8.out.own
                subst hov'
                go_roundw
                case rel =>
                  have e : pre ++ pickL (g.take (i + 1)) (st.take (i + 1)) = cur ++ [x] := by rw [HPS.out, HCUR.out]; simp
                  exact ⟨i + 1, ob', oc'', hig, by go_num, by first | (rw [e]; done) | (rw [e]; simp), by rw [e]; exact HK8.out⟩
                case measure => simp [intOf]; omega
            · obtain ⟨kept, hkept⟩ : ∃ l, l = pickL g st := ⟨_, rfl⟩
              have hkl : kept.length ≤ g.length := by rw [hkept]; exact pickL_le _ _
              have HKE := Lib.hid (show keepG bottom snaps g = if bottom then dropR kept else kept by unfold keepG; rw [hkept, HST.out])
              have e1 : pickL (g.take i) (st.take i) = kept := by rw [hkept, List.take_of_length_le (by omega), List.take_of_length_le (by rw [HSL.out]; omega)]
              rw [e1] at HK5 hppl ⊢
              have HK9 := Lib.hid (show ∃ j, j = kept.length ∧ KIn w2 sb st (.slice ob (pre.length + j) oc') (pre ++ kept.take j) wz from ⟨_, rfl, by rw [List.take_length, ← List.length_append]; exact HK5.out⟩)
              clear hkin hkept e1
              go_wp2_with fail
              go_loopw [7] (fun vo W => ∃ (j : Nat) (ob : Option Addr) (oc' : Nat), j ≤ kept.length ∧ vo = .slice ob (pre.length + j) oc' ∧ KIn w2 sb st vo (pre ++ kept.take j) W ∧ (bottom = false → j = kept.length) ∧ (∀ i (h : i < kept.length), j ≤ i → kept[i].2.2.2 = true)) (fun vo _ => match vo with | .slice _ n _ => n | _ => 0)
              case atStart =>
                obtain ⟨j, hj, hk9⟩ := HK9.out
                exact ⟨j, ob, oc', by omega, by rw [hj, List.length_append], by rw [List.length_append, ← hj]; exact hk9, fun _ => hj, fun i h hji => by omega⟩
              case round =>
                obtain ⟨wy, rfl⟩ : ∃ wy : World, wy = wr := ⟨_, rfl⟩
                obtain ⟨j, ob2, oc2, hj, rfl, hkin, hbot, hgone⟩ := hrel
                have HKA := Lib.hid hkin
                have HBO := Lib.hid hbot
                have HGO := Lib.hid hgone
                have hlj : (pre ++ kept.take j).length = pre.length + j := by rw [List.length_append, List.length_take]; omega
                obtain ⟨n, hn'⟩ : ∃ n, n = pre.length + j := ⟨_, rfl⟩
                rw [← hn'] at hlj HKA ⊢
                have HNJ := Lib.hid hn'
                obtain ⟨cur, hcur⟩ : ∃ l, l = pre ++ kept.take j := ⟨_, rfl⟩
                rw [← hcur] at HKA hlj
                have HCUR := Lib.hid hcur
                have HLJ := Lib.hid hlj
                have hnn : n ≤ 200000 := by omega
                have hjn : pre.length ≤ n := by omega
                clear hlj hcur hn'
                cases bottom
                · have HKG := Lib.hid (show (gs.take (k + 1)).flatMap (keepG false snaps) = cur from by
                    rw [HSN.out, HKE.out, HCUR.out, HBO.out rfl, List.take_length]; rfl)
                  have HFN := Lib.hid (show wy.ownsRow w2.heap.size TE 4 (.slice ob2 n oc2) ((gs.take (k + 1)).flatMap (keepG false snaps)).length (((gs.take (k + 1)).flatMap (keepG false snaps)).flatMap encC) from by rw [HKG.out]; exact HKA.out.own)
                  go_wp2_with fail
                  go_roundw
                  case rel => exact ⟨k + 1, hlt, by go_num, HFN.out, HKA.out.bel⟩
                  case measure => simp [intOf]; omega
                · by_cases hj0 : 0 < j
                  · obtain ⟨q, hq⟩ : ∃ q, q = n - 1 := ⟨_, rfl⟩
                    have hjk : j - 1 < kept.length := by omega
                    have HJK := Lib.hid hjk
                    obtain ⟨x, hx⟩ : ∃ x, x = kept[j - 1]'(HJK.out) := ⟨_, rfl⟩
                    have HX := Lib.hid hx
                    have hcx : cur[q]? = some x := by
                      rw [HCUR.out, hx, List.getElem?_append_right (by have := HNJ.out; omega), List.getElem?_take, if_pos (by have := HNJ.out; omega), show q - pre.length = j - 1 by have := HNJ.out; omega]
                      exact List.getElem?_eq_getElem _
                    obtain ⟨gr, gcap, hgv, -, -, hgc2, -, -⟩ := owns_shape HKA.out.own (by rw [HLJ.out]; have := HNJ.out; omega)
                    injection hgv with hg1' hg2' hg3'
                    subst hg1'
                    obtain rfl : gcap = oc2 := hg3'.symm
                    clear hg2'
                    have hcl : CellsOf wy gr (q * 4) x := own_cells HKA.out.own (by rw [HLJ.out]; have := HNJ.out; omega) hcx
                    have hn1 := HNJ.out
                    have c3 := hcl.c3
                    have z1 : (pre.length : Int) < (n : Int) := by omega
                    have z2 : decide (pre.length < n) = true := by simp; omega
                    have z3 : (n : Int) - 1 = (q : Int) := by omega
                    have z4 : (0 : Int) ≤ (q : Int) := by omega
                    have z5 : (q : Int) < (n : Int) := by omega
                    have z6 : (q : Int) ≤ (n : Int) := by omega
                    have z7 : n ≤ gcap := by rw [← HLJ.out]; exact hgc2
                    have z8 : (q : Int) ≤ (gcap : Int) := by omega
                    have hqn : q + 1 = n := by omega
                    have HQN := Lib.hid hqn
                    clear hcl hcx hx hq hgc2 hn1 hqn
                    cases hgx : x.2.2.2
                    · have HKG := Lib.hid (show (gs.take (k + 1)).flatMap (keepG true snaps) = cur from by
                        rw [HSN.out, HKE.out, HCUR.out, if_pos rfl, dropR_take hj HGO.out (fun _ => by rw [← HX.out]; exact hgx)])
                      have HFN := Lib.hid (show wy.ownsRow w2.heap.size TE 4 (.slice (some ⟨gr, 0, none⟩) n gcap) ((gs.take (k + 1)).flatMap (keepG true snaps)).length (((gs.take (k + 1)).flatMap (keepG true snaps)).flatMap encC) from by rw [HKG.out]; exact HKA.out.own)
                      rw [hgx] at c3
                      clear hgx
                      go_wp2_with fail
                      go_roundw
                      case rel => exact ⟨k + 1, hlt, by go_num, HFN.out, HKA.out.bel⟩
                      case measure => simp [intOf]; omega
                    · have HKB := Lib.hid (show KIn w2 sb st (.slice (some ⟨gr, 0, none⟩) q gcap) (pre ++ kept.take (j - 1)) wy from by
                        have e : cur.take q = pre ++ kept.take (j - 1) := by
                          rw [HCUR.out, List.take_append, List.take_of_length_le (by have := HNJ.out; have := HQN.out; omega), List.take_take, show q - pre.length = j - 1 by have := HNJ.out; have := HQN.out; omega, Nat.min_eq_left (by omega)]
                        rw [← e]
                        exact HKA.out.less HLJ.out.symm (by rw [HLJ.out]; have := HQN.out; omega))
                      have HGX := Lib.hid hgx
                      rw [hgx] at c3
                      clear hgx
                      go_wp2_with fail
                      go_roundw
                      case rel =>
                        refine ⟨j - 1, some ⟨gr, 0, none⟩, gcap, by omega, by rw [show q = pre.length + (j - 1) by have := HNJ.out; have := HQN.out; omega], HKB.out, fun h => (by cases h), fun i hi hji => ?_⟩
                        by_cases e : i = j - 1
                        · subst e; rw [← HX.out]; exact HGX.out
                        · exact HGO.out i hi (by omega)
                      case measure => have := HQN.out; simp; omega
                  · have HKG := Lib.hid (show (gs.take (k + 1)).flatMap (keepG true snaps) = cur from by
                      rw [HSN.out, HKE.out, HCUR.out, if_pos rfl, dropR_take hj HGO.out (fun h => absurd h hj0)])
                    have HFN := Lib.hid (show wy.ownsRow w2.heap.size TE 4 (.slice ob2 n oc2) ((gs.take (k + 1)).flatMap (keepG true snaps)).length (((gs.take (k + 1)).flatMap (keepG true snaps)).flatMap encC) from by rw [HKG.out]; exact HKA.out.own)
                    have z1 : ¬ (pre.length : Int) < (n : Int) := by have := HNJ.out; omega
                    have z2 : decide (pre.length < n) = false := by have := HNJ.out; simp; omega
                    go_wp2_with fail
                    go_roundw
                    case rel => exact ⟨k + 1, hlt, by go_num, HFN.out, HKA.out.bel⟩
                    case measure => simp [intOf]; omega
    · have HE := Lib.hid (show (gs.take k).flatMap (keepG bottom snaps) = keepL m bottom snaps by rw [List.take_of_length_le (by omega), HEQ.out])
      clear ho hbel
      go_wp2_with fail
      go_ret
      exact ⟨_, rfl, by rw [← HE.out]; exact owns_mono HO.out HB2.out.size, below_step HB2.out HBE.out HB2.out.size⟩
end Go.Proofs.Try.Mg
