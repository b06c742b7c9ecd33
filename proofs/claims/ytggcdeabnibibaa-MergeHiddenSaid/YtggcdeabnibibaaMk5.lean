/- What is seen of a list at a number. -/
import Derived.Test.YtggcdeabnibibaaMk4
import Derived.Deep.DeepCutAuto
import Derived.StillTailTactics
set_option linter.unusedVariables false
set_option linter.unusedSimpArgs false
namespace Go.Proofs.Try.Mg
open Go.RowKit Go.Cph Go.Cph.Skip Go.Cph.So

abbrev Opp := ByteArray × ByteArray × Bool
abbrev encO (o : Opp) : List Value := [.string o.1, .string o.2.1, .bool o.2.2]
theorem encO_len (o : Opp) : (encO o).length = 3 := rfl
theorem encO_one1 (p : Opp) : ∀ u ∈ encO p, u.oneCell' = true := by
  intro u hu
  simp only [encO, List.mem_cons, List.not_mem_nil, or_false] at hu
  rcases hu with rfl | rfl | rfl <;> rfl
theorem infoO : (Try.prog.info? 45).map (fun i => (i.zero, i.size, i.bytes)) = some (some (.agg #[.string ByteArray.empty, .string ByteArray.empty, .bool false]), 3, 40) := by kernel_rfl
abbrev OpsAt (w : World) (v : Value) (l : List Opp) : Prop := Elems encO 3 w v l
theorem owns_caps {w : World} {base : Nat} {e : TypeId} {size n c : Nat} {o : Option Addr} {xs : List Value} (h : w.ownsRow base e size (.slice o n c) n xs) : n ≤ c ∧ c ≤ maxLen := by
  obtain ⟨_, h2⟩ := h
  rcases h2 with ⟨h2, h3⟩ | ⟨g, cp, cur, h2, _, _, h4, h5, _⟩
  · injection h2 with _ _ h6
    rw [h3, h6]; exact ⟨Nat.le_refl _, by unfold maxLen; omega⟩
  · injection h2 with _ _ h6
    rw [h6]; exact ⟨h4, h5⟩
/-- What a key's versions show at a number. -/
def opG (at_ : UInt64) (g : List Ent) : Option Opp := match g.find? (mayC at_) with
  | some e => if e.2.2.2 then none else some (e.1, e.2.1, false)
  | none => none
def seenL (m : List Ent) (at_ : UInt64) : List Opp := (groupsR m).filterMap (opG at_)
theorem find_at {α : Type} {p : α → Bool} {l : List α} {i : Nat} (h : i < l.length) (hp : p l[i] = true) (hn : ∀ j (hj : j < i), p (l[j]'(by omega)) = false) : l.find? p = some l[i] := by
  rw [List.find?_eq_some_iff_getElem]
  exact ⟨hp, i, h, rfl, fun j hj => by rw [hn j hj]; rfl⟩
theorem find_none {α : Type} {p : α → Bool} {l : List α} (h : ∀ x ∈ l, p x = false) : l.find? p = none := by
  rw [List.find?_eq_none]; intro x hx; rw [h x hx]; simp
theorem filterMap_snoc {α β : Type} (f : α → Option β) (l : List α) (k : Nat) (h : k < l.length) : (l.take (k + 1)).filterMap f = (l.take k).filterMap f ++ (f l[k]).toList := by
  rw [List.take_succ_eq_append_getElem h, List.filterMap_append]
  cases hf : f l[k] <;> simp [hf]
def OpsPost (w : World) (l : List Opp) (e : Ending) (w' : World) : Prop := ∃ v', e = .returned v' ∧ OpsAt w' v' l ∧ Below w.heap.size w w'
theorem group_small {l : List Ent} {g : List Ent} (h : g ∈ groupsR l) : 0 < g.length ∧ g.length ≤ l.length := by
  obtain ⟨k, h1, -⟩ := groupsR_same l g h
  refine ⟨List.length_pos_iff.2 h1, ?_⟩
  have e := groupsR_flat l
  have : g.length ≤ (groupsR l).flatten.length := (List.sublist_flatten_of_mem h).length_le
  rwa [e] at this

set_option maxRecDepth 100000 in
set_option maxHeartbeats 8000000 in
theorem seen_any (v : Value) (l : List Ent) (at_ : UInt64) (w : World) (h : EntsAt w v l) (hn : l.length ≤ 1000000) :
    Calls Try.prog 18 #[v, .int .u64 (at_.toNat : Int)] w (OpsPost w (seenL (mergeL ltE l) at_)) := by
  obtain ⟨ao, cap, hv⟩ := elems_slice h
  have hb0 : Below w.heap.size w (w.alloc (.cells #[v] TS)) := (Below.refl _ _).alloc (Nat.le_refl _) _
  have HM := Lib.hid (merge_any _ [l] _ (Lists.one (c := 1) (heap_alloc_new w (.cells #[v] TS)) (h.kept hb0)) (by simp) (by simpa using hn))
  have HB0 := Lib.hid hb0
  subst hv
  obtain ⟨m, hm⟩ : ∃ m, m = mergeL ltE l := ⟨_, rfl⟩
  simp only [List.flatten_cons, List.flatten_nil, List.append_nil, ← hm] at HM
  rw [← hm]
  have hml : m.length ≤ 1000000 := by rw [hm]; exact Nat.le_trans (mergeL_length weakE l) hn
  clear h hb0 hm
  go_enter Try.func18, Try.ntmps18
  go_wp2_with fail
  refine HM.out.mono ?_
  rintro e w1 ⟨v1, rfl, ho, hb⟩
  have HB1 := Lib.hid (below_step HB0.out hb HB0.out.size)
  obtain ⟨o1, c1, hv1⟩ := owns_slice1 ho
  subst hv1
  have hcc := owns_caps ho
  have HK := Lib.hid (keys_any o1 c1 m w1 (Seg.of_owns ho) hcc.1 hcc.2 hml)
  clear ho hb hcc
  go_wp2_with fail
  refine HK.out.mono ?_
  rintro e w2 ⟨v2, rfl, hl2, hb⟩
  have HB2 := Lib.hid (below_step HB1.out hb HB1.out.size)
  have HL2 := Lib.hid hl2
  obtain ⟨o2, c2, hv2⟩ := hl2.slice
  subst hv2
  obtain ⟨gs, hgs⟩ : ∃ gs, gs = groupsR m := ⟨_, rfl⟩
  rw [← hgs] at HL2 ⊢
  have HGS := Lib.hid hgs
  have hgl : gs.length ≤ 1000000 := by rw [hgs]; exact Nat.le_trans (groupsR_length m) hml
  have HEQ := Lib.hid (show gs.filterMap (opG at_) = seenL m at_ by rw [hgs]; rfl)
  clear hb hl2 hgs HM HK
  go_wp2_with fail
  go_loopw [5, 15] (fun vo vi wr => ∃ k : Nat, k ≤ gs.length ∧ vi = .int .i64 k ∧ wr.ownsRow w2.heap.size 45 3 vo ((gs.take k).filterMap (opG at_)).length (((gs.take k).filterMap (opG at_)).flatMap encO) ∧ Below w2.heap.size w2 wr) (fun _ vi _ => gs.length - (intOf vi).toNat)
  case atStart => exact ⟨0, Nat.zero_le _, rfl, World.ownsRow_nil _ _ _ _, Below.refl _ _⟩
  case round =>
    obtain ⟨k, hk, rfl, ho, hbel⟩ := hrel
    have HO := Lib.hid ho
    have HBE := Lib.hid hbel
    obtain ⟨oo, oc, hov⟩ := owns_slice1 ho
    subst hov
    by_cases hlt : k < gs.length
    · obtain ⟨b, off, cap', hve, hcs⟩ := (HL2.out.kept hbel).cell (by omega)
      cases hve
      obtain ⟨u, hu, hue⟩ := hcs k hlt
      obtain ⟨g, hg⟩ : ∃ g, g = gs[k] := ⟨_, rfl⟩
      have hgm : 0 < g.length ∧ g.length ≤ 1000000 := by
        have : g ∈ groupsR m := by rw [← HGS.out, hg]; exact List.getElem_mem _
        obtain ⟨h1, h2⟩ := group_small this
        exact ⟨h1, by omega⟩
      obtain ⟨hg0, hg1⟩ := hgm
      rw [← hg] at hue
      obtain ⟨gb, go_, gc, hub, hgc⟩ := ents_cells hue hg0
      subst hub
      have HUE := Lib.hid hue
      have HGC := Lib.hid hgc
      have HC := Lib.hid (counts_any _ g at_ wr hue hg1)
      have HSN := Lib.hid (show (gs.take (k + 1)).filterMap (opG at_) = (gs.take k).filterMap (opG at_) ++ (opG at_ g).toList by rw [hg]; exact filterMap_snoc _ _ _ hlt)
      have k1 : (0 : Int) ≤ (k : Int) := by omega
      have k2 : (k : Int) < (gs.length : Int) := by omega
      have HKL := Lib.hid (show ((gs.take k).filterMap (opG at_)).length ≤ 1000000 from Nat.le_trans (Nat.le_trans (List.length_filterMap_le _ _) (by rw [List.length_take]; omega)) hgl)
      clear ho hbel hcs hue hgc hg
      go_wp2_with fail
      refine HC.out.mono ?_
      rintro e w3 ⟨⟨i, ⟨hin, rfl⟩ | ⟨hnone, rfl⟩⟩, hb⟩
      · have HO3 := Lib.hid (row_kept1 HO.out fun k hk => hb.block k (HO.out.lt k hk).2)
        have HB3 := Lib.hid (below_step HBE.out hb HBE.out.size)
        obtain ⟨hi, hmay, hnot⟩ := hin
        have HF := Lib.hid (find_at hi hmay hnot)
        have hci := (HGC.out i hi).kept hb
        obtain ⟨x, hx⟩ : ∃ x, x = g[i] := ⟨_, rfl⟩
        rw [← hx] at hci HF
        have i1 : (0 : Int) ≤ (i : Int) := by omega
        have i2 : (i : Int) < (g.length : Int) := by omega
        have d0 := hci.c0
        have d1 := hci.c1
        have d2 := hci.c2
        have d3 := hci.c3
        clear hmay hnot hb hci hx
        by_cases hgone : x.2.2.2 = true
        · have HG := Lib.hid (show opG at_ g = none by unfold opG; rw [HF.out]; simp [hgone])
          have e1 : x.2.2.2 = true := hgone
          clear hgone
          go_wp2_with fail
          go_roundw
          case rel =>
            refine ⟨k + 1, hlt, by go_num, ?_, HB3.out⟩
            rw [HSN.out, HG.out]; simpa using HO3.out
          case measure => simp [intOf]; omega
        · have e1 : x.2.2.2 = false := by simpa using hgone
          have HG := Lib.hid (show opG at_ g = some (x.1, x.2.1, false) by unfold opG; rw [HF.out]; simp [e1])
          clear hgone
          have HL9 := Lib.hid (show ((gs.take k).filterMap (opG at_)).length + 1 ≤ 1099511627776 by have := HKL.out; omega)
          obtain ⟨v5, w5, hr5, ho5, hb5⟩ := run_append1 (P := Try.prog) w3 w2 37 37 45 _ 3 40 Try.underlying37 infoO rfl (by decide) HO3.out (encO (x.1, x.2.1, false)) rfl (encO_one1 _) HL9.out (by decide) HB3.out (Nat.le_refl _) HB3.out.size
          have HR5 := Lib.hid hr5
          have HO5 := Lib.hid ho5
          have HB5 := Lib.hid hb5
          clear hr5 ho5 hb5
          go_wp2_with fail
          go_region_law (refine step_append rfl (.tmp 34) (.tmp 46) 37 37 rfl (.slice oo ((gs.take k).filterMap (opG at_)).length oc) (.slice (some ⟨w3.heap.size, 0, none⟩) 1 1) (by simp [Act.eval, Act.put]) (by simp [Act.eval, Act.put]) HR5.out ?_)
          all_goals
            go_wp2_with fail
            go_roundw
            case rel =>
              refine ⟨k + 1, hlt, by go_num, ?_, HB5.out⟩
              rw [HSN.out, HG.out]
              have := HO5.out
              simpa [List.flatMap_append] using this
            case measure => simp [intOf]; omega
      · have HO3 := Lib.hid (row_kept1 HO.out fun k hk => hb.block k (HO.out.lt k hk).2)
        have HB3 := Lib.hid (below_step HBE.out hb HBE.out.size)
        have HG := Lib.hid (show opG at_ g = none by unfold opG; rw [find_none hnone])
        clear hnone hb
        go_wp2_with fail
        go_roundw
        case rel =>
          refine ⟨k + 1, hlt, by go_num, ?_, HB3.out⟩
          rw [HSN.out, HG.out]; simpa using HO3.out
        case measure => simp [intOf]; omega
    · obtain rfl : k = gs.length := by omega
      have HE := Lib.hid (show (gs.take gs.length).filterMap (opG at_) = seenL m at_ by rw [List.take_length, HEQ.out])
      clear ho hbel
      go_wp2_with fail
      go_ret
      exact ⟨_, rfl, by rw [← HE.out]; exact Seg.of_owns HO.out, below_step HB2.out HBE.out HB2.out.size⟩
end Go.Proofs.Try.Mg
