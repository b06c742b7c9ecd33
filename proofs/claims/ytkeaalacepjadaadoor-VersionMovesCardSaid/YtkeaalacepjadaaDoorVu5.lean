/- The document's tables, all; a number dropped. -/
import Derived.Test.YtkeaalacepjadaaDoorVu4
set_option linter.unusedVariables false
set_option linter.unusedSimpArgs false
set_option maxRecDepth 100000
namespace Go.Proofs.Tryd.Vr
open Go.RowKit Go.Cph Go.Cph.Skip Go.Cph.So Go.Cph.Ve
open Go.Proofs.Tryd.Sq (row_kept1 grown_below grown_set)

def tabsTo (L : List Tb) (i : Nat) : List Tb := (List.range i).flatMap fun k => levelD L k
theorem tabsTo_next (L : List Tb) (i : Nat) : tabsTo L (i + 1) = tabsTo L i ++ levelD L i := by
  unfold tabsTo
  rw [List.range_succ, List.flatMap_append]
  simp
theorem tabsTo_four (L : List Tb) : tabsTo L 4 = tabs (levelD L) := rfl
theorem levelD_le (L : List Tb) (k : Nat) : (levelD L k).length ≤ L.length := by rw [← levelZ_D]; exact levelZ_le _ _
theorem tabsTo_le (L : List Tb) : ∀ i, (tabsTo L i).length ≤ i * L.length
  | 0 => Nat.zero_le _
  | i + 1 => by
    have h1 := tabsTo_le L i
    have h2 := levelD_le L i
    rw [tabsTo_next, List.length_append, Nat.add_mul]
    omega

set_option maxHeartbeats 8000000 in
theorem dtables_any (d : Dn) (L : List Tb) (w : World) (h : TbsAt w d.l L) (hn : L.length ≤ 1000000) (hs : SmallL L) : Calls Tryd.prog 36 #[encD d] w (NewRow w (tabs (levelD L))) := by
  have HT := Lib.hid h
  have HN := Lib.hid hn
  have HS := Lib.hid hs
  have HX0 := Lib.hid (heap_alloc_new w (boxD d))
  have HB0 := Lib.hid (below_of_alloc (w := w) (boxD d))
  clear h hn hs
  go_enter Tryd.func36, Tryd.ntmps36
  go_wp2_with fail
  go_loopw [3, 4] (fun vo vi W => ∃ i : Nat, i ≤ 4 ∧ vi = .int .i64 (i : Int) ∧ W.ownsRow (w.heap.size + 1) TE 8 vo (tabsTo L i).length ((tabsTo L i).flatMap encC) ∧ Hid (Below w.heap.size w W) ∧ Hid (W.heap[w.heap.size]? = some (boxD d))) (fun _ vi _ => 4 - (intOf vi).toNat)
  case atStart => exact ⟨0, by omega, rfl, World.ownsRow_nil _ _ _ _, HB0, HX0⟩
  case round =>
    obtain ⟨i, hi, rfl, ho, HB, HX⟩ := hrel
    have HO := Lib.hid ho
    obtain ⟨o1, q1, hv1⟩ := owns_slice1 ho
    subst hv1
    by_cases hlt : i < 4
    · have HI := Lib.hid hlt
      have j1 : (i : Int) < 4 := by omega
      have j4 : IntKind.i64.wrap ((i : Int) + 1) = (i : Int) + 1 := by rw [IntKind.wrap_i64]; omega
      have d0 : wr.cell? ⟨w.heap.size, 0, none⟩ = some d.l := by rw [blk_cell HX.out]; rfl
      have d1 : wr.cell? ⟨w.heap.size, 1, none⟩ = some (.int .u64 (d.log.toNat : Int)) := by rw [blk_cell HX.out]; rfl
      have d2 : wr.cell? ⟨w.heap.size, 2, none⟩ = some (.int .u64 (d.seq.toNat : Int)) := by rw [blk_cell HX.out]; rfl
      have d3 : wr.cell? ⟨w.heap.size, 3, none⟩ = some (.int .u64 (d.nxt.toNat : Int)) := by rw [blk_cell HX.out]; rfl
      have hc := level14_any d L (i : Int) wr (HT.out.kept HB.out) HN.out HS.out
      rw [levelZ_D] at hc
      have HC := Lib.hid hc
      have hle := tabsTo_le L i
      obtain ⟨m, hm⟩ : ∃ m, m = (tabsTo L i).length := ⟨_, rfl⟩
      rw [← hm] at ho hle ⊢
      have HM := Lib.hid hm
      have HO1 := Lib.hid ho
      have hle2 := levelD_le L i
      obtain ⟨m2, hm2⟩ : ∃ m, m = (levelD L i).length := ⟨_, rfl⟩
      rw [← hm2] at hle2
      have HM2 := Lib.hid hm2
      have HLE := Lib.hid (show m + m2 ≤ 1099511627776 from by
        have := HN.out
        have : i * L.length ≤ 4 * 1000000 := Nat.mul_le_mul (by omega) this
        omega)
      clear ho hm hm2 HO hle hle2 hc
      go_wp2_with (first | (go_at_call 33; refine HC.out.mono ?_; rintro e w2 ⟨x2, rfl, ho2, hb2⟩; obtain ⟨o2, q2, hv2⟩ := owns_slice1 ho2; subst hv2; rw [← HM2.out] at ho2 ⊢; have HO2 := Lib.hid ho2; have HB2 := Lib.hid (below_step HB.out hb2 HB.out.size); have HK2 := Lib.hid hb2; have HOK := Lib.hid (row_kept1 HO1.out (fun p hp => hb2.block p (HO1.out.lt p hp).2)); clear ho2 hb2) | (at_builtin; refine wpList_append_seg rfl (.tmp 9) (.tmp 12) TS rfl (w.heap.size + 1) TE _ 8 80 Tryd.underlying25 infoE rfl (by decide) _ m _ rfl HOK.out _ m2 _ rfl (Seg.of_owns HO2.out) encC_one HLE.out (by decide) (Nat.le_trans (blk_lt HX.out) HK2.out.size) ?_; intro v6 w6 ho6 hg6 hw6; have HO6 := Lib.hid ho6; have HB6 := Lib.hid (below_grown HB2.out hg6 HOK.out (Nat.le_succ _) HB2.out.size); have HX6 := Lib.hid (show w6.heap[w.heap.size]? = some (boxD d) from (hg6.block w.heap.size (Nat.lt_of_lt_of_le (blk_lt HX.out) HK2.out.size) (fun e => by have := (HOK.out.lt _ e.symm).1; omega)).trans (blk_kept HK2.out HX.out)); obtain ⟨o6, q6, hv6⟩ := owns_slice1 ho6; subst hv6; clear ho6 hg6 hw6))
      go_roundw
      case rel => exact ⟨i + 1, by omega, by first | rfl | (congr 1), by rw [tabsTo_next, List.length_append, ← HM.out, ← HM2.out, List.flatMap_append]; exact HO6.out, HB6, HX6⟩
      case measure => simp [intOf]; omega
    · have hi4 : i = 4 := by omega
      subst hi4
      have j1 : ¬ (4 : Int) < 4 := by omega
      clear ho
      go_wp2_with fail
      go_ret
      exact ⟨_, rfl, by rw [← tabsTo_four]; exact owns_mono HO.out (Nat.le_succ _), HB.out⟩
def DropPost (L : List Tb) (n : UInt64) (w : World) (e : Ending) (w' : World) : Prop := ∃ v', e = .returned (.tuple #[v', .bool (hasN L n)]) ∧ w'.ownsRow w.heap.size TE 8 v' (lessN L n).length ((lessN L n).flatMap encC) ∧ Below w.heap.size w w'
theorem less_lt {L : List Tb} {n : UInt64} : decide ((lessN L n).length < L.length) = hasN L n := by
  rw [Bool.eq_iff_iff, decide_eq_true_eq, hasN_iff]
  unfold lessN
  constructor
  · intro h
    rcases Classical.em (∃ t ∈ L, tN t = n) with g | g
    · exact g
    · exfalso
      have : L.filter (fun t => tN t != n) = L := by
        rw [List.filter_eq_self]
        intro t ht
        have : tN t ≠ n := fun e => g ⟨t, ht, e⟩
        simpa using this
      rw [this] at h
      omega
  · rintro ⟨t, ht, e⟩
    have h := List.length_filter_lt_length_iff_exists (p := fun t => tN t != n) (l := L)
    exact h.2 ⟨t, ht, by simpa using e⟩

set_option maxHeartbeats 8000000 in
theorem drop14_any (v : Value) (L : List Tb) (n : UInt64) (w : World) (h : TbsAt w v L) (hn : L.length ≤ 1000000) : Calls Tryd.prog 50 #[v, .int .u64 (n.toNat : Int)] w (DropPost L n w) := by
  obtain ⟨ao, cap, hv⟩ := elems_slice h
  subst hv
  have HT := Lib.hid h
  have HN := Lib.hid hn
  clear h hn
  go_enter Tryd.func50, Tryd.ntmps50
  go_wp2_with fail
  go_loopw [6, 7] (fun vo vi W => ∃ i : Nat, i ≤ L.length ∧ vi = .int .i64 (i : Int) ∧ W.ownsRow w.heap.size TE 8 vo (lessN (L.take i) n).length ((lessN (L.take i) n).flatMap encC) ∧ Hid (Below w.heap.size w W)) (fun _ vi _ => L.length - (intOf vi).toNat)
  case atStart => exact ⟨0, Nat.zero_le _, rfl, World.ownsRow_nil _ _ _ _, Lib.hid (Below.refl _ _)⟩
  case round =>
    obtain ⟨i, hi, rfl, ho, HB⟩ := hrel
    obtain ⟨o1, q1, hv1⟩ := owns_slice1 ho
    subst hv1
    obtain ⟨m, hm⟩ : ∃ m, m = (lessN (L.take i) n).length := ⟨_, rfl⟩
    have hml : m ≤ i := by
      have h1 : (lessN (L.take i) n).length ≤ (L.take i).length := List.length_filter_le _ _
      rw [List.length_take] at h1
      omega
    rw [← hm] at ho ⊢
    have HM := Lib.hid hm
    have HO := Lib.hid ho
    clear hm
    by_cases hlt : i < L.length
    · obtain ⟨b, off, cap', hve, hcs⟩ := tbs_cells (HT.out.kept HB.out) (by omega)
      injection hve with hx1 hx2 hx3
      subst hx1
      clear hx2 hx3
      have hcx := hcs i hlt
      have HLT := Lib.hid hlt
      obtain ⟨x, hx⟩ : ∃ x, x = L[i]'(HLT.out) := ⟨_, rfl⟩
      have HXX := Lib.hid hx
      rw [← hx] at hcx
      have d0 := hcx.c0
      have d1 := hcx.c1
      have d2 := hcx.c2
      have d3 := hcx.c3
      have d4 := hcx.c4
      have d5 := hcx.c5
      have d6 := hcx.c6
      have d7 := hcx.c7
      have j1 : (0 : Int) ≤ (i : Int) := by omega
      have j2 : (i : Int) < (L.length : Int) := by omega
      have j4 : IntKind.i64.wrap ((i : Int) + 1) = (i : Int) + 1 := by have := HN.out; rw [IntKind.wrap_i64]; omega
      have hmm : m + 1 ≤ 1099511627776 := by have := HN.out; omega
      have hsp : lessN (L.take (i + 1)) n = lessN (L.take i) n ++ (if tN x != n then [x] else []) := by
        unfold lessN
        rw [List.take_succ_eq_append_getElem hlt, List.filter_append, ← hx]
        split
        · rw [List.filter_cons_of_pos ‹_›]; rfl
        · rw [List.filter_cons_of_neg ‹_›]; rfl
      have HSP := Lib.hid hsp
      clear hcs hcx hx ho hsp
      by_cases p1 : x.1 = n
      · have z1 : ((x.1.toNat : Int) == (n.toNat : Int)) = true := by rw [p1]; simp
        have z1b : ((x.1.toNat : Int) != (n.toNat : Int)) = false := by rw [p1]; simp
        have HNX := Lib.hid (show lessN (L.take (i + 1)) n = lessN (L.take i) n from by rw [HSP.out, if_neg (by simpa using p1), List.append_nil])
        clear p1
        go_wp2_with fail
        go_roundw
        case rel => exact ⟨i + 1, hlt, by first | rfl | (congr 1), by rw [HNX.out, ← HM.out]; exact HO.out, HB⟩
        case measure => simp [intOf]; omega
      · have z1 : ((x.1.toNat : Int) == (n.toNat : Int)) = false := by simpa using fun h => p1 (UInt64.toNat_inj.1 (by omega))
        have z1b : ((x.1.toNat : Int) != (n.toNat : Int)) = true := by simpa using fun h => p1 (UInt64.toNat_inj.1 (by omega))
        have HNX := Lib.hid (show lessN (L.take (i + 1)) n = lessN (L.take i) n ++ [x] from by rw [HSP.out, if_pos (by simpa using p1)])
        clear p1
        go_wp2_with (at_builtin; refine wpList_append1 rfl (.tmp 21) (.tmp 26) TS rfl w.heap.size TE _ 8 80 Tryd.underlying25 infoE rfl (by decide) _ m _ (encC x) rfl HO.out _ 1 rfl rfl rfl (encC_one1 x) hmm (by decide) HB.out.size w.heap.size w HB.out (Nat.le_refl _) ?_; intro v6 w6 ho6 hgr6 hb6 hsz6; have HO6 := Lib.hid ho6; have HB6 := Lib.hid hb6; obtain ⟨o6, c6, hv6⟩ := owns_slice1 ho6; subst hv6; clear ho6 hgr6 hb6 hsz6)
        go_roundw
        case rel => exact ⟨i + 1, hlt, by first | rfl | (congr 1), by rw [HNX.out, List.length_append, ← HM.out, List.flatMap_append]; have := HO6.out; simpa using this, HB6⟩
        case measure => simp [intOf]; omega
    · have hil : i = L.length := by omega
      subst hil
      have i1 : ¬ (L.length : Int) < (L.length : Int) := by omega
      have hll := less_lt (L := L) (n := n)
      have hm2 := HM.out
      rw [List.take_length] at hm2
      rw [← hm2] at hll
      have HLL := Lib.hid hll
      have HM2 := Lib.hid hm2
      clear ho hll hm2
      go_wp2_with fail
      exact bodyPost_ret (v := .tuple #[.slice o1 m q1, .bool (hasN L n)]) (by
        have e : decide ((m : Int) < (L.length : Int)) = hasN L n := by rw [← HLL.out, decide_eq_decide]; omega
        have e2 : decide (m < L.length) = hasN L n := HLL.out
        simp [results, Tryd.results50, go_sem, e, e2]) rfl ⟨_, rfl, by have := HO.out; rw [List.take_length] at this; rw [← HM2.out]; exact this, HB.out⟩
end Go.Proofs.Tryd.Vr
