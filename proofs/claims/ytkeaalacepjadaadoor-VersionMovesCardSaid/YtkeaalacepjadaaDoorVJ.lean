/- VJ: texts put together: Vq1 Vq2. -/
import Derived.Test.YtkeaalacepjadaaDoorVD
import Derived.Test.YtkeaalacepjadaaDoorVG
import Derived.Test.YtkeaalacepjadaaDoorVH
/- Which tables of a level meet a range. -/
set_option linter.unusedVariables false
set_option linter.unusedSimpArgs false
set_option maxRecDepth 100000
namespace Go.Proofs.Tryd.Vr
open Go.RowKit Go.Cph Go.Cph.Skip Go.Cph.So Go.Cph.Ve

theorem over_nil {l : List Tb} {f g : ByteArray} (h : klt g f = true) : overL l f g = [] := by
  unfold overL
  rw [List.filter_eq_nil_iff]
  intro t ht
  unfold meetsT
  rw [h]
  simp
theorem meets_of {x : Tb} {f g : ByteArray} (h : klt g f = false) : meetsT x f g = (!klt g (tF x) && !klt (tL x) f) := by
  unfold meetsT
  rw [h]
  rfl
theorem over_snoc {l : List Tb} {f g : ByteArray} {i : Nat} (h : i < l.length) : overL (l.take (i + 1)) f g = overL (l.take i) f g ++ (if meetsT l[i] f g = true then [l[i]] else []) := by
  unfold overL
  rw [List.take_succ_eq_append_getElem h, List.filter_append]
  split
  · rw [List.filter_cons_of_pos ‹_›]; rfl
  · rw [List.filter_cons_of_neg ‹_›]; rfl

set_option maxHeartbeats 4000000 in
theorem over_out (k : Int) (v : Vn) (f g : ByteArray) (w : World) (hk : k < 0 ∨ 4 ≤ k) :
    Calls Tryd.prog 15 #[encV v, .int .i64 k, .string f, .string g] w (NewRow w []) := by
  have HB := Lib.hid (below_of_alloc (w := w) (boxV v))
  rcases hk with h | h
  · go_enter Tryd.func15, Tryd.ntmps15
    go_wp2_with fail
    go_ret
    exact ⟨_, rfl, World.ownsRow_nil _ _ _ _, HB.out⟩
  · have h2 : ¬ k < 0 := by omega
    go_enter Tryd.func15, Tryd.ntmps15
    go_wp2_with fail
    go_ret
    exact ⟨_, rfl, World.ownsRow_nil _ _ _ _, HB.out⟩

set_option maxHeartbeats 16000000 in
theorem over_any (k : Nat) (v : Vn) (lv : Nat → List Tb) (f g : ByteArray) (w : World) (h : VerAt w v lv) (hk : k < 4) (hn : (lv k).length ≤ 1000000) :
    Calls Tryd.prog 15 #[encV v, .int .i64 (k : Int), .string f, .string g] w (NewRow w (overL (lv k) f g)) := by
  obtain ⟨l, hl⟩ : ∃ l, l = lv k := ⟨_, rfl⟩
  have hT := h.at hk
  rw [← hl] at hT hn ⊢
  obtain ⟨ao, cap, hv⟩ := elems_slice hT
  have hbx : (w.alloc (boxV v)).heap[w.heap.size]? = some (boxV v) := heap_alloc_new _ _
  have c1 : (w.alloc (boxV v)).cell? ⟨w.heap.size, k, none⟩ = some (.slice ao l.length cap) := by rw [← hv]; exact boxV_lev hbx hk
  have HT := Lib.hid (show TbsAt w (.slice ao l.length cap) l from by rw [← hv]; exact hT)
  have k1 : ¬ (4 : Int) ≤ (k : Int) := by omega
  have k1b : (k : Int) < 4 := by omega
  have k0 : ¬ (k : Int) < 0 := by omega
  have k0b : (0 : Int) ≤ (k : Int) := by omega
  have HBW := Lib.hid (below_of_alloc (w := w) (boxV v))
  have HN := Lib.hid hn
  clear h hT hl hbx hv
  have HTH := Lib.hid (klt_three f g)
  cases hfg : klt g f
  · have HFG := Lib.hid hfg
    have hff : (klt f g = true ∧ (f.toList == g.toList) = false) ∨ (klt f g = false ∧ (f.toList == g.toList) = true) := by
      rcases HTH.out with ⟨h1, h2, h3⟩ | ⟨h1, h2, h3⟩ | ⟨h1, h2, h3⟩
      · exact .inl ⟨h1, h3⟩
      · exact .inr ⟨h1, h3⟩
      · rw [hfg] at h2; cases h2
    obtain ⟨bf, hbf⟩ : ∃ b, b = klt f g := ⟨_, rfl⟩
    have hff : klt f g = bf ∧ (f.toList == g.toList) = !bf := by
      rw [hbf]
      rcases hff with ⟨h1, h2⟩ | ⟨h1, h2⟩
      · rw [h1, h2]; exact ⟨rfl, rfl⟩
      · rw [h1, h2]; exact ⟨rfl, rfl⟩
    obtain ⟨g1, g2⟩ := hff
    clear hbf
    unfold klt at hfg g1
    go_enter Tryd.func15, Tryd.ntmps15
    go_wp2_with fail
    go_loopw [9, 28] (fun vo vi W => ∃ i : Nat, i ≤ l.length ∧ vi = .int .i64 (i : Int) ∧ W.ownsRow w.heap.size TE 8 vo (overL (l.take i) f g).length ((overL (l.take i) f g).flatMap encC) ∧ Below w.heap.size w W) (fun _ vi _ => l.length - (intOf vi).toNat)
    case atStart => exact ⟨0, Nat.zero_le _, rfl, World.ownsRow_nil _ _ _ _, HBW.out⟩
    case round =>
      obtain ⟨i, hi, rfl, ho, hb⟩ := hrel
      clear c1
      obtain ⟨o1, q1, hv1⟩ := owns_slice1 ho
      subst hv1
      obtain ⟨m, hm⟩ : ∃ m, m = (overL (l.take i) f g).length := ⟨_, rfl⟩
      have hml : m ≤ 1000000 := by
        have h1 := List.length_filter_le (fun t => meetsT t f g) (l.take i)
        have h2 : (l.take i).length ≤ l.length := by rw [List.length_take]; omega
        have h3 := HN.out
        have h4 : m ≤ (l.take i).length := by rw [hm]; exact h1
        omega
      rw [← hm] at ho ⊢
      have HM := Lib.hid hm
      have HO := Lib.hid ho
      have HB := Lib.hid hb
      clear hm
      by_cases hlt : i < l.length
      · obtain ⟨b, off, cap', hve, hcs⟩ := tbs_cells (HT.out.kept hb) (by omega)
        injection hve with hx1 hx2 hx3
        subst hx1
        clear hx2 hx3
        have hcx := hcs i hlt
        have HLT := Lib.hid hlt
        obtain ⟨x, hx⟩ : ∃ x, x = l[i]'(HLT.out) := ⟨_, rfl⟩
        have HXX := Lib.hid hx
        rw [← hx] at hcx
        have d0 := hcx.c0
        have d1 := hcx.c1
        have d2 := hcx.c2
        have d3 := hcx.c3
        have d4 := hcx.c4
        have d5 := hcx.c5
        have d6 := hcx.c6
        have d7 := hcx.c7
        have j1 : (0 : Int) ≤ (i : Int) := by omega
        have j2 : (i : Int) < (l.length : Int) := by omega
        have j4 : IntKind.i64.wrap ((i : Int) + 1) = (i : Int) + 1 := by have := HN.out; rw [IntKind.wrap_i64]; omega
        have hbc := box_cells (heap_alloc_new wr (boxT x))
        have e0 := hbc.c0
        have e1 := hbc.c1
        have e2 := hbc.c2
        have e3 := hbc.c3
        have e4 := hbc.c4
        have e5 := hbc.c5
        have e6 := hbc.c6
        have e7 := hbc.c7
        have HA := Lib.hid (show (wr.alloc (boxT x)).ownsRow w.heap.size TE 8 (.slice o1 m q1) m ((overL (l.take i) f g).flatMap encC) from ho.alloc _)
        have HBA := Lib.hid (show Below w.heap.size w (wr.alloc (boxT x)) from hb.alloc hb.size _)
        have HMM := Lib.hid (meets_of (x := x) HFG.out)
        dsimp only [tF, tL] at HMM
        clear hcs hcx hx ho hb hbc
        rcases klt_three x.2.2.2.2.1 g with ⟨s1, s2, s3⟩ | ⟨s1, s2, s3⟩ | ⟨s1, s2, s3⟩
        · skip
          rcases klt_three f x.2.2.2.2.2.1 with ⟨r1, r2, r3⟩ | ⟨r1, r2, r3⟩ | ⟨r1, r2, r3⟩
          · have HMT := Lib.hid (show meetsT x f g = true from by rw [HMM.out, s2, r2]; rfl)
            unfold klt at s1 s2 r1 r2
            clear HMM
            have HNX := Lib.hid (show overL (l.take (i + 1)) f g = overL (l.take i) f g ++ [x] from by rw [over_snoc HLT.out, ← HXX.out, if_pos HMT.out])
            go_wp2_with (at_builtin; refine wpList_append1 rfl (.tmp 42) (.tmp 44) TS rfl w.heap.size TE _ 8 80 Tryd.underlying25 infoE rfl (by decide) _ m _ (encC x) rfl HA.out _ 1 (by rw [World.size_alloc]; rfl) rfl rfl (encC_one1 x) (by omega) (by decide) HBA.out.size w.heap.size w HBA.out (Nat.le_refl _) ?_; intro v6 w6 ho hgr hb6 hsz6; have HO6 := Lib.hid ho; have HB6 := Lib.hid hb6; obtain ⟨o6, c6, hv6⟩ := owns_slice1 ho; subst hv6; clear ho hgr hb6 hsz6)
            go_roundw
            case rel => exact ⟨i + 1, hlt, by first | rfl | (congr 1), by rw [HNX.out, List.length_append, ← HM.out, List.flatMap_append]; have := HO6.out; simpa using this, HB6.out⟩
            case measure => simp [intOf]; omega
          · have HMT := Lib.hid (show meetsT x f g = true from by rw [HMM.out, s2, r2]; rfl)
            unfold klt at s1 s2 r1 r2
            clear HMM
            have HNX := Lib.hid (show overL (l.take (i + 1)) f g = overL (l.take i) f g ++ [x] from by rw [over_snoc HLT.out, ← HXX.out, if_pos HMT.out])
            go_wp2_with (at_builtin; refine wpList_append1 rfl (.tmp 42) (.tmp 44) TS rfl w.heap.size TE _ 8 80 Tryd.underlying25 infoE rfl (by decide) _ m _ (encC x) rfl HA.out _ 1 (by rw [World.size_alloc]; rfl) rfl rfl (encC_one1 x) (by omega) (by decide) HBA.out.size w.heap.size w HBA.out (Nat.le_refl _) ?_; intro v6 w6 ho hgr hb6 hsz6; have HO6 := Lib.hid ho; have HB6 := Lib.hid hb6; obtain ⟨o6, c6, hv6⟩ := owns_slice1 ho; subst hv6; clear ho hgr hb6 hsz6)
            go_roundw
            case rel => exact ⟨i + 1, hlt, by first | rfl | (congr 1), by rw [HNX.out, List.length_append, ← HM.out, List.flatMap_append]; have := HO6.out; simpa using this, HB6.out⟩
            case measure => simp [intOf]; omega
          · have HMT := Lib.hid (show meetsT x f g = false from by rw [HMM.out, s2, r2]; rfl)
            unfold klt at s1 s2 r1 r2
            clear HMM
            have HNX := Lib.hid (show overL (l.take (i + 1)) f g = overL (l.take i) f g from by rw [over_snoc HLT.out, ← HXX.out, if_neg (by rw [HMT.out]; simp), List.append_nil])
            go_wp2_with fail
            go_roundw
            case rel => exact ⟨i + 1, hlt, by first | rfl | (congr 1), by rw [HNX.out, ← HM.out]; exact HA.out, HBA.out⟩
            case measure => simp [intOf]; omega
        · skip
          rcases klt_three f x.2.2.2.2.2.1 with ⟨r1, r2, r3⟩ | ⟨r1, r2, r3⟩ | ⟨r1, r2, r3⟩
          · have HMT := Lib.hid (show meetsT x f g = true from by rw [HMM.out, s2, r2]; rfl)
            unfold klt at s1 s2 r1 r2
            clear HMM
            have HNX := Lib.hid (show overL (l.take (i + 1)) f g = overL (l.take i) f g ++ [x] from by rw [over_snoc HLT.out, ← HXX.out, if_pos HMT.out])
            go_wp2_with (at_builtin; refine wpList_append1 rfl (.tmp 42) (.tmp 44) TS rfl w.heap.size TE _ 8 80 Tryd.underlying25 infoE rfl (by decide) _ m _ (encC x) rfl HA.out _ 1 (by rw [World.size_alloc]; rfl) rfl rfl (encC_one1 x) (by omega) (by decide) HBA.out.size w.heap.size w HBA.out (Nat.le_refl _) ?_; intro v6 w6 ho hgr hb6 hsz6; have HO6 := Lib.hid ho; have HB6 := Lib.hid hb6; obtain ⟨o6, c6, hv6⟩ := owns_slice1 ho; subst hv6; clear ho hgr hb6 hsz6)
            go_roundw
            case rel => exact ⟨i + 1, hlt, by first | rfl | (congr 1), by rw [HNX.out, List.length_append, ← HM.out, List.flatMap_append]; have := HO6.out; simpa using this, HB6.out⟩
            case measure => simp [intOf]; omega
          · have HMT := Lib.hid (show meetsT x f g = true from by rw [HMM.out, s2, r2]; rfl)
            unfold klt at s1 s2 r1 r2
            clear HMM
            have HNX := Lib.hid (show overL (l.take (i + 1)) f g = overL (l.take i) f g ++ [x] from by rw [over_snoc HLT.out, ← HXX.out, if_pos HMT.out])
            go_wp2_with (at_builtin; refine wpList_append1 rfl (.tmp 42) (.tmp 44) TS rfl w.heap.size TE _ 8 80 Tryd.underlying25 infoE rfl (by decide) _ m _ (encC x) rfl HA.out _ 1 (by rw [World.size_alloc]; rfl) rfl rfl (encC_one1 x) (by omega) (by decide) HBA.out.size w.heap.size w HBA.out (Nat.le_refl _) ?_; intro v6 w6 ho hgr hb6 hsz6; have HO6 := Lib.hid ho; have HB6 := Lib.hid hb6; obtain ⟨o6, c6, hv6⟩ := owns_slice1 ho; subst hv6; clear ho hgr hb6 hsz6)
            go_roundw
            case rel => exact ⟨i + 1, hlt, by first | rfl | (congr 1), by rw [HNX.out, List.length_append, ← HM.out, List.flatMap_append]; have := HO6.out; simpa using this, HB6.out⟩
            case measure => simp [intOf]; omega
          · have HMT := Lib.hid (show meetsT x f g = false from by rw [HMM.out, s2, r2]; rfl)
            unfold klt at s1 s2 r1 r2
            clear HMM
            have HNX := Lib.hid (show overL (l.take (i + 1)) f g = overL (l.take i) f g from by rw [over_snoc HLT.out, ← HXX.out, if_neg (by rw [HMT.out]; simp), List.append_nil])
            go_wp2_with fail
            go_roundw
            case rel => exact ⟨i + 1, hlt, by first | rfl | (congr 1), by rw [HNX.out, ← HM.out]; exact HA.out, HBA.out⟩
            case measure => simp [intOf]; omega
        · have HMT := Lib.hid (show meetsT x f g = false from by rw [HMM.out, s2]; rfl)
          unfold klt at s1 s2
          clear HMM
          have HNX := Lib.hid (show overL (l.take (i + 1)) f g = overL (l.take i) f g from by rw [over_snoc HLT.out, ← HXX.out, if_neg (by rw [HMT.out]; simp), List.append_nil])
          go_wp2_with fail
          go_roundw
          case rel => exact ⟨i + 1, hlt, by first | rfl | (congr 1), by rw [HNX.out, ← HM.out]; exact HA.out, HBA.out⟩
          case measure => simp [intOf]; omega
      · have hil : i = l.length := by omega
        subst hil
        have i1 : ¬ (l.length : Int) < (l.length : Int) := by omega
        clear ho hb
        go_wp2_with fail
        go_ret
        exact ⟨_, rfl, by have := HO.out; rw [List.take_length] at this HM; rw [← HM.out]; exact this, HB.out⟩
  · have HO := Lib.hid (over_nil (l := l) hfg)
    have hff : klt f g = false ∧ (f.toList == g.toList) = false := by
      rcases HTH.out with ⟨h1, h2, h3⟩ | ⟨h1, h2, h3⟩ | ⟨h1, h2, h3⟩
      · rw [hfg] at h2; cases h2
      · rw [hfg] at h2; cases h2
      · exact ⟨h1, h3⟩
    obtain ⟨g1, g2⟩ := hff
    unfold klt at hfg g1
    go_enter Tryd.func15, Tryd.ntmps15
    go_wp2_with fail
    go_ret
    exact ⟨_, rfl, by rw [HO.out]; exact World.ownsRow_nil _ _ _ _, HBW.out⟩
end Go.Proofs.Tryd.Vr

/- Find, Edit, New. -/
set_option linter.unusedVariables false
set_option linter.unusedSimpArgs false
set_option maxRecDepth 100000
namespace Go.Proofs.Tryd.Vr
open Go.RowKit Go.Cph Go.Cph.Skip Go.Cph.So Go.Cph.Ve
open Go.Proofs.Tryd.Sq (row_kept1 grown_below grown_set encU encU_len TU TUs infoU)

def findTo (lv : Nat → List Tb) (s : ByteArray) (i : Nat) : List Tb := (List.range i).flatMap fun k => overL (lv k) s s
theorem findTo_next (lv : Nat → List Tb) (s : ByteArray) (i : Nat) : findTo lv s (i + 1) = findTo lv s i ++ overL (lv i) s s := by
  unfold findTo
  rw [List.range_succ, List.flatMap_append]
  simp
theorem findTo_four (lv : Nat → List Tb) (s : ByteArray) : findTo lv s 4 = findL lv s := (findL_eq lv s).symm
theorem over_le (l : List Tb) (f g : ByteArray) : (overL l f g).length ≤ l.length := List.length_filter_le _ _
theorem findTo_le (lv : Nat → List Tb) (s : ByteArray) (h : ∀ k, k < 4 → (lv k).length ≤ 1000000) : ∀ i, i ≤ 4 → (findTo lv s i).length ≤ i * 1000000
  | 0, _ => Nat.le_refl _
  | i + 1, hi => by
    have h1 := findTo_le lv s h i (by omega)
    have h2 := over_le (lv i) s s
    have h3 := h i (by omega)
    rw [findTo_next, List.length_append]
    omega

set_option maxHeartbeats 8000000 in
theorem find_any (v : Vn) (lv : Nat → List Tb) (s : ByteArray) (w : World) (h : VerAt w v lv) (hn : ∀ k, k < 4 → (lv k).length ≤ 1000000) :
    Calls Tryd.prog 17 #[encV v, .string s] w (NewRow w (findL lv s)) := by
  have HV := Lib.hid h
  have HN := Lib.hid hn
  have HX0 := Lib.hid (heap_alloc_new w (boxV v))
  have HB0 := Lib.hid (below_of_alloc (w := w) (boxV v))
  clear h hn
  go_enter Tryd.func17, Tryd.ntmps17
  go_wp2_with fail
  go_loopw [5, 7] (fun vo vi W => ∃ i : Nat, i ≤ 4 ∧ vi = .int .i64 (i : Int) ∧ W.ownsRow (w.heap.size + 1) TE 8 vo (findTo lv s i).length ((findTo lv s i).flatMap encC) ∧ Below w.heap.size w W ∧ W.heap[w.heap.size]? = some (boxV v)) (fun _ vi _ => 4 - (intOf vi).toNat)
  case atStart => exact ⟨0, by omega, rfl, World.ownsRow_nil _ _ _ _, HB0.out, HX0.out⟩
  case round =>
    obtain ⟨i, hi, rfl, ho, hb, hx⟩ := hrel
    have HO := Lib.hid ho
    have HB := Lib.hid hb
    have HX := Lib.hid hx
    obtain ⟨o1, q1, hv1⟩ := owns_slice1 ho
    subst hv1
    by_cases hlt : i < 4
    · have HI := Lib.hid hlt
      have j1 : (i : Int) < 4 := by omega
      have j4 : IntKind.i64.wrap ((i : Int) + 1) = (i : Int) + 1 := by rw [IntKind.wrap_i64]; omega
      have d0 : wr.cell? ⟨w.heap.size, 0, none⟩ = some v.s0 := by rw [blk_cell hx]; rfl
      have d1 : wr.cell? ⟨w.heap.size, 1, none⟩ = some v.s1 := by rw [blk_cell hx]; rfl
      have d2 : wr.cell? ⟨w.heap.size, 2, none⟩ = some v.s2 := by rw [blk_cell hx]; rfl
      have d3 : wr.cell? ⟨w.heap.size, 3, none⟩ = some v.s3 := by rw [blk_cell hx]; rfl
      have d4 : wr.cell? ⟨w.heap.size, 4, none⟩ = some (.int .u64 (v.log.toNat : Int)) := by rw [blk_cell hx]; rfl
      have d5 : wr.cell? ⟨w.heap.size, 5, none⟩ = some (.int .u64 (v.seq.toNat : Int)) := by rw [blk_cell hx]; rfl
      have d6 : wr.cell? ⟨w.heap.size, 6, none⟩ = some (.int .u64 (v.nxt.toNat : Int)) := by rw [blk_cell hx]; rfl
      have HC := Lib.hid (over_any i v lv s s wr (HV.out.kept hb) hlt (HN.out i hlt))
      have hle := findTo_le lv s HN.out i (by omega)
      obtain ⟨m, hm⟩ : ∃ m, m = (findTo lv s i).length := ⟨_, rfl⟩
      rw [← hm] at ho hle ⊢
      have HM := Lib.hid hm
      have HO1 := Lib.hid ho
      have hle2 := over_le (lv i) s s
      have hle3 := HN.out i hlt
      obtain ⟨m2, hm2⟩ : ∃ m, m = (overL (lv i) s s).length := ⟨_, rfl⟩
      rw [← hm2] at hle2
      have HM2 := Lib.hid hm2
      have HLE := Lib.hid (show m + m2 ≤ 1099511627776 from by omega)
      clear ho hb hx hm hm2 HO hle hle2 hle3
      go_wp2_with (first | (go_at_call 15; refine HC.out.mono ?_; rintro e w2 ⟨x2, rfl, ho2, hb2⟩; obtain ⟨o2, q2, hv2⟩ := owns_slice1 ho2; subst hv2; rw [← HM2.out] at ho2 ⊢; have HO2 := Lib.hid ho2; have HB2 := Lib.hid (below_step HB.out hb2 HB.out.size); have HK2 := Lib.hid hb2; have HOK := Lib.hid (row_kept1 HO1.out (fun p hp => hb2.block p (HO1.out.lt p hp).2)); clear ho2 hb2) | (at_builtin; refine wpList_append_seg rfl (.tmp 10) (.tmp 15) TS rfl (w.heap.size + 1) TE _ 8 80 Tryd.underlying25 infoE rfl (by decide) _ m _ rfl HOK.out _ m2 _ rfl (Seg.of_owns HO2.out) encC_one HLE.out (by decide) (Nat.le_trans (blk_lt HX.out) HK2.out.size) ?_; intro v6 w6 ho6 hg6 hw6; have HO6 := Lib.hid ho6; have HB6 := Lib.hid (below_grown HB2.out hg6 HOK.out (Nat.le_succ _) HB2.out.size); have HX6 := Lib.hid (show w6.heap[w.heap.size]? = some (boxV v) from (hg6.block w.heap.size (Nat.lt_of_lt_of_le (blk_lt HX.out) HK2.out.size) (fun e => by have := (HOK.out.lt _ e.symm).1; omega)).trans (blk_kept HK2.out HX.out)); obtain ⟨o6, q6, hv6⟩ := owns_slice1 ho6; subst hv6; clear ho6 hg6 hw6))
      go_roundw
      case rel => exact ⟨i + 1, by omega, by first | rfl | (congr 1), by rw [findTo_next, List.length_append, ← HM.out, ← HM2.out, List.flatMap_append]; exact HO6.out, HB6.out, HX6.out⟩
      case measure => simp [intOf]; omega
    · have hi4 : i = 4 := by omega
      subst hi4
      have j1 : ¬ (4 : Int) < 4 := by omega
      clear ho hb hx
      go_wp2_with fail
      go_ret
      exact ⟨_, rfl, by rw [← findTo_four]; exact owns_mono HO.out (Nat.le_succ _), HB.out⟩
def nVn : Vn := ⟨.slice none 0 0, .slice none 0 0, .slice none 0 0, .slice none 0 0, 0, 0, 1⟩
abbrev boxN : Obj := .cells #[.slice none 0 0, .slice none 0 0, .slice none 0 0, .slice none 0 0, .int .u64 0, .int .u64 0, .int .u64 1] TVn (0, 0)

set_option maxHeartbeats 4000000 in
theorem new_any (w : World) : Calls Tryd.prog 8 #[] w fun e w' => e = .returned (encV nVn) ∧ Below w.heap.size w w' := by
  have HB := Lib.hid (below_of_alloc (w := w) boxN)
  have HP := Lib.hid (heap_alloc_new w boxN)
  go_enter Tryd.func8, Tryd.ntmps8
  go_wp2_with fail
  exact bodyPost_ret (v := encV nVn) (results_cell_row Tryd.results8 _ _ w.heap.size TVn _ (0, 0) _ rfl HP.out Tryd.underlying29 rfl (by kernel_rfl)) rfl ⟨rfl, HB.out⟩
end Go.Proofs.Tryd.Vr
