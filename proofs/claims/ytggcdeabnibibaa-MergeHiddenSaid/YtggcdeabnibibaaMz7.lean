/- MergeHidden: the walk. -/
import Derived.Test.YtggcdeabnibibaaMp7
import Derived.Test.YtggcdeabnibibaaMz5
set_option linter.unusedVariables false
set_option linter.unusedSimpArgs false
namespace Go.Proofs.Try.Mg
open Go.RowKit Go.Cph Go.Cph.Skip Go.Cph.So

def newL (l : List Ent) : UInt64 := l.foldl (fun n x => if n < x.2.2.1 then x.2.2.1 else n) 0
theorem newL_snoc (l : List Ent) (x : Ent) {m : Nat} (h : l[m]? = some x) : newL (l.take (m + 1)) = if newL (l.take m) < x.2.2.1 then x.2.2.1 else newL (l.take m) := by
  have hm : m < l.length := by
    refine Nat.lt_of_not_le fun h' => ?_
    rw [List.getElem?_eq_none h'] at h; cases h
  rw [List.getElem?_eq_getElem hm] at h
  injection h with h
  unfold newL
  rw [List.take_succ_eq_append_getElem hm, List.foldl_append, h]; rfl
theorem newL_ge (l : List Ent) : ∀ n : UInt64, n ≤ l.foldl (fun n x => if n < x.2.2.1 then x.2.2.1 else n) n ∧ ∀ x ∈ l, x.2.2.1 ≤ l.foldl (fun n x => if n < x.2.2.1 then x.2.2.1 else n) n := by
  induction l with
  | nil => exact fun n => ⟨UInt64.le_refl _, fun x hx => by cases hx⟩
  | cons a l ih =>
    intro n
    rw [List.foldl_cons]
    have h := ih (if n < a.2.2.1 then a.2.2.1 else n)
    have h2 : n ≤ (if n < a.2.2.1 then a.2.2.1 else n) ∧ a.2.2.1 ≤ (if n < a.2.2.1 then a.2.2.1 else n) := by
      split
      · rename_i h3; exact ⟨UInt64.le_of_lt h3, UInt64.le_refl _⟩
      · rename_i h3; exact ⟨UInt64.le_refl _, UInt64.not_lt.1 h3⟩
    refine ⟨UInt64.le_trans h2.1 h.1, fun x hx => ?_⟩
    rcases List.mem_cons.1 hx with rfl | hx
    · exact UInt64.le_trans h2.2 h.1
    · exact h.2 x hx
set_option maxRecDepth 100000 in
set_option maxHeartbeats 8000000 in
theorem newest_any (v : Value) (l : List Ent) (w : World) (h : EntsAt w v l) (hn : l.length ≤ 100000) :
    Calls Try.prog 25 #[v] w fun e w' => e = .returned (.int .u64 ((newL l).toNat : Int)) ∧ Below w.heap.size w w' := by
  obtain ⟨ao, cap, hv⟩ := elems_slice h
  subst hv
  have HV := Lib.hid h
  clear h
  go_enter Try.func25, Try.ntmps25
  go_wp2_with fail
  go_loopw [3, 4] (fun vn vi W => ∃ (i : Nat) (n : UInt64), i ≤ l.length ∧ vi = .int .i64 i ∧ vn = .int .u64 (n.toNat : Int) ∧ n = newL (l.take i) ∧ Below w.heap.size w W) (fun _ vi _ => l.length - (intOf vi).toNat)
  case atStart => exact ⟨0, 0, Nat.zero_le _, rfl, rfl, rfl, Below.refl _ _⟩
  case round =>
    obtain ⟨i, n, hi, rfl, rfl, hnn, hbel⟩ := hrel
    have HNN := Lib.hid hnn
    have HBE := Lib.hid hbel
    by_cases hlt : i < l.length
    · obtain ⟨x, hx⟩ : ∃ x, l[i]? = some x := ⟨_, List.getElem?_eq_getElem hlt⟩
      have HX := Lib.hid hx
      obtain ⟨b, off, cap', hve, hcs⟩ := ents_cells (HV.out.kept hbel) (by omega)
      injection hve with hx1 hx2 hx3
      subst hx1
      clear hx2 hx3
      have hcx := hcs i hlt
      rw [show l[i] = x from Option.some.inj ((List.getElem?_eq_getElem hlt).symm.trans hx)] at hcx
      have d2 := hcx.c2
      have k1 : (0 : Int) ≤ (i : Int) := by omega
      have k2 : (i : Int) < (l.length : Int) := by omega
      have k4 : IntKind.i64.wrap ((i : Int) + 1) = (i : Int) + 1 := by rw [IntKind.wrap_i64]; omega
      clear hbel hcs hcx hx hnn
      by_cases hm : n < x.2.2.1
      · have m0 : (n.toNat : Int) < (x.2.2.1.toNat : Int) := by have := UInt64.lt_iff_toNat_lt.1 hm; omega
        have m1 : n.toNat < x.2.2.1.toNat := by have := UInt64.lt_iff_toNat_lt.1 hm; omega
        have HNX := Lib.hid (show x.2.2.1 = newL (l.take (i + 1)) by rw [newL_snoc l x HX.out, ← HNN.out, if_pos hm])
        clear hm
        go_wp2_with fail
        go_roundw
        case rel => exact ⟨i + 1, x.2.2.1, hlt, by go_num, rfl, HNX.out, HBE.out⟩
        case measure => simp [intOf]; omega
      · have m0 : ¬ (n.toNat : Int) < (x.2.2.1.toNat : Int) := fun h => hm (UInt64.lt_iff_toNat_lt.2 (by omega))
        have m1 : ¬ n.toNat < x.2.2.1.toNat := fun h => hm (UInt64.lt_iff_toNat_lt.2 (by omega))
        have HNX := Lib.hid (show n = newL (l.take (i + 1)) by rw [newL_snoc l x HX.out, ← HNN.out, if_neg hm])
        clear hm
        go_wp2_with fail
        go_roundw
        case rel => exact ⟨i + 1, n, hlt, by go_num, rfl, HNX.out, HBE.out⟩
        case measure => simp [intOf]; omega
    · have hnl : n = newL l := by rw [hnn, List.take_of_length_le (by omega)]
      subst hnl
      clear hbel hnn
      go_wp2_with fail
      go_ret
      exact ⟨rfl, HBE.out⟩
/-! ### the walk -/
theorem wpList_append1b {P : Program} {ops : Array Oper} {rest : List Oper} {o : Oper} {a : Act} {W : World} {Q : Exit → Act → World → Prop} (hgd : o.guard = none) (s x : Operand) (t : TypeId)
    (ho : o.op = .call { callee := .builtin .append, args := #[s, x], argTypes := #[t, t] })
    (base : Nat) (e : TypeId) (z : Value) (size bytes : Nat) (ht : P.underlying t = some (.slice e)) (hinfo : (P.info? e).map (fun i => (i.zero, i.size, i.bytes)) = some (some z, size, bytes))
    (hzs : z.cells.size = size) (hsz : 0 < size) (v : Value) (n : Nat) (xs us : List Value) (hs : a.eval s = v) (hown : W.ownsRow base e size v n xs)
    (cells : Array Value) (c : Nat) (hx : a.eval x = .slice (some ⟨W.heap.size, 0, none⟩) 1 c) (hcells : cells.toList = us) (hus : us.length = size) (h1 : ∀ u ∈ us, u.oneCell' = true)
    (h63 : n + 1 ≤ 1099511627776) (hbytes : bytes ≤ 128) (hbase : base ≤ W.heap.size)
    (h : ∀ v' w', w'.ownsRow base e size v' (n + 1) (xs ++ us) → (W.alloc (.cells cells e)).grownBy w' v.ownBlock → (v'.ownBlock = v.ownBlock ∨ v'.ownBlock = some (W.heap.size + 1)) → wpList P ops Q rest (a.put o.dst v') w') :
    wpList P ops Q (o :: rest) a (W.alloc (.cells cells e)) := by
  have hsize : (W.alloc (.cells cells e)).heap.size = W.heap.size + 1 := by show (W.heap.push _).size = _; rw [Array.size_push]
  refine wpList_append_seg hgd s x t ho base e z size bytes ht hinfo hzs hsz v n xs hs (hown.alloc _) _ 1 us hx ⟨⟨_, _, rfl, fun _ => ⟨W.heap.size, 0, rfl, fun j hj => ?_⟩⟩, by rw [hus, Nat.one_mul]⟩ h1 h63 hbytes (by rw [hsize]; omega) fun v' w' h2 h3 h4 => h v' w' h2 h3 (by rw [hsize] at h4; exact h4)
  rw [Nat.zero_add, blk_cell (heap_alloc_new W _), ← hcells]
  simp
/-- The younger and the older ones, in two rows that lie apart. -/
structure YO (w1 : World) (vy : Value) (ly : List Ent) (vo : Value) (lo : List Ent) (W : World) : Prop where
  ony : W.ownsRow w1.heap.size TE 4 vy ly.length (ly.flatMap encC)
  ono : W.ownsRow w1.heap.size TE 4 vo lo.length (lo.flatMap encC)
  apart : ∀ k, vy.ownBlock = some k → vo.ownBlock ≠ some k
  bel : Below w1.heap.size w1 W
section
variable {w1 W W' : World} {vy vo v' : Value} {ly lo : List Ent} {x : Ent} {obj : Obj}
theorem YO.addY (h : YO w1 vy ly vo lo W) (ho : W'.ownsRow w1.heap.size TE 4 v' (ly.length + 1) (ly.flatMap encC ++ encC x)) (hg : (W.alloc obj).grownBy W' vy.ownBlock) (hv : v'.ownBlock = vy.ownBlock ∨ v'.ownBlock = some (W.heap.size + 1)) : YO w1 v' (ly ++ [x]) vo lo W' := by
  have hsize : (W.alloc obj).heap.size = W.heap.size + 1 := by show (W.heap.push _).size = _; rw [Array.size_push]
  refine ⟨by rw [List.length_append, List.flatMap_append]; simpa using ho, row_kept1 (h.ono.alloc obj) fun k hk => hg.block k ?_ ?_, fun k hk => ?_, below_grown (h.bel.alloc h.bel.size obj) hg (h.ony.alloc obj) (Nat.le_refl _) (by rw [hsize]; have := h.bel.size; omega)⟩
  · have := (h.ono.lt k hk).2; rw [hsize]; omega
  · intro e; exact h.apart k e.symm hk
  · rcases hv with e | e
    · rw [e] at hk; exact h.apart k hk
    · rw [e] at hk
      intro h2
      have := (h.ono.lt k h2).2
      injection hk with hk
      omega
theorem YO.addO (h : YO w1 vy ly vo lo W) (ho : W'.ownsRow w1.heap.size TE 4 v' (lo.length + 1) (lo.flatMap encC ++ encC x)) (hg : (W.alloc obj).grownBy W' vo.ownBlock) (hv : v'.ownBlock = vo.ownBlock ∨ v'.ownBlock = some (W.heap.size + 1)) : YO w1 vy ly v' (lo ++ [x]) W' := by
  have hsize : (W.alloc obj).heap.size = W.heap.size + 1 := by show (W.heap.push _).size = _; rw [Array.size_push]
  refine ⟨row_kept1 (h.ony.alloc obj) fun k hk => hg.block k ?_ ?_, by rw [List.length_append, List.flatMap_append]; simpa using ho, fun k hk => ?_, below_grown (h.bel.alloc h.bel.size obj) hg (h.ono.alloc obj) (Nat.le_refl _) (by rw [hsize]; have := h.bel.size; omega)⟩
  · have := (h.ony.lt k hk).2; rw [hsize]; omega
  · intro e; exact h.apart k hk e.symm
  · rcases hv with e | e
    · rw [e]; exact h.apart k hk
    · rw [e]
      intro h2
      have := (h.ony.lt k hk).2
      injection h2 with h2
      omega
end
theorem young_snoc (part : UInt64) (l : List Ent) {x : Ent} {i : Nat} (h : l[i]? = some x) : youngL part (l.take (i + 1)) = youngL part (l.take i) ++ (if x.2.2.1 < part then [] else [x]) := by
  have hm : i < l.length := by
    refine Nat.lt_of_not_le fun h' => ?_
    rw [List.getElem?_eq_none h'] at h; cases h
  rw [List.getElem?_eq_getElem hm] at h
  injection h with h
  unfold youngL
  rw [List.take_succ_eq_append_getElem hm, List.filter_append, h]
  by_cases hp : x.2.2.1 < part <;> simp [hp]
theorem old_snoc (part : UInt64) (l : List Ent) {x : Ent} {i : Nat} (h : l[i]? = some x) : oldL part (l.take (i + 1)) = oldL part (l.take i) ++ (if x.2.2.1 < part then [x] else []) := by
  have hm : i < l.length := by
    refine Nat.lt_of_not_le fun h' => ?_
    rw [List.getElem?_eq_none h'] at h; cases h
  rw [List.getElem?_eq_getElem hm] at h
  injection h with h
  unfold oldL
  rw [List.take_succ_eq_append_getElem hm, List.filter_append, h]
  by_cases hp : x.2.2.1 < part <;> simp [hp]
theorem lists_two {w : World} {b c : Nat} {u v : Value} {l m : List Ent} {E : TypeId} {fr : Nat × Nat} (hb : w.heap[b]? = some (.cells #[u, v] E fr)) (h1 : EntsAt w u l) (h2 : EntsAt w v m) : EntsOf w (.slice (some ⟨b, 0, none⟩) 2 c) [l, m] :=
  lists_block hb rfl (fun j h k => by
    match j, h, k with
    | 0, _, _ => exact h1
    | 1, _, _ => exact h2
    | n + 2, h, _ => exact absurd h (by simp)) 2 c rfl
/-- The numbers at which is asked. -/
theorem all_good {l : List Ent} {snaps : List UInt64} {mx : UInt64} (h : newL l ≤ mx) : ∀ a ∈ snaps ++ [mx, newL l], Good l snaps a := by
  intro a ha
  have hg := (newL_ge l 0).2
  rcases List.mem_append.1 ha with h1 | h1
  · exact Or.inl h1
  · refine Or.inr fun x hx => ?_
    have h2 : x.2.2.1 ≤ newL l := hg x hx
    rcases List.mem_cons.1 h1 with rfl | h1
    · exact UInt64.le_trans h2 h
    · rcases List.mem_cons.1 h1 with rfl | h1
      · exact h2
      · cases h1
theorem seen_le {s : List Ent} (hs : Strict ltE s) (a : UInt64) : (seenL s a).length ≤ s.length := by
  rw [← docSeen_all hs]; exact docSeen_le _ _ _
set_option maxRecDepth 100000 in
set_option maxHeartbeats 16000000 in
theorem hidden_walk (ao : Option Addr) (cap : Nat) (l : List Ent) (part at_ : UInt64) (no : Option Addr) (ncap : Nat) (snaps : List UInt64) (w : World) (h : EntsAt w (.slice ao l.length cap) l) (hls : ∀ a ∈ l, SizesOK a) (hcap : l.length ≤ cap) (hcm : cap ≤ 9223372036854775807) (hnum : NumsAt w (.slice no snaps.length ncap) snaps) (hnl : snaps.length ≤ 9223372036854775807) :
    Calls Try.prog 7 #[.slice ao l.length cap, .int .u64 (part.toNat : Int), .slice no snaps.length ncap, .int .u64 (at_.toNat : Int)] w (AwPost w) := by
  have hb0 : Below w.heap.size w (w.alloc (.cells #[.slice ao l.length cap] TS)) := (Below.refl _ _).alloc (Nat.le_refl _) _
  have HG := Lib.hid (great_any 1 _ [l] _ (Lists.one (c := 1) (heap_alloc_new w (.cells #[.slice ao l.length cap] TS)) (h.kept hb0)) (by omega) (by simp) (fun k hk => by simp at hk; subst hk; unfold maxLen; omega) (fun k hk e he => by simp at hk; subst hk; exact hls e he))
  have HB0 := Lib.hid hb0
  have HV := Lib.hid h
  have HN := Lib.hid hnum
  clear h hls hb0 hnum
  go_enter Try.func7, Try.ntmps7
  go_wp2_with fail
  refine HG.out.mono ?_
  rintro e w1 ⟨r, rfl, hr, hb⟩
  have HB1 := Lib.hid (below_step HB0.out hb HB0.out.size)
  have HSM := Lib.hid hr
  clear hb hr HG
  cases r
  · by_cases hsn : snaps.length ≤ 10
    · have HSS := Lib.hid (HSM.out rfl)
      have hl60 : l.length ≤ 60 := HSS.out.each l (by simp)
      have HV1 := Lib.hid (HV.out.kept HB1.out)
      have HN1 := Lib.hid (HN.out.kept HB1.out)
      clear HSM HV HN HSS
      have k0 : ¬ (10 : Int) < (snaps.length : Int) := by omega
      go_wp2_with fail
      go_loopw [9, 10, 11] (fun vy vo vi W => ∃ i : Nat, i ≤ l.length ∧ vi = .int .i64 i ∧ YO w1 vy (youngL part (l.take i)) vo (oldL part (l.take i)) W) (fun _ _ vi _ => l.length - (intOf vi).toNat)
      case atStart => exact ⟨0, Nat.zero_le _, rfl, ⟨World.ownsRow_nil _ _ _ _, World.ownsRow_nil _ _ _ _, fun k hk => (by cases hk), Below.refl _ _⟩⟩
      case round =>
        obtain ⟨i, hi, rfl, hyo⟩ := hrel
        obtain ⟨ly, hly⟩ : ∃ ly, ly = youngL part (l.take i) := ⟨_, rfl⟩
        obtain ⟨lo, hlo⟩ : ∃ lo, lo = oldL part (l.take i) := ⟨_, rfl⟩
        have hyl : ly.length ≤ 60 := by rw [hly]; exact Nat.le_trans (List.length_filter_le _ _) (by rw [List.length_take]; omega)
        have hol : lo.length ≤ 60 := by rw [hlo]; exact Nat.le_trans (List.length_filter_le _ _) (by rw [List.length_take]; omega)
        rw [← hly, ← hlo] at hyo
        have HYO := Lib.hid hyo
        have HLY := Lib.hid hly
        have HLO := Lib.hid hlo
        by_cases hlt : i < l.length
        · obtain ⟨x, hx⟩ : ∃ x, l[i]? = some x := ⟨_, List.getElem?_eq_getElem hlt⟩
          have HNY := Lib.hid (young_snoc part l hx)
          have HNO := Lib.hid (old_snoc part l hx)
          obtain ⟨b, off, cap', hve, hcs⟩ := ents_cells (HV1.out.kept hyo.bel) (by omega)
          injection hve with hx1 hx2 hx3
          subst hx1
          clear hx2 hx3
          have hcx := hcs i hlt
          rw [show l[i] = x from Option.some.inj ((List.getElem?_eq_getElem hlt).symm.trans hx)] at hcx
          have d0 := hcx.c0
          have d1 := hcx.c1
          have d2 := hcx.c2
          have d3 := hcx.c3
          have HZ := Lib.hid hyo.bel.size
          have HL9 := Lib.hid (show ly.length + 1 ≤ 1099511627776 by omega)
          have HL8 := Lib.hid (show lo.length + 1 ≤ 1099511627776 by omega)
          have k1 : (0 : Int) ≤ (i : Int) := by omega
          have k2 : (i : Int) < (l.length : Int) := by omega
          have k4 : IntKind.i64.wrap ((i : Int) + 1) = (i : Int) + 1 := by rw [IntKind.wrap_i64]; omega
          clear hyo hly hlo hcs hcx hx
          by_cases hp : x.2.2.1 < part
          · have p0 : (x.2.2.1.toNat : Int) < (part.toNat : Int) := by have := UInt64.lt_iff_toNat_lt.1 hp; omega
            have p1 : x.2.2.1.toNat < part.toNat := by have := UInt64.lt_iff_toNat_lt.1 hp; omega
            have HPP := Lib.hid hp
            clear hp
            go_wp2_with (at_builtin; refine wpList_append1b rfl (.tmp 40) (.tmp 45) 25 rfl w1.heap.size TE _ 4 48 Try.underlying25 infoE rfl (by decide) _ lo.length _ (encC x) rfl HYO.out.ono _ 1 rfl rfl rfl (encC_one1 x) HL8.out (by decide) HZ.out ?_; intro v5 w5 ho5 hgr5 hv5; have HY5 := Lib.hid (HYO.out.addO (x := x) ho5 hgr5 hv5); clear ho5 hgr5 hv5 d0 d1 d2 d3)
            go_roundw
            case rel => exact ⟨i + 1, hlt, by go_num, by rw [HNY.out, HNO.out, if_pos HPP.out, if_pos HPP.out, List.append_nil, ← HLY.out, ← HLO.out]; exact HY5.out⟩
            case measure => simp [intOf]; omega
          · have p0 : ¬ (x.2.2.1.toNat : Int) < (part.toNat : Int) := fun h => hp (UInt64.lt_iff_toNat_lt.2 (by omega))
            have p1 : ¬ x.2.2.1.toNat < part.toNat := fun h => hp (UInt64.lt_iff_toNat_lt.2 (by omega))
            have HPP := Lib.hid hp
            clear hp
            go_wp2_with (at_builtin; refine wpList_append1b rfl (.tmp 47) (.tmp 52) 25 rfl w1.heap.size TE _ 4 48 Try.underlying25 infoE rfl (by decide) _ ly.length _ (encC x) rfl HYO.out.ony _ 1 rfl rfl rfl (encC_one1 x) HL9.out (by decide) HZ.out ?_; intro v5 w5 ho5 hgr5 hv5; have HY5 := Lib.hid (HYO.out.addY (x := x) ho5 hgr5 hv5); clear ho5 hgr5 hv5 d0 d1 d2 d3)
            go_roundw
            case rel => exact ⟨i + 1, hlt, by go_num, by rw [HNY.out, HNO.out, if_neg HPP.out, if_neg HPP.out, List.append_nil, ← HLY.out, ← HLO.out]; exact HY5.out⟩
            case measure => simp [intOf]; omega
        · rw [List.take_of_length_le (by omega)] at hly hlo
          clear HLY HLO
          have HLY := Lib.hid hly
          have HLO := Lib.hid hlo
          obtain ⟨oy, cy, hvy⟩ := owns_slice1 hyo.ony
          subst hvy
          obtain ⟨oo, co, hvo⟩ := owns_slice1 hyo.ono
          subst hvo
          have HYE := Lib.hid (show EntsAt wr (.slice oy ly.length cy) ly from Seg.of_owns hyo.ony)
          have HOE := Lib.hid (show EntsAt wr (.slice oo lo.length co) lo from Seg.of_owns hyo.ono)
          have HBR := Lib.hid (below_step HB1.out hyo.bel HB1.out.size)
          have HVR := Lib.hid (HV1.out.kept hyo.bel)
          have HNR := Lib.hid (HN1.out.kept hyo.bel)
          have HBA := Lib.hid (show Below wr.heap.size wr (wr.alloc (.cells #[.slice ao l.length cap] TS)) from (Below.refl _ _).alloc (Nat.le_refl _) _)
          have HM1 := Lib.hid (merge_any _ [l] _ (Lists.one (c := 1) (heap_alloc_new wr (.cells #[.slice ao l.length cap] TS)) (HVR.out.kept HBA.out)) (by simp) (by simpa using (by omega : l.length ≤ 1000000)))
          rw [show [l].flatten = l by simp] at HM1
          clear hyo hly hlo HV1 HN1
          go_wp2_with fail
          refine HM1.out.mono ?_
          rintro e w2 ⟨v12, rfl, ho, hb⟩
          obtain ⟨L, hL⟩ : ∃ L, L = mergeL ltE l := ⟨_, rfl⟩
          rw [← hL] at ho
          have hLs : Strict ltE L := by rw [hL]; exact mergeL_strict weakE _
          have hLl : L.length ≤ 60 := by rw [hL]; exact Nat.le_trans (mergeL_length weakE _) hl60
          obtain ⟨o12, c12, hv12⟩ := owns_slice1 ho
          subst hv12
          have hb2 := below_step HBA.out hb HBA.out.size
          have HL2 := Lib.hid (show EntsAt w2 (.slice o12 L.length c12) L from Seg.of_owns ho)
          have HV2 := Lib.hid (HVR.out.kept hb2)
          have HN2 := Lib.hid (HNR.out.kept hb2)
          have HY2 := Lib.hid (HYE.out.kept hb2)
          have HO2 := Lib.hid (HOE.out.kept hb2)
          have HB2 := Lib.hid (below_step HBR.out hb2 HBR.out.size)
          have HLS := Lib.hid hLs
          have HLE := Lib.hid hL
          clear ho hb hb2 HM1 hLs hL HBA HVR HNR HYE HOE HBR
          go_wp2_with fail
          refine (keep_any _ ly false _ snaps w2 HY2.out (by omega) HN2.out (by omega)).mono ?_
          rintro e w3 ⟨v59, rfl, ho, hb⟩
          obtain ⟨ky, hky⟩ : ∃ ky, ky = keepL (mergeL ltE ly) false snaps := ⟨_, rfl⟩
          rw [← hky] at ho
          have hkl : ky.length ≤ 60 := by
            rw [hky]
            exact Nat.le_trans (keep_sub (mergeL_strict weakE _) false snaps).length_le (Nat.le_trans (mergeL_length weakE _) hyl)
          obtain ⟨o59, c59, hv59⟩ := owns_slice1 ho
          subst hv59
          have hb3 : Below w3.heap.size w3 (w3.alloc (.cells #[.slice o59 ky.length c59, .slice oo lo.length co] TS)) := (Below.refl _ _).alloc (Nat.le_refl _) _
          have HM2 := Lib.hid (merge_any _ [ky, lo] _ (lists_two (c := 2) (heap_alloc_new w3 (.cells #[.slice o59 ky.length c59, .slice oo lo.length co] TS)) ((Seg.of_owns ho).kept hb3) ((HO2.out.kept hb).kept hb3)) (by simp) (by simp; omega))
          rw [show [ky, lo].flatten = ky ++ lo by simp] at HM2
          have HBA := Lib.hid hb3
          have HB3 := Lib.hid (below_step HB2.out hb HB2.out.size)
          have HL3 := Lib.hid (HL2.out.kept hb)
          have HV3 := Lib.hid (HV2.out.kept hb)
          have HN3 := Lib.hid (HN2.out.kept hb)
          have HKE := Lib.hid hky
          clear ho hb hb3 hky HY2 HO2 HL2 HV2 HN2
          go_wp2_with fail
          refine HM2.out.mono ?_
          rintro e w4 ⟨v13, rfl, ho, hb⟩
          obtain ⟨K, hK⟩ : ∃ K, K = mergeL ltE (ky ++ lo) := ⟨_, rfl⟩
          rw [← hK] at ho
          have hKs : Strict ltE K := by rw [hK]; exact mergeL_strict weakE _
          have hKl : K.length ≤ 120 := by rw [hK]; exact Nat.le_trans (mergeL_length weakE _) (by rw [List.length_append]; omega)
          rw [HKE.out, HLY.out, HLO.out] at hK
          obtain ⟨o13, c13, hv13⟩ := owns_slice1 ho
          subst hv13
          have hb4 := below_step HBA.out hb HBA.out.size
          have HK4 := Lib.hid (show EntsAt w4 (.slice o13 K.length c13) K from Seg.of_owns ho)
          have HL4 := Lib.hid (HL3.out.kept hb4)
          have HV4 := Lib.hid (HV3.out.kept hb4)
          have HN4 := Lib.hid (HN3.out.kept hb4)
          have HB4 := Lib.hid (below_step HB3.out hb4 HB3.out.size)
          have HKS := Lib.hid hKs
          have HKK := Lib.hid hK
          clear ho hb hb4 HM2 hKs hK HBA HL3 HV3 HN3 HLY HLO HKE
          go_wp2_with fail
          refine (keep_any _ l true _ snaps w4 HV4.out (by omega) HN4.out (by omega)).mono ?_
          rintro e w5 ⟨v14, rfl, ho, hb⟩
          rw [← HLE.out] at ho
          obtain ⟨M, hM⟩ : ∃ M, M = keepL L true snaps := ⟨_, rfl⟩
          rw [← hM] at ho
          have hMs : Strict ltE M := by rw [hM]; exact keep_strict HLS.out true snaps
          have hMl : M.length ≤ 60 := by rw [hM]; exact Nat.le_trans (keep_sub HLS.out true snaps).length_le hLl
          obtain ⟨o14, c14, hv14⟩ := owns_slice1 ho
          subst hv14
          have HM5 := Lib.hid (show EntsAt w5 (.slice o14 M.length c14) M from Seg.of_owns ho)
          have HK5 := Lib.hid (HK4.out.kept hb)
          have HL5 := Lib.hid (HL4.out.kept hb)
          have HV5 := Lib.hid (HV4.out.kept hb)
          have HN5 := Lib.hid (HN4.out.kept hb)
          have HB5 := Lib.hid (below_step HB4.out hb HB4.out.size)
          have HMS := Lib.hid hMs
          have HMM := Lib.hid hM
          clear ho hb hMs hM HK4 HL4 HV4 HN4 HB4
          have HOE2 := Lib.hid (show (w5.alloc (.cells #[] 30)).ownsRow w5.heap.size 30 1 (.slice (some ⟨w5.heap.size, 0, none⟩) 0 0) 0 [] from owns_empty (heap_alloc_new w5 (.cells #[] 30)) (Nat.le_refl _) 1)
          have HBE2 := Lib.hid (show Below w5.heap.size w5 (w5.alloc (.cells #[] 30)) from (Below.refl _ _).alloc (Nat.le_refl _) _)
          have HZ2 := Lib.hid HBE2.out.size
          have HUE2 := Lib.hid (HN5.out.kept HBE2.out)
          have HL8 := Lib.hid (show 0 + snaps.length ≤ 1099511627776 by omega)
          go_wp2_with (at_builtin; refine wpList_append_seg rfl (.tmp 66) (.tmp 67) 34 rfl w5.heap.size 30 _ 1 8 Try.underlying34 infoU rfl (by decide) _ 0 [] rfl HOE2.out _ snaps.length (snaps.flatMap encN) rfl HUE2.out encN_one HL8.out (by decide) HZ2.out ?_; intro v68 w6 ho hgr _; have HO6 := Lib.hid (show w6.ownsRow w5.heap.size 30 1 v68 snaps.length (snaps.flatMap encN) from (by simpa using ho)); have HB6 := Lib.hid (below_grown HBE2.out hgr HOE2.out (Nat.le_refl _) HBE2.out.size); clear ho hgr; obtain ⟨o68, c68, hv68⟩ := owns_slice1 HO6.out; subst hv68)
          refine (newest_any _ l w6 (HV5.out.kept HB6.out) (by omega)).mono ?_
          rintro e w7 ⟨rfl, hb⟩
          have HB7 := Lib.hid (below_step HB6.out hb HB6.out.size)
          have HO7 := Lib.hid (row_kept1 HO6.out fun q hq => hb.block q (HO6.out.lt q hq).2)
          have HZ7 := Lib.hid hb.size
          clear hb
          obtain ⟨nw, hnw⟩ : ∃ nw, nw = newL l := ⟨_, rfl⟩
          have HNW := Lib.hid hnw
          rw [← hnw]
          have HN7 := Lib.hid (newest_any _ l w7 (HV5.out.kept HB7.out) (by omega))
          rw [← hnw] at HN7
          clear hnw
          by_cases hm : at_ < nw
          · have m0 : (at_.toNat : Int) < (nw.toNat : Int) := by have := UInt64.lt_iff_toNat_lt.1 hm; omega
            have m1 : at_.toNat < nw.toNat := by have := UInt64.lt_iff_toNat_lt.1 hm; omega
            have HGD := Lib.hid (show ∀ a ∈ snaps ++ [nw, nw], Good l snaps a from by rw [HNW.out]; exact all_good (UInt64.le_refl _))
            clear hm
            go_wp2_with fail
            refine HN7.out.mono ?_
            rintro e w8 ⟨rfl, hb⟩
            have HB8 := Lib.hid (below_step HB7.out hb HB7.out.size)
            have HO8 := Lib.hid (row_kept1 HO7.out fun q hq => hb.block q (HO7.out.lt q hq).2)
            have hbn : Below w8.heap.size w8 (w8.alloc (.cells #[.int .u64 (nw.toNat : Int), .int .u64 (nw.toNat : Int)] 30)) := (Below.refl _ _).alloc (Nat.le_refl _) _
            have HBN := Lib.hid (below_step HB8.out hbn HB8.out.size)
            have HON := Lib.hid (HO8.out.alloc (.cells #[.int .u64 (nw.toNat : Int), .int .u64 (nw.toNat : Int)] 30))
            have HSEG := Lib.hid (show Seg (w8.alloc (.cells #[.int .u64 (nw.toNat : Int), .int .u64 (nw.toNat : Int)] 30)) 1 (.slice (some ⟨w8.heap.size, 0, none⟩) 2 2) 2 [.int .u64 (nw.toNat : Int), .int .u64 (nw.toNat : Int)] from ⟨⟨_, _, rfl, fun _ => ⟨w8.heap.size, 0, rfl, fun j hj => (by rw [Nat.zero_add, blk_cell (heap_alloc_new w8 _)]; simp)⟩⟩, rfl⟩)
            have HONE := Lib.hid (show ∀ u ∈ [Value.int .u64 (nw.toNat : Int), .int .u64 (nw.toNat : Int)], u.oneCell' = true from fun u hu => (by simp only [List.mem_cons, List.not_mem_nil, or_false] at hu; rcases hu with rfl | rfl <;> rfl))
            have HL7 := Lib.hid (show snaps.length + 2 ≤ 1099511627776 by omega)
            have HZN := Lib.hid HBN.out.size
            clear hb hbn
            go_wp2_with (at_builtin; refine wpList_append_seg rfl (.tmp 68) (.tmp 75) 34 rfl w5.heap.size 30 _ 1 8 Try.underlying34 infoU rfl (by decide) _ snaps.length _ rfl HON.out _ 2 _ rfl HSEG.out HONE.out HL7.out (by decide) HZN.out ?_; intro v76 w9 ho hgr _; have HO9 := Lib.hid (show w9.ownsRow w5.heap.size 30 1 v76 (snaps ++ [nw, nw]).length ((snaps ++ [nw, nw]).flatMap encN) from (by rw [List.flatMap_append, List.length_append]; simpa using ho)); have HB9 := Lib.hid (below_grown HBN.out hgr HON.out (Nat.le_refl _) HBN.out.size); clear ho hgr)
            clear m0 m1
            obtain ⟨nums, hnums⟩ : ∃ nums, nums = snaps ++ [nw, nw] := ⟨_, rfl⟩
            have hnl2 : nums.length ≤ 12 := by rw [hnums, List.length_append]; simp; omega
            rw [← hnums] at HO9 HGD
            obtain ⟨o76, c76, hv76⟩ := owns_slice1 HO9.out
            subst hv76
            have HNA := Lib.hid (show NumsAt w9 (.slice o76 nums.length c76) nums from Seg.of_owns HO9.out)
            have HL9 := Lib.hid (HL5.out.kept HB9.out)
            have HK9 := Lib.hid (HK5.out.kept HB9.out)
            have HM9 := Lib.hid (HM5.out.kept HB9.out)
            have HV9 := Lib.hid (HV5.out.kept HB9.out)
            have HBW := Lib.hid (below_step HB5.out HB9.out HB5.out.size)
            clear hnums HO9 HB9 HON HSEG HONE HBN HO8 HB8 HL5 HK5 HM5 HV5 HN7
            go_loopw [16] (fun vj W => ∃ j : Nat, j ≤ nums.length ∧ vj = .int .i64 j ∧ Below w9.heap.size w9 W) (fun vj _ => nums.length - (intOf vj).toNat)
            case atStart => exact ⟨0, Nat.zero_le _, rfl, Below.refl _ _⟩
            case round =>
              clear hlt
              obtain ⟨j, hj, rfl, hbj⟩ := hrel
              have HBJ := Lib.hid hbj
              by_cases hjl : j < nums.length
              · obtain ⟨nb, noff, ncap', hve, hns⟩ := nums_cells (HNA.out.kept hbj) (by omega)
                injection hve with hx1 hx2 hx3
                subst hx1
                clear hx2 hx3
                have d0 := hns j hjl
                obtain ⟨a, ha⟩ : ∃ a, a = nums[j] := ⟨_, rfl⟩
                rw [← ha] at d0
                have hgd : Good l snaps a := HGD.out a (by rw [ha]; exact List.getElem_mem _)
                have HD0 := Lib.hid d0
                obtain ⟨ss, hss⟩ : ∃ ss, ss = seenL L a := ⟨_, rfl⟩
                have hsl : ss.length ≤ 60 := by rw [hss]; exact Nat.le_trans (seen_le HLS.out a) hLl
                have HSL := Lib.hid (show ∀ W, Below w9.heap.size w9 W → Calls Try.prog 18 #[.slice o12 L.length c12, .int .u64 (a.toNat : Int)] W (OpsPost W ss) from fun W hW => by
                  have hq : seenL (mergeL ltE L) a = ss := by rw [mergeL_self weakE HLS.out, hss]
                  rw [← hq]; exact seen_any _ L a W (HL9.out.kept hW) (by omega))
                have HSK := Lib.hid (show ∀ W, Below w9.heap.size w9 W → Calls Try.prog 18 #[.slice o13 K.length c13, .int .u64 (a.toNat : Int)] W (OpsPost W ss) from fun W hW => by
                  have hq : seenL (mergeL ltE K) a = ss := by rw [mergeL_self weakE HKS.out, HKK.out, ← hidden_kept hgd, ← HLE.out, hss]
                  rw [← hq]; exact seen_any _ K a W (HK9.out.kept hW) (by omega))
                have HSM := Lib.hid (show ∀ W, Below w9.heap.size w9 W → Calls Try.prog 18 #[.slice o14 M.length c14, .int .u64 (a.toNat : Int)] W (OpsPost W ss) from fun W hW => by
                  have hq : seenL (mergeL ltE M) a = ss := by
                    rw [mergeL_self weakE HMS.out, HMM.out]
                    rw [hss, HLE.out]
                    exact (hidden_low hgd).symm
                  rw [← hq]; exact seen_any _ M a W (HM9.out.kept hW) (by omega))
                have HSV := Lib.hid (show ∀ W, Below w9.heap.size w9 W → Calls Try.prog 18 #[.slice ao l.length cap, .int .u64 (a.toNat : Int)] W (OpsPost W ss) from fun W hW => by
                  have hq : seenL (mergeL ltE l) a = ss := by rw [← HLE.out, hss]
                  rw [← hq]; exact seen_any _ l a W (HV9.out.kept hW) (by omega))
                have j1 : (0 : Int) ≤ (j : Int) := by omega
                have j2 : (j : Int) < (nums.length : Int) := by omega
                have j4 : IntKind.i64.wrap ((j : Int) + 1) = (j : Int) + 1 := by rw [IntKind.wrap_i64]; omega
                clear hns hbj ha hss hgd
                go_wp2_with fail
                refine (HSL.out wr HBJ.out).mono ?_
                rintro e u1 ⟨v88, rfl, hs1, hb⟩
                clear d0
                obtain ⟨o88, c88, hv88⟩ := elems_slice hs1
                subst hv88
                have HS1 := Lib.hid hs1
                have HC1 := Lib.hid (below_step HBJ.out hb HBJ.out.size)
                have HE1 := Lib.hid (cell_kept hb HD0.out)
                have d1 := HE1.out
                clear hb hs1
                go_wp2_with fail
                refine (HSK.out u1 HC1.out).mono ?_
                rintro e u2 ⟨v95, rfl, hs2, hb⟩
                clear d1
                have HS2 := Lib.hid (HS1.out.kept hb)
                have HC2 := Lib.hid (below_step HC1.out hb HC1.out.size)
                have HE2 := Lib.hid (cell_kept hb HE1.out)
                have HOP2 := Lib.hid (ops _ _ ss ss u2 HS2.out hs2 (by omega) (by omega))
                simp only [decide_true] at HOP2
                clear hb hs2
                go_wp2_with fail
                refine HOP2.out.mono ?_
                rintro e u3 ⟨rfl, hb⟩
                have HS3 := Lib.hid (HS2.out.kept hb)
                have HC3 := Lib.hid (below_step HC2.out hb HC2.out.size)
                have HE3 := Lib.hid (cell_kept hb HE2.out)
                have d3 := HE3.out
                clear hb HOP2
                go_wp2_with fail
                refine (HSM.out u3 HC3.out).mono ?_
                rintro e u4 ⟨v105, rfl, hs2, hb⟩
                clear d3
                have HS4 := Lib.hid (HS3.out.kept hb)
                have HC4 := Lib.hid (below_step HC3.out hb HC3.out.size)
                have HE4 := Lib.hid (cell_kept hb HE3.out)
                have HOP4 := Lib.hid (ops _ _ ss ss u4 HS4.out hs2 (by omega) (by omega))
                simp only [decide_true] at HOP4
                clear hb hs2
                go_wp2_with fail
                refine HOP4.out.mono ?_
                rintro e u5 ⟨rfl, hb⟩
                have HS5 := Lib.hid (HS4.out.kept hb)
                have HC5 := Lib.hid (below_step HC4.out hb HC4.out.size)
                have HE5 := Lib.hid (cell_kept hb HE4.out)
                have d5 := HE5.out
                clear hb HOP4
                go_wp2_with fail
                refine (HSV.out u5 HC5.out).mono ?_
                rintro e u6 ⟨v116, rfl, hs2, hb⟩
                clear d5
                have HS6 := Lib.hid (HS5.out.kept hb)
                have HC6 := Lib.hid (below_step HC5.out hb HC5.out.size)
                have HOP6 := Lib.hid (ops _ _ ss ss u6 HS6.out hs2 (by omega) (by omega))
                simp only [decide_true] at HOP6
                clear hb hs2
                go_wp2_with fail
                refine HOP6.out.mono ?_
                rintro e u7 ⟨rfl, hb⟩
                have HC7 := Lib.hid (below_step HC6.out hb HC6.out.size)
                clear hb HOP6
                go_wp2_with fail
                go_roundw
                case rel => exact ⟨j + 1, hjl, by go_num, HC7.out⟩
                case measure => simp [intOf]; omega
              · have HB1' := Lib.hid (below_step HBW.out hbj HBW.out.size)
                clear hbj
                go_wp2_with fail
                refine (awake_any _).mono ?_
                rintro e w2 ⟨rfl, hb⟩
                have HB2 := Lib.hid (below_step HB1'.out hb HB1'.out.size)
                clear hb
                go_wp2_with fail
                go_ret
                exact ⟨rfl, HB2.out⟩
          · have m0 : ¬ (at_.toNat : Int) < (nw.toNat : Int) := fun h => hm (UInt64.lt_iff_toNat_lt.2 (by omega))
            have m1 : ¬ at_.toNat < nw.toNat := fun h => hm (UInt64.lt_iff_toNat_lt.2 (by omega))
            have HGD := Lib.hid (show ∀ a ∈ snaps ++ [at_, nw], Good l snaps a from by rw [HNW.out] at hm ⊢; exact all_good (UInt64.not_lt.1 hm))
            clear hm
            go_wp2_with fail
            refine HN7.out.mono ?_
            rintro e w8 ⟨rfl, hb⟩
            have HB8 := Lib.hid (below_step HB7.out hb HB7.out.size)
            have HO8 := Lib.hid (row_kept1 HO7.out fun q hq => hb.block q (HO7.out.lt q hq).2)
            have hbn : Below w8.heap.size w8 (w8.alloc (.cells #[.int .u64 (at_.toNat : Int), .int .u64 (nw.toNat : Int)] 30)) := (Below.refl _ _).alloc (Nat.le_refl _) _
            have HBN := Lib.hid (below_step HB8.out hbn HB8.out.size)
            have HON := Lib.hid (HO8.out.alloc (.cells #[.int .u64 (at_.toNat : Int), .int .u64 (nw.toNat : Int)] 30))
            have HSEG := Lib.hid (show Seg (w8.alloc (.cells #[.int .u64 (at_.toNat : Int), .int .u64 (nw.toNat : Int)] 30)) 1 (.slice (some ⟨w8.heap.size, 0, none⟩) 2 2) 2 [.int .u64 (at_.toNat : Int), .int .u64 (nw.toNat : Int)] from ⟨⟨_, _, rfl, fun _ => ⟨w8.heap.size, 0, rfl, fun j hj => (by rw [Nat.zero_add, blk_cell (heap_alloc_new w8 _)]; simp)⟩⟩, rfl⟩)
            have HONE := Lib.hid (show ∀ u ∈ [Value.int .u64 (at_.toNat : Int), .int .u64 (nw.toNat : Int)], u.oneCell' = true from fun u hu => (by simp only [List.mem_cons, List.not_mem_nil, or_false] at hu; rcases hu with rfl | rfl <;> rfl))
            have HL7 := Lib.hid (show snaps.length + 2 ≤ 1099511627776 by omega)
            have HZN := Lib.hid HBN.out.size
            clear hb hbn
            go_wp2_with (at_builtin; refine wpList_append_seg rfl (.tmp 68) (.tmp 75) 34 rfl w5.heap.size 30 _ 1 8 Try.underlying34 infoU rfl (by decide) _ snaps.length _ rfl HON.out _ 2 _ rfl HSEG.out HONE.out HL7.out (by decide) HZN.out ?_; intro v76 w9 ho hgr _; have HO9 := Lib.hid (show w9.ownsRow w5.heap.size 30 1 v76 (snaps ++ [at_, nw]).length ((snaps ++ [at_, nw]).flatMap encN) from (by rw [List.flatMap_append, List.length_append]; simpa using ho)); have HB9 := Lib.hid (below_grown HBN.out hgr HON.out (Nat.le_refl _) HBN.out.size); clear ho hgr)
            clear m0 m1
            obtain ⟨nums, hnums⟩ : ∃ nums, nums = snaps ++ [at_, nw] := ⟨_, rfl⟩
            have hnl2 : nums.length ≤ 12 := by rw [hnums, List.length_append]; simp; omega
            rw [← hnums] at HO9 HGD
            obtain ⟨o76, c76, hv76⟩ := owns_slice1 HO9.out
            subst hv76
            have HNA := Lib.hid (show NumsAt w9 (.slice o76 nums.length c76) nums from Seg.of_owns HO9.out)
            have HL9 := Lib.hid (HL5.out.kept HB9.out)
            have HK9 := Lib.hid (HK5.out.kept HB9.out)
            have HM9 := Lib.hid (HM5.out.kept HB9.out)
            have HV9 := Lib.hid (HV5.out.kept HB9.out)
            have HBW := Lib.hid (below_step HB5.out HB9.out HB5.out.size)
            clear hnums HO9 HB9 HON HSEG HONE HBN HO8 HB8 HL5 HK5 HM5 HV5 HN7
            go_loopw [16] (fun vj W => ∃ j : Nat, j ≤ nums.length ∧ vj = .int .i64 j ∧ Below w9.heap.size w9 W) (fun vj _ => nums.length - (intOf vj).toNat)
            case atStart => exact ⟨0, Nat.zero_le _, rfl, Below.refl _ _⟩
            case round =>
              clear hlt
              obtain ⟨j, hj, rfl, hbj⟩ := hrel
              have HBJ := Lib.hid hbj
              by_cases hjl : j < nums.length
              · obtain ⟨nb, noff, ncap', hve, hns⟩ := nums_cells (HNA.out.kept hbj) (by omega)
                injection hve with hx1 hx2 hx3
                subst hx1
                clear hx2 hx3
                have d0 := hns j hjl
                obtain ⟨a, ha⟩ : ∃ a, a = nums[j] := ⟨_, rfl⟩
                rw [← ha] at d0
                have hgd : Good l snaps a := HGD.out a (by rw [ha]; exact List.getElem_mem _)
                have HD0 := Lib.hid d0
                obtain ⟨ss, hss⟩ : ∃ ss, ss = seenL L a := ⟨_, rfl⟩
                have hsl : ss.length ≤ 60 := by rw [hss]; exact Nat.le_trans (seen_le HLS.out a) hLl
                have HSL := Lib.hid (show ∀ W, Below w9.heap.size w9 W → Calls Try.prog 18 #[.slice o12 L.length c12, .int .u64 (a.toNat : Int)] W (OpsPost W ss) from fun W hW => by
                  have hq : seenL (mergeL ltE L) a = ss := by rw [mergeL_self weakE HLS.out, hss]
                  rw [← hq]; exact seen_any _ L a W (HL9.out.kept hW) (by omega))
                have HSK := Lib.hid (show ∀ W, Below w9.heap.size w9 W → Calls Try.prog 18 #[.slice o13 K.length c13, .int .u64 (a.toNat : Int)] W (OpsPost W ss) from fun W hW => by
                  have hq : seenL (mergeL ltE K) a = ss := by rw [mergeL_self weakE HKS.out, HKK.out, ← hidden_kept hgd, ← HLE.out, hss]
                  rw [← hq]; exact seen_any _ K a W (HK9.out.kept hW) (by omega))
                have HSM := Lib.hid (show ∀ W, Below w9.heap.size w9 W → Calls Try.prog 18 #[.slice o14 M.length c14, .int .u64 (a.toNat : Int)] W (OpsPost W ss) from fun W hW => by
                  have hq : seenL (mergeL ltE M) a = ss := by
                    rw [mergeL_self weakE HMS.out, HMM.out]
                    rw [hss, HLE.out]
                    exact (hidden_low hgd).symm
                  rw [← hq]; exact seen_any _ M a W (HM9.out.kept hW) (by omega))
                have HSV := Lib.hid (show ∀ W, Below w9.heap.size w9 W → Calls Try.prog 18 #[.slice ao l.length cap, .int .u64 (a.toNat : Int)] W (OpsPost W ss) from fun W hW => by
                  have hq : seenL (mergeL ltE l) a = ss := by rw [← HLE.out, hss]
                  rw [← hq]; exact seen_any _ l a W (HV9.out.kept hW) (by omega))
                have j1 : (0 : Int) ≤ (j : Int) := by omega
                have j2 : (j : Int) < (nums.length : Int) := by omega
                have j4 : IntKind.i64.wrap ((j : Int) + 1) = (j : Int) + 1 := by rw [IntKind.wrap_i64]; omega
                clear hns hbj ha hss hgd
                go_wp2_with fail
                refine (HSL.out wr HBJ.out).mono ?_
                rintro e u1 ⟨v88, rfl, hs1, hb⟩
                clear d0
                obtain ⟨o88, c88, hv88⟩ := elems_slice hs1
                subst hv88
                have HS1 := Lib.hid hs1
                have HC1 := Lib.hid (below_step HBJ.out hb HBJ.out.size)
                have HE1 := Lib.hid (cell_kept hb HD0.out)
                have d1 := HE1.out
                clear hb hs1
                go_wp2_with fail
                refine (HSK.out u1 HC1.out).mono ?_
                rintro e u2 ⟨v95, rfl, hs2, hb⟩
                clear d1
                have HS2 := Lib.hid (HS1.out.kept hb)
                have HC2 := Lib.hid (below_step HC1.out hb HC1.out.size)
                have HE2 := Lib.hid (cell_kept hb HE1.out)
                have HOP2 := Lib.hid (ops _ _ ss ss u2 HS2.out hs2 (by omega) (by omega))
                simp only [decide_true] at HOP2
                clear hb hs2
                go_wp2_with fail
                refine HOP2.out.mono ?_
                rintro e u3 ⟨rfl, hb⟩
                have HS3 := Lib.hid (HS2.out.kept hb)
                have HC3 := Lib.hid (below_step HC2.out hb HC2.out.size)
                have HE3 := Lib.hid (cell_kept hb HE2.out)
                have d3 := HE3.out
                clear hb HOP2
                go_wp2_with fail
                refine (HSM.out u3 HC3.out).mono ?_
                rintro e u4 ⟨v105, rfl, hs2, hb⟩
                clear d3
                have HS4 := Lib.hid (HS3.out.kept hb)
                have HC4 := Lib.hid (below_step HC3.out hb HC3.out.size)
                have HE4 := Lib.hid (cell_kept hb HE3.out)
                have HOP4 := Lib.hid (ops _ _ ss ss u4 HS4.out hs2 (by omega) (by omega))
                simp only [decide_true] at HOP4
                clear hb hs2
                go_wp2_with fail
                refine HOP4.out.mono ?_
                rintro e u5 ⟨rfl, hb⟩
                have HS5 := Lib.hid (HS4.out.kept hb)
                have HC5 := Lib.hid (below_step HC4.out hb HC4.out.size)
                have HE5 := Lib.hid (cell_kept hb HE4.out)
                have d5 := HE5.out
                clear hb HOP4
                go_wp2_with fail
                refine (HSV.out u5 HC5.out).mono ?_
                rintro e u6 ⟨v116, rfl, hs2, hb⟩
                clear d5
                have HS6 := Lib.hid (HS5.out.kept hb)
                have HC6 := Lib.hid (below_step HC5.out hb HC5.out.size)
                have HOP6 := Lib.hid (ops _ _ ss ss u6 HS6.out hs2 (by omega) (by omega))
                simp only [decide_true] at HOP6
                clear hb hs2
                go_wp2_with fail
                refine HOP6.out.mono ?_
                rintro e u7 ⟨rfl, hb⟩
                have HC7 := Lib.hid (below_step HC6.out hb HC6.out.size)
                clear hb HOP6
                go_wp2_with fail
                go_roundw
                case rel => exact ⟨j + 1, hjl, by go_num, HC7.out⟩
                case measure => simp [intOf]; omega
              · have HB1' := Lib.hid (below_step HBW.out hbj HBW.out.size)
                clear hbj
                go_wp2_with fail
                refine (awake_any _).mono ?_
                rintro e w2 ⟨rfl, hb⟩
                have HB2 := Lib.hid (below_step HB1'.out hb HB1'.out.size)
                clear hb
                go_wp2_with fail
                go_ret
                exact ⟨rfl, HB2.out⟩
    · have k0 : (10 : Int) < (snaps.length : Int) := by omega
      go_wp2_with fail
      refine (awake_any _).mono ?_
      rintro e w2 ⟨rfl, hb⟩
      have HB2 := Lib.hid (below_step HB1.out hb HB1.out.size)
      clear hb
      go_wp2_with fail
      go_ret
      exact ⟨rfl, HB2.out⟩
  · go_wp2_with fail
    refine (awake_any _).mono ?_
    rintro e w2 ⟨rfl, hb⟩
    have HB2 := Lib.hid (below_step HB1.out hb HB1.out.size)
    clear hb
    go_wp2_with fail
    go_ret
    exact ⟨rfl, HB2.out⟩
theorem hidden_law (ao : Option Addr) (cap : Nat) (l : List Ent) (a1 a3 : Int) (h1 : ∃ s : UInt64, a1 = (s.toNat : Int)) (h3 : ∃ s : UInt64, a3 = (s.toNat : Int)) (no : Option Addr) (ncap : Nat) (snaps : List UInt64) (w : World) (h : EntsAt w (.slice ao l.length cap) l) (hls : ∀ a ∈ l, SizesOK a) (hcap : l.length ≤ cap) (hcm : cap ≤ 9223372036854775807) (hnum : NumsAt w (.slice no snaps.length ncap) snaps) (hnl : snaps.length ≤ 9223372036854775807) :
    Calls Try.prog 7 #[.slice ao l.length cap, .int .u64 a1, .slice no snaps.length ncap, .int .u64 a3] w (AwPost w) := by
  obtain ⟨s, rfl⟩ := h1
  obtain ⟨u, rfl⟩ := h3
  exact hidden_walk ao cap l s u no ncap snaps w h hls hcap hcm hnum hnl
end Go.Proofs.Try.Mg
