/- Entries, plainly: what the document keeps, one by one, is what the code keeps by keys. -/
import Derived.Test.YtggcdeabnibibaaMr5
set_option linter.unusedVariables false
set_option linter.unusedSimpArgs false
namespace Go.Proofs.Try.Mg
open Go.RowKit Go.Cph Go.Cph.Skip Go.Cph.So

def stayAt (s : List Ent) (i : Nat) (a : UInt64) : Bool := match s[i]? with
  | some x => (match s.find? (atP x.1 a) with | some e => decide (e.2.2.1 = x.2.2.1) | none => false)
  | none => false
def stayB (s : List Ent) (i : Nat) (snaps : List UInt64) : Bool := headB s i || snaps.any (stayAt s i)
def liveAt (s : List Ent) (snaps : List UInt64) (i k : Nat) : Bool := match s[i]?, s[k]? with
  | some x, some y => decide (i ≤ k) && decide (y.1 = x.1) && (stayB s k snaps && !y.2.2.2)
  | _, _ => false
def docOlder (s : List Ent) (snaps : List UInt64) (i : Nat) : Bool := (List.range s.length).any (liveAt s snaps i)
def docKeepAt (s : List Ent) (bottom : Bool) (snaps : List UInt64) (i : Nat) : Option Ent := if stayB s i snaps && (docOlder s snaps i || !bottom) then s[i]? else none
def docKeep (s : List Ent) (bottom : Bool) (snaps : List UInt64) (k : Nat) : List Ent := (List.range k).filterMap (docKeepAt s bottom snaps)
theorem docKeep_snoc (s : List Ent) (bottom : Bool) (snaps : List UInt64) (k : Nat) : docKeep s bottom snaps (k + 1) = docKeep s bottom snaps k ++ (docKeepAt s bottom snaps k).toList := by
  unfold docKeep
  rw [List.range_succ, List.filterMap_append]
  cases h : docKeepAt s bottom snaps k <;> simp [h]
/-- Where a key's versions lie. -/
theorem in_group {s : List Ent} (hs : Strict ltE s) {pre g post : List Ent} (e : s = pre ++ (g ++ post)) (hg : g ∈ groupsR s) {x : Ent} (hx : x ∈ g) {k : Nat} {y : Ent} (hk : s[k]? = some y) (hy : y.1 = x.1) : pre.length ≤ k ∧ k < pre.length + g.length := by
  have hf := filter_key hs hg hx
  have hgg : g.filter (fun y => decide (y.1 = x.1)) = g := by
    obtain ⟨k, h1, h2⟩ := groupsR_same s g hg
    exact List.filter_eq_self.2 fun y hy => by rw [decide_eq_true_eq, h2 y hy, h2 x hx]
  have hc := congrArg List.length hf
  conv at hc => lhs; rw [e]
  rw [List.filter_append, List.filter_append, List.length_append, List.length_append, hgg] at hc
  rw [e] at hk
  constructor
  · refine Nat.le_of_not_lt fun h => ?_
    rw [List.getElem?_append_left h] at hk
    have : 0 < (pre.filter fun y => decide (y.1 = x.1)).length := List.length_pos_iff.2 (List.ne_nil_of_mem (List.mem_filter.2 ⟨List.mem_of_getElem? hk, by simpa using hy⟩))
    omega
  · refine Nat.lt_of_not_le fun h => ?_
    rw [List.getElem?_append_right (by omega), List.getElem?_append_right (by omega)] at hk
    have : 0 < (post.filter fun y => decide (y.1 = x.1)).length := List.length_pos_iff.2 (List.ne_nil_of_mem (List.mem_filter.2 ⟨List.mem_of_getElem? hk, by simpa using hy⟩))
    omega
theorem at_group {s pre g post : List Ent} (e : s = pre ++ (g ++ post)) {j : Nat} (hj : j < g.length) : s[pre.length + j]? = some g[j] := by
  conv => lhs; rw [e]
  rw [List.getElem?_append_right (by omega), Nat.add_sub_cancel_left, List.getElem?_append_left hj]
  exact List.getElem?_eq_getElem hj
theorem head_at {s : List Ent} (hs : Strict ltE s) {pre g post : List Ent} (e : s = pre ++ (g ++ post)) (hg : g ∈ groupsR s) {j : Nat} (hj : j < g.length) : headB s (pre.length + j) = decide (j = 0) := by
  obtain ⟨k, h1, h2⟩ := groupsR_same s g hg
  by_cases h0 : j = 0
  · subst h0
    rw [Nat.add_zero, decide_eq_true rfl]
    unfold headB
    cases hp : pre.length with
    | zero => rfl
    | succ i =>
      have h3 := at_group e hj
      rw [Nat.add_zero, hp] at h3
      simp only [decide_eq_true_eq]
      rw [h3]
      have hi : i < s.length := by rw [e, List.length_append]; omega
      rw [List.getElem?_eq_getElem hi]
      simp only [Option.map_some, ne_eq, Option.some.injEq]
      intro e4
      have := (in_group hs e hg (List.getElem_mem hj) (List.getElem?_eq_getElem hi) e4).1
      omega
  · rw [decide_eq_false h0]
    have h3 := at_group e hj
    have h4 := at_group e (show j - 1 < g.length by omega)
    unfold headB
    obtain ⟨i, hi⟩ : ∃ i, pre.length + j = i + 1 := ⟨pre.length + j - 1, by omega⟩
    rw [hi]
    simp only [decide_eq_false_iff_not, ne_eq, Decidable.not_not]
    rw [← hi, h3, show i = pre.length + (j - 1) by omega, h4]
    simp only [Option.map_some, Option.some.injEq]
    rw [h2 _ (List.getElem_mem _), h2 _ (List.getElem_mem _)]
theorem stL_at (g : List Ent) (snaps : List UInt64) {j : Nat} (hj : j < g.length) : (stL g snaps)[j]? = some (decide (j = 0) || snaps.any (fun a => g.findIdx? (mayC a) == some j)) := by
  have h : ∀ (ns : List UInt64) (st : List Bool) (b : Bool), st[j]? = some b → (ns.foldl (stepS g) st)[j]? = some (b || ns.any (fun a => g.findIdx? (mayC a) == some j)) := by
    intro ns
    induction ns with
    | nil => intro st b h; simpa using h
    | cons a ns ih =>
      intro st b h
      rw [List.foldl_cons, List.any_cons, ih (stepS g st a) (b || (g.findIdx? (mayC a) == some j)) ?_, Bool.or_assoc]
      unfold stepS
      cases hf : g.findIdx? (mayC a) with
      | none => simpa using h
      | some m =>
        simp only
        have hl : j < st.length := by
          by_cases hl : j < st.length
          · exact hl
          · rw [List.getElem?_eq_none (by omega)] at h; cases h
        by_cases hm : m = j
        · subst hm
          rw [List.getElem?_set_self hl]; simp
        · rw [List.getElem?_set_ne hm, h]
          have : (some m == some j) = false := by simpa using hm
          rw [this, Bool.or_false]
  unfold stL
  refine h snaps _ _ ?_
  by_cases h0 : j = 0
  · subst h0
    rw [List.getElem?_set_self (by simpa using hj)]; simp
  · rw [List.getElem?_set_ne (fun e => h0 e.symm), List.getElem?_replicate, if_pos hj]
    simp [h0]
theorem stay_at {s : List Ent} (hs : Strict ltE s) {pre g post : List Ent} (e : s = pre ++ (g ++ post)) (hg : g ∈ groupsR s) {j : Nat} (hj : j < g.length) (a : UInt64) : stayAt s (pre.length + j) a = (g.findIdx? (mayC a) == some j) := by
  obtain ⟨k, h1, h2⟩ := groupsR_same s g hg
  unfold stayAt
  rw [at_group e hj]
  simp only
  rw [find_group hs hg (List.getElem_mem hj)]
  cases hf : g.findIdx? (mayC a) with
  | none =>
    rw [List.findIdx?_eq_none_iff] at hf
    rw [find_none hf]; rfl
  | some m =>
    rw [List.findIdx?_eq_some_iff_getElem] at hf
    obtain ⟨hm, hm2, hm3⟩ := hf
    rw [find_at hm hm2 (fun i hi => by have := hm3 i hi; simpa using this)]
    simp only
    by_cases hmj : m = j
    · subst hmj; simp
    · have : (some m == some j) = false := by simpa using hmj
      rw [this, decide_eq_false_iff_not]
      intro heq
      have hlj : pre.length + j < s.length := by rw [e, List.length_append, List.length_append]; omega
      have hlm : pre.length + m < s.length := by rw [e, List.length_append, List.length_append]; omega
      have ej : s[pre.length + j] = g[j] := Option.some.inj ((List.getElem?_eq_getElem hlj).symm.trans (at_group e hj))
      have em : s[pre.length + m] = g[m] := Option.some.inj ((List.getElem?_eq_getElem hlm).symm.trans (at_group e hm))
      have hk : g[j].1 = g[m].1 := by rw [h2 _ (List.getElem_mem _), h2 _ (List.getElem_mem _)]
      rcases Nat.lt_or_gt_of_ne hmj with h | h
      · have := strict_older hs hlj (show pre.length + m < pre.length + j by omega) (by rw [ej, em, hk])
        rw [ej, em, heq] at this
        exact absurd this (UInt64.lt_irrefl _)
      · have := strict_older hs hlm (show pre.length + j < pre.length + m by omega) (by rw [ej, em, hk])
        rw [ej, em, heq] at this
        exact absurd this (UInt64.lt_irrefl _)
theorem stayB_at {s : List Ent} (hs : Strict ltE s) {pre g post : List Ent} (e : s = pre ++ (g ++ post)) (hg : g ∈ groupsR s) {j : Nat} (hj : j < g.length) (snaps : List UInt64) : (stL g snaps)[j]? = some (stayB s (pre.length + j) snaps) := by
  rw [stL_at g snaps hj, stayB, head_at hs e hg hj]
  congr 3
  funext a
  rw [stay_at hs e hg hj]
def liveP (p : Ent × Bool) : Bool := p.2 && !p.1.2.2.2
def pickZ (bottom : Bool) (z : List (Ent × Bool)) (j : Nat) : Option Ent := match z[j]? with
  | some p => if p.2 && ((z.drop j).any liveP || !bottom) then some p.1 else none
  | none => none
theorem dw_nil (p : Ent → Bool) : ∀ l : List Ent, l.dropWhile p = [] → ∀ x ∈ l, p x = true
  | [], _, x, hx => by cases hx
  | a :: l, h, x, hx => by
    rw [List.dropWhile_cons] at h
    by_cases ha : p a = true
    · rw [if_pos ha] at h
      rcases List.mem_cons.1 hx with rfl | hx
      · exact ha
      · exact dw_nil p l h x hx
    · rw [if_neg ha] at h; cases h
theorem dropR_cons (x : Ent) (l : List Ent) : dropR (x :: l) = if (x :: l).any (fun y => !y.2.2.2) then x :: dropR l else [] := by
  by_cases hall : ∀ y ∈ l, y.2.2.2 = true
  · have h1 := dropR_app [x] l hall
    have h2 := dropR_app [] l hall
    rw [List.singleton_append] at h1
    rw [List.nil_append] at h2
    have h3 : l.any (fun y => !y.2.2.2) = false := by rw [List.any_eq_false]; intro y hy; simp [hall y hy]
    rw [h1, h2, List.any_cons, h3]
    unfold dropR
    cases h : x.2.2.2 <;> simp [h]
  · have h3 : (x :: l).any (fun y => !y.2.2.2) = true := by
      rw [List.any_eq_true]
      refine Classical.byContradiction fun h => hall fun y hy => ?_
      cases hb : y.2.2.2
      · exact absurd ⟨y, List.mem_cons_of_mem _ hy, by rw [hb]; rfl⟩ h
      · rfl
    rw [if_pos h3]
    unfold dropR
    rw [List.reverse_cons, List.dropWhile_append]
    rw [if_neg, List.reverse_append]
    · rfl
    · intro he
      rw [List.isEmpty_iff] at he
      exact hall fun y hy => dw_nil _ _ he y (List.mem_reverse.2 hy)
theorem filterMap_same {α β : Type} {f g : α → Option β} : ∀ {l : List α}, (∀ x ∈ l, f x = g x) → l.filterMap f = l.filterMap g
  | [], _ => rfl
  | a :: l, h => by rw [List.filterMap_cons, List.filterMap_cons, h a (by simp), filterMap_same fun x hx => h x (List.mem_cons_of_mem _ hx)]
theorem pickZ_all (bottom : Bool) : ∀ z : List (Ent × Bool), (List.range z.length).filterMap (pickZ bottom z) = if bottom then dropR ((z.filter (·.2)).map (·.1)) else (z.filter (·.2)).map (·.1)
  | [] => by cases bottom <;> rfl
  | p :: z => by
    have ih := pickZ_all bottom z
    rw [List.length_cons, List.range_succ_eq_map, List.filterMap_cons, List.filterMap_map]
    have e : (pickZ bottom (p :: z) ∘ Nat.succ) = pickZ bottom z := by funext j; rfl
    rw [e, ih]
    have h0 : pickZ bottom (p :: z) 0 = if p.2 && ((p :: z).any liveP || !bottom) then some p.1 else none := rfl
    rw [h0]
    have hany : ((z.filter (·.2)).map (·.1)).any (fun y => !y.2.2.2) = z.any liveP := by
      rw [List.any_map, List.any_filter]; rfl
    cases bottom
    · obtain ⟨x, b⟩ := p
      cases b <;> simp
    · obtain ⟨x, b⟩ := p
      cases b
      · simp
      · have hl : (((x, true) :: z).any liveP) = (!x.2.2.2 || z.any liveP) := by rw [List.any_cons]; simp [liveP]
        have hr : (x :: (z.filter (·.2)).map (·.1)).any (fun y => !y.2.2.2) = (!x.2.2.2 || z.any liveP) := by rw [List.any_cons, hany]
        rw [hl]
        simp only [Bool.true_and, Bool.not_true, Bool.or_false, List.filter_cons, if_true, List.map_cons]
        rw [dropR_cons, hr]
        by_cases hc : (!x.2.2.2 || z.any liveP) = true
        · rw [if_pos hc, if_pos hc]
        · rw [if_neg hc, if_neg hc]
          have hz : z.any liveP = false := by
            cases h : z.any liveP
            · rfl
            · rw [h] at hc; simp at hc
          rw [← hany] at hz
          have : ∀ x ∈ (z.filter (·.2)).map (·.1), x.2.2.2 = true := by
            intro x hx
            rw [List.any_eq_false] at hz
            have := hz x hx
            simpa using this
          have := dropR_app [] _ this
          rw [List.nil_append] at this
          rw [this]; rfl
theorem over_groups {β : Type} (s : List Ent) (f : Nat → Option β) (F : List Ent → List β) (hf : ∀ (pre g post : List Ent), s = pre ++ (g ++ post) → g ∈ groupsR s → (List.range' pre.length g.length).filterMap f = F g) :
    ∀ (gs : List (List Ent)) (pre : List Ent), s = pre ++ gs.flatten → (∀ g ∈ gs, g ∈ groupsR s) → (List.range' pre.length gs.flatten.length).filterMap f = gs.flatMap F
  | [], pre, _, _ => by simp
  | g :: gs, pre, hs, hg => by
    rw [List.flatten_cons] at hs
    have ih := over_groups s f F hf gs (pre ++ g) (by rw [hs]; simp) (fun h hh => hg h (List.mem_cons_of_mem _ hh))
    rw [List.length_append] at ih
    rw [List.flatten_cons, List.length_append, ← List.range'_append_1, List.filterMap_append, List.flatMap_cons, ih, hf pre g gs.flatten hs (hg g (by simp))]
theorem docKeep_all {s : List Ent} (hs : Strict ltE s) (bottom : Bool) (snaps : List UInt64) : docKeep s bottom snaps s.length = keepL s bottom snaps := by
  have := over_groups s (docKeepAt s bottom snaps) (keepG bottom snaps) ?_ (groupsR s) [] (by rw [groupsR_flat]; rfl) (fun g hg => hg)
  · rw [groupsR_flat, List.length_nil, ← List.range_eq_range'] at this
    exact this
  · intro pre g post e hg
    have hzl : (g.zip (stL g snaps)).length = g.length := by rw [List.length_zip, stL_length]; omega
    have hz : ∀ j, (hj : j < g.length) → (g.zip (stL g snaps))[j]? = some (g[j], stayB s (pre.length + j) snaps) := by
      intro j hj
      rw [List.getElem?_zip_eq_some]
      exact ⟨List.getElem?_eq_getElem hj, stayB_at hs e hg hj snaps⟩
    have hk : (if bottom then dropR (((g.zip (stL g snaps)).filter (·.2)).map (·.1)) else ((g.zip (stL g snaps)).filter (·.2)).map (·.1)) = keepG bottom snaps g := rfl
    rw [← hk, ← pickZ_all, hzl, List.range'_eq_map_range, List.filterMap_map]
    refine filterMap_same fun j hj => ?_
    rw [List.mem_range] at hj
    have hsj := at_group e hj
    show docKeepAt s bottom snaps (pre.length + j) = pickZ bottom (g.zip (stL g snaps)) j
    unfold docKeepAt pickZ
    rw [hz j hj, hsj]
    simp only
    have ho : docOlder s snaps (pre.length + j) = ((g.zip (stL g snaps)).drop j).any liveP := by
      rw [Bool.eq_iff_iff, docOlder, List.any_eq_true, List.any_eq_true]
      constructor
      · rintro ⟨k, hk, hl⟩
        unfold liveAt at hl
        rw [hsj] at hl
        cases hy : s[k]? with
        | none => rw [hy] at hl; cases hl
        | some y =>
          rw [hy] at hl
          simp only [Bool.and_eq_true, decide_eq_true_eq] at hl
          obtain ⟨⟨h1, h2⟩, h3, h4⟩ := hl
          obtain ⟨h5, h6⟩ := in_group hs e hg (List.getElem_mem hj) hy h2
          obtain ⟨m, rfl⟩ : ∃ m, k = pre.length + m := ⟨k - pre.length, by omega⟩
          have hm : m < g.length := by omega
          rw [at_group e hm] at hy
          injection hy with hy
          refine ⟨(g[m], stayB s (pre.length + m) snaps), ?_, ?_⟩
          · refine List.mem_of_getElem? (i := m - j) ?_
            rw [List.getElem?_drop, show j + (m - j) = m by omega, hz m hm]
          · unfold liveP; rw [hy]; simp only [h3, Bool.true_and]; simpa using h4
      · rintro ⟨p, hp, hl⟩
        obtain ⟨d, hd⟩ := List.getElem?_of_mem hp
        rw [List.getElem?_drop] at hd
        have hm : j + d < g.length := by
          refine Nat.lt_of_not_le fun h => ?_
          rw [List.getElem?_eq_none (by omega)] at hd; cases hd
        rw [hz _ hm] at hd
        injection hd with hd
        subst hd
        have hsm := at_group e hm
        refine ⟨pre.length + (j + d), by rw [List.mem_range, e, List.length_append, List.length_append]; omega, ?_⟩
        unfold liveAt
        rw [hsj, hsm]
        simp only [Bool.and_eq_true, decide_eq_true_eq]
        obtain ⟨k, h1, h2⟩ := groupsR_same s g hg
        unfold liveP at hl
        simp only [Bool.and_eq_true] at hl
        exact ⟨⟨by omega, by rw [h2 _ (List.getElem_mem _), h2 _ (List.getElem_mem _)]⟩, hl.1, hl.2⟩
    rw [ho]
end Go.Proofs.Try.Mg
