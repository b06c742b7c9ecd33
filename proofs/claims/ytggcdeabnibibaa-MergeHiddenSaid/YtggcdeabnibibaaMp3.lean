/- Entries, plainly: the versions of a key in a list that rises; what is seen, and what stays, one by one. -/
import Derived.Test.YtggcdeabnibibaaMk6
import Derived.Test.YtggcdeabnibibaaMp2
set_option linter.unusedVariables false
set_option linter.unusedSimpArgs false
namespace Go.Proofs.Try.Mg
open Go.RowKit Go.Cph Go.Cph.Skip Go.Cph.So

theorem ltE_key {a b : Ent} (h : ltE a b = true) : klt a.1 b.1 = true ∨ (a.1 = b.1 ∧ b.2.2.1 < a.2.2.1) := by
  unfold ltE at h
  simp only [Bool.or_eq_true, Bool.and_eq_true, decide_eq_true_eq] at h
  exact h
theorem ltE_kle {a b : Ent} (h : ltE a b = true) : klt b.1 a.1 = false := by
  rcases ltE_key h with h | ⟨h, _⟩
  · exact klt_asymm h
  · rw [h]; exact klt_irrefl _
theorem strict_tail {a : Ent} {l : List Ent} (h : Strict ltE (a :: l)) : Strict ltE l := (List.pairwise_cons.1 h).2
theorem groups_rise : ∀ {s : List Ent}, Strict ltE s → (groupsR s).Pairwise fun g h => ∀ x ∈ g, ∀ y ∈ h, klt x.1 y.1 = true
  | [], _ => List.Pairwise.nil
  | a :: l, hs => by
    have ih := groups_rise (strict_tail hs)
    have hsame := groupsR_same l
    have hflat := groupsR_flat l
    unfold Strict at hs
    rw [List.pairwise_cons] at hs
    unfold groupsR
    cases hg : groupsR l with
    | nil => simp
    | cons g gs =>
      rw [hg] at ih hsame hflat
      simp only
      obtain ⟨k, hne, hk⟩ := hsame g (by simp)
      rw [List.pairwise_cons] at ih
      cases g with
      | nil => exact absurd rfl hne
      | cons b g =>
        have hbk : b.1 = k := hk b (by simp)
        have hab := hs.1 b (by rw [← hflat]; simp)
        by_cases hc : headKey (b :: g) = some a.1
        · rw [if_pos hc, List.pairwise_cons]
          refine ⟨fun h hh x hx y hy => ?_, ih.2⟩
          rcases List.mem_cons.1 hx with rfl | hx
          · have := ih.1 h hh b (by simp) y hy
            simp [headKey] at hc
            rw [← hc]; exact this
          · exact ih.1 h hh x hx y hy
        · rw [if_neg hc, List.pairwise_cons, List.pairwise_cons]
          have hne2 : a.1 ≠ b.1 := by
            intro e; apply hc; simp [headKey, e]
          have hlt : klt a.1 b.1 = true := by
            rcases ltE_key hab with h | ⟨h, _⟩
            · exact h
            · exact absurd h hne2
          refine ⟨fun h hh x hx y hy => ?_, ih⟩
          simp at hx; subst hx
          rcases List.mem_cons.1 hh with rfl | hh
          · rw [hk y hy, ← hbk]; exact hlt
          · exact klt_trans hlt (ih.1 h hh b (by simp) y hy)
theorem filter_flatten (p : Ent → Bool) : ∀ gs : List (List Ent), gs.flatten.filter p = (gs.map (fun g => g.filter p)).flatten
  | [] => rfl
  | g :: gs => by rw [List.flatten_cons, List.filter_append, filter_flatten p gs, List.map_cons, List.flatten_cons]
theorem pick_one {p : Ent → Bool} {g : List Ent} : ∀ {gs : List (List Ent)}, g ∈ gs → (gs.Pairwise fun a b => ∀ x ∈ a, ∀ y ∈ b, klt x.1 y.1 = true) → (∀ x ∈ g, p x = true) → (∀ x y, p x = true → p y = true → x.1 = y.1) → g ≠ [] → (gs.map (fun g => g.filter p)).flatten = g
  | [], h, _, _, _, _ => by cases h
  | a :: gs, h, hp, hg, hpp, hne => by
    rw [List.pairwise_cons] at hp
    obtain ⟨z, hz⟩ := List.exists_mem_of_ne_nil _ hne
    rw [List.map_cons, List.flatten_cons]
    rcases List.mem_cons.1 h with rfl | h
    · have e1 : g.filter p = g := List.filter_eq_self.2 hg
      have e2 : (gs.map (fun g => g.filter p)).flatten = [] := by
        rw [List.flatten_eq_nil_iff]
        intro l hl
        obtain ⟨b, hb, rfl⟩ := List.mem_map.1 hl
        rw [List.filter_eq_nil_iff]
        intro y hy hpy
        have := hp.1 b hb z hz y hy
        rw [hpp z y (hg z hz) hpy, klt_irrefl] at this; cases this
      rw [e1, e2, List.append_nil]
    · have e1 : a.filter p = [] := by
        rw [List.filter_eq_nil_iff]
        intro y hy hpy
        have := hp.1 g h y hy z hz
        rw [hpp y z hpy (hg z hz), klt_irrefl] at this; cases this
      rw [e1, List.nil_append]
      exact pick_one h hp.2 hg hpp hne
/-- The versions of a key, in a list that rises. -/
theorem filter_key {s : List Ent} (hs : Strict ltE s) {g : List Ent} (hg : g ∈ groupsR s) {x : Ent} (hx : x ∈ g) : s.filter (fun y => decide (y.1 = x.1)) = g := by
  obtain ⟨k, h1, h2⟩ := groupsR_same s g hg
  have e := groupsR_flat s
  conv => lhs; rw [← e, filter_flatten]
  refine pick_one hg (groups_rise hs) (fun y hy => ?_) (fun a b ha hb => ?_) h1
  · rw [decide_eq_true_eq, h2 y hy, h2 x hx]
  · rw [decide_eq_true_eq] at ha hb; rw [ha, hb]
def atP (key : ByteArray) (at_ : UInt64) (e : Ent) : Bool := decide (e.1 = key) && mayC at_ e
theorem find_filter (p q : Ent → Bool) : ∀ l : List Ent, l.find? (fun x => p x && q x) = (l.filter p).find? q
  | [] => rfl
  | a :: l => by
    rw [List.find?_cons, List.filter_cons, find_filter p q l]
    by_cases hp : p a = true
    · rw [if_pos hp, List.find?_cons, hp, Bool.true_and]
    · have hp' : p a = false := by simpa using hp
      rw [if_neg hp, hp', Bool.false_and]
theorem find_group {s : List Ent} (hs : Strict ltE s) {g : List Ent} (hg : g ∈ groupsR s) {x : Ent} (hx : x ∈ g) (at_ : UInt64) : s.find? (atP x.1 at_) = g.find? (mayC at_) := by
  have : s.find? (atP x.1 at_) = s.find? (fun y => decide (y.1 = x.1) && mayC at_ y) := rfl
  rw [this, find_filter, filter_key hs hg hx]

/-! ### what is seen, one by one -/
def opE (e : Option Ent) : Option Opp := match e with
  | some e => if e.2.2.2 then none else some (e.1, e.2.1, false)
  | none => none
/-- Does an element begin a key's versions? -/
def headB (s : List Ent) (i : Nat) : Bool := match i with
  | 0 => true
  | i + 1 => decide ((s[i]?).map (·.1) ≠ (s[i + 1]?).map (·.1))
def docOp (s : List Ent) (at_ : UInt64) (i : Nat) : Option Opp := if headB s i then (match s[i]? with | some x => opE (s.find? (atP x.1 at_)) | none => none) else none
def docSeen (s : List Ent) (at_ : UInt64) (k : Nat) : List Opp := (List.range k).filterMap (docOp s at_)
theorem docSeen_snoc (s : List Ent) (at_ : UInt64) (k : Nat) : docSeen s at_ (k + 1) = docSeen s at_ k ++ (docOp s at_ k).toList := by
  unfold docSeen
  rw [List.range_succ, List.filterMap_append]
  cases h : docOp s at_ k <;> simp [h]
/-- Over the elements of some parts, of each of which the first alone counts. -/
theorem heads_only {β : Type} (s : List Ent) (f : Nat → Option β) (F : List Ent → Option β) (hf : ∀ (pre : List Ent) (g : List Ent) (post : List Ent), s = pre ++ (g ++ post) → g ∈ groupsR s → g ≠ [] → (pre = [] ∨ True) → f pre.length = F g)
    (hn : ∀ (pre g post : List Ent) (j : Nat), s = pre ++ (g ++ post) → g ∈ groupsR s → 0 < j → j < g.length → f (pre.length + j) = none) :
    ∀ (gs : List (List Ent)) (pre : List Ent), s = pre ++ gs.flatten → (∀ g ∈ gs, g ∈ groupsR s ∧ g ≠ []) → (List.range' pre.length gs.flatten.length).filterMap f = gs.filterMap F
  | [], pre, _, _ => by simp
  | g :: gs, pre, hs, hg => by
    obtain ⟨hg1, hg2⟩ := hg g (by simp)
    rw [List.flatten_cons] at hs
    have ih := heads_only s f F hf hn gs (pre ++ g) (by rw [hs]; simp) (fun h hh => hg h (List.mem_cons_of_mem _ hh))
    rw [List.length_append] at ih
    rw [List.flatten_cons, List.length_append, ← List.range'_append_1, List.filterMap_append]
    rw [ih, List.filterMap_cons]
    have hl : 0 < g.length := List.length_pos_iff.2 hg2
    have e1 : (List.range' pre.length g.length).filterMap f = (F g).toList := by
      obtain ⟨m, hm⟩ : ∃ m, g.length = m + 1 := ⟨g.length - 1, by omega⟩
      rw [hm, List.range'_succ, List.filterMap_cons, hf pre g gs.flatten hs hg1 hg2 (.inr trivial)]
      have e2 : (List.range' (pre.length + 1) m).filterMap f = [] := by
        rw [List.filterMap_eq_nil_iff]
        intro i hi
        rw [List.mem_range'_1] at hi
        have := hn pre g gs.flatten (i - pre.length) hs hg1 (by omega) (by omega)
        rwa [show pre.length + (i - pre.length) = i by omega] at this
      rw [e2]
      cases F g <;> rfl
    rw [e1]
    cases F g <;> simp
theorem docSeen_all {s : List Ent} (hs : Strict ltE s) (at_ : UInt64) : docSeen s at_ s.length = seenL s at_ := by
  have hrise := groups_rise hs
  have hsame := groupsR_same s
  have hflat := groupsR_flat s
  have key : ∀ (pre g post : List Ent) (j : Nat) (hj : j < g.length), s = pre ++ (g ++ post) → g ∈ groupsR s → s[pre.length + j]? = some g[j] := by
    intro pre g post j hj e _
    conv => lhs; rw [e]
    rw [List.getElem?_append_right (by omega), Nat.add_sub_cancel_left, List.getElem?_append_left hj]
    exact List.getElem?_eq_getElem hj
  have := heads_only s (docOp s at_) (opG at_) ?_ ?_ (groupsR s) [] (by rw [hflat]; rfl) (fun g hg => ⟨hg, (hsame g hg).choose_spec.1⟩)
  · rw [hflat, List.length_nil, ← List.range_eq_range'] at this
    exact this
  · intro pre g post e hg hne _
    obtain ⟨k, h1, h2⟩ := hsame g hg
    have hl : 0 < g.length := List.length_pos_iff.2 hne
    have h0 := key pre g post 0 hl e hg
    rw [Nat.add_zero] at h0
    have hh : headB s pre.length = true := by
      unfold headB
      cases hp : pre.length with
      | zero => rfl
      | succ i =>
        simp only [decide_eq_true_eq]
        rw [hp] at h0
        rw [h0]
        have hi : i < pre.length := by omega
        have e3 : s[i]? = some pre[i] := by
          conv => lhs; rw [e]
          rw [List.getElem?_append_left hi]; exact List.getElem?_eq_getElem hi
        rw [e3]
        simp only [Option.map_some, ne_eq, Option.some.injEq]
        intro e4
        -- the element ahead has the same key: it is of the group
        have hf := filter_key hs hg (List.getElem_mem (h := hl))
        have hc := congrArg List.length hf
        conv at hc => lhs; rw [e]
        rw [List.filter_append, List.filter_append, List.length_append, List.length_append] at hc
        have c1 : 0 < (pre.filter fun y => decide (y.1 = g[0].1)).length := List.length_pos_iff.2 (List.ne_nil_of_mem (List.mem_filter.2 ⟨List.getElem_mem hi, by simpa using e4⟩))
        have c2 : (g.filter fun y => decide (y.1 = g[0].1)).length = g.length := by
          rw [List.filter_eq_self.2 (fun y hy => by rw [decide_eq_true_eq, h2 y hy, h2 _ (List.getElem_mem hl)])]
        omega
    unfold docOp
    rw [if_pos hh, h0]
    simp only
    rw [find_group hs hg (List.getElem_mem hl)]
    rfl
  · intro pre g post j e hg hj0 hjl
    obtain ⟨k, h1, h2⟩ := hsame g hg
    have h3 := key pre g post j hjl e hg
    have h4 := key pre g post (j - 1) (by omega) e hg
    unfold docOp
    rw [if_neg]
    unfold headB
    obtain ⟨i, hi⟩ : ∃ i, pre.length + j = i + 1 := ⟨pre.length + j - 1, by omega⟩
    rw [hi]
    simp only [decide_eq_true_eq, ne_eq, Decidable.not_not]
    rw [← hi, h3, show i = pre.length + (j - 1) by omega, h4]
    simp only [Option.map_some, Option.some.injEq]
    rw [h2 _ (List.getElem_mem _), h2 _ (List.getElem_mem _)]
end Go.Proofs.Try.Mg
