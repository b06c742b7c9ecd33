/- MergeHidden, plainly: what is seen of what stays is what is seen of the whole. -/
import Derived.Test.YtggcdeabnibibaaMp6
set_option linter.unusedVariables false
set_option linter.unusedSimpArgs false
namespace Go.Proofs.Try.Mg
open Go.RowKit Go.Cph Go.Cph.Skip Go.Cph.So

/-! ### what is seen is told key by key -/
def ltO (a b : Opp) : Bool := klt a.1 b.1
theorem weakO : Weak ltO := by
  refine ⟨fun {a b} h => klt_asymm h, fun {a b c} h1 h2 => ?_⟩
  unfold ltO at *
  cases h : klt c.1 a.1
  · rfl
  · rw [klt_of_lt_le h h1] at h2; cases h2
theorem opG_opE (a : UInt64) (g : List Ent) : opG a g = opE (g.find? (mayC a)) := rfl
theorem opE_some {e : Option Ent} {o : Opp} (h : opE e = some o) : ∃ x, e = some x ∧ x.2.2.2 = false ∧ o = (x.1, x.2.1, false) := by
  unfold opE at h
  cases e with
  | none => cases h
  | some x =>
    simp only at h
    split at h
    · cases h
    · rename_i hg
      exact ⟨x, rfl, by simpa using hg, (Option.some.inj h).symm⟩
theorem seen_rises {s : List Ent} (hs : Strict ltE s) (a : UInt64) : Strict ltO (seenL s a) := by
  unfold seenL Strict
  rw [List.pairwise_filterMap]
  refine (groups_rise hs).imp fun {g h} hr b hb c hc => ?_
  rw [opG_opE] at hb hc
  obtain ⟨x, hx, _, rfl⟩ := opE_some hb
  obtain ⟨y, hy, _, rfl⟩ := opE_some hc
  exact hr x (List.mem_of_find?_eq_some hx) y (List.mem_of_find?_eq_some hy)
theorem mem_seen {s : List Ent} (hs : Strict ltE s) (a : UInt64) (o : Opp) : o ∈ seenL s a ↔ opE (s.find? (atP o.1 a)) = some o := by
  unfold seenL
  rw [List.mem_filterMap]
  constructor
  · rintro ⟨g, hg, h⟩
    rw [opG_opE] at h
    have h0 := h
    obtain ⟨x, hx, _, rfl⟩ := opE_some h
    rw [find_group hs hg (List.mem_of_find?_eq_some hx) a]
    exact h0
  · intro h
    obtain ⟨x, hx, h1, h2⟩ := opE_some h
    have hm := List.mem_of_find?_eq_some hx
    have hp := List.find?_some hx
    unfold atP at hp
    simp only [Bool.and_eq_true, decide_eq_true_eq] at hp
    have hm2 := hm
    rw [← groupsR_flat s, List.mem_flatten] at hm2
    obtain ⟨g, hg, hxg⟩ := hm2
    refine ⟨g, hg, ?_⟩
    rw [opG_opE, ← find_group hs hg hxg a, hp.1]
    exact h
theorem seen_ext {s t : List Ent} (hs : Strict ltE s) (ht : Strict ltE t) (a : UInt64) (h : ∀ key, opE (s.find? (atP key a)) = opE (t.find? (atP key a))) : seenL s a = seenL t a :=
  strict_unique weakO (seen_rises hs a) (seen_rises ht a) fun o => by rw [mem_seen hs, mem_seen ht, h]

/-! ### the first one of a list that rises -/
def Lst (s : List Ent) (p : Ent → Bool) (x : Ent) : Prop := x ∈ s ∧ p x = true ∧ ∀ y ∈ s, p y = true → y = x ∨ ltE x y = true
theorem find_lst {s : List Ent} (hs : Strict ltE s) (p : Ent → Bool) (x : Ent) : s.find? p = some x ↔ Lst s p x := by
  constructor
  · intro h
    refine ⟨List.mem_of_find?_eq_some h, List.find?_some h, fun y hy hp => ?_⟩
    obtain ⟨l1, l2, he, hn⟩ := (List.find?_eq_some_iff_append.1 h).2
    rw [he] at hy hs
    rcases List.mem_append.1 hy with h1 | h1
    · have := hn y h1
      rw [hp] at this; cases this
    · rcases List.mem_cons.1 h1 with rfl | h1
      · exact Or.inl rfl
      · unfold Strict at hs
        rw [List.pairwise_append] at hs
        exact Or.inr ((List.pairwise_cons.1 hs.2.1).1 y h1)
  · rintro ⟨hm, hp, hl⟩
    cases hf : s.find? p with
    | none => 
      have := List.find?_eq_none.1 hf x hm
      exact absurd hp this
    | some y =>
      have hy : Lst s p y := by
        refine ⟨List.mem_of_find?_eq_some hf, List.find?_some hf, fun z hz hp => ?_⟩
        obtain ⟨l1, l2, he, hn⟩ := (List.find?_eq_some_iff_append.1 hf).2
        rw [he] at hz hs
        rcases List.mem_append.1 hz with h1 | h1
        · have := hn z h1
          rw [hp] at this; cases this
        · rcases List.mem_cons.1 h1 with rfl | h1
          · exact Or.inl rfl
          · unfold Strict at hs
            rw [List.pairwise_append] at hs
            exact Or.inr ((List.pairwise_cons.1 hs.2.1).1 z h1)
      rcases hl y hy.1 hy.2.1 with h | h
      · rw [h]
      · rcases hy.2.2 x hm hp with h2 | h2
        · rw [h2]
        · rw [weakE.asymm h] at h2; cases h2
theorem find_sub {s t : List Ent} (hs : Strict ltE s) (ht : Strict ltE t) {p : Ent → Bool} (hsub : ∀ x ∈ t, x ∈ s) (h : ∀ x, s.find? p = some x → x ∈ t) : s.find? p = t.find? p := by
  cases hf : s.find? p with
  | none =>
    symm
    rw [List.find?_eq_none] at hf ⊢
    exact fun x hx => hf x (hsub x hx)
  | some x =>
    symm
    rw [find_lst ht]
    obtain ⟨h1, h2, h3⟩ := (find_lst hs p x).1 hf
    exact ⟨h x hf, h2, fun y hy => h3 y (hsub y hy)⟩

/-! ### what stays -/
/-- A number of a snapshot, or one that no entry is above. -/
def Good (s : List Ent) (snaps : List UInt64) (a : UInt64) : Prop := a ∈ snaps ∨ ∀ x ∈ s, x.2.2.1 ≤ a
theorem mem_keep {s : List Ent} (hs : Strict ltE s) (bottom : Bool) (snaps : List UInt64) (x : Ent) : x ∈ keepL s bottom snaps ↔ ∃ i : Nat, s[i]? = some x ∧ stayB s i snaps = true ∧ (docOlder s snaps i || !bottom) = true := by
  rw [← docKeep_all hs, docKeep, List.mem_filterMap]
  constructor
  · rintro ⟨i, hi, hk⟩
    unfold docKeepAt at hk
    split at hk
    · rename_i hc
      rw [Bool.and_eq_true] at hc
      exact ⟨i, hk, hc.1, hc.2⟩
    · cases hk
  · rintro ⟨i, hi, h1, h2⟩
    refine ⟨i, List.mem_range.2 ?_, ?_⟩
    · refine Nat.lt_of_not_le fun h => ?_
      rw [List.getElem?_eq_none h] at hi; cases hi
    · unfold docKeepAt
      rw [h1, h2]
      exact hi
theorem lst_stays {s : List Ent} (hs : Strict ltE s) {snaps : List UInt64} {a : UInt64} (hg : Good s snaps a) {key : ByteArray} {x : Ent} (h : s.find? (atP key a) = some x) {i : Nat} (hi : s[i]? = some x) : stayB s i snaps = true := by
  have hp := List.find?_some h
  unfold atP at hp
  simp only [Bool.and_eq_true, decide_eq_true_eq] at hp
  rcases hg with hg | hg
  · unfold stayB
    have : stayAt s i a = true := by
      unfold stayAt
      rw [hi]
      simp only
      rw [hp.1, h]
      simp
    rw [Bool.or_eq_true]
    exact Or.inr (List.any_eq_true.2 ⟨a, hg, this⟩)
  · refine stayB_head ?_
    unfold headB
    cases i with
    | zero => rfl
    | succ m =>
      simp only
      rw [decide_eq_true_eq]
      intro he
      have hl : m + 1 < s.length := by
        refine Nat.lt_of_not_le fun h => ?_
        rw [List.getElem?_eq_none h] at hi; cases hi
      have hm : s[m]? = some s[m] := List.getElem?_eq_getElem (by omega)
      rw [hi, hm] at he
      simp only [Option.map_some, Option.some.injEq] at he
      have hlt : ltE s[m] s[m + 1] = true := List.pairwise_iff_getElem.1 hs m (m + 1) (by omega) hl (by omega)
      have hx : s[m + 1] = x := Option.some.inj ((List.getElem?_eq_getElem hl).symm.trans hi)
      rw [hx] at hlt
      have hpm : atP key a s[m] = true := by
        unfold atP mayC
        simp only [Bool.and_eq_true, decide_eq_true_eq]
        exact ⟨he.trans hp.1, hg _ (List.getElem_mem _)⟩
      rcases ((find_lst hs _ _).1 h).2.2 _ (List.getElem_mem _) hpm with h2 | h2
      · rw [h2, weakE.irrefl] at hlt; cases hlt
      · rw [weakE.asymm h2] at hlt; cases hlt
theorem keep_find {s : List Ent} (hs : Strict ltE s) {snaps : List UInt64} {a : UInt64} (hg : Good s snaps a) (key : ByteArray) : s.find? (atP key a) = (keepL s false snaps).find? (atP key a) := by
  refine find_sub hs (keep_strict hs false snaps) (fun x hx => (keep_sub hs false snaps).subset hx) fun x hx => ?_
  rw [mem_keep hs]
  obtain ⟨i, hi, he⟩ := List.getElem_of_mem (List.mem_of_find?_eq_some hx)
  have hi2 : s[i]? = some x := by rw [List.getElem?_eq_getElem hi, he]
  exact ⟨i, hi2, lst_stays hs hg hx hi2, by simp⟩
theorem older_up {s : List Ent} {snaps : List UInt64} {i k : Nat} {x y : Ent} (hx : s[i]? = some x) (hy : s[k]? = some y) (hik : i ≤ k) (he : y.1 = x.1) (h : docOlder s snaps k = true) : docOlder s snaps i = true := by
  rw [docOlder, List.any_eq_true] at h ⊢
  obtain ⟨m, hm, hl⟩ := h
  refine ⟨m, hm, ?_⟩
  have hm2 : m < s.length := List.mem_range.1 hm
  have hms : s[m]? = some s[m] := List.getElem?_eq_getElem hm2
  unfold liveAt at hl
  rw [hy, hms] at hl
  simp only [Bool.and_eq_true, decide_eq_true_eq] at hl
  obtain ⟨⟨a1, a2⟩, a3⟩ := hl
  rw [live_at hx hms (by omega) (by rw [a2, he])]
  simp only [Bool.and_eq_true]
  exact a3
theorem low_find {s : List Ent} (hs : Strict ltE s) {snaps : List UInt64} {a : UInt64} (hg : Good s snaps a) (key : ByteArray) : opE (s.find? (atP key a)) = opE ((keepL s true snaps).find? (atP key a)) := by
  have hk := keep_strict hs true snaps
  have hsub : ∀ x ∈ keepL s true snaps, x ∈ s := fun x hx => (keep_sub hs true snaps).subset hx
  cases hf : s.find? (atP key a) with
  | none =>
    have : (keepL s true snaps).find? (atP key a) = none := by
      rw [List.find?_eq_none] at hf ⊢
      exact fun x hx => hf x (hsub x hx)
    rw [this]
  | some x =>
    have hL := (find_lst hs _ _).1 hf
    obtain ⟨i, hi, he⟩ := List.getElem_of_mem hL.1
    have hi2 : s[i]? = some x := by rw [List.getElem?_eq_getElem hi, he]
    have hst := lst_stays hs hg hf hi2
    by_cases hin : x ∈ keepL s true snaps
    · have : (keepL s true snaps).find? (atP key a) = some x := by
        rw [find_lst hk]
        exact ⟨hin, hL.2.1, fun y hy => hL.2.2 y (hsub y hy)⟩
      rw [this]
    · have hol : docOlder s snaps i = false := by
        cases h : docOlder s snaps i
        · rfl
        · exact absurd ((mem_keep hs true snaps x).2 ⟨i, hi2, hst, by rw [h]; rfl⟩) hin
      have hgone : x.2.2.2 = true := by
        cases h : x.2.2.2
        · have : docOlder s snaps i = true := by
            rw [docOlder, List.any_eq_true]
            exact ⟨i, List.mem_range.2 hi, by rw [live_at hi2 hi2 (Nat.le_refl _) rfl, hst, h]; rfl⟩
          rw [hol] at this; cases this
        · rfl
      have hno : (keepL s true snaps).find? (atP key a) = none := by
        rw [List.find?_eq_none]
        intro y hy hp
        obtain ⟨k, hk2, h1, h2⟩ := (mem_keep hs true snaps y).1 hy
        simp only [Bool.not_true, Bool.or_false] at h2
        have hxk : x.1 = key := by have := hL.2.1; unfold atP at this; simp only [Bool.and_eq_true, decide_eq_true_eq] at this; exact this.1
        have hyk : y.1 = key := by have := hp; unfold atP at this; simp only [Bool.and_eq_true, decide_eq_true_eq] at this; exact this.1
        have hkl : k < s.length := by
          refine Nat.lt_of_not_le fun h => ?_
          rw [List.getElem?_eq_none h] at hk2; cases hk2
        have hky : s[k] = y := Option.some.inj ((List.getElem?_eq_getElem hkl).symm.trans hk2)
        rcases hL.2.2 y (hsub y hy) hp with h3 | h3
        · rw [h3] at hy; exact hin hy
        · have hik : i ≤ k := by
            refine Nat.le_of_not_lt fun h => ?_
            have := List.pairwise_iff_getElem.1 hs k i hkl hi h
            rw [hky, he, weakE.asymm h3] at this; cases this
          rw [older_up hi2 hk2 hik (by rw [hxk, hyk]) h2] at hol; cases hol
      rw [hno]
      unfold opE
      simp only
      rw [if_pos hgone]

/-! ### with lists of older entries behind both -/
def youngL (part : UInt64) (l : List Ent) : List Ent := l.filter fun x => !decide (x.2.2.1 < part)
def oldL (part : UInt64) (l : List Ent) : List Ent := l.filter fun x => decide (x.2.2.1 < part)
theorem mem_young {part : UInt64} {l : List Ent} {x : Ent} : x ∈ mergeL ltE (youngL part l) ↔ x ∈ mergeL ltE l ∧ ¬ x.2.2.1 < part := by
  rw [mem_mergeL weakE, mem_mergeL weakE]
  by_cases h : x.2.2.1 < part
  · constructor
    · intro hf
      have := Fst.mem hf
      unfold youngL at this
      rw [List.mem_filter] at this
      simp [h] at this
    · intro hf; exact absurd h hf.2
  · have : (youngL part l).filter (eqv ltE x) = l.filter (eqv ltE x) := by
      unfold youngL
      rw [List.filter_filter]
      refine List.filter_congr fun y _ => ?_
      cases he : eqv ltE x y
      · rfl
      · have := ((eqvE x y).1 he).2
        rw [← this]
        simp [h]
    unfold Fst
    rw [this]
    simp [h]
theorem mem_kept {part : UInt64} {snaps : List UInt64} {l : List Ent} {x : Ent} : x ∈ mergeL ltE (keepL (mergeL ltE (youngL part l)) false snaps ++ oldL part l) ↔ (x ∈ mergeL ltE l ∧ x.2.2.1 < part) ∨ x ∈ keepL (mergeL ltE (youngL part l)) false snaps := by
  have hY := mergeL_strict weakE (youngL part l)
  have hK := keep_strict hY false snaps
  have hyo : ∀ y ∈ keepL (mergeL ltE (youngL part l)) false snaps, ¬ y.2.2.1 < part := fun y hy => (mem_young.1 ((keep_sub hY false snaps).subset hy)).2
  rw [mem_mergeL weakE, mem_mergeL weakE]
  unfold Fst
  rw [List.filter_append]
  by_cases h : x.2.2.1 < part
  · have h1 : (keepL (mergeL ltE (youngL part l)) false snaps).filter (eqv ltE x) = [] := by
      rw [List.filter_eq_nil_iff]
      intro y hy he
      have := ((eqvE x y).1 he).2
      rw [this] at h
      exact hyo y hy h
    have h2 : (oldL part l).filter (eqv ltE x) = l.filter (eqv ltE x) := by
      unfold oldL
      rw [List.filter_filter]
      refine List.filter_congr fun y _ => ?_
      cases he : eqv ltE x y
      · rfl
      · have := ((eqvE x y).1 he).2
        rw [← this]
        simp [h]
    rw [h1, h2, List.nil_append]
    constructor
    · intro hf; exact Or.inl ⟨hf, h⟩
    · rintro (hf | hf)
      · exact hf.1
      · exact absurd h (hyo x hf)
  · have h2 : (oldL part l).filter (eqv ltE x) = [] := by
      rw [List.filter_eq_nil_iff]
      intro y hy he
      have := ((eqvE x y).1 he).2
      unfold oldL at hy
      rw [List.mem_filter] at hy
      rw [this] at h
      exact h (by simpa using hy.2)
    rw [h2, List.append_nil]
    constructor
    · intro hf
      refine Or.inr ?_
      have : Fst ltE (keepL (mergeL ltE (youngL part l)) false snaps) x := hf
      exact this.mem
    · rintro (hf | hf)
      · exact absurd hf.2 h
      · exact strict_fst weakE hK hf
theorem kept_find {part : UInt64} {snaps : List UInt64} {l : List Ent} {a : UInt64} (hg : Good l snaps a) (key : ByteArray) : (mergeL ltE l).find? (atP key a) = (mergeL ltE (keepL (mergeL ltE (youngL part l)) false snaps ++ oldL part l)).find? (atP key a) := by
  have hY := mergeL_strict weakE (youngL part l)
  have hW := mergeL_strict weakE l
  refine find_sub hW (mergeL_strict weakE _) (fun x hx => ?_) fun x hx => ?_
  · rcases mem_kept.1 hx with h | h
    · exact h.1
    · exact (mem_young.1 ((keep_sub hY false snaps).subset h)).1
  · rw [mem_kept]
    have hL := (find_lst hW _ _).1 hx
    by_cases h : x.2.2.1 < part
    · exact Or.inl ⟨hL.1, h⟩
    · refine Or.inr ?_
      have hg2 : Good (mergeL ltE (youngL part l)) snaps a := hg.imp id fun h y hy => h y (Fst.mem ((mem_mergeL weakE).1 (mem_young.1 hy).1))
      have hf : (mergeL ltE (youngL part l)).find? (atP key a) = some x := by
        rw [find_lst hY]
        exact ⟨mem_young.2 ⟨hL.1, h⟩, hL.2.1, fun y hy => hL.2.2 y (mem_young.1 hy).1⟩
      rw [keep_find hY hg2] at hf
      exact List.mem_of_find?_eq_some hf

/-! ### the law -/
theorem hidden_kept {part : UInt64} {snaps : List UInt64} {l : List Ent} {a : UInt64} (hg : Good l snaps a) : seenL (mergeL ltE l) a = seenL (mergeL ltE (keepL (mergeL ltE (youngL part l)) false snaps ++ oldL part l)) a :=
  seen_ext (mergeL_strict weakE _) (mergeL_strict weakE _) a fun key => by rw [kept_find hg]
theorem hidden_low {snaps : List UInt64} {l : List Ent} {a : UInt64} (hg : Good l snaps a) : seenL (mergeL ltE l) a = seenL (keepL (mergeL ltE l) true snaps) a :=
  seen_ext (mergeL_strict weakE _) (keep_strict (mergeL_strict weakE _) true snaps) a fun key =>
    low_find (mergeL_strict weakE _) (hg.imp id fun h y hy => h y (Fst.mem ((mem_mergeL weakE).1 hy))) key
end Go.Proofs.Try.Mg
