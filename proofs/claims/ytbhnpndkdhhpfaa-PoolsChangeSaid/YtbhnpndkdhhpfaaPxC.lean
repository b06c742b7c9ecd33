/- Lists of prefixes that rise: one put in, one taken out; a list made of any. No program in sight. -/
import Derived.Test.YtbhnpndkdhhpfaaPxB
namespace Go.Cph.Px

def rightAt (l : List Pf) (i : Nat) : Bool := rightP (l.getD i zeroP) && (i == 0 || before (l.getD (i - 1) zeroP) (l.getD i zeroP))
def rightL (l : List Pf) : Bool := (List.range l.length).all (rightAt l)
theorem getD_of {l : List Pf} {i : Nat} (h : i < l.length) : l.getD i zeroP = l[i] := by simp [List.getD_eq_getElem?_getD, h]
theorem rightAt_iff {l : List Pf} {i : Nat} (h : i < l.length) : rightAt l i = true ↔ rightP l[i] = true ∧ (i = 0 ∨ before (l[i - 1]'(by omega)) l[i] = true) := by
  unfold rightAt
  rw [getD_of h, getD_of (show i - 1 < l.length by omega), Bool.and_eq_true, Bool.or_eq_true, beq_iff_eq]
theorem rightL_at {l : List Pf} : rightL l = true ↔ ∀ i, i < l.length → rightAt l i = true := by simp [rightL]
theorem rightL_iff {l : List Pf} : rightL l = true ↔ Rises l := by
  rw [rightL_at]
  constructor
  · intro h
    have hc : ∀ (d i : Nat) (hj : i + 1 + d < l.length), before (l[i]'(by omega)) l[i + 1 + d] = true := by
      intro d
      induction d with
      | zero =>
        intro i hj
        have := ((rightAt_iff hj).1 (h _ hj)).2
        rcases this with h0 | h0
        · omega
        · simpa using h0
      | succ d ih =>
        intro i hj
        have h1 := ih i (by omega)
        have := ((rightAt_iff hj).1 (h _ hj)).2
        rcases this with h0 | h0
        · omega
        · have e : i + 1 + (d + 1) - 1 = i + 1 + d := by omega
          simp only [e] at h0
          exact before_trans h1 h0
    refine ⟨List.pairwise_iff_getElem.2 fun i j hi hj hlt => ?_, fun p hp => ?_⟩
    · obtain ⟨d, rfl⟩ : ∃ d, j = i + 1 + d := ⟨j - (i + 1), by omega⟩
      exact hc d i hj
    · obtain ⟨i, hi, rfl⟩ := List.getElem_of_mem hp
      exact ((rightAt_iff hi).1 (h i hi)).1
  · intro h i hi
    refine (rightAt_iff hi).2 ⟨h.rt _ (List.getElem_mem hi), ?_⟩
    rcases Nat.eq_zero_or_pos i with h0 | h0
    · exact .inl h0
    · exact .inr (List.pairwise_iff_getElem.1 h.ord (i - 1) i (by omega) hi (by omega))

/-! ### where one stands, or would -/
structure IsPlace (l : List Pf) (p : Pf) (i : Nat) : Prop where
  le : i ≤ l.length
  lo : ∀ a (h : a < l.length), a < i → before l[a] p = true
  hi : ∀ a (h : a < l.length), i ≤ a → before l[a] p = false
def pos (l : List Pf) (p : Pf) : Nat := l.countP (fun q => before q p)
theorem place_pos {l : List Pf} {p : Pf} {i : Nat} (h : IsPlace l p i) : pos l p = i := by
  unfold pos
  rw [← List.take_append_drop i l, List.countP_append]
  have h1 : (l.take i).countP (fun q => before q p) = (l.take i).length := List.countP_eq_length.2 fun q hq => by
    obtain ⟨a, ha, rfl⟩ := List.getElem_of_mem hq
    rw [List.length_take] at ha
    rw [List.getElem_take]
    exact h.lo a (by omega) (by omega)
  have h2 : (l.drop i).countP (fun q => before q p) = 0 := List.countP_eq_zero.2 fun q hq => by
    obtain ⟨a, ha, rfl⟩ := List.getElem_of_mem hq
    rw [List.length_drop] at ha
    rw [List.getElem_drop]
    simp [h.hi (i + a) (by omega) (by omega)]
  rw [h1, h2, List.length_take]
  have := h.le
  omega
theorem place_ex : ∀ {l : List Pf} (p : Pf), l.Pairwise (fun p q => before p q = true) → ∃ i, IsPlace l p i
  | [], p, _ => ⟨0, by simp, fun a h => by simp at h, fun a h => by simp at h⟩
  | b :: l, p, h => by
    rw [List.pairwise_cons] at h
    by_cases hb : before b p = true
    · obtain ⟨i, h1, h2, h3⟩ := place_ex p h.2
      refine ⟨i + 1, by simp; omega, fun a ha hlt => ?_, fun a ha hle => ?_⟩
      · cases a with
        | zero => exact hb
        | succ a => exact h2 a (by simpa using ha) (by omega)
      · cases a with
        | zero => omega
        | succ a => exact h3 a (by simpa using ha) (by omega)
    · refine ⟨0, by simp, fun a ha hlt => by omega, fun a ha _ => ?_⟩
      cases a with
      | zero => simpa using hb
      | succ a =>
        rw [Bool.eq_false_iff]; intro hc
        exact hb (before_trans (h.1 _ (List.getElem_mem (show a < l.length by simpa using ha))) hc)
theorem Rises.place {l : List Pf} (h : Rises l) (p : Pf) : IsPlace l p (pos l p) := by
  obtain ⟨i, hi⟩ := place_ex p h.ord
  rw [place_pos hi]; exact hi
/-- There: what stands at the place is it. -/
theorem Rises.there {l : List Pf} (h : Rises l) (p : Pf) : p ∈ l ↔ ∃ hi : pos l p < l.length, l[pos l p] = p := by
  have hp := h.place p
  constructor
  · intro hm
    obtain ⟨a, ha, e⟩ := List.getElem_of_mem hm
    have h1 : ¬ a < pos l p := fun hlt => by have := hp.lo a ha hlt; rw [e, before_irrefl] at this; cases this
    have h2 : pos l p < l.length := by omega
    refine ⟨h2, ?_⟩
    rcases Nat.lt_or_ge (pos l p) a with hlt | hge
    · have := List.pairwise_iff_getElem.1 h.ord _ _ h2 ha hlt
      rw [e, hp.hi _ h2 (Nat.le_refl _)] at this; cases this
    · have : a = pos l p := by omega
      subst this; exact e
  · rintro ⟨hi, e⟩
    rw [← e]; exact List.getElem_mem hi

def putL (l : List Pf) (p : Pf) : List Pf := l.take (pos l p) ++ p :: l.drop (pos l p)
def dropL (l : List Pf) (p : Pf) : List Pf := l.take (pos l p) ++ l.drop (pos l p + 1)
theorem mem_putL {l : List Pf} {p x : Pf} : x ∈ putL l p ↔ x = p ∨ x ∈ l := by
  unfold putL
  conv => rhs; rw [← List.take_append_drop (pos l p) l]
  simp only [List.mem_append, List.mem_cons]
  constructor
  · rintro (h | h | h)
    · exact .inr (.inl h)
    · exact .inl h
    · exact .inr (.inr h)
  · rintro (h | h | h)
    · exact .inr (.inl h)
    · exact .inl h
    · exact .inr (.inr h)
theorem putL_length (l : List Pf) (p : Pf) : (putL l p).length = l.length + 1 := by
  unfold putL
  have : pos l p ≤ l.length := List.countP_le_length
  simp; omega
theorem Rises.put {l : List Pf} (h : Rises l) {p : Pf} (hr : rightP p = true) (hn : p ∉ l) : Rises (putL l p) := by
  have hp := h.place p
  have hw := List.pairwise_iff_getElem.1 h.ord
  have hlo : ∀ x ∈ l.take (pos l p), before x p = true := fun x hx => by
    obtain ⟨a, ha, rfl⟩ := List.getElem_of_mem hx
    rw [List.length_take] at ha
    rw [List.getElem_take]
    exact hp.lo a (by omega) (by omega)
  have hhi : ∀ x ∈ l.drop (pos l p), before p x = true := fun x hx => by
    obtain ⟨a, ha, rfl⟩ := List.getElem_of_mem hx
    have hm := List.mem_of_mem_drop hx
    rw [List.length_drop] at ha
    rw [List.getElem_drop] at hm ⊢
    have h1 := hp.hi (pos l p + a) (by omega) (by omega)
    rcases hb : before p (l[pos l p + a]'(by omega)) with _ | _
    · rw [before_total h1 hb] at hm; exact absurd hm hn
    · rfl
  refine ⟨?_, fun x hx => ?_⟩
  · unfold putL
    rw [List.pairwise_append, List.pairwise_cons]
    refine ⟨h.ord.sublist (List.take_sublist _ _), ⟨hhi, h.ord.sublist (List.drop_sublist _ _)⟩, fun a ha b hb => ?_⟩
    rcases List.mem_cons.1 hb with rfl | hb
    · exact hlo a ha
    · exact before_trans (hlo a ha) (hhi b hb)
  · rcases mem_putL.1 hx with rfl | hx
    · exact hr
    · exact h.rt x hx
theorem dropL_sub (l : List Pf) (p : Pf) : (dropL l p).Sublist l := by
  unfold dropL
  conv => rhs; rw [← List.take_append_drop (pos l p) l]
  refine List.Sublist.append (List.Sublist.refl _) ?_
  rw [← List.drop_drop]
  exact List.drop_sublist _ _
theorem Rises.drop {l : List Pf} (h : Rises l) (p : Pf) : Rises (dropL l p) :=
  ⟨h.ord.sublist (dropL_sub l p), fun x hx => h.rt x ((dropL_sub l p).subset hx)⟩
theorem mem_dropL {l : List Pf} (h : Rises l) {p x : Pf} (hm : p ∈ l) : x ∈ dropL l p ↔ x ∈ l ∧ x ≠ p := by
  obtain ⟨hi, he⟩ := (h.there p).1 hm
  have hs : l = l.take (pos l p) ++ p :: l.drop (pos l p + 1) := by
    conv => lhs; rw [← List.take_append_drop (pos l p) l, List.drop_eq_getElem_cons hi, he]
  have hw := h.ord
  rw [hs, List.pairwise_append, List.pairwise_cons] at hw
  obtain ⟨_, ⟨w2, _⟩, w3⟩ := hw
  constructor
  · intro hx
    refine ⟨(dropL_sub l p).subset hx, ?_⟩
    rintro rfl
    unfold dropL at hx
    rcases List.mem_append.1 hx with hx | hx
    · have := w3 x hx x (by simp); rw [before_irrefl] at this; cases this
    · have := w2 x hx; rw [before_irrefl] at this; cases this
  · rintro ⟨hx, hne⟩
    rw [hs] at hx
    unfold dropL
    rcases List.mem_append.1 hx with hx | hx
    · exact List.mem_append_left _ hx
    · rcases List.mem_cons.1 hx with hx | hx
      · exact absurd hx hne
      · exact List.mem_append_right _ hx
theorem dropL_length {l : List Pf} (h : Rises l) {p : Pf} (hm : p ∈ l) : (dropL l p).length + 1 = l.length := by
  obtain ⟨hi, _⟩ := (h.there p).1 hm
  unfold dropL
  simp; omega

/-! ### what Put and Drop say; a list made of any -/
def putE (l : List Pf) (p : Pf) : Nat := if rightL l && rightP p then (if p ∈ l then 5 else 0) else 1
def dropE (l : List Pf) (p : Pf) : Nat := if rightL l && rightP p then (if p ∈ l then 0 else 4) else 1
def stepMade (out : List Pf) (p : Pf) : List Pf := if putE out p = 0 then putL out p else out
def madeL (l : List Pf) : List Pf := l.foldl stepMade []
theorem madeL_snoc (l : List Pf) (p : Pf) : madeL (l ++ [p]) = stepMade (madeL l) p := by unfold madeL; rw [List.foldl_append]; rfl
theorem putE_rises {l : List Pf} (h : Rises l) (p : Pf) : putE l p = if rightP p then (if p ∈ l then 5 else 0) else 1 := by
  unfold putE; rw [rightL_iff.2 h]; simp
theorem dropE_rises {l : List Pf} (h : Rises l) (p : Pf) : dropE l p = if rightP p then (if p ∈ l then 0 else 4) else 1 := by
  unfold dropE; rw [rightL_iff.2 h]; simp
theorem madeL_is (l : List Pf) : Rises (madeL l) ∧ (∀ x, x ∈ madeL l ↔ x ∈ l ∧ rightP x = true) ∧ (madeL l).length ≤ l.length := by
  suffices h : ∀ r : List Pf, Rises (madeL r.reverse) ∧ (∀ x, x ∈ madeL r.reverse ↔ x ∈ r.reverse ∧ rightP x = true) ∧ (madeL r.reverse).length ≤ r.reverse.length by simpa using h l.reverse
  intro r
  induction r with
  | nil => exact ⟨.nil, by simp [madeL], by simp [madeL]⟩
  | cons p r ih =>
    obtain ⟨h1, h2, h3⟩ := ih
    rw [List.reverse_cons, madeL_snoc]
    unfold stepMade
    rw [putE_rises h1]
    by_cases hr : rightP p = true
    · by_cases hm : p ∈ madeL r.reverse
      · rw [if_pos hr, if_pos hm, if_neg (by decide)]
        refine ⟨h1, fun x => ?_, by simp at h3 ⊢; omega⟩
        rw [h2]
        have := (h2 p).1 hm
        constructor
        · rintro ⟨a, b⟩; exact ⟨List.mem_append_left _ a, b⟩
        · rintro ⟨a, b⟩
          rcases List.mem_append.1 a with a | a
          · exact ⟨a, b⟩
          · simp at a; subst a; exact ⟨this.1, b⟩
      · rw [if_pos hr, if_neg hm, if_pos rfl]
        refine ⟨h1.put hr hm, fun x => ?_, by rw [putL_length]; simp at h3 ⊢; omega⟩
        rw [mem_putL, h2]
        constructor
        · rintro (rfl | ⟨a, b⟩)
          · exact ⟨by simp, hr⟩
          · exact ⟨List.mem_append_left _ a, b⟩
        · rintro ⟨a, b⟩
          rcases List.mem_append.1 a with a | a
          · exact .inr ⟨a, b⟩
          · simp at a; exact .inl a
    · rw [if_neg hr, if_neg (by decide)]
      refine ⟨h1, fun x => ?_, by simp at h3 ⊢; omega⟩
      rw [h2]
      constructor
      · rintro ⟨a, b⟩; exact ⟨List.mem_append_left _ a, b⟩
      · rintro ⟨a, b⟩
        rcases List.mem_append.1 a with a | a
        · exact ⟨a, b⟩
        · simp at a; subst a; exact absurd b hr
theorem madeL_eq {l m : List Pf} (h : ∀ x, x ∈ l ↔ x ∈ m) : madeL l = madeL m :=
  rises_ext (madeL_is l).1.ord (madeL_is m).1.ord fun x => by rw [(madeL_is l).2.1, (madeL_is m).2.1, h]
theorem put_drop {l : List Pf} (h : Rises l) {p : Pf} (hr : rightP p = true) (hn : p ∉ l) : dropL (putL l p) p = l := by
  have h1 := h.put hr hn
  refine rises_ext (h1.drop p).ord h.ord fun x => ?_
  rw [mem_dropL h1 (mem_putL.2 (.inl rfl)), mem_putL]
  constructor
  · rintro ⟨a | a, b⟩
    · exact absurd a b
    · exact a
  · intro a; exact ⟨.inr a, by rintro rfl; exact hn a⟩
theorem drop_put {l : List Pf} (h : Rises l) {p : Pf} (hm : p ∈ l) : putL (dropL l p) p = l := by
  have hn : p ∉ dropL l p := fun hx => ((mem_dropL h hm).1 hx).2 rfl
  refine rises_ext ((h.drop p).put (h.rt p hm) hn).ord h.ord fun x => ?_
  rw [mem_putL, mem_dropL h hm]
  constructor
  · rintro (rfl | ⟨a, _⟩)
    · exact hm
    · exact a
  · intro a
    by_cases e : x = p
    · exact .inl e
    · exact .inr ⟨a, e⟩
end Go.Cph.Px
