/- The parts of a list, plainly: what MergeParts asks of them. -/
import Derived.Test.YtggcdeabnibibaaMk7
set_option linter.unusedVariables false
set_option linter.unusedSimpArgs false
namespace Go.Proofs.Try.Mg
open Go.RowKit Go.Cph Go.Cph.Skip Go.Cph.So

theorem bytes_ins (lt : Ent → Ent → Bool) (x : Ent) : ∀ l : List Ent, bytesL (ins lt x l) = szE x + bytesL l
  | [] => rfl
  | y :: l => by
    unfold ins
    split
    · rfl
    · rw [bytesL, bytes_ins lt x l, bytesL]; omega
theorem bytes_sort (lt : Ent → Ent → Bool) (l : List Ent) : bytesL (sortL lt l) = bytesL l := by
  have : ∀ (l s : List Ent), bytesL (l.foldl (fun s x => ins lt x s) s) = bytesL l + bytesL s := by
    intro l
    induction l with
    | nil => intro s; simp [bytesL]
    | cons x l ih => intro s; rw [List.foldl_cons, ih, bytes_ins, bytesL]; omega
  have := this l []
  unfold sortL
  rw [this]; rfl
theorem bytes_compA (lt : Ent → Ent → Bool) : ∀ (l : List Ent) (p : Ent), bytesL (compA lt p l) ≤ bytesL l
  | [], _ => Nat.le_refl _
  | b :: l, p => by
    have := bytes_compA lt l b
    unfold compA
    split
    · rw [bytesL]; omega
    · rw [bytesL, bytesL]; omega
theorem bytes_merge (lt : Ent → Ent → Bool) (l : List Ent) : bytesL (mergeL lt l) ≤ bytesL l := by
  have h := bytes_sort lt l
  unfold mergeL
  cases hs : sortL lt l with
  | nil => exact Nat.zero_le _
  | cons a s =>
    have := bytes_compA lt s a
    rw [hs, bytesL] at h
    show bytesL (a :: compA lt a s) ≤ _
    rw [bytesL]; omega

/-! ### parts -/
def NoCut (size : Int) (g : List Ent) : Prop := ∀ (j : Nat) (x y : Ent), g[j]? = some x → g[j + 1]? = some y → size ≤ (bytesL (g.take (j + 1)) : Int) → y.1 = x.1
def PartsOK (size : Int) : List (List Ent) → Prop
  | [] => True
  | g :: gs => g ≠ [] ∧ NoCut size g ∧ (∀ h, gs.head? = some h → size ≤ (bytesL g : Int) ∧ ∀ x y, g.getLast? = some x → h.head? = some y → y.1 ≠ x.1) ∧ PartsOK size gs
theorem noCut_one (size : Int) (l : List Ent) (h : l.length ≤ 1) : NoCut size l := by
  intro j x y _ h2
  rw [List.getElem?_eq_none (by omega)] at h2; cases h2
theorem split_ok (size : Int) : ∀ (r p : List Ent), NoCut size (p ++ r.take 1) → PartsOK size (splitF size p (bytesL p) r) ∧ ∀ e r', r = e :: r' → ∃ g gs, splitF size p (bytesL p) r = g :: gs ∧ g.head? = (p ++ [e]).head?
  | [], p, _ => ⟨trivial, fun _ _ h => by cases h⟩
  | e :: r, p, hn => by
    have hb : bytesL p + szE e = bytesL (p ++ [e]) := by rw [bytesL_append]; simp [bytesL]
    have hn' : NoCut size (p ++ [e]) := hn
    unfold splitF
    rw [hb]
    by_cases hc : cutB size (bytesL (p ++ [e])) e r = true
    · rw [if_pos hc]
      obtain ⟨i1, i2⟩ := split_ok size r [] (noCut_one size _ (by simp; omega))
      rw [show bytesL ([] : List Ent) = 0 from rfl] at i1 i2
      refine ⟨⟨by simp, hn', fun h hh => ?_, i1⟩, fun e' r' he => ?_⟩
      · cases r with
        | nil => simp [splitF] at hh
        | cons f r' =>
          obtain ⟨g, gs, hg, hg2⟩ := i2 f r' rfl
          rw [hg] at hh
          simp at hh
          subst hh
          unfold cutB at hc
          simp only [Bool.and_eq_true, decide_eq_true_eq] at hc
          refine ⟨hc.1, fun x y hx hy => ?_⟩
          rw [hg2] at hy
          simp at hx hy
          subst hx; subst hy
          exact hc.2
      · injection he with he _
        subst he
        exact ⟨_, _, rfl, rfl⟩
    · rw [if_neg hc]
      cases r with
      | nil => exact absurd rfl hc
      | cons f r' =>
        have hn2 : NoCut size (p ++ [e] ++ [f]) := by
          intro j x y hx hy hs
          by_cases hj : j + 1 < (p ++ [e]).length
          · rw [List.getElem?_append_left (by omega)] at hx
            rw [List.getElem?_append_left hj] at hy
            rw [List.take_append_of_le_length (by omega)] at hs
            exact hn' j x y hx hy hs
          · by_cases hj2 : j + 1 = (p ++ [e]).length
            · rw [hj2, List.getElem?_append_right (Nat.le_refl _), Nat.sub_self] at hy
              rw [List.length_append] at hj2
              simp at hj2 hy
              subst hy
              rw [hj2, List.append_assoc, List.getElem?_append_right (Nat.le_refl _), Nat.sub_self] at hx
              simp at hx
              subst hx
              have ht : (p ++ [e] ++ [f]).take (j + 1) = p ++ [e] := by rw [hj2, List.take_append_of_le_length (by simp)]; exact List.take_of_length_le (by simp)
              rw [ht] at hs
              by_cases hk : f.1 = e.1
              · exact hk
              · exfalso; apply hc
                unfold cutB
                simp [hs, hk]
            · rw [List.getElem?_eq_none (by rw [List.length_append, List.length_singleton]; omega)] at hy; cases hy
        obtain ⟨i1, i2⟩ := split_ok size (f :: r') (p ++ [e]) hn2
        refine ⟨i1, fun e' r'' he => ?_⟩
        injection he with he _
        subst he
        obtain ⟨g, gs, hg, hg2⟩ := i2 f r' rfl
        refine ⟨g, gs, hg, ?_⟩
        rw [hg2]
        cases p <;> rfl
theorem parts_ok (size : Int) (l : List Ent) : PartsOK size (splitL size l) := (split_ok size l [] (noCut_one size _ (by simp; omega))).1
theorem PartsOK.at {size : Int} : ∀ {gs : List (List Ent)}, PartsOK size gs → ∀ (i : Nat) (h : i < gs.length), gs[i] ≠ [] ∧ NoCut size gs[i] ∧ ∀ (h2 : i + 1 < gs.length), size ≤ (bytesL gs[i] : Int) ∧ ∀ x y, gs[i].getLast? = some x → gs[i + 1].head? = some y → y.1 ≠ x.1
  | [], _, i, h => absurd h (by simp)
  | g :: gs, hp, 0, h => ⟨hp.1, hp.2.1, fun h2 => by
    cases gs with
    | nil => simp at h2
    | cons k gs => exact hp.2.2.1 k rfl⟩
  | g :: gs, hp, i + 1, h => by
    have := PartsOK.at hp.2.2.2 i (by simpa using h)
    refine ⟨this.1, this.2.1, fun h2 => ?_⟩
    exact this.2.2 (by simpa using h2)
theorem split_flat (size : Int) : ∀ (r p : List Ent) (b : Nat), (splitF size p b r).flatten = if r = [] then [] else p ++ r
  | [], p, b => by simp [splitF]
  | e :: r, p, b => by
    unfold splitF
    split
    · rw [List.flatten_cons, split_flat size r [] 0]
      by_cases h : r = [] <;> simp [h]
    · rename_i hc
      rw [split_flat size r (p ++ [e])]
      cases r with
      | nil => exact absurd rfl hc
      | cons f r => simp
theorem splitL_flat (size : Int) (l : List Ent) : (splitL size l).flatten = l := by
  unfold splitL
  rw [split_flat]
  by_cases h : l = [] <;> simp [h]
/-- What lies ahead of the last key's versions, in bytes. -/
def aheadB (g : List Ent) (key : ByteArray) : Nat → Nat
  | 0 => 0
  | k + 1 => match g[k]? with
    | some x => if x.1 = key then aheadB g key k else bytesL (g.take (k + 1))
    | none => aheadB g key k
theorem aheadB_is (g : List Ent) (key : ByteArray) : ∀ k, k ≤ g.length → aheadB g key k = 0 ∨ ∃ j x, j < k ∧ g[j]? = some x ∧ x.1 ≠ key ∧ aheadB g key k = bytesL (g.take (j + 1)) ∧ ∀ i y, j < i → i < k → g[i]? = some y → y.1 = key
  | 0, _ => .inl rfl
  | k + 1, h => by
    have hx : g[k]? = some g[k] := List.getElem?_eq_getElem (by omega)
    unfold aheadB
    rw [hx]
    simp only
    by_cases hk : g[k].1 = key
    · rw [if_pos hk]
      rcases aheadB_is g key k (by omega) with h0 | ⟨j, x, h1, h2, h3, h4, h5⟩
      · exact .inl h0
      · refine .inr ⟨j, x, by omega, h2, h3, h4, fun i y hi hi2 hy => ?_⟩
        by_cases hik : i = k
        · subst hik; rw [hx] at hy; injection hy with hy; rw [← hy]; exact hk
        · exact h5 i y hi (by omega) hy
    · rw [if_neg hk]
      exact .inr ⟨k, _, by omega, hx, hk, rfl, fun i y hi hi2 hy => by omega⟩
theorem ahead_ok {size : Int} {g : List Ent} (h : NoCut size g) {z : Ent} (hz : g.getLast? = some z) : ¬ (0 < aheadB g z.1 g.length ∧ size ≤ (aheadB g z.1 g.length : Int)) := by
  rintro ⟨h1, h2⟩
  rcases aheadB_is g z.1 g.length (Nat.le_refl _) with h0 | ⟨j, x, a1, a2, a3, a4, a5⟩
  · omega
  · rw [a4] at h2
    by_cases hj : j + 1 < g.length
    · have hy : g[j + 1]? = some g[j + 1] := List.getElem?_eq_getElem hj
      have := h j x _ a2 hy h2
      rw [a5 (j + 1) _ (by omega) hj hy] at this
      exact a3 this.symm
    · rw [List.getLast?_eq_getElem?, show g.length - 1 = j by omega, a2] at hz
      injection hz with hz
      subst hz
      exact a3 rfl
theorem bytes_take (g : List Ent) : ∀ k (h : k < g.length), bytesL (g.take (k + 1)) = bytesL (g.take k) + szE g[k] := by
  intro k h
  rw [List.take_succ_eq_append_getElem h, bytesL_append]
  simp [bytesL]
theorem bytes_take_le (g : List Ent) (k : Nat) : bytesL (g.take k) ≤ bytesL g := by
  conv => rhs; rw [← List.take_append_drop k g, bytesL_append]
  omega
theorem flat_at {β : Type} : ∀ (gs : List (List β)) (i k : Nat) (h : i < gs.length) (hk : k < gs[i].length), gs.flatten[(gs.take i).flatten.length + k]? = some gs[i][k]
  | [], i, k, h, _ => absurd h (by simp)
  | g :: gs, 0, k, h, hk => by
    simp only [List.getElem_cons_zero] at hk
    simp only [List.take_zero, List.flatten_nil, List.length_nil, Nat.zero_add, List.flatten_cons, List.getElem_cons_zero]
    rw [List.getElem?_append_left hk]
    exact List.getElem?_eq_getElem hk
  | g :: gs, i + 1, k, h, hk => by
    have h' : i < gs.length := by simpa using h
    simp only [List.getElem_cons_succ] at hk
    simp only [List.take_succ_cons, List.flatten_cons, List.getElem_cons_succ, List.length_append]
    rw [List.getElem?_append_right (by omega), show g.length + (gs.take i).flatten.length + k - g.length = (gs.take i).flatten.length + k by omega]
    exact flat_at gs i k h' hk
theorem flat_next {β : Type} (gs : List (List β)) (i : Nat) (h : i < gs.length) : (gs.take (i + 1)).flatten.length = (gs.take i).flatten.length + gs[i].length := by
  rw [List.take_succ_eq_append_getElem h, List.flatten_append, List.length_append]
  simp
theorem flat_le {β : Type} (gs : List (List β)) (i : Nat) : (gs.take i).flatten.length ≤ gs.flatten.length := by
  conv => rhs; rw [← List.take_append_drop i gs, List.flatten_append, List.length_append]
  omega
end Go.Proofs.Try.Mg
