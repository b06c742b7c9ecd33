/- Versions, plainly: which tables are to be put together. No program in sight. -/
import Derived.Test.YtkeaalacepjadaaDoorVG
set_option linter.unusedVariables false
set_option linter.unusedSimpArgs false
namespace Go.Cph.Ve
open Go.Cph Go.Cph.Skip Go.Cph.So

def lowF (l : List Tb) (f : ByteArray) : ByteArray := l.foldl (fun a t => if klt (tF t) a then tF t else a) f
def topL (l : List Tb) (g : ByteArray) : ByteArray := l.foldl (fun a t => if klt a (tL t) then tL t else a) g
def fstF (l : List Tb) : ByteArray := match l with
  | [] => ByteArray.empty
  | t :: l => lowF l (tF t)
def lstL (l : List Tb) : ByteArray := match l with
  | [] => ByteArray.empty
  | t :: l => topL l (tL t)
theorem lowF_next {l : List Tb} {f : ByteArray} {i : Nat} (h : i < l.length) : lowF (l.take (i + 1)) f = if klt (tF l[i]) (lowF (l.take i) f) then tF l[i] else lowF (l.take i) f := by
  unfold lowF
  rw [List.take_succ_eq_append_getElem h, List.foldl_append]
  rfl
theorem topL_next {l : List Tb} {g : ByteArray} {i : Nat} (h : i < l.length) : topL (l.take (i + 1)) g = if klt (topL (l.take i) g) (tL l[i]) then tL l[i] else topL (l.take i) g := by
  unfold topL
  rw [List.take_succ_eq_append_getElem h, List.foldl_append]
  rfl
/-- Going over the first one again changes nothing. -/
theorem fst_all {l : List Tb} (h : 0 < l.length) : lowF l (tF l[0]) = fstF l := by
  cases l with
  | nil => simp at h
  | cons t l =>
    unfold fstF lowF
    rw [List.foldl_cons]
    simp only [List.getElem_cons_zero, klt_irrefl]
    rfl
theorem lst_all {l : List Tb} (h : 0 < l.length) : topL l (tL l[0]) = lstL l := by
  cases l with
  | nil => simp at h
  | cons t l =>
    unfold lstL topL
    rw [List.foldl_cons]
    simp only [List.getElem_cons_zero, klt_irrefl]
    rfl
theorem lowF_mem (l : List Tb) (f : ByteArray) : lowF l f = f ∨ ∃ t ∈ l, lowF l f = tF t := by
  unfold lowF
  induction l generalizing f with
  | nil => exact .inl rfl
  | cons t l ih =>
    rw [List.foldl_cons]
    rcases ih (if klt (tF t) f then tF t else f) with h | ⟨u, hu, h⟩
    · rw [h]
      split
      · exact .inr ⟨t, List.mem_cons_self, rfl⟩
      · exact .inl rfl
    · exact .inr ⟨u, List.mem_cons_of_mem _ hu, h⟩
theorem topL_mem (l : List Tb) (g : ByteArray) : topL l g = g ∨ ∃ t ∈ l, topL l g = tL t := by
  unfold topL
  induction l generalizing g with
  | nil => exact .inl rfl
  | cons t l ih =>
    rw [List.foldl_cons]
    rcases ih (if klt g (tL t) then tL t else g) with h | ⟨u, hu, h⟩
    · rw [h]
      split
      · exact .inr ⟨t, List.mem_cons_self, rfl⟩
      · exact .inl rfl
    · exact .inr ⟨u, List.mem_cons_of_mem _ hu, h⟩
theorem fst_mem {l : List Tb} (h : 0 < l.length) : ∃ t ∈ l, fstF l = tF t := by
  rw [← fst_all h]
  rcases lowF_mem l (tF l[0]) with e | h2
  · exact ⟨_, List.getElem_mem h, e⟩
  · exact h2
theorem lst_mem {l : List Tb} (h : 0 < l.length) : ∃ t ∈ l, lstL l = tL t := by
  rw [← lst_all h]
  rcases topL_mem l (tL l[0]) with e | h2
  · exact ⟨_, List.getElem_mem h, e⟩
  · exact h2
/-- No table of the list begins ahead of it. -/
theorem lowF_le (l : List Tb) (f : ByteArray) : klt f (lowF l f) = false ∧ ∀ t ∈ l, klt (tF t) (lowF l f) = false := by
  unfold lowF
  induction l generalizing f with
  | nil => exact ⟨klt_irrefl _, fun t ht => by cases ht⟩
  | cons t l ih =>
    rw [List.foldl_cons]
    obtain ⟨h1, h2⟩ := ih (if klt (tF t) f then tF t else f)
    have key : klt (tF t) (l.foldl (fun a t => if klt (tF t) a then tF t else a) (if klt (tF t) f then tF t else f)) = false ∧ klt f (l.foldl (fun a t => if klt (tF t) a then tF t else a) (if klt (tF t) f then tF t else f)) = false := by
      by_cases h : klt (tF t) f = true
      · rw [if_pos h] at h1 ⊢
        exact ⟨h1, kle_trans h1 (klt_asymm h)⟩
      · rw [if_neg h] at h1 ⊢
        exact ⟨kle_trans h1 (by simpa using h), h1⟩
    refine ⟨key.2, fun u hu => ?_⟩
    rcases List.mem_cons.1 hu with rfl | hu
    · exact key.1
    · exact h2 u hu
theorem topL_ge (l : List Tb) (g : ByteArray) : klt (topL l g) g = false ∧ ∀ t ∈ l, klt (topL l g) (tL t) = false := by
  unfold topL
  induction l generalizing g with
  | nil => exact ⟨klt_irrefl _, fun t ht => by cases ht⟩
  | cons t l ih =>
    rw [List.foldl_cons]
    obtain ⟨h1, h2⟩ := ih (if klt g (tL t) then tL t else g)
    have key : klt (l.foldl (fun a t => if klt a (tL t) then tL t else a) (if klt g (tL t) then tL t else g)) (tL t) = false ∧ klt (l.foldl (fun a t => if klt a (tL t) then tL t else a) (if klt g (tL t) then tL t else g)) g = false := by
      by_cases h : klt g (tL t) = true
      · rw [if_pos h] at h1 ⊢
        exact ⟨h1, kle_trans (klt_asymm h) h1⟩
      · rw [if_neg h] at h1 ⊢
        exact ⟨kle_trans (by simpa using h) h1, h1⟩
    refine ⟨key.2, fun u hu => ?_⟩
    rcases List.mem_cons.1 hu with rfl | hu
    · exact key.1
    · exact h2 u hu
theorem fst_le {l : List Tb} {t : Tb} (h : t ∈ l) : klt (tF t) (fstF l) = false := by
  have h0 : 0 < l.length := List.length_pos_of_mem h
  rw [← fst_all h0]
  exact (lowF_le l _).2 t h
theorem lst_ge {l : List Tb} {t : Tb} (h : t ∈ l) : klt (lstL l) (tL t) = false := by
  have h0 : 0 < l.length := List.length_pos_of_mem h
  rw [← lst_all h0]
  exact (topL_ge l _).2 t h
/-! ### the plan -/
def limK (k : Nat) : Nat := match k with
  | 0 => 3
  | 1 => 4
  | _ => 16
def levK (A : Nat → List Tb) : Option Nat := if 3 < (A 0).length then some 0 else if 4 < (A 1).length then some 1 else if 16 < (A 2).length then some 2 else none
def inK (A : Nat → List Tb) (k : Nat) : List Tb := if k = 0 then A 0 else (A k).take 1
def belowK (A : Nat → List Tb) (k : Nat) : List Tb := overL (A (k + 1)) (fstF (inK A k)) (lstL (inK A k))
def bothK (A : Nat → List Tb) (k : Nat) : List Tb := inK A k ++ belowK A k
def botTo (A : Nat → List Tb) (k : Nat) (f g : ByteArray) (d : Nat) : Bool := (List.range d).all fun j => if k + 2 ≤ j then decide ((overL (A j) f g).length = 0) else true
theorem botTo_start (A : Nat → List Tb) (k : Nat) (f g : ByteArray) : botTo A k f g (k + 2) = true := by
  unfold botTo
  rw [List.all_eq_true]
  intro j hj
  have := List.mem_range.1 hj
  rw [if_neg (by omega)]
theorem botTo_next (A : Nat → List Tb) (k : Nat) (f g : ByteArray) {d : Nat} (h : k + 2 ≤ d) : botTo A k f g (d + 1) = (botTo A k f g d && decide ((overL (A d) f g).length = 0)) := by
  unfold botTo
  rw [List.range_succ, List.all_append]
  congr 1
  simp [h]
def botK (A : Nat → List Tb) (k : Nat) : Bool := botTo A k (fstF (bothK A k)) (lstL (bothK A k)) 4
theorem botTo_four {A : Nat → List Tb} {k : Nat} {f g : ByteArray} (hk : k < 3) : botTo A k f g (max 4 (k + 2)) = botTo A k f g 4 := by
  rw [Nat.max_eq_left (by omega)]
theorem levK_lt {A : Nat → List Tb} {k : Nat} (h : levK A = some k) : k < 3 ∧ limK k < (A k).length ∧ ∀ j, j < k → (A j).length ≤ limK j := by
  unfold levK at h
  split at h
  · injection h with h; subst h
    exact ⟨by omega, by assumption, fun j hj => by omega⟩
  · split at h
    · injection h with h; subst h
      refine ⟨by omega, by assumption, fun j hj => ?_⟩
      have : j = 0 := by omega
      subst this
      show _ ≤ 3
      omega
    · split at h
      · injection h with h; subst h
        refine ⟨by omega, by assumption, fun j hj => ?_⟩
        rcases (show j = 0 ∨ j = 1 by omega) with rfl | rfl
        · show _ ≤ 3
          omega
        · show _ ≤ 4
          omega
      · cases h
theorem levK_some {A : Nat → List Tb} {k : Nat} (hk : k < 3) (h : limK k < (A k).length) (h2 : ∀ j, j < k → (A j).length ≤ limK j) : levK A = some k := by
  unfold levK
  rcases (show k = 0 ∨ k = 1 ∨ k = 2 by omega) with rfl | rfl | rfl
  · rw [if_pos (show 3 < (A 0).length from h)]
  · have a : (A 0).length ≤ 3 := h2 0 (by omega)
    rw [if_neg (by omega), if_pos (show 4 < (A 1).length from h)]
  · have a : (A 0).length ≤ 3 := h2 0 (by omega)
    have b : (A 1).length ≤ 4 := h2 1 (by omega)
    rw [if_neg (by omega), if_neg (by omega), if_pos (show 16 < (A 2).length from h)]
theorem levK_none {A : Nat → List Tb} : levK A = none ↔ ∀ j, j < 3 → (A j).length ≤ limK j := by
  constructor
  · intro h j hj
    unfold levK at h
    split at h
    · cases h
    · split at h
      · cases h
      · split at h
        · cases h
        · rcases (show j = 0 ∨ j = 1 ∨ j = 2 by omega) with rfl | rfl | rfl
          · show _ ≤ 3
            omega
          · show _ ≤ 4
            omega
          · show _ ≤ 16
            omega
  · intro h
    have a : (A 0).length ≤ 3 := h 0 (by omega)
    have b : (A 1).length ≤ 4 := h 1 (by omega)
    have c : (A 2).length ≤ 16 := h 2 (by omega)
    unfold levK
    rw [if_neg (by omega), if_neg (by omega), if_neg (by omega)]
theorem inK_pos {A : Nat → List Tb} {k : Nat} (h : 0 < (A k).length) : 0 < (inK A k).length := by
  unfold inK
  split
  · subst k; exact h
  · rw [List.length_take]; omega
theorem inK_sub {A : Nat → List Tb} {k : Nat} {t : Tb} (h : t ∈ inK A k) : t ∈ A k := by
  unfold inK at h
  split at h
  · subst k; exact h
  · exact List.mem_of_mem_take h
theorem bothK_pos {A : Nat → List Tb} {k : Nat} (h : 0 < (A k).length) : 0 < (bothK A k).length := by
  unfold bothK
  have := inK_pos h
  rw [List.length_append]
  omega
/-- The same levels, the same plan. -/
theorem plan_same {A B : Nat → List Tb} (h : ∀ k, k < 4 → A k = B k) : levK A = levK B ∧ (∀ k, k < 3 → inK A k = inK B k ∧ belowK A k = belowK B k ∧ botK A k = botK B k) := by
  have hin : ∀ k, k < 3 → inK A k = inK B k := fun k hk => by
    unfold inK
    rw [h 0 (by omega), h k (by omega)]
  have hbl : ∀ k, k < 3 → belowK A k = belowK B k := fun k hk => by
    unfold belowK
    rw [hin k hk, h (k + 1) (by omega)]
  refine ⟨?_, fun k hk => ⟨hin k hk, hbl k hk, ?_⟩⟩
  · unfold levK
    rw [h 0 (by omega), h 1 (by omega), h 2 (by omega)]
  · unfold botK
    have hb : bothK A k = bothK B k := by
      unfold bothK
      rw [hin k hk, hbl k hk]
    rw [hb]
    unfold botTo
    rw [Bool.eq_iff_iff, List.all_eq_true, List.all_eq_true]
    constructor
    · intro g j hj
      have := g j hj
      rwa [h j (List.mem_range.1 hj)] at this
    · intro g j hj
      have := g j hj
      rwa [h j (List.mem_range.1 hj)]
end Go.Cph.Ve
