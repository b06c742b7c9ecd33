/- VB: texts put together: Ve1 Ve2 Ve3. -/
import Derived.Test.YtkeaalacepjadaaDoorVA
/- Versions, plainly: tables, their order on a level; what the program and the document call right is the same. No program in sight. -/
set_option linter.unusedVariables false
set_option linter.unusedSimpArgs false
namespace Go.Cph.Ve
open Go.Cph Go.Cph.Skip Go.Cph.So
abbrev Tb := UInt64 × Int × Int × Int × ByteArray × ByteArray × UInt64 × UInt64
abbrev tN (t : Tb) : UInt64 := t.1
abbrev tV (t : Tb) : Int := t.2.1
abbrev tC (t : Tb) : Int := t.2.2.1
abbrev tS (t : Tb) : Int := t.2.2.2.1
abbrev tF (t : Tb) : ByteArray := t.2.2.2.2.1
abbrev tL (t : Tb) : ByteArray := t.2.2.2.2.2.1
abbrev tA (t : Tb) : UInt64 := t.2.2.2.2.2.2.1
abbrev tM (t : Tb) : UInt64 := t.2.2.2.2.2.2.2
def keyB (s : ByteArray) : Bool := decide (1 ≤ s.size) && decide (s.size ≤ 64)
def rightT (t : Tb) : Bool := decide (1 ≤ (tN t).toNat) && (decide ((tN t).toNat ≤ 1099511627776) && (decide (1 ≤ tC t) && (decide (1 ≤ tS t) && (keyB (tF t) && (keyB (tL t) && (!klt (tL t) (tF t) && (decide (1 ≤ (tA t).toNat) && decide ((tA t).toNat ≤ (tM t).toNat))))))))
def tableD (t : Tb) : Bool := rightT t && (decide (0 ≤ tV t) && decide (tV t ≤ 3))
def bef (k : Nat) (a b : Tb) : Bool := if k = 0 then decide ((tN b).toNat < (tN a).toNat) else klt (tF a) (tF b)
def fitT (k : Nat) (a b : Tb) : Bool := if k = 0 then decide ((tN b).toNat < (tN a).toNat) else klt (tL a) (tF b)
theorem right_first {t : Tb} (h : rightT t = true) : klt (tL t) (tF t) = false := by
  unfold rightT at h
  simp only [Bool.and_eq_true, Bool.not_eq_true'] at h
  exact h.2.2.2.2.2.2.1
theorem bef_weak (k : Nat) : Weak (bef k) where
  asymm := by
    intro a b h
    unfold bef at *
    split at h
    · rw [decide_eq_true_eq] at h; rw [if_pos ‹_›, decide_eq_false_iff_not]; omega
    · rw [if_neg ‹_›]; exact klt_asymm h
  trans := by
    intro a b c h g
    unfold bef at *
    split at h
    · rw [if_pos ‹_›] at g ⊢
      rw [decide_eq_false_iff_not] at *; omega
    · rw [if_neg ‹_›] at g ⊢
      exact kle_trans h g
def meetsT (u : Tb) (f l : ByteArray) : Bool := !klt l f && (!klt l (tF u) && !klt (tL u) f)
/-- Two right tables that do not meet lie one behind the other. -/
theorem not_meet {u t : Tb} (ht : rightT t = true) : meetsT u (tF t) (tL t) = false ↔ klt (tL t) (tF u) = true ∨ klt (tL u) (tF t) = true := by
  unfold meetsT
  rw [right_first ht]
  cases klt (tL t) (tF u) <;> cases klt (tL u) (tF t) <;> simp
structure LevOK (k : Nat) (next seq : UInt64) (l : List Tb) : Prop where
  all : ∀ t ∈ l, rightT t = true ∧ tV t = (k : Int) ∧ (tN t).toNat < next.toNat ∧ (tM t).toNat ≤ seq.toNat
  fit : ∀ i (h : i + 1 < l.length), fitT k l[i] l[i + 1] = true
def NumsOK (log next : UInt64) : Prop := 1 ≤ next.toNat ∧ next.toNat ≤ 1099511627777 ∧ log.toNat < next.toNat
def tabs (lv : Nat → List Tb) : List Tb := (List.range 4).flatMap lv
theorem tabs_eq (lv : Nat → List Tb) : tabs lv = lv 0 ++ (lv 1 ++ (lv 2 ++ lv 3)) := by
  show [0, 1, 2, 3].flatMap lv = _
  simp
structure RightV (lv : Nat → List Tb) (log seq next : UInt64) : Prop where
  nums : NumsOK log next
  lev : ∀ k, k < 4 → LevOK k next seq (lv k)
  nodup : ((tabs lv).map tN).Nodup
def Apart (u t : Tb) : Prop := tN u ≠ tN t ∧ ¬ (tV u = tV t ∧ 0 < tV t ∧ meetsT u (tF t) (tL t) = true)
structure RightD (L : List Tb) (log seq next : UInt64) : Prop where
  nums : NumsOK log next
  all : ∀ t ∈ L, tableD t = true ∧ (tN t).toNat < next.toNat ∧ (tM t).toNat ≤ seq.toNat
  pair : L.Pairwise Apart
def onL (k : Nat) (t : Tb) : Bool := decide (tV t = (k : Int))
theorem level_of {t : Tb} (h : 0 ≤ tV t ∧ tV t ≤ 3) : ∃ k : Nat, k < 4 ∧ tV t = (k : Int) := ⟨(tV t).toNat, by omega, by omega⟩
/-- A list's levels, put together, are the list turned. -/
theorem levels_perm {L : List Tb} (h : ∀ t ∈ L, 0 ≤ tV t ∧ tV t ≤ 3) : ((List.range 4).flatMap fun k => L.filter (onL k)).Perm L := by
  show ([0, 1, 2, 3].flatMap fun k => L.filter (onL k)).Perm L
  induction L with
  | nil => simp
  | cons t L ih =>
    have ih := ih fun x hx => h x (List.mem_cons_of_mem _ hx)
    obtain ⟨k, hk, e⟩ := level_of (h t List.mem_cons_self)
    simp only [List.flatMap_cons, List.flatMap_nil, List.append_nil, List.filter_cons] at ih ⊢
    have on : ∀ j : Nat, onL j t = decide (k = j) := fun j => by unfold onL; rw [e, decide_eq_decide]; try omega
    rw [on 0, on 1, on 2, on 3]
    rcases (show k = 0 ∨ k = 1 ∨ k = 2 ∨ k = 3 from by clear e on ih; omega) with rfl | rfl | rfl | rfl
    · simpa using ih
    · simp only [decide_eq_true_eq, show ¬ (1 = 0) by decide, show ¬ (1 = 2) by decide, show ¬ (1 = 3) by decide, if_true, if_false]
      exact (List.perm_middle (l₁ := List.filter (onL 0) L)).trans (List.Perm.cons _ ih)
    · simp only [decide_eq_true_eq, show ¬ (2 = 0) by decide, show ¬ (2 = 1) by decide, show ¬ (2 = 3) by decide, if_true, if_false]
      rw [← List.append_assoc] at ih ⊢
      exact (List.perm_middle (l₁ := List.filter (onL 0) L ++ List.filter (onL 1) L)).trans (List.Perm.cons _ ih)
    · simp only [decide_eq_true_eq, show ¬ (3 = 0) by decide, show ¬ (3 = 1) by decide, show ¬ (3 = 2) by decide, if_true, if_false]
      rw [← List.append_assoc, ← List.append_assoc] at ih ⊢
      exact (List.perm_middle (l₁ := List.filter (onL 0) L ++ List.filter (onL 1) L ++ List.filter (onL 2) L)).trans (List.Perm.cons _ ih)
theorem tabs_perm {A : Nat → List Tb} {L : List Tb} (hP : ∀ k, k < 4 → (A k).Perm (L.filter (onL k))) (h : ∀ t ∈ L, 0 ≤ tV t ∧ tV t ≤ 3) : (tabs A).Perm L := by
  refine List.Perm.trans ?_ (levels_perm h)
  rw [tabs_eq]
  show List.Perm _ ([0, 1, 2, 3].flatMap fun k => L.filter (onL k))
  simp only [List.flatMap_cons, List.flatMap_nil, List.append_nil]
  exact (hP 0 (by omega)).append ((hP 1 (by omega)).append ((hP 2 (by omega)).append (hP 3 (by omega))))
/-- Side by side on a level: whoever stands ahead lies ahead. -/
theorem fit_pair {k : Nat} {next seq : UInt64} {l : List Tb} (h : LevOK k next seq l) : l.Pairwise fun a b => fitT k a b = true := by
  have key : ∀ (l : List Tb), (∀ t ∈ l, rightT t = true) → (∀ i (h : i + 1 < l.length), fitT k l[i] l[i + 1] = true) → l.Pairwise fun a b => fitT k a b = true := by
    intro l
    induction l with
    | nil => intro _ _; exact .nil
    | cons a l ih =>
      intro hr hf
      have ih := ih (fun t ht => hr t (List.mem_cons_of_mem _ ht)) fun i hi => hf (i + 1) (by simpa using hi)
      refine List.pairwise_cons.2 ⟨?_, ih⟩
      cases l with
      | nil => intro b hb; cases hb
      | cons c l =>
        have h1 : fitT k a c = true := hf 0 (by simp)
        intro b hb
        rcases List.mem_cons.1 hb with rfl | hb
        · exact h1
        · have h2 := (List.pairwise_cons.1 ih).1 b hb
          have h3 := right_first (hr c (by simp))
          unfold fitT at *
          split at h1
          · rw [if_pos ‹_›] at h2 ⊢
            rw [decide_eq_true_eq] at *; omega
          · rw [if_neg ‹_›] at h2 ⊢
            exact klt_trans (klt_of_lt_le h1 h3) h2
  exact key l (fun t ht => (h.all t ht).1) h.fit
theorem fit_bef {k : Nat} {a b : Tb} (ha : rightT a = true) (h : fitT k a b = true) : bef k a b = true := by
  unfold fitT at h
  unfold bef
  split
  · rw [if_pos ‹_›] at h; exact h
  · rw [if_neg ‹_›] at h; exact klt_of_le_lt (right_first ha) h
theorem fit_apart {k : Nat} {a b : Tb} (hb : rightT b = true) (hk : k ≠ 0) (h : fitT k a b = true) : meetsT a (tF b) (tL b) = false := by
  unfold fitT at h
  rw [if_neg hk] at h
  exact (not_meet hb).2 (.inr h)
/-- A level's tables, in a weak order, lie side by side where none meet and their numbers are unlike. -/
theorem apart_fit {k : Nat} {a b : Tb} (ha : rightT a = true) (hb : rightT b = true) (hs : bef k b a = false) (hn : tN a ≠ tN b) (hm : k ≠ 0 → meetsT a (tF b) (tL b) = false) : fitT k a b = true := by
  unfold bef at hs
  unfold fitT
  split
  · rw [if_pos ‹_›, decide_eq_false_iff_not] at hs
    rw [decide_eq_true_eq]
    have : (tN a).toNat ≠ (tN b).toNat := fun e => hn (UInt64.toNat_inj.1 e)
    omega
  · rw [if_neg ‹_›] at hs
    rcases (not_meet hb).1 (hm ‹_›) with h | h
    · have h1 := klt_of_lt_le h hs
      rw [right_first hb] at h1
      cases h1
    · exact h
theorem strict_lev {k : Nat} {next seq : UInt64} {l : List Tb} (h : LevOK k next seq l) : Strict (bef k) l := by
  refine List.Pairwise.imp_of_mem ?_ (fit_pair h)
  intro a b ha hb hf
  exact fit_bef (h.all a ha).1 hf
theorem apart_symm {u t : Tb} (hu : rightT u = true) (ht : rightT t = true) (h : Apart u t) : Apart t u := by
  refine ⟨fun e => h.1 e.symm, fun ⟨h1, h2, h3⟩ => h.2 ⟨h1.symm, by rw [h1]; exact h2, ?_⟩⟩
  cases hm : meetsT u (tF t) (tL t) with
  | true => rfl
  | false =>
    have := (not_meet (u := t) hu).2 ((not_meet ht).1 hm).symm
    rw [this] at h3
    cases h3
end Go.Cph.Ve

/- Versions, plainly: right here and there; the document's levels. No program in sight. -/
set_option linter.unusedVariables false
set_option linter.unusedSimpArgs false
namespace Go.Cph.Ve
open Go.Cph Go.Cph.Skip Go.Cph.So
theorem tableD_iff {t : Tb} : tableD t = true ↔ rightT t = true ∧ 0 ≤ tV t ∧ tV t ≤ 3 := by
  unfold tableD
  simp only [Bool.and_eq_true, decide_eq_true_eq]
/-- What a list says of two of its elements, one behind the other. -/
theorem pair_sub {α : Type} {R : α → α → Prop} {l : List α} : l.Pairwise R ↔ ∀ a b, [a, b].Sublist l → R a b := by
  rw [List.pairwise_iff_forall_sublist]
theorem right_iff {A : Nat → List Tb} {L : List Tb} {log seq next : UInt64} (hP : ∀ k, k < 4 → (A k).Perm (L.filter (onL k))) (hS : ∀ k, k < 4 → Sorted (bef k) (A k)) :
    (RightV A log seq next ∧ ∀ t ∈ L, 0 ≤ tV t ∧ tV t ≤ 3) ↔ RightD L log seq next := by
  have mem : ∀ {k t}, k < 4 → (t ∈ A k ↔ t ∈ L ∧ tV t = (k : Int)) := fun {k t} hk => by
    rw [(hP k hk).mem_iff, List.mem_filter]
    unfold onL
    rw [decide_eq_true_eq]
  constructor
  · intro ⟨hV, hin⟩
    have hall : ∀ t ∈ L, tableD t = true ∧ (tN t).toNat < next.toNat ∧ (tM t).toNat ≤ seq.toNat := by
      intro t ht
      obtain ⟨k, hk, e⟩ := level_of (hin t ht)
      obtain ⟨h1, h2, h3, h4⟩ := (hV.lev k hk).all t ((mem hk).2 ⟨ht, e⟩)
      exact ⟨tableD_iff.2 ⟨h1, hin t ht⟩, h3, h4⟩
    refine ⟨hV.nums, hall, pair_sub.2 fun a b hab => ⟨?_, ?_⟩⟩
    · have hn : (L.map tN).Nodup := ((tabs_perm hP hin).map tN).nodup_iff.1 hV.nodup
      have : [tN a, tN b].Nodup := List.Sublist.nodup (hab.map tN) hn
      simp at this
      exact this
    · rintro ⟨e1, e2, e3⟩
      have ha : a ∈ L := hab.subset (by simp)
      have hb : b ∈ L := hab.subset (by simp)
      obtain ⟨k, hk, e⟩ := level_of (hin b hb)
      have hk0 : k ≠ 0 := fun h0 => by rw [h0] at e; omega
      have hfl : [a, b].Sublist (L.filter (onL k)) := by
        have := hab.filter (onL k)
        rwa [List.filter_cons_of_pos (by unfold onL; rw [e1, e]; simp), List.filter_cons_of_pos (by unfold onL; rw [e]; simp), List.filter_nil] at this
      have hra := (tableD_iff.1 (hall a ha).1).1
      have hrb := (tableD_iff.1 (hall b hb).1).1
      -- in the level's row they stand in one order or the other
      have hpw : (A k).Pairwise fun u t => meetsT u (tF t) (tL t) = false ∧ meetsT t (tF u) (tL u) = false := by
        refine List.Pairwise.imp_of_mem ?_ (fit_pair (hV.lev k hk))
        intro u t hu ht hf
        have h1 := fit_apart ((hV.lev k hk).all t ht).1 hk0 hf
        exact ⟨h1, (not_meet ((hV.lev k hk).all u hu).1).2 ((not_meet ((hV.lev k hk).all t ht).1).1 h1).symm⟩
      have hpf := ((hP k hk).pairwise_iff (fun {x y} h => ⟨h.2, h.1⟩)).1 hpw
      have := (pair_sub.1 hpf a b hfl).1
      rw [this] at e3
      cases e3
  · intro hD
    have hin : ∀ t ∈ L, 0 ≤ tV t ∧ tV t ≤ 3 := fun t ht => (tableD_iff.1 (hD.all t ht).1).2
    refine ⟨⟨hD.nums, fun k hk => ⟨fun t ht => ?_, fun i hi => ?_⟩, ?_⟩, hin⟩
    · obtain ⟨h1, h2⟩ := (mem hk).1 ht
      obtain ⟨h3, h4, h5⟩ := hD.all t h1
      exact ⟨(tableD_iff.1 h3).1, h2, h4, h5⟩
    · have hr : ∀ t ∈ A k, rightT t = true := fun t ht => (tableD_iff.1 (hD.all t ((mem hk).1 ht).1).1).1
      have hpf : (L.filter (onL k)).Pairwise fun u t => Apart u t ∧ Apart t u := by
        refine List.Pairwise.imp_of_mem ?_ (hD.pair.filter (onL k))
        intro u t hu ht h
        exact ⟨h, apart_symm (hr u ((hP k hk).mem_iff.2 hu)) (hr t ((hP k hk).mem_iff.2 ht)) h⟩
      have hpa := ((hP k hk).symm.pairwise_iff (fun {x y} h => ⟨h.2, h.1⟩)).1 hpf
      have hm1 : (A k)[i] ∈ A k := List.getElem_mem _
      have hm2 : (A k)[i + 1] ∈ A k := List.getElem_mem _
      have h1 := List.pairwise_iff_getElem.1 hpa i (i + 1) (by omega) hi (by omega)
      have h2 := List.pairwise_iff_getElem.1 (hS k hk) i (i + 1) (by omega) hi (by omega)
      refine apart_fit (hr _ hm1) (hr _ hm2) h2 h1.1.1 fun hk0 => ?_
      have e1 := ((mem hk).1 hm1).2
      have e2 := ((mem hk).1 hm2).2
      cases hm : meetsT (A k)[i] (tF (A k)[i + 1]) (tL (A k)[i + 1]) with
      | false => rfl
      | true => exact absurd ⟨by rw [e1, e2], by rw [e2]; omega, hm⟩ h1.1.2
    · have hn : (L.map tN).Nodup := List.pairwise_map.2 (hD.pair.imp fun h => h.1)
      exact ((tabs_perm hP hin).map tN).nodup_iff.2 hn
/-! ### the document's rows of a level -/
def insD (k : Nat) (l : List Tb) (t : Tb) : List Tb := l.takeWhile (bef k · t) ++ t :: l.dropWhile (bef k · t)
def levelD (L : List Tb) (k : Nat) : List Tb := (L.filter (onL k)).foldl (insD k) []
theorem insD_perm (k : Nat) (l : List Tb) (t : Tb) : (insD k l t).Perm (t :: l) := by
  unfold insD
  refine List.perm_middle.trans ?_
  rw [List.takeWhile_append_dropWhile]
theorem tw_all {p : Tb → Bool} : ∀ (l : List Tb) x, x ∈ l.takeWhile p → p x = true
  | [], x, h => by simp at h
  | y :: l, x, h => by
    rw [List.takeWhile_cons] at h
    split at h
    · rcases List.mem_cons.1 h with rfl | h
      · assumption
      · exact tw_all l x h
    · cases h
theorem insD_strict {k : Nat} {l : List Tb} {t : Tb} (h : Strict (bef k) l) (ht : ∀ x ∈ l, bef k x t = true ∨ bef k t x = true) : Strict (bef k) (insD k l t) := by
  unfold insD
  have hw := bef_weak k
  have hall := h
  rw [← List.takeWhile_append_dropWhile (p := fun x => bef k x t) (l := l)] at hall
  obtain ⟨h1, h2, h3⟩ := List.pairwise_append.1 hall
  have hpre : ∀ x ∈ l.takeWhile (fun x => bef k x t), bef k x t = true := fun x hx => tw_all l x hx
  -- whatever stands behind is behind t
  have hpost : ∀ x ∈ l.dropWhile (fun x => bef k x t), bef k t x = true := by
    have hsub : ∀ x ∈ l.dropWhile (fun x => bef k x t), x ∈ l := fun x hx => (List.dropWhile_sublist _).subset hx
    cases hd : l.dropWhile (fun x => bef k x t) with
    | nil => intro x hx; cases hx
    | cons y r =>
      have hy : bef k y t = false := by
        have := List.head_dropWhile_not (fun x => bef k x t) (l := l) (by rw [hd]; simp)
        simpa [hd] using this
      have hty : bef k t y = true := by
        rcases ht y (hsub y (by rw [hd]; simp)) with h | h
        · rw [hy] at h; cases h
        · exact h
      intro x hx
      rcases List.mem_cons.1 hx with rfl | hx
      · exact hty
      · rw [hd] at h2
        have h4 := (List.pairwise_cons.1 h2).1 x hx
        exact hw.lt_of_lt_le hty (hw.asymm h4)
  refine List.pairwise_append.2 ⟨h1, List.pairwise_cons.2 ⟨hpost, h2⟩, fun a ha b hb => ?_⟩
  rcases List.mem_cons.1 hb with rfl | hb
  · exact hpre a ha
  · exact h3 a ha b hb
theorem foldD_perm (k : Nat) : ∀ (l s : List Tb), (l.foldl (insD k) s).Perm (l ++ s)
  | [], s => List.Perm.refl _
  | t :: l, s => by
    rw [List.foldl_cons]
    refine (foldD_perm k l (insD k s t)).trans ?_
    refine ((insD_perm k s t).append_left l).trans ?_
    exact List.perm_middle
theorem levelD_perm (L : List Tb) (k : Nat) : (levelD L k).Perm (L.filter (onL k)) := by
  have := foldD_perm k (L.filter (onL k)) []
  rwa [List.append_nil] at this
theorem foldD_strict (k : Nat) : ∀ (l s : List Tb), Strict (bef k) s → (∀ x ∈ s, ∀ t ∈ l, bef k x t = true ∨ bef k t x = true) → l.Pairwise (fun u t => bef k u t = true ∨ bef k t u = true) → Strict (bef k) (l.foldl (insD k) s)
  | [], s, h, _, _ => h
  | t :: l, s, h, hs, hl => by
    obtain ⟨h1, h2⟩ := List.pairwise_cons.1 hl
    rw [List.foldl_cons]
    refine foldD_strict k l _ (insD_strict h fun x hx => hs x hx t List.mem_cons_self) ?_ h2
    intro x hx u hu
    rcases List.mem_cons.1 ((insD_perm k s t).mem_iff.1 hx) with rfl | hx
    · exact h1 u hu
    · exact hs x hx u (List.mem_cons_of_mem _ hu)
theorem levelD_strict {L : List Tb} {log seq next : UInt64} (h : RightD L log seq next) {k : Nat} (hk : k < 4) : Strict (bef k) (levelD L k) := by
  refine foldD_strict k _ [] .nil (by simp) ?_
  refine List.Pairwise.imp_of_mem ?_ (h.pair.filter (onL k))
  intro u t hu ht ha
  obtain ⟨hu1, hu2⟩ := List.mem_filter.1 hu
  obtain ⟨ht1, ht2⟩ := List.mem_filter.1 ht
  unfold onL at hu2 ht2
  rw [decide_eq_true_eq] at hu2 ht2
  have hru := (tableD_iff.1 (h.all u hu1).1).1
  have hrt := (tableD_iff.1 (h.all t ht1).1).1
  have hne : (tN u).toNat ≠ (tN t).toNat := fun e => ha.1 (UInt64.toNat_inj.1 e)
  by_cases h0 : k = 0
  · unfold bef
    rw [if_pos h0, if_pos h0, decide_eq_true_eq, decide_eq_true_eq]
    omega
  · have hm : meetsT u (tF t) (tL t) = false := by
      cases hm : meetsT u (tF t) (tL t) with
      | false => rfl
      | true => exact absurd ⟨by rw [hu2, ht2], by rw [ht2]; omega, hm⟩ ha.2
    have e1 : ∀ a b, bef k a b = klt (tF a) (tF b) := fun a b => by unfold bef; rw [if_neg h0]
    rw [e1, e1]
    rcases (not_meet hrt).1 hm with h | h
    · exact .inr (klt_of_le_lt (right_first hrt) h)
    · exact .inl (klt_of_le_lt (right_first hru) h)
/-- Right, and in their order: the levels are the document's. -/
theorem level_eq {A : Nat → List Tb} {L : List Tb} {log seq next : UInt64} (hP : ∀ k, k < 4 → (A k).Perm (L.filter (onL k))) (hV : RightV A log seq next) (hD : RightD L log seq next) : ∀ k, k < 4 → A k = levelD L k := fun k hk =>
  strict_unique (bef_weak k) (strict_lev (hV.lev k hk)) (levelD_strict hD hk) fun x => by rw [(hP k hk).mem_iff, (levelD_perm L k).mem_iff]
theorem sortL_perm (lt : Tb → Tb → Bool) (l : List Tb) : (sortL lt l).Perm l := by
  have h1 : ∀ (x : Tb) (l : List Tb), (ins lt x l).Perm (x :: l) := by
    intro x l
    induction l with
    | nil => exact List.Perm.refl _
    | cons y l ih =>
      unfold ins
      split
      · exact List.Perm.refl _
      · exact (List.Perm.cons y ih).trans (List.Perm.swap x y l)
  have h2 : ∀ (l s : List Tb), (l.foldl (fun s x => ins lt x s) s).Perm (l ++ s) := by
    intro l
    induction l with
    | nil => intro s; exact List.Perm.refl _
    | cons t l ih =>
      intro s
      rw [List.foldl_cons]
      exact (ih _).trans (((h1 t s).append_left l).trans List.perm_middle)
  have := h2 l []
  rwa [List.append_nil] at this
end Go.Cph.Ve

/- Versions, plainly: what an edit makes of a list, and of its levels. No program in sight. -/
set_option linter.unusedVariables false
set_option linter.unusedSimpArgs false
namespace Go.Cph.Ve
open Go.Cph Go.Cph.Skip Go.Cph.So
/-- Three numbers: Log, Seq, Next. -/
abbrev Nm := UInt64 × UInt64 × UInt64
/-- An edit: Add, Drop, three numbers. -/
abbrev Ed := List Tb × List UInt64 × Nm
def mx (a b : UInt64) : UInt64 := if a.toNat < b.toNat then b else a
def hasN (L : List Tb) (n : UInt64) : Bool := L.any fun t => tN t == n
def lessN (L : List Tb) (n : UInt64) : List Tb := L.filter fun t => tN t != n
theorem hasN_iff {L : List Tb} {n : UInt64} : hasN L n = true ↔ ∃ t ∈ L, tN t = n := by
  unfold hasN
  simp
theorem hasN_no {L : List Tb} {n : UInt64} : hasN L n = false ↔ ∀ t ∈ L, tN t ≠ n := by
  unfold hasN
  simp
def dropStep (o : Option (List Tb)) (n : UInt64) : Option (List Tb) := o.bind fun L => if hasN L n then some (lessN L n) else none
def addStep (o : Option (List Tb)) (t : Tb) : Option (List Tb) := o.bind fun L => if hasN L (tN t) then none else some (L ++ [t])
def dropL (L : List Tb) (ns : List UInt64) : Option (List Tb) := ns.foldl dropStep (some L)
def addL (L : List Tb) (ts : List Tb) : Option (List Tb) := ts.foldl addStep (some L)
theorem drop_none (ns : List UInt64) : ns.foldl dropStep none = none := by
  induction ns with
  | nil => rfl
  | cons n ns ih => exact ih
theorem add_none (ts : List Tb) : ts.foldl addStep none = none := by
  induction ts with
  | nil => rfl
  | cons n ts ih => exact ih
theorem dropL_next {L M : List Tb} {ns : List UInt64} {i : Nat} (h : i < ns.length) (e : dropL L (ns.take i) = some M) (hn : hasN M ns[i] = true) : dropL L (ns.take (i + 1)) = some (lessN M ns[i]) := by
  unfold dropL at *
  rw [List.take_succ_eq_append_getElem h, List.foldl_append, e]
  show dropStep (some M) ns[i] = _
  unfold dropStep
  simp [hn]
theorem dropL_stop {L M : List Tb} {ns : List UInt64} {i : Nat} (h : i < ns.length) (e : dropL L (ns.take i) = some M) (hn : hasN M ns[i] = false) : dropL L ns = none := by
  unfold dropL at *
  rw [← List.take_append_drop i ns, List.foldl_append, e, List.drop_eq_getElem_cons h, List.foldl_cons]
  have : dropStep (some M) ns[i] = none := by unfold dropStep; simp [hn]
  rw [this]
  exact drop_none _
theorem addL_next {L M : List Tb} {ts : List Tb} {i : Nat} (h : i < ts.length) (e : addL L (ts.take i) = some M) (hn : hasN M (tN ts[i]) = false) : addL L (ts.take (i + 1)) = some (M ++ [ts[i]]) := by
  unfold addL at *
  rw [List.take_succ_eq_append_getElem h, List.foldl_append, e]
  show addStep (some M) ts[i] = _
  unfold addStep
  simp [hn]
theorem addL_stop {L M : List Tb} {ts : List Tb} {i : Nat} (h : i < ts.length) (e : addL L (ts.take i) = some M) (hn : hasN M (tN ts[i]) = true) : addL L ts = none := by
  unfold addL at *
  rw [← List.take_append_drop i ts, List.foldl_append, e, List.drop_eq_getElem_cons h, List.foldl_cons]
  have : addStep (some M) ts[i] = none := by unfold addStep; simp [hn]
  rw [this]
  exact add_none _
theorem addL_app {L M : List Tb} : ∀ {ts : List Tb}, addL L ts = some M → M = L ++ ts := by
  have key : ∀ (ts : List Tb) (L M : List Tb), ts.foldl addStep (some L) = some M → M = L ++ ts := by
    intro ts
    induction ts with
    | nil => intro L M h; rw [List.append_nil]; exact (Option.some.inj h).symm
    | cons t ts ih =>
      intro L M h
      rw [List.foldl_cons] at h
      by_cases hn : hasN L (tN t) = true
      · have : addStep (some L) t = none := by unfold addStep; simp [hn]
        rw [this, add_none] at h
        cases h
      · have : addStep (some L) t = some (L ++ [t]) := by unfold addStep; simp [hn]
        rw [this] at h
        rw [ih _ _ h, List.append_assoc]
        rfl
  intro ts h
  exact key _ _ _ h
/-! ### right, as a test -/
def apartB (u t : Tb) : Bool := tN u != tN t && !(decide (tV u = tV t) && (decide (0 < tV t) && meetsT u (tF t) (tL t)))
theorem apartB_iff {u t : Tb} : apartB u t = true ↔ Apart u t := by
  unfold apartB Apart
  simp only [Bool.and_eq_true, bne_iff_ne, ne_eq, Bool.not_eq_true', Bool.and_eq_false_iff, decide_eq_false_iff_not]
  constructor
  · rintro ⟨h1, h2⟩
    refine ⟨h1, fun ⟨h3, h4, h5⟩ => ?_⟩
    rcases h2 with h | h | h
    · exact h h3
    · exact h h4
    · rw [h5] at h; cases h
  · rintro ⟨h1, h2⟩
    refine ⟨h1, ?_⟩
    by_cases h3 : tV u = tV t
    · by_cases h4 : 0 < tV t
      · cases h5 : meetsT u (tF t) (tL t) with
        | true => exact absurd ⟨h3, h4, h5⟩ h2
        | false => exact .inr (.inr rfl)
      · exact .inr (.inl h4)
    · exact .inl h3
def pairB : List Tb → Bool
  | [] => true
  | t :: l => l.all (apartB t) && pairB l
theorem pairB_iff : ∀ {l : List Tb}, pairB l = true ↔ l.Pairwise Apart
  | [] => by simp [pairB]
  | t :: l => by
    unfold pairB
    rw [Bool.and_eq_true, List.pairwise_cons, pairB_iff, List.all_eq_true]
    exact ⟨fun ⟨h1, h2⟩ => ⟨fun u hu => apartB_iff.1 (h1 u hu), h2⟩, fun ⟨h1, h2⟩ => ⟨fun u hu => apartB_iff.2 (h1 u hu), h2⟩⟩
def numsB (log next : UInt64) : Bool := decide (1 ≤ next.toNat) && (decide (next.toNat ≤ 1099511627777) && decide (log.toNat < next.toNat))
theorem numsB_iff {log next : UInt64} : numsB log next = true ↔ NumsOK log next := by unfold numsB NumsOK; simp
def eachB (L : List Tb) (seq next : UInt64) : Bool := L.all fun t => tableD t && (decide ((tN t).toNat < next.toNat) && decide ((tM t).toNat ≤ seq.toNat))
def rightDB (L : List Tb) (m : Nm) : Bool := numsB m.1 m.2.2 && (eachB L m.2.1 m.2.2 && pairB L)
theorem rightDB_iff {L : List Tb} {m : Nm} : rightDB L m = true ↔ RightD L m.1 m.2.1 m.2.2 := by
  unfold rightDB eachB
  rw [Bool.and_eq_true, Bool.and_eq_true, numsB_iff, pairB_iff, List.all_eq_true]
  constructor
  · rintro ⟨h1, h2, h3⟩
    refine ⟨h1, fun t ht => ?_, h3⟩
    have := h2 t ht
    simpa using this
  · rintro ⟨h1, h2, h3⟩
    refine ⟨h1, fun t ht => ?_, h3⟩
    have := h2 t ht
    simpa using this
/-! ### an edit -/
def mxN (m e : Nm) : Nm := (mx m.1 e.1, mx m.2.1 e.2.1, mx m.2.2 e.2.2)
/-- What comes of an edit: an error's number (0: none), and what is made. -/
def doD (L : List Tb) (m : Nm) (e : Ed) : Int × List Tb × Nm :=
  match dropL L e.2.1 with
  | none => (4, [], 0, 0, 0)
  | some M =>
    match addL M e.1 with
    | none => (5, [], 0, 0, 0)
    | some N => if rightDB N (mxN m e.2.2) then (0, N, mxN m e.2.2) else (1, [], 0, 0, 0)
def editsD (L : List Tb) (m : Nm) (es : List Ed) : Int × List Tb × Nm := es.foldl (fun r e => if r.1 = 0 then doD r.2.1 r.2.2 e else r) (0, L, m)
def applyD (L : List Tb) (m : Nm) (es : List Ed) : Int × List Tb × Nm := if rightDB L m then editsD L m es else (1, [], 0, 0, 0)
theorem doD_right {L : List Tb} {m : Nm} {e : Ed} (h : (doD L m e).1 = 0) : rightDB (doD L m e).2.1 (doD L m e).2.2 = true := by
  unfold doD at *
  cases hd : dropL L e.2.1 with
  | none => rw [hd] at h; cases h
  | some M =>
    rw [hd] at h
    dsimp only at h ⊢
    cases ha : addL M e.1 with
    | none => rw [ha] at h; cases h
    | some N =>
      rw [ha] at h
      dsimp only at h ⊢
      split at h
      · rename_i hc
        rw [if_pos hc]; exact hc
      · cases h
/-! ### the levels, edit by edit -/
/-- The levels of a list, each in some row. -/
structure Lvs (A : Nat → List Tb) (L : List Tb) : Prop where
  perm : ∀ k, k < 4 → (A k).Perm (L.filter (onL k))
def Inside (L : List Tb) : Prop := ∀ t ∈ L, 0 ≤ tV t ∧ tV t ≤ 3
theorem Lvs.mem {A : Nat → List Tb} {L : List Tb} (h : Lvs A L) {k : Nat} (hk : k < 4) {t : Tb} : t ∈ A k ↔ t ∈ L ∧ tV t = (k : Int) := by
  rw [(h.perm k hk).mem_iff, List.mem_filter]
  unfold onL
  rw [decide_eq_true_eq]
def upd (A : Nat → List Tb) (k : Nat) (l : List Tb) : Nat → List Tb := fun j => if j = k then l else A j
theorem Inside.less {L : List Tb} (h : Inside L) (n : UInt64) : Inside (lessN L n) := fun t ht => h t (List.mem_filter.1 ht).1
theorem nodup_less {L : List Tb} (h : (L.map tN).Nodup) (n : UInt64) : ((lessN L n).map tN).Nodup := List.Sublist.nodup ((List.filter_sublist).map tN) h
theorem filter_less (L : List Tb) (n : UInt64) (k : Nat) : (lessN L n).filter (onL k) = (L.filter (onL k)).filter fun t => tN t != n := by
  unfold lessN
  rw [List.filter_filter, List.filter_filter]
  congr 1
  funext t
  exact Bool.and_comm _ _
theorem erase_less {l : List Tb} (h : (l.map tN).Nodup) {i : Nat} (hi : i < l.length) : l.eraseIdx i = l.filter fun t => tN t != tN l[i] := by
  induction l generalizing i with
  | nil => exact absurd hi (by simp)
  | cons t l ih =>
    rw [List.map_cons, List.nodup_cons] at h
    cases i with
    | zero =>
      rw [List.eraseIdx_cons_zero, List.getElem_cons_zero, List.filter_cons_of_neg (by simp)]
      symm
      rw [List.filter_eq_self]
      intro x hx
      have : tN x ≠ tN t := fun e => h.1 (e ▸ List.mem_map_of_mem hx)
      simpa using this
    | succ i =>
      have hi' : i < l.length := by simpa using hi
      rw [List.eraseIdx_cons_succ, List.getElem_cons_succ, ih h.2 hi', List.filter_cons_of_pos]
      have : tN t ≠ tN l[i] := fun e => h.1 (e ▸ List.mem_map_of_mem (List.getElem_mem hi'))
      simpa using this
theorem nodup_eq {L : List Tb} (h : (L.map tN).Nodup) {a b : Tb} (ha : a ∈ L) (hb : b ∈ L) (e : tN a = tN b) : a = b := by
  induction L with
  | nil => cases ha
  | cons t L ih =>
    rw [List.map_cons, List.nodup_cons] at h
    rcases List.mem_cons.1 ha with ea | ka
    · rcases List.mem_cons.1 hb with eb | kb
      · rw [ea, eb]
      · exact absurd (ea ▸ e ▸ List.mem_map_of_mem (f := tN) kb) h.1
    · rcases List.mem_cons.1 hb with eb | kb
      · exact absurd (eb ▸ e ▸ List.mem_map_of_mem (f := tN) ka) h.1
      · exact ih h.2 ka kb
theorem drop_found {A : Nat → List Tb} {L : List Tb} (h : Lvs A L) (hn : (L.map tN).Nodup) {k i : Nat} (hk : k < 4) (hi : i < (A k).length) : hasN L (tN (A k)[i]) = true ∧ Lvs (upd A k ((A k).eraseIdx i)) (lessN L (tN (A k)[i])) := by
  have hm := (h.mem hk).1 (List.getElem_mem hi)
  refine ⟨hasN_iff.2 ⟨_, hm.1, rfl⟩, ⟨fun j hj => ?_⟩⟩
  rw [filter_less]
  unfold upd
  have hnk : ∀ j, j < 4 → ((A j).map tN).Nodup := fun j hj => (((h.perm j hj).map tN).nodup_iff).2 (List.Sublist.nodup ((List.filter_sublist).map tN) hn)
  by_cases hjk : j = k
  · subst hjk
    rw [if_pos rfl, erase_less (hnk j hj) hi]
    exact (h.perm j hj).filter _
  · rw [if_neg hjk]
    have : ((L.filter (onL j)).filter fun t => tN t != tN (A k)[i]) = L.filter (onL j) := by
      rw [List.filter_eq_self]
      intro x hx
      obtain ⟨h1, h2⟩ := List.mem_filter.1 hx
      unfold onL at h2
      rw [decide_eq_true_eq] at h2
      have : tN x ≠ tN (A k)[i] := fun e => by
        have e2 := nodup_eq hn h1 hm.1 e
        rw [e2, hm.2] at h2
        omega
      simpa using this
    rw [this]
    exact h.perm j hj
theorem drop_lost {A : Nat → List Tb} {L : List Tb} (h : Lvs A L) (hi : Inside L) {n : UInt64} (hno : ∀ k, k < 4 → ∀ t ∈ A k, tN t ≠ n) : hasN L n = false := by
  rw [hasN_no]
  intro t ht
  obtain ⟨k, hk, e⟩ := level_of (hi t ht)
  exact hno k hk t ((h.mem hk).2 ⟨ht, e⟩)
/-- A number is there just if it stands on a level, or among what was added. -/
theorem add_there {A : Nat → List Tb} {M : List Tb} {ts : List Tb} (h : Lvs A (M ++ ts)) (hi : Inside M) {n : UInt64} : hasN (M ++ ts) n = true ↔ (∃ k, k < 4 ∧ ∃ t ∈ A k, tN t = n) ∨ ∃ t ∈ ts, tN t = n := by
  rw [hasN_iff]
  constructor
  · rintro ⟨t, ht, e⟩
    rcases List.mem_append.1 ht with hm | hm
    · obtain ⟨k, hk, e2⟩ := level_of (hi t hm)
      exact .inl ⟨k, hk, t, (h.mem hk).2 ⟨ht, e2⟩, e⟩
    · exact .inr ⟨t, hm, e⟩
  · rintro (⟨k, hk, t, ht, e⟩ | ⟨t, ht, e⟩)
    · exact ⟨t, ((h.mem hk).1 ht).1, e⟩
    · exact ⟨t, List.mem_append_right _ ht, e⟩
theorem add_in {A : Nat → List Tb} {L : List Tb} (h : Lvs A L) {t : Tb} {k : Nat} (hk : tV t = (k : Int)) : Lvs (upd A k (A k ++ [t])) (L ++ [t]) := ⟨fun j hj => by
  rw [List.filter_append]
  unfold upd
  by_cases hjk : j = k
  · subst hjk
    rw [if_pos rfl, List.filter_cons_of_pos (by unfold onL; rw [hk]; simp), List.filter_nil]
    exact (h.perm j hj).append_right _
  · rw [if_neg hjk, List.filter_cons_of_neg (by unfold onL; rw [hk, decide_eq_true_eq]; omega), List.filter_nil, List.append_nil]
    exact h.perm j hj⟩
theorem add_out {A : Nat → List Tb} {L : List Tb} (h : Lvs A L) {t : Tb} (ho : tV t < 0 ∨ 4 ≤ tV t) : Lvs A (L ++ [t]) := ⟨fun j hj => by
  rw [List.filter_append, List.filter_cons_of_neg (by unfold onL; rw [decide_eq_true_eq]; omega), List.filter_nil, List.append_nil]
  exact h.perm j hj⟩
theorem sort_lvs {A : Nat → List Tb} {L : List Tb} (h : Lvs A L) : Lvs (fun k => sortL (bef k) (A k)) L := ⟨fun k hk => (sortL_perm _ _).trans (h.perm k hk)⟩
/-- A version's levels beside the document's list: both right. -/
structure Rel (A : Nat → List Tb) (L : List Tb) (m : Nm) : Prop where
  lvs : Lvs A L
  rv : RightV A m.1 m.2.1 m.2.2
  rd : RightD L m.1 m.2.1 m.2.2
theorem Rel.inside {A : Nat → List Tb} {L : List Tb} {m : Nm} (h : Rel A L m) : Inside L := fun t ht => (tableD_iff.1 (h.rd.all t ht).1).2
theorem Rel.nodup {A : Nat → List Tb} {L : List Tb} {m : Nm} (h : Rel A L m) : (L.map tN).Nodup := List.pairwise_map.2 (h.rd.pair.imp fun h => h.1)
theorem Rel.level {A : Nat → List Tb} {L : List Tb} {m : Nm} (h : Rel A L m) : ∀ k, k < 4 → A k = levelD L k := level_eq h.lvs.perm h.rv h.rd
/-- The end of an edit: right here just if right there. -/
theorem edit_end {A : Nat → List Tb} {L : List Tb} (h : Lvs A L) (m : Nm) : (Inside L ∧ RightV (fun k => sortL (bef k) (A k)) m.1 m.2.1 m.2.2) ↔ rightDB L m = true := by
  rw [rightDB_iff, ← right_iff (sort_lvs h).perm fun k hk => (sortL_is (bef_weak k) (A k)).1]
  exact And.comm
theorem edit_rel {A : Nat → List Tb} {L : List Tb} (h : Lvs A L) {m : Nm} (hr : rightDB L m = true) : Rel (fun k => sortL (bef k) (A k)) L m := ⟨sort_lvs h, ((edit_end h m).2 hr).2, rightDB_iff.1 hr⟩
end Go.Cph.Ve
