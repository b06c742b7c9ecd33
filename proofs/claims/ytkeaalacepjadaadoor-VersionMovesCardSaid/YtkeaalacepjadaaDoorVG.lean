/- VG: texts put together: Ve4 Ve5. -/
import Derived.Test.YtkeaalacepjadaaDoorVB
/- Versions, plainly: what is found; edits one behind the other; the edit that makes a version. No program in sight. -/
set_option linter.unusedVariables false
set_option linter.unusedSimpArgs false
namespace Go.Cph.Ve
open Go.Cph Go.Cph.Skip Go.Cph.So

def overL (l : List Tb) (f g : ByteArray) : List Tb := l.filter fun t => meetsT t f g
def findL (A : Nat → List Tb) (s : ByteArray) : List Tb := (tabs A).filter fun t => meetsT t s s
theorem findL_eq (A : Nat → List Tb) (s : ByteArray) : findL A s = (List.range 4).flatMap fun k => overL (A k) s s := by
  unfold findL overL
  rw [tabs_eq]
  show _ = [0, 1, 2, 3].flatMap _
  simp [List.filter_append]
theorem tabs_filter {A : Nat → List Tb} (h : ∀ k, k < 4 → ∀ t ∈ A k, tV t = (k : Int)) {k : Nat} (hk : k < 4) : (tabs A).filter (onL k) = A k := by
  have on : ∀ j, j < 4 → (A j).filter (onL k) = if j = k then A j else [] := fun j hj => by
    by_cases e : j = k
    · rw [if_pos e, List.filter_eq_self]
      intro t ht
      unfold onL
      rw [h j hj t ht, e, decide_eq_true_eq]
    · rw [if_neg e, List.filter_eq_nil_iff]
      intro t ht
      unfold onL
      rw [h j hj t ht, decide_eq_true_eq]
      omega
  rw [tabs_eq, List.filter_append, List.filter_append, List.filter_append, on 0 (by omega), on 1 (by omega), on 2 (by omega), on 3 (by omega)]
  rcases (show k = 0 ∨ k = 1 ∨ k = 2 ∨ k = 3 by omega) with rfl | rfl | rfl | rfl <;> simp
theorem mem_tabs {A : Nat → List Tb} {t : Tb} : t ∈ tabs A ↔ ∃ k, k < 4 ∧ t ∈ A k := by
  unfold tabs
  rw [List.mem_flatMap]
  constructor
  · rintro ⟨k, hk, h⟩; exact ⟨k, List.mem_range.1 hk, h⟩
  · rintro ⟨k, hk, h⟩; exact ⟨k, List.mem_range.2 hk, h⟩
theorem strict_sorted {k : Nat} {l : List Tb} (h : Strict (bef k) l) : Sorted (bef k) l := List.Pairwise.imp (fun h => (bef_weak k).asymm h) h
/-- A right version stands beside the list of all its tables. -/
theorem rel_tabs {A : Nat → List Tb} {m : Nm} (h : RightV A m.1 m.2.1 m.2.2) : Rel A (tabs A) m := by
  have hl : ∀ k, k < 4 → ∀ t ∈ A k, tV t = (k : Int) := fun k hk t ht => ((h.lev k hk).all t ht).2.1
  have hP : ∀ k, k < 4 → (A k).Perm ((tabs A).filter (onL k)) := fun k hk => by rw [tabs_filter hl hk]
  refine ⟨⟨hP⟩, h, (right_iff hP fun k hk => strict_sorted (strict_lev (h.lev k hk))).1 ⟨h, fun t ht => ?_⟩⟩
  obtain ⟨k, hk, hm⟩ := mem_tabs.1 ht
  rw [hl k hk t hm]
  omega
theorem rel_new : Rel (fun _ => []) [] (0, 0, 1) := edit_rel (A := fun _ => []) ⟨fun k hk => List.Perm.refl _⟩ (by rfl)
theorem Rel.same {A B : Nat → List Tb} {L : List Tb} {m : Nm} (h : Rel A L m) (g : Rel B L m) : ∀ k, k < 4 → A k = B k := fun k hk => (h.level k hk).trans (g.level k hk).symm
/-! ### edits one behind the other -/
def stepE (r : Int × List Tb × Nm) (e : Ed) : Int × List Tb × Nm := if r.1 = 0 then doD r.2.1 r.2.2 e else r
theorem edits_stay : ∀ (es : List Ed) (r : Int × List Tb × Nm), r.1 ≠ 0 → es.foldl stepE r = r
  | [], r, _ => rfl
  | e :: es, r, h => by
    have : stepE r e = r := by unfold stepE; rw [if_neg h]
    rw [List.foldl_cons, this]
    exact edits_stay es r h
theorem editsD_eq (L : List Tb) (m : Nm) (es : List Ed) : editsD L m es = es.foldl stepE (0, L, m) := rfl
theorem edits_next {L M : List Tb} {m n : Nm} {es : List Ed} {i : Nat} (hi : i < es.length) (e : editsD L m (es.take i) = (0, M, n)) : editsD L m (es.take (i + 1)) = doD M n es[i] := by
  rw [editsD_eq] at *
  rw [List.take_succ_eq_append_getElem hi, List.foldl_append, e]
  rfl
theorem edits_stop {L M : List Tb} {m n : Nm} {es : List Ed} {i : Nat} (hi : i < es.length) (e : editsD L m (es.take i) = (0, M, n)) (h : (doD M n es[i]).1 ≠ 0) : editsD L m es = doD M n es[i] := by
  rw [editsD_eq] at *
  have key : es = es.take i ++ es[i] :: es.drop (i + 1) := by rw [← List.drop_eq_getElem_cons hi, List.take_append_drop]
  have k2 := congrArg (fun l => List.foldl stepE (0, L, m) l) key
  simp only [List.foldl_append, List.foldl_cons] at k2
  rw [k2, e]
  exact edits_stay _ _ h
theorem doD_codes (L : List Tb) (m : Nm) (e : Ed) : (doD L m e).1 = 0 ∨ doD L m e = (1, [], 0, 0, 0) ∨ doD L m e = (4, [], 0, 0, 0) ∨ doD L m e = (5, [], 0, 0, 0) := by
  unfold doD
  cases dropL L e.2.1 with
  | none => exact .inr (.inr (.inl rfl))
  | some M =>
    dsimp only
    cases addL M e.1 with
    | none => exact .inr (.inr (.inr rfl))
    | some N =>
      dsimp only
      split
      · exact .inl rfl
      · exact .inr (.inl rfl)
def madeStep (s : List Tb × Nm) (e : Ed) : List Tb × Nm := if (doD s.1 s.2 e).1 = 0 then (doD s.1 s.2 e).2 else s
def madeD (s : List Tb × Nm) (es : List Ed) : List Tb × Nm := es.foldl madeStep s
theorem made_next {s : List Tb × Nm} {es : List Ed} {i : Nat} (hi : i < es.length) : madeD s (es.take (i + 1)) = madeStep (madeD s (es.take i)) es[i] := by
  unfold madeD
  rw [List.take_succ_eq_append_getElem hi, List.foldl_append]
  rfl
theorem edits_one {L : List Tb} {m : Nm} (e : Ed) : editsD L m [e] = doD L m e := rfl
/-! ### the edit that a version tells -/
theorem addL_all : ∀ (ts L : List Tb), ((L ++ ts).map tN).Nodup → ts.foldl addStep (some L) = some (L ++ ts)
  | [], L, _ => by rw [List.append_nil]; rfl
  | t :: ts, L, h => by
    have hn : hasN L (tN t) = false := by
      rw [hasN_no]
      intro u hu e
      rw [List.map_append, List.nodup_append] at h
      exact h.2.2 (tN u) (List.mem_map_of_mem hu) (tN t) (List.mem_map_of_mem List.mem_cons_self) e
    have : addStep (some L) t = some (L ++ [t]) := by unfold addStep; simp [hn]
    rw [List.foldl_cons, this, addL_all ts (L ++ [t]) (by rw [List.append_assoc]; exact h), List.append_assoc]
    rfl
theorem mx_zero (a : UInt64) : mx 0 a = a := by
  unfold mx
  by_cases h : (0 : UInt64).toNat < a.toNat
  · rw [if_pos h]
  · rw [if_neg h]
    have : a.toNat = 0 := by have e : (0 : UInt64).toNat = 0 := rfl; omega
    exact (UInt64.toNat_inj.1 this).symm
theorem mx_one {a : UInt64} (h1 : 1 ≤ a.toNat) : mx 1 a = a := by
  unfold mx
  have e : (1 : UInt64).toNat = 1 := rfl
  by_cases h : (1 : UInt64).toNat < a.toNat
  · rw [if_pos h]
  · rw [if_neg h]
    exact (UInt64.toNat_inj.1 (by omega)).symm
theorem back_edit {A : Nat → List Tb} {m : Nm} (h : RightV A m.1 m.2.1 m.2.2) : doD [] (0, 0, 1) (tabs A, [], m) = (0, tabs A, m) := by
  have ha : addL [] (tabs A) = some (tabs A) := by
    have := addL_all (tabs A) [] (by rw [List.nil_append]; exact h.nodup)
    rwa [List.nil_append] at this
  have hm : mxN (0, 0, 1) m = m := by
    unfold mxN
    rw [mx_zero, mx_zero, mx_one h.nums.1]
  have hr : rightDB (tabs A) m = true := rightDB_iff.2 (rel_tabs h).rd
  unfold doD
  have hd : dropL [] ((tabs A, [], m) : Ed).2.1 = some [] := rfl
  rw [hd]
  dsimp only
  rw [ha]
  dsimp only
  rw [hm, if_pos hr]
end Go.Cph.Ve

/- Versions, plainly: what is found for a key, in which order. No program in sight. -/
set_option linter.unusedVariables false
set_option linter.unusedSimpArgs false
namespace Go.Cph.Ve
open Go.Cph Go.Cph.Skip Go.Cph.So

theorem filter_at {α : Type} (p : α → Bool) (l : List α) (i : Nat) (h : i < l.length) (hp : p l[i] = true) : (l.filter p)[((l.take i).filter p).length]? = some l[i] := by
  have e : l.filter p = (l.take i).filter p ++ l[i] :: (l.drop (i + 1)).filter p := by
    conv => lhs; rw [← List.take_append_drop i l, List.drop_eq_getElem_cons h, List.filter_append, List.filter_cons_of_pos hp]
  rw [e, List.getElem?_append_right (Nat.le_refl _), Nat.sub_self]
  rfl
theorem filter_next {α : Type} (p : α → Bool) (l : List α) (i : Nat) (h : i < l.length) : ((l.take (i + 1)).filter p).length = ((l.take i).filter p).length + (if p l[i] = true then 1 else 0) := by
  rw [List.take_succ_eq_append_getElem h, List.filter_append, List.length_append]
  by_cases hp : p l[i] = true
  · rw [List.filter_cons_of_pos hp, if_pos hp]; rfl
  · rw [List.filter_cons_of_neg hp, if_neg hp]; rfl
theorem filter_le {α : Type} (p : α → Bool) (l : List α) (i : Nat) : ((l.take i).filter p).length ≤ (l.filter p).length := by
  conv => rhs; rw [← List.take_append_drop i l, List.filter_append, List.length_append]
  omega
def OrdT (a b : Tb) : Prop := tV a ≤ tV b ∧ (tV b = 0 → (tN b).toNat < (tN a).toNat)
theorem lev_ord {k : Nat} {next seq : UInt64} {l : List Tb} (h : LevOK k next seq l) : l.Pairwise OrdT := by
  refine List.Pairwise.imp_of_mem ?_ (fit_pair h)
  intro a b ha hb hf
  have e1 := (h.all a ha).2.1
  have e2 := (h.all b hb).2.1
  refine ⟨by omega, fun h0 => ?_⟩
  have hk : k = 0 := by omega
  unfold fitT at hf
  rw [if_pos hk, decide_eq_true_eq] at hf
  exact hf
theorem tabs_ord {A : Nat → List Tb} {log seq next : UInt64} (h : RightV A log seq next) : (tabs A).Pairwise OrdT := by
  have hv : ∀ k, k < 4 → ∀ t ∈ A k, tV t = (k : Int) := fun k hk t ht => ((h.lev k hk).all t ht).2.1
  have cross : ∀ j k, j < 4 → k < 4 → j < k → ∀ a ∈ A j, ∀ b ∈ A k, OrdT a b := fun j k hj hk hjk a ha b hb => by
    have e1 := hv j hj a ha
    have e2 := hv k hk b hb
    exact ⟨by omega, fun h0 => by omega⟩
  rw [tabs_eq]
  refine List.pairwise_append.2 ⟨lev_ord (h.lev 0 (by omega)), List.pairwise_append.2 ⟨lev_ord (h.lev 1 (by omega)), List.pairwise_append.2 ⟨lev_ord (h.lev 2 (by omega)), lev_ord (h.lev 3 (by omega)), cross 2 3 (by omega) (by omega) (by omega)⟩, ?_⟩, ?_⟩
  · intro a ha b hb
    rcases List.mem_append.1 hb with hb | hb
    · exact cross 1 2 (by omega) (by omega) (by omega) a ha b hb
    · exact cross 1 3 (by omega) (by omega) (by omega) a ha b hb
  · intro a ha b hb
    rcases List.mem_append.1 hb with hb | hb
    · exact cross 0 1 (by omega) (by omega) (by omega) a ha b hb
    · rcases List.mem_append.1 hb with hb | hb
      · exact cross 0 2 (by omega) (by omega) (by omega) a ha b hb
      · exact cross 0 3 (by omega) (by omega) (by omega) a ha b hb
theorem find_ord {A : Nat → List Tb} {log seq next : UInt64} (h : RightV A log seq next) (s : ByteArray) : (findL A s).Pairwise OrdT := (tabs_ord h).filter _
theorem meets_self {t : Tb} {s : ByteArray} : meetsT t s s = (!klt s (tF t) && !klt (tL t) s) := by
  unfold meetsT
  rw [klt_irrefl]
  rfl
theorem find_level {A : Nat → List Tb} {log seq next : UInt64} (h : RightV A log seq next) (s : ByteArray) {k : Nat} (hk : k < 4) : (findL A s).filter (onL k) = overL (A k) s s := by
  have hv : ∀ k, k < 4 → ∀ t ∈ A k, tV t = (k : Int) := fun k hk t ht => ((h.lev k hk).all t ht).2.1
  unfold findL overL
  have e := tabs_filter hv hk
  rw [List.filter_filter]
  have : (tabs A).filter (fun t => onL k t && meetsT t s s) = ((tabs A).filter (onL k)).filter fun t => meetsT t s s := by
    rw [List.filter_filter]
    congr 1
    funext t
    exact Bool.and_comm _ _
  rw [this, e]
/-- Of the levels from 1 on at most one each. -/
theorem over_one {A : Nat → List Tb} {log seq next : UInt64} (h : RightV A log seq next) (s : ByteArray) {k : Nat} (hk : k < 4) (h0 : k ≠ 0) : (overL (A k) s s).length ≤ 1 := by
  rcases Nat.lt_or_ge 1 (overL (A k) s s).length with h2 | h2
  · exfalso
    have hp : (overL (A k) s s).Pairwise fun a b => fitT k a b = true := (fit_pair (h.lev k hk)).filter _
    have h1 := List.pairwise_iff_getElem.1 hp 0 1 (by omega) h2 (by omega)
    have m0 := (List.mem_filter.1 (List.getElem_mem (l := overL (A k) s s) (n := 0) (by omega))).2
    have m1 := (List.mem_filter.1 (List.getElem_mem (l := overL (A k) s s) (n := 1) h2)).2
    rw [meets_self] at m0 m1
    simp only [Bool.and_eq_true, Bool.not_eq_true'] at m0 m1
    unfold fitT at h1
    rw [if_neg h0] at h1
    have := klt_of_lt_le h1 m1.1
    rw [m0.2] at this
    cases this
  · exact h2
theorem klt_empty (s : ByteArray) : klt s ByteArray.empty = false := by
  unfold klt
  have e : ByteArray.empty.toList = [] := str_nil _ rfl
  rw [e]
  cases s.toList <;> rfl
theorem filter_takeWhile {α : Type} (p : α → Bool) : ∀ (l : List α), l.Pairwise (fun a b => p b = true → p a = true) → l.filter p = l.takeWhile p
  | [], _ => rfl
  | a :: l, h => by
    obtain ⟨h1, h2⟩ := List.pairwise_cons.1 h
    by_cases ha : p a = true
    · rw [List.filter_cons_of_pos ha, List.takeWhile_cons_of_pos ha, filter_takeWhile p l h2]
    · rw [List.filter_cons_of_neg ha, List.takeWhile_cons_of_neg ha, List.filter_eq_nil_iff]
      intro b hb hpb
      exact ha (h1 b hb hpb)
def countL (l : List Tb) (s : ByteArray) : Nat := (l.takeWhile fun t => !klt s (tF t)).length
theorem take_takeWhile {α : Type} (p : α → Bool) : ∀ l : List α, l.take (l.takeWhile p).length = l.takeWhile p
  | [] => rfl
  | a :: l => by
    by_cases ha : p a = true
    · rw [List.takeWhile_cons_of_pos ha, List.length_cons, List.take_succ_cons, take_takeWhile p l]
    · rw [List.takeWhile_cons_of_neg ha]; rfl
theorem over_prefix {A : Nat → List Tb} {log seq next : UInt64} (h : RightV A log seq next) (s : ByteArray) : overL (A 1) ByteArray.empty s = (A 1).take (countL (A 1) s) := by
  have hm : ∀ t : Tb, meetsT t ByteArray.empty s = !klt s (tF t) := fun t => by
    unfold meetsT
    rw [klt_empty, klt_empty]
    simp
  unfold overL countL
  rw [take_takeWhile]
  have e : (fun t => meetsT t ByteArray.empty s) = fun t => !klt s (tF t) := funext hm
  rw [e]
  refine filter_takeWhile _ _ ?_
  refine List.Pairwise.imp ?_ (strict_lev (h.lev 1 (by omega)))
  intro a b hb hp
  unfold bef at hb
  rw [if_neg (by omega)] at hb
  simp only [Bool.not_eq_true'] at hp ⊢
  exact klt_asymm (klt_of_lt_le hb hp)
theorem count_le (l : List Tb) (s : ByteArray) : countL l s ≤ l.length := by
  unfold countL
  exact (List.takeWhile_sublist _).length_le
end Go.Cph.Ve
