/- Texts of addresses, plainly. No program. -/
import Derived.Test.YtpikpfbpoihioaaDoorAt2
import Derived.Test.YtpikpfbpoihioaaDoorMA
set_option linter.unusedVariables false
set_option linter.unusedSimpArgs false
namespace Go.Cph.Tx
open Go.Cph.Px (Ad rightA num bytesA bytesN rightA_iff ad_ext num_lt)
/-- The groups of V6. -/
def grp (a : Ad) (i : Nat) : Nat := (if i < 4 then a.2.1 else a.2.2).toNat / 65536 ^ (3 - i % 4) % 65536
theorem grp_lt (a : Ad) (i : Nat) : grp a i < 65536 := Nat.mod_lt _ (by omega)
/-- The longest run of groups that are 0: the run so far, where the longest begins, how long it is. -/
def runS (z : Nat → Bool) : Nat → Nat × Nat × Nat
  | 0 => (0, 0, 0)
  | i + 1 =>
    if (runS z i).2.2 < (if z i then (runS z i).1 + 1 else 0) then ((if z i then (runS z i).1 + 1 else 0), i + 1 - (if z i then (runS z i).1 + 1 else 0), (if z i then (runS z i).1 + 1 else 0))
    else ((if z i then (runS z i).1 + 1 else 0), (runS z i).2.1, (runS z i).2.2)
def runR (z : Nat → Bool) : Nat × Nat := if (runS z 8).2.2 < 2 then (8, 0) else ((runS z 8).2.1, (runS z 8).2.2)
/-- The document's: from each group on. -/
def zcount (z : Nat → Bool) : Nat → Nat → Nat
  | 0, _ => 0
  | f + 1, i => if z i then zcount z f (i + 1) + 1 else 0
def zeroS (z : Nat → Bool) : Nat → Nat × Nat
  | 0 => (0, 0)
  | i + 1 => if (zeroS z i).2 < zcount z (8 - i) i then (i, zcount z (8 - i) i) else zeroS z i
theorem runS_congr {z y : Nat → Bool} : ∀ k, (∀ i, i < k → z i = y i) → runS z k = runS y k := by
  intro k
  induction k with
  | zero => intro _; rfl
  | succ k ih => intro h; unfold runS; rw [ih (fun i hi => h i (by omega)), h k (by omega)]
theorem zcount_congr {z y : Nat → Bool} : ∀ f i, (∀ j, i ≤ j → j < i + f → z j = y j) → zcount z f i = zcount y f i := by
  intro f
  induction f with
  | zero => intro i _; rfl
  | succ f ih => intro i h; unfold zcount; rw [ih (i + 1) (fun j h1 h2 => h j (by omega) (by omega)), h i (by omega) (by omega)]
theorem zeroS_congr {z y : Nat → Bool} : ∀ k, k ≤ 8 → (∀ i, i < 8 → z i = y i) → zeroS z k = zeroS y k := by
  intro k
  induction k with
  | zero => intro _ _; rfl
  | succ k ih => intro hk h; unfold zeroS; rw [ih (by omega) h, zcount_congr (8 - k) k (fun j h1 h2 => h j (by omega))]
/-- Signs: a word's number, or 8: a colon. -/
def dtok (at' many i : Nat) : List Nat :=
  if 1 < many ∧ at' ≤ i ∧ i < at' + many then (if i = at' then [8, 8] else [])
  else (if 0 < i ∧ (many < 2 ∨ i ≠ at' + many) then [8] else []) ++ [i]
def dtoks (at' many n : Nat) : List Nat := (List.range n).flatMap (dtok at' many)
def jtok : List Nat → List Nat
  | [] => []
  | [x] => [x]
  | x :: y :: r => x :: 8 :: jtok (y :: r)
def ptoks (at' many : Nat) : List Nat := if many = 0 then jtok (List.range 8) else jtok ((List.range 8).take at') ++ 8 :: 8 :: jtok ((List.range 8).drop (at' + many))
def pick8 (b0 b1 b2 b3 b4 b5 b6 b7 : Bool) : Nat → Bool
  | 0 => b0 | 1 => b1 | 2 => b2 | 3 => b3 | 4 => b4 | 5 => b5 | 6 => b6 | _ => b7
theorem pick_eq (z : Nat → Bool) : ∀ i, i < 8 → z i = pick8 (z 0) (z 1) (z 2) (z 3) (z 4) (z 5) (z 6) (z 7) i := by
  intro i hi
  match i, hi with
  | 0, _ => rfl | 1, _ => rfl | 2, _ => rfl | 3, _ => rfl | 4, _ => rfl | 5, _ => rfl | 6, _ => rfl | 7, _ => rfl
def goodB (z : Nat → Bool) : Bool :=
  decide (dtoks (zeroS z 8).1 (zeroS z 8).2 8 = ptoks (runR z).1 (runR z).2) &&
  (decide ((runR z).2 = 0 ∧ (runR z).1 = 8) || (decide (2 ≤ (runR z).2 ∧ (runR z).1 + (runR z).2 ≤ 8) && (List.range 8).all fun i => !(decide ((runR z).1 ≤ i ∧ i < (runR z).1 + (runR z).2)) || z i))
theorem good_all : ∀ b0 b1 b2 b3 b4 b5 b6 b7 : Bool, goodB (pick8 b0 b1 b2 b3 b4 b5 b6 b7) = true := by decide +kernel
structure Good (z : Nat → Bool) : Prop where
  toks : dtoks (zeroS z 8).1 (zeroS z 8).2 8 = ptoks (runR z).1 (runR z).2
  run : ((runR z).2 = 0 ∧ (runR z).1 = 8) ∨ (2 ≤ (runR z).2 ∧ (runR z).1 + (runR z).2 ≤ 8 ∧ ∀ i, i < 8 → (runR z).1 ≤ i → i < (runR z).1 + (runR z).2 → z i = true)
theorem good (z : Nat → Bool) : Good z := by
  have h := good_all (z 0) (z 1) (z 2) (z 3) (z 4) (z 5) (z 6) (z 7)
  have hp := pick_eq z
  generalize pick8 (z 0) (z 1) (z 2) (z 3) (z 4) (z 5) (z 6) (z 7) = y at h hp
  have e1 : runR z = runR y := by unfold runR; rw [runS_congr 8 hp]
  have e2 : zeroS z 8 = zeroS y 8 := zeroS_congr 8 (Nat.le_refl _) hp
  unfold goodB at h
  rw [Bool.and_eq_true, Bool.or_eq_true, Bool.and_eq_true, decide_eq_true_eq, decide_eq_true_eq, decide_eq_true_eq, List.all_eq_true] at h
  refine ⟨by rw [e1, e2]; exact h.1, ?_⟩
  rw [e1]
  rcases h.2 with h | h
  · exact .inl h
  · refine .inr ⟨h.1.1, h.1.2, fun i h1 h2 h3 => ?_⟩
    have := h.2 i (List.mem_range.2 h1)
    rw [decide_eq_true ⟨h2, h3⟩] at this
    rw [hp i h1]; simpa using this
/-- The text of signs. -/
def flat (w : Nat → Bs) (l : List Nat) : Bs := l.flatMap fun t => if t = 8 then [58] else w t
theorem flat_append (w : Nat → Bs) (x y : List Nat) : flat w (x ++ y) = flat w x ++ flat w y := by unfold flat; rw [List.flatMap_append]
theorem flat_join (w : Nat → Bs) : ∀ l : List Nat, (∀ i ∈ l, i ≠ 8) → flat w (jtok l) = joinC 58 (l.map w) := by
  intro l
  induction l with
  | nil => intro _; rfl
  | cons x r ih =>
    intro h
    cases r with
    | nil => show (if x = 8 then [58] else w x) ++ [] = w x; rw [if_neg (h x (by simp)), List.append_nil]
    | cons y r =>
      show (if x = 8 then [58] else w x) ++ ((if (8 : Nat) = 8 then [58] else w 8) ++ flat w (jtok (y :: r))) = w x ++ 58 :: joinC 58 ((y :: r).map w)
      rw [if_neg (h x (by simp)), if_pos rfl, ih (fun i hi => h i (by simp [hi]))]; rfl
def zf (a : Ad) (i : Nat) : Bool := grp a i == 0
def wd (a : Ad) (i : Nat) : Bs := digs 16 (grp a i)
def run (a : Ad) : Nat × Nat := runR (zf a)
def words6 (a : Ad) : List Bs := (List.range 8).map (wd a)
def text6 (a : Ad) : Bs := flat (wd a) (ptoks (run a).1 (run a).2)
def words4 (a : Ad) : List Bs := (bytesA a).map fun c => digs 10 c.toNat
def textA (a : Ad) : Bs := if rightA a then (if a.1 = 6 then text6 a else joinC 46 (words4 a)) else []
theorem range_ne {l : List Nat} (h : ∀ i ∈ l, i ∈ List.range 8) : ∀ i ∈ l, i ≠ 8 := by
  intro i hi e
  have := h i hi
  rw [List.mem_range] at this; omega
/-- As the program writes it. -/
theorem text6_none (a : Ad) (h : (run a).2 = 0) : text6 a = joinC 58 (words6 a) := by
  unfold text6 ptoks
  rw [if_pos h, flat_join _ _ (range_ne (fun i hi => hi))]; rfl
theorem text6_some (a : Ad) (h : (run a).2 ≠ 0) : text6 a = joinC 58 ((words6 a).take (run a).1) ++ 58 :: 58 :: joinC 58 ((words6 a).drop ((run a).1 + (run a).2)) := by
  unfold text6 ptoks
  rw [if_neg h, show ∀ (x y : List Nat), x ++ 8 :: 8 :: y = x ++ ([8, 8] ++ y) from fun _ _ => rfl, flat_append, flat_append, flat_join _ _ (range_ne (fun i hi => List.mem_of_mem_take hi)), flat_join _ _ (range_ne (fun i hi => List.mem_of_mem_drop hi))]
  unfold words6
  rw [List.map_take, List.map_drop]; rfl
/-- As the document writes it. -/
theorem text6_doc (a : Ad) : text6 a = flat (wd a) (dtoks (zeroS (zf a) 8).1 (zeroS (zf a) 8).2 8) := by
  unfold text6 run; rw [(good (zf a)).toks]
theorem words6_len (a : Ad) : (words6 a).length = 8 := by simp [words6]
theorem words6_at (a : Ad) (i : Nat) (h : i < 8) : (words6 a)[i]? = some (wd a i) := by simp [words6, h]
theorem wd_ne (a : Ad) (i : Nat) : wd a i ≠ [] := digs_ne _ _
theorem wd_sign (a : Ad) (i : Nat) (c : UInt8) (hc : c = 46 ∨ c = 58) : c ∉ wd a i := digs_sign 16 _ (by omega) (by omega) (by have := grp_lt a i; omega) c hc
theorem words6_mem {a : Ad} {w : Bs} (h : w ∈ words6 a) : w ≠ [] ∧ (58 : UInt8) ∉ w := by
  obtain ⟨i, _, rfl⟩ := List.mem_map.1 h
  exact ⟨wd_ne a i, wd_sign a i 58 (.inr rfl)⟩
theorem joinC_nil (c : UInt8) {l : List Bs} (h : ∀ w ∈ l, w ≠ []) (e : joinC c l = []) : l = [] := by
  cases l with
  | nil => rfl
  | cons x r => cases r with
    | nil => exact absurd e (h x (by simp))
    | cons y r => have := congrArg List.length e; simp [joinC] at this
/-- The pieces of a text, when nothing stands for none. -/
theorem pieces_join (l : List Bs) (h : ∀ w ∈ l, w ≠ [] ∧ (58 : UInt8) ∉ w) : (if joinC 58 l = [] then [] else splitC 58 (joinC 58 l)) = l := by
  by_cases e : joinC 58 l = []
  · rw [if_pos e, joinC_nil 58 (fun w hw => (h w hw).1) e]
  · rw [if_neg e, split_join 58 l (fun k => e (by rw [k]; rfl)) (fun w hw => (h w hw).2)]
/-- The words of a text with a run left out, filled up. -/
theorem words6_fill (a : Ad) (h : 2 ≤ (run a).2) : (words6 a).take (run a).1 ++ List.replicate (run a).2 [48] ++ (words6 a).drop ((run a).1 + (run a).2) = words6 a := by
  have hg := (good (zf a)).run
  rw [show runR (zf a) = run a from rfl] at hg
  rcases hg with hg | ⟨_, h2, h3⟩
  · omega
  generalize (run a).1 = p at *
  generalize (run a).2 = m at *
  have hrep : List.replicate m [48] = ((words6 a).drop p).take m := by
    apply List.ext_getElem?
    intro i
    by_cases hi : i < m
    · rw [List.getElem?_replicate, if_pos hi, List.getElem?_take, if_pos hi, List.getElem?_drop, words6_at a (p + i) (by omega)]
      have := h3 (p + i) (by omega) (by omega) (by omega)
      unfold zf at this
      unfold wd
      rw [eq_of_beq this]; rfl
    · rw [List.getElem?_eq_none (by simp; omega), List.getElem?_eq_none (by simp; omega)]
  rw [hrep, ← List.drop_drop, List.append_assoc, List.take_append_drop, List.take_append_drop]
theorem run_le (a : Ad) : ((run a).2 = 0 ∧ (run a).1 = 8) ∨ (2 ≤ (run a).2 ∧ (run a).1 + (run a).2 ≤ 8) := by
  rcases (good (zf a)).run with h | h
  · exact .inl h
  · exact .inr ⟨h.1, h.2.1⟩
/-- A text of V6 has a colon, one of V4 none. -/
theorem colon_join (l : List Bs) (h : 2 ≤ l.length) : (58 : UInt8) ∈ joinC 58 l := by
  match l, h with
  | x :: y :: r, _ => show _ ∈ x ++ 58 :: joinC 58 (y :: r); simp
theorem text6_colon (a : Ad) : (58 : UInt8) ∈ text6 a := by
  by_cases h : (run a).2 = 0
  · rw [text6_none a h]; exact colon_join _ (by rw [words6_len]; omega)
  · rw [text6_some a h]; simp
theorem joinC_all {P : UInt8 → Prop} (c : UInt8) (hc : P c) (l : List Bs) (h : ∀ w ∈ l, ∀ x ∈ w, P x) : ∀ x ∈ joinC c l, P x := by
  induction l with
  | nil => intro x hx; simp [joinC] at hx
  | cons y r ih =>
    cases r with
    | nil => exact h y (by simp)
    | cons z r =>
      intro x hx
      rw [show joinC c (y :: z :: r) = y ++ c :: joinC c (z :: r) from rfl, List.mem_append, List.mem_cons] at hx
      rcases hx with hx | rfl | hx
      · exact h y (by simp) x hx
      · exact hc
      · exact ih (fun w hw => h w (by simp [hw])) x hx
theorem words4_mem {a : Ad} {w : Bs} (h : w ∈ words4 a) : ∃ n, n < 256 ∧ w = digs 10 n := by
  obtain ⟨c, _, rfl⟩ := List.mem_map.1 h
  exact ⟨c.toNat, c.toNat_lt, rfl⟩
theorem words4_free {a : Ad} {w : Bs} (h : w ∈ words4 a) (c : UInt8) (hc : c = 46 ∨ c = 58) : c ∉ w := by
  obtain ⟨n, hn, rfl⟩ := words4_mem h
  exact digs_sign 10 n (by omega) (by omega) (by omega) c hc
theorem text4_colon (a : Ad) : (58 : UInt8) ∉ joinC 46 (words4 a) := by
  intro h
  refine joinC_all (P := fun x => x ≠ 58) 46 (by decide) (words4 a) ?_ 58 h rfl
  intro w hw x hx e
  exact words4_free hw 58 (.inr rfl) (by rw [← e]; exact hx)
end Go.Cph.Tx
