/- MT: texts put together: At1 At2 At3 At4 Cv1 Cp1 Cp2. -/
import Derived.Test.YtmjjhnfdpiclfaaGreatDoorMA
import Derived.Lib.Split
import Derived.Lib.Join
import Derived.Lib.ItoaNum
import Derived.Lib.ParseIntB
import Derived.Test.YtmjjhnfdpiclfaaGreatDoorMC
import Derived.Lib.AtoiAll
/- Texts, plainly: digits of a number, words between signs, what stands between signs, where a pair of signs stands. No program. -/
set_option linter.unusedVariables false
set_option linter.unusedSimpArgs false
namespace Go.Cph.Tx
abbrev Bs := List UInt8
/-- A digit's letter; a number's digits. -/
def dig (d : Nat) : UInt8 := UInt8.ofNat (if d < 10 then 48 + d else 87 + d)
def digsF (b : Nat) : Nat → Nat → Bs
  | 0, n => [dig n]
  | f + 1, n => if n < b then [dig n] else digsF b f (n / b) ++ [dig (n % b)]
def digs (b n : Nat) : Bs := digsF b 5 n
theorem digsF_more (b : Nat) (hb : 2 ≤ b) : ∀ (f n : Nat), n < b ^ (f + 1) → digsF b (f + 1) n = digsF b f n := by
  intro f
  induction f with
  | zero => intro n hn; rw [Nat.zero_add, Nat.pow_one] at hn; unfold digsF; rw [if_pos hn]
  | succ f ih =>
    intro n hn
    conv => lhs; unfold digsF
    conv => rhs; unfold digsF
    split
    · rfl
    · rw [ih (n / b) (Nat.div_lt_of_lt_mul (by rw [Nat.pow_succ] at hn; rw [Nat.mul_comm]; exact hn))]
theorem digs_small (b n : Nat) (h : n < b) : digs b n = [dig n] := by unfold digs digsF; rw [if_pos h]
theorem digs_big (b n : Nat) (hb : 2 ≤ b) (h : b ≤ n) (hn : n < b ^ 6) : digs b n = digs b (n / b) ++ [dig (n % b)] := by
  conv => lhs; unfold digs digsF
  rw [if_neg (by omega)]
  have : n / b < b ^ (4 + 1) := Nat.div_lt_of_lt_mul (by rw [Nat.pow_succ] at hn; rw [Nat.mul_comm]; exact hn)
  rw [show digs b (n / b) = digsF b (4 + 1) (n / b) from rfl, digsF_more b hb 4 _ this]
theorem digs_ne (b n : Nat) : digs b n ≠ [] := by unfold digs digsF; split <;> simp
theorem digs_len (b n : Nat) : (digs b n).length ≤ 6 := by
  suffices k : ∀ f n, (digsF b f n).length ≤ f + 1 from k 5 n
  intro f
  induction f with
  | zero => intro n; exact Nat.le_refl _
  | succ f ih => intro n; unfold digsF; split
                 · simp
                 · have := ih (n / b); rw [List.length_append]; simp; omega
theorem dig_nat {d : Nat} (h : d < 16) : (dig d).toNat = if d < 10 then 48 + d else 87 + d := by
  unfold dig; split <;> (rw [UInt8.toNat_ofNat']; omega)
theorem dig_inj {d e : Nat} (h : d < 16) (k : e < 16) (x : dig d = dig e) : d = e := by
  have := congrArg UInt8.toNat x
  rw [dig_nat h, dig_nat k] at this
  split at this <;> split at this <;> omega
theorem digs_all (b n : Nat) (hb : 2 ≤ b) (h16 : b ≤ 16) (hn : n < b ^ 6) : ∀ c ∈ digs b n, ∃ d, d < b ∧ c = dig d := by
  suffices k : ∀ f n, n < b ^ (f + 1) → ∀ c ∈ digsF b f n, ∃ d, d < b ∧ c = dig d from k 5 n hn
  intro f
  induction f with
  | zero => intro n hn c hc; exact ⟨n, by rw [Nat.zero_add, Nat.pow_one] at hn; exact hn, by simpa [digsF] using hc⟩
  | succ f ih =>
    intro n hn c hc
    unfold digsF at hc
    split at hc
    · rename_i h; exact ⟨n, h, by simpa using hc⟩
    · rcases List.mem_append.1 hc with h | h
      · exact ih (n / b) (Nat.div_lt_of_lt_mul (by rw [Nat.pow_succ] at hn; rw [Nat.mul_comm]; exact hn)) c h
      · exact ⟨n % b, Nat.mod_lt _ (by omega), by simpa using h⟩
/-- No digit is a point or a colon. -/
theorem digs_sign (b n : Nat) (hb : 2 ≤ b) (h16 : b ≤ 16) (hn : n < b ^ 6) (c : UInt8) (hc : c = 46 ∨ c = 58) : c ∉ digs b n := by
  intro h
  obtain ⟨d, hd, rfl⟩ := digs_all b n hb h16 hn _ h
  rcases hc with hc | hc <;>
  · have := congrArg UInt8.toNat hc
    rw [dig_nat (by omega)] at this
    revert this; split <;> (intro this; simp at this; omega)
theorem dec_digs (n : Nat) (h : n < 256) : Lib.decDigits n = digs 10 n := by
  suffices k : ∀ n, n < 10 ^ 6 → Lib.decDigits n = digs 10 n from k n (by omega)
  intro n
  induction n using Nat.strongRecOn with
  | _ n ih =>
    intro hn
    unfold Lib.decDigits
    by_cases h : n < 10
    · rw [dif_pos h, digs_small 10 n h]; unfold dig; rw [if_pos h]
    · rw [dif_neg h, digs_big 10 n (by omega) (by omega) hn, ih (n / 10) (by omega) (by omega)]
      have : n % 10 < 10 := Nat.mod_lt _ (by omega)
      unfold dig; rw [if_pos this]
theorem itoa_digs (n : Nat) (h : n < 256) : Lib.itoa (n : Int) = digs 10 n := by
  unfold Lib.itoa
  rw [if_neg (by omega), Int.toNat_natCast, dec_digs n h]

/-- Words with a sign between. -/
def joinC (c : UInt8) : List Bs → Bs
  | [] => []
  | [x] => x
  | x :: y :: r => x ++ c :: joinC c (y :: r)
theorem join_joinC (c : UInt8) (l : List Bs) : Lib.join l [c] = joinC c l := by
  cases l with
  | nil => rfl
  | cons x r =>
    rw [Lib.join_cons]
    induction r generalizing x with
    | nil => simp [Lib.joinTail, joinC]
    | cons y r ih =>
      have := ih y
      show x ++ Lib.joinTail [c] (y :: r) = x ++ c :: joinC c (y :: r)
      rw [← this]
      simp [Lib.joinTail]
/-- What stands between signs. -/
def splitC (c : UInt8) : Bs → List Bs
  | [] => [[]]
  | b :: r => if b = c then [] :: splitC c r else match splitC c r with
    | [] => [[b]]
    | x :: t => (b :: x) :: t
theorem split_ne (c : UInt8) (s : Bs) : splitC c s ≠ [] := by
  cases s with
  | nil => simp [splitC]
  | cons b r => unfold splitC; split
                · simp
                · split <;> simp
theorem split_cons (c : UInt8) {b : UInt8} (h : b ≠ c) {r : Bs} {x : Bs} {t : List Bs} (hs : splitC c r = x :: t) : splitC c (b :: r) = (b :: x) :: t := by
  show (if b = c then [] :: splitC c r else match splitC c r with | [] => [[b]] | x :: t => (b :: x) :: t) = _
  rw [if_neg h, hs]
theorem split_none (c : UInt8) : ∀ s : Bs, c ∉ s → splitC c s = [s] := by
  intro s
  induction s with
  | nil => intro _; rfl
  | cons b r ih =>
    intro h
    exact split_cons c (fun e => h (by simp [e])) (ih (fun e => h (by simp [e])))
theorem split_app (c : UInt8) (a r : Bs) (h : c ∉ a) : splitC c (a ++ c :: r) = a :: splitC c r := by
  induction a with
  | nil => show (if c = c then [] :: splitC c r else _) = _; rw [if_pos rfl]
  | cons b a ih =>
    exact split_cons c (fun e => h (by simp [e])) (ih (fun e => h (by simp [e])))
theorem split_join (c : UInt8) (l : List Bs) (h0 : l ≠ []) (h : ∀ w ∈ l, c ∉ w) : splitC c (joinC c l) = l := by
  induction l with
  | nil => exact absurd rfl h0
  | cons x r ih =>
    cases r with
    | nil => exact split_none c x (h x (by simp))
    | cons y r =>
      show splitC c (x ++ c :: joinC c (y :: r)) = _
      rw [split_app c x _ (h x (by simp)), ih (by simp) (fun w hw => h w (by simp [hw]))]
theorem join_split (c : UInt8) (s : Bs) : joinC c (splitC c s) = s := by
  induction s with
  | nil => rfl
  | cons b r ih =>
    by_cases h : b = c
    · subst h
      show joinC b (if b = b then [] :: splitC b r else _) = _
      rw [if_pos rfl]
      cases hs : splitC b r with
      | nil => exact absurd hs (split_ne _ _)
      | cons x t => rw [hs] at ih; show [] ++ b :: joinC b (x :: t) = _; rw [ih]; rfl
    · cases hs : splitC c r with
      | nil => exact absurd hs (split_ne _ _)
      | cons x t =>
        rw [split_cons c h hs]; rw [hs] at ih
        cases t with
        | nil => show b :: x = b :: r; rw [show x = r from ih]
        | cons y t => show (b :: x) ++ c :: joinC c (y :: t) = b :: r; rw [← ih]; rfl
theorem split_free (c : UInt8) : ∀ (s : Bs), ∀ w ∈ splitC c s, c ∉ w := by
  intro s
  induction s with
  | nil => intro w hw; simp [splitC] at hw; subst hw; simp
  | cons b r ih =>
    intro w hw
    by_cases h : b = c
    · subst h
      rw [show splitC b (b :: r) = [] :: splitC b r from by show (if b = b then [] :: splitC b r else _) = _; rw [if_pos rfl]] at hw
      rcases List.mem_cons.1 hw with rfl | hw
      · simp
      · exact ih w hw
    · cases hs : splitC c r with
      | nil => exact absurd hs (split_ne _ _)
      | cons x t =>
        rw [split_cons c h hs] at hw
        rw [hs] at ih
        rcases List.mem_cons.1 hw with rfl | hw
        · intro k; rcases List.mem_cons.1 k with k | k
          · exact h k.symm
          · exact ih x (by simp) k
        · exact ih w (by simp [hw])
/-- The library's own words are these. -/
theorem occ_one (c : UInt8) (s : Bs) (i : Nat) : Lib.occAt s [c] i = true ↔ s[i]? = some c := by
  unfold Lib.occAt
  rw [List.isPrefixOf_iff_prefix]
  constructor
  · rintro ⟨t, ht⟩
    have := congrArg (·[0]?) ht
    simp [List.getElem?_drop] at this
    exact this.symm
  · intro h
    have hi : i < s.length := by
      rcases Nat.lt_or_ge i s.length with k | k
      · exact k
      · rw [List.getElem?_eq_none k] at h; simp at h
    rw [List.drop_eq_getElem_cons hi]
    have : s[i] = c := by rw [List.getElem?_eq_getElem hi] at h; exact Option.some.inj h
    exact ⟨s.drop (i + 1), by rw [this]; rfl⟩
theorem splitK_splitC (c : UInt8) : ∀ (n : Nat) (s : Bs), s.length < n → Lib.splitK [c] 0 (Lib.count s [c]) s = splitC c s ∧ (splitC c s).length = Lib.count s [c] + 1 := by
  intro n
  induction n with
  | zero => intro s h; omega
  | succ n ih =>
    intro s h
    rcases Lib.index_spec s [c] with ⟨h1, h2⟩ | ⟨i, h1, h2, h3, h4⟩
    · have : c ∉ s := by
        intro hm
        obtain ⟨j, hj, e⟩ := List.getElem_of_mem hm
        have := h2 j (by omega)
        rw [Bool.eq_false_iff] at this
        exact this ((occ_one c s j).2 (by rw [List.getElem?_eq_getElem hj, e]))
      rw [Lib.count_miss h1, split_none c s this]
      exact ⟨rfl, rfl⟩
    · have h5 := (occ_one c s i).1 h3
      have hi : i < s.length := by
        rcases Nat.lt_or_ge i s.length with k | k
        · exact k
        · rw [List.getElem?_eq_none k] at h5; simp at h5
      have hc : c ∉ s.take i := by
        intro hm
        obtain ⟨j, hj, e⟩ := List.getElem_of_mem hm
        rw [List.length_take] at hj
        have := h4 j (by omega)
        rw [Bool.eq_false_iff] at this
        refine this ((occ_one c s j).2 ?_)
        rw [List.getElem_take] at e
        rw [List.getElem?_eq_getElem (by omega), e]
      have hs : s = s.take i ++ c :: s.drop (i + 1) := by
        have := (List.take_append_drop i s).symm
        rw [List.drop_eq_getElem_cons hi] at this
        rw [List.getElem?_eq_getElem hi] at h5
        rw [Option.some.inj h5] at this
        exact this
      have hd := ih (s.drop (i + 1)) (by rw [List.length_drop]; omega)
      have hsc : splitC c s = s.take i :: splitC c (s.drop (i + 1)) := by
        conv => lhs; rw [hs]
        rw [split_app c _ _ hc]
      have hcount : Lib.count s [c] = 1 + Lib.count (s.drop (i + 1)) [c] := Lib.count_hit (by simp) h1
      rw [hcount, hsc, Nat.add_comm 1]
      refine ⟨?_, by rw [List.length_cons, hd.2]⟩
      unfold Lib.splitK
      rw [if_neg (by rw [h1]; simp), h1]
      show s.take (i + 0) :: Lib.splitK [c] 0 _ (s.drop (i + 1)) = _
      rw [Nat.add_zero, hd.1]
theorem splitB_splitC (c : UInt8) (s : ByteArray) : (Lib.splitB ⟨#[c]⟩ 0 (Lib.countB s ⟨#[c]⟩) s).map (·.data.toList) = splitC c s.data.toList ∧ (splitC c s.data.toList).length = Lib.countB s ⟨#[c]⟩ + 1 := by
  rw [Lib.splitB_data]
  exact splitK_splitC c _ _ (Nat.lt_succ_self _)
/-- Where two colons stand. -/
def cutAt : Bs → Option Nat
  | [] => none
  | a :: r => if a = 58 ∧ r.head? = some 58 then some 0 else (cutAt r).map (· + 1)
theorem cut_cons (a : UInt8) (r : Bs) : cutAt (a :: r) = if a = 58 ∧ r.head? = some 58 then some 0 else (cutAt r).map (· + 1) := rfl
theorem index_cut : ∀ s : Bs, Lib.index s [58, 58] = match cutAt s with | none => -1 | some i => (i : Int) := by
  intro s
  induction s with
  | nil => rfl
  | cons a r ih =>
    unfold Lib.index cutAt
    by_cases h : a = 58 ∧ r.head? = some 58
    · rw [if_pos h, if_pos]
      · rfl
      · obtain ⟨rfl, h2⟩ := h
        cases r with
        | nil => simp at h2
        | cons b r => simp at h2; subst h2; rfl
    · rw [if_neg h, if_neg, ih]
      · cases cutAt r with
        | none => rfl
        | some i => show (if ((i : Int) == -1) = true then (-1 : Int) else (i : Int) + 1) = ((i + 1 : Nat) : Int)
                    rw [if_neg (by simp)]; omega
      · intro k
        apply h
        rw [List.isPrefixOf_iff_prefix] at k
        obtain ⟨t, ht⟩ := k
        injection ht with e1 e2
        exact ⟨e1.symm, by rw [← e2]; rfl⟩
theorem cut_lib (s : Bs) : Lib.cut s [58, 58] = match cutAt s with | none => (s, [], false) | some i => (s.take i, s.drop (i + 2), true) := by
  unfold Lib.cut
  rw [index_cut]
  cases cutAt s with
  | none => rfl
  | some i => show (if (0 : Int) ≤ (i : Int) then _ else _) = _; rw [if_pos (by omega)]; rfl
theorem cut_none (w : Bs) (h : (58 : UInt8) ∉ w) : cutAt w = none := by
  induction w with
  | nil => rfl
  | cons a w ih =>
    unfold cutAt
    rw [if_neg (fun k => h (by rw [k.1]; simp)), ih (fun k => h (by simp [k]))]; rfl
theorem cut_two (w : Bs) (h : (58 : UInt8) ∉ w) (r : Bs) : cutAt (w ++ 58 :: 58 :: r) = some w.length := by
  induction w with
  | nil => unfold cutAt; rw [List.nil_append]; exact if_pos ⟨rfl, rfl⟩
  | cons a w ih =>
    show cutAt (a :: (w ++ 58 :: 58 :: r)) = _
    unfold cutAt
    rw [if_neg (fun k => h (by rw [k.1]; simp)), ih (fun k => h (by simp [k]))]; rfl
theorem cut_one (w : Bs) (h : (58 : UInt8) ∉ w) (r : Bs) (hr : r.head? ≠ some 58) : cutAt (w ++ 58 :: r) = (cutAt r).map (· + (w.length + 1)) := by
  induction w with
  | nil => show cutAt (58 :: r) = _; rw [cut_cons, if_neg (fun k => hr k.2)]; rfl
  | cons a w ih =>
    show cutAt (a :: (w ++ 58 :: r)) = _
    rw [cut_cons, if_neg (fun k => h (by rw [k.1]; simp)), ih (fun k => h (by simp [k])), Option.map_map]
    cases cutAt r with
    | none => rfl
    | some i => show some (i + (w.length + 1) + 1) = some (i + (w.length + 1 + 1)); rfl
theorem head_join (c : UInt8) (x : Bs) (r : List Bs) (hx : x ≠ []) : (joinC c (x :: r)).head? = x.head? := by
  cases x with
  | nil => exact absurd rfl hx
  | cons a x => cases r with
    | nil => rfl
    | cons y r => rfl
theorem head_free (x : Bs) (h : (58 : UInt8) ∉ x) : x.head? ≠ some 58 := by
  cases x with
  | nil => simp
  | cons a x => intro k; simp at k; exact h (by simp [k])
/-- Words that are not empty and hold no colon: no two colons; with two colons behind them: there. -/
theorem cut_words (l : List Bs) (h0 : ∀ w ∈ l, w ≠ []) (h : ∀ w ∈ l, (58 : UInt8) ∉ w) : cutAt (joinC 58 l) = none := by
  induction l with
  | nil => rfl
  | cons x r ih =>
    cases r with
    | nil => exact cut_none x (h x (by simp))
    | cons y r =>
      show cutAt (x ++ 58 :: joinC 58 (y :: r)) = none
      rw [cut_one x (h x (by simp)) _ (by rw [head_join _ _ _ (h0 y (by simp))]; exact head_free y (h y (by simp))), ih (fun w hw => h0 w (by simp [hw])) (fun w hw => h w (by simp [hw]))]; rfl
theorem cut_words2 (l : List Bs) (h0 : ∀ w ∈ l, w ≠ []) (h : ∀ w ∈ l, (58 : UInt8) ∉ w) (q : Bs) : cutAt (joinC 58 l ++ 58 :: 58 :: q) = some (joinC 58 l).length := by
  induction l with
  | nil => exact cut_two [] (by simp) q
  | cons x r ih =>
    cases r with
    | nil => exact cut_two x (h x (by simp)) q
    | cons y r =>
      have hne : joinC 58 (y :: r) ≠ [] := by
        intro k
        have := head_join 58 y r (h0 y (by simp))
        rw [k] at this
        cases y with
        | nil => exact h0 [] (by simp) rfl
        | cons a y => simp at this
      have hh : (joinC 58 (y :: r) ++ 58 :: 58 :: q).head? = (joinC 58 (y :: r)).head? := by
        cases hj : joinC 58 (y :: r) with
        | nil => exact absurd hj hne
        | cons a t => rfl
      show cutAt ((x ++ 58 :: joinC 58 (y :: r)) ++ 58 :: 58 :: q) = _
      rw [List.append_assoc, List.cons_append, cut_one x (h x (by simp)) _ (by rw [hh, head_join _ _ _ (h0 y (by simp))]; exact head_free y (h y (by simp))),
        ih (fun w hw => h0 w (by simp [hw])) (fun w hw => h w (by simp [hw]))]
      show some ((joinC 58 (y :: r)).length + (x.length + 1)) = some ((x ++ 58 :: joinC 58 (y :: r)).length)
      congr 1
      rw [List.length_append, List.length_cons]; omega
end Go.Cph.Tx

/- Texts, plainly: numbers read of words, strictly and loosely. No program. -/
set_option linter.unusedVariables false
set_option linter.unusedSimpArgs false
namespace Go.Cph.Tx
/-- A digit of a base. -/
def dval (b : Nat) (c : UInt8) : Option Nat :=
  if 48 ≤ c.toNat ∧ c.toNat ≤ 57 then (if c.toNat - 48 < b then some (c.toNat - 48) else none)
  else if 97 ≤ c.toNat ∧ c.toNat ≤ 102 then (if c.toNat - 87 < b then some (c.toNat - 87) else none) else none
def stepD (b most : Nat) (cur : Option Nat) (c : UInt8) : Option Nat :=
  match dval b c with
  | none => none
  | some d => if cur = some 0 then none else if b * cur.getD 0 + d ≤ most then some (b * cur.getD 0 + d) else none
/-- One word; words with a sign between. -/
def wordF (b most : Nat) : Option Nat → Bs → Option Nat
  | cur, [] => cur
  | cur, c :: r => match stepD b most cur c with
    | none => none
    | some n => wordF b most (some n) r
def wordsF (b most : Nat) (sign : UInt8) : List Nat → Option Nat → Bs → Option (List Nat)
  | l, cur, [] => cur.map fun n => l ++ [n]
  | l, cur, c :: r => if c = sign then (match cur with
      | none => none
      | some n => wordsF b most sign (l ++ [n]) none r)
    else match stepD b most cur c with
      | none => none
      | some n => wordsF b most sign l (some n) r
theorem dval_dig {b d : Nat} (h16 : b ≤ 16) (h : d < b) : dval b (dig d) = some d := by
  unfold dval
  rw [dig_nat (by omega)]
  by_cases k : d < 10
  · rw [if_pos k, if_pos (by omega), if_pos (by omega)]; congr 1; omega
  · rw [if_neg k, if_neg (by omega), if_pos (by omega), if_pos (by omega)]; congr 1; omega
theorem dval_some {b d : Nat} {c : UInt8} (h16 : b ≤ 16) (h : dval b c = some d) : d < b ∧ c = dig d := by
  unfold dval at h
  split at h
  · split at h
    · rename_i h1 h2
      have := Option.some.inj h; subst this
      refine ⟨h2, UInt8.toNat_inj.1 ?_⟩
      rw [dig_nat (by omega), if_pos (by omega)]; omega
    · exact absurd h (by simp)
  · split at h
    · split at h
      · rename_i h1 h2 h3
        have := Option.some.inj h; subst this
        refine ⟨h3, UInt8.toNat_inj.1 ?_⟩
        rw [dig_nat (by omega), if_neg (by omega)]; omega
      · exact absurd h (by simp)
    · exact absurd h (by simp)
theorem wordF_snoc (b most : Nat) (c : UInt8) : ∀ (w : Bs) (cur : Option Nat), wordF b most cur (w ++ [c]) = if w = [] then stepD b most cur c else (wordF b most cur w).bind fun n => stepD b most (some n) c := by
  intro w
  induction w with
  | nil => intro cur; rw [if_pos rfl]; show (match stepD b most cur c with | none => none | some n => wordF b most (some n) []) = _; cases stepD b most cur c <;> rfl
  | cons a w ih =>
    intro cur
    rw [if_neg (by simp)]
    show (match stepD b most cur a with | none => none | some n => wordF b most (some n) (w ++ [c])) = Option.bind (match stepD b most cur a with | none => none | some n => wordF b most (some n) w) _
    cases stepD b most cur a with
    | none => rfl
    | some n =>
      show wordF b most (some n) (w ++ [c]) = Option.bind (wordF b most (some n) w) _
      rw [ih (some n)]
      by_cases h : w = []
      · rw [if_pos h, h]; rfl
      · rw [if_neg h]
/-- A word is read strictly just if it is a number's digits. -/
theorem wordF_iff (b most : Nat) (hb : 2 ≤ b) (h16 : b ≤ 16) (hm : most < b ^ 6) (w : Bs) (n : Nat) : wordF b most none w = some n ↔ w = digs b n ∧ n ≤ most := by
  have ih : ∀ k : Nat, ∀ w : Bs, w.length = k → ∀ n, wordF b most none w = some n ↔ w = digs b n ∧ n ≤ most := by
    intro k
    induction k with
    | zero =>
      intro w hw n
      have : w = [] := List.length_eq_zero_iff.1 hw
      subst this
      exact ⟨fun h => absurd h (by simp [wordF]), fun h => absurd h.1.symm (digs_ne b n)⟩
    | succ k ih =>
      intro w hw n
      obtain ⟨v, c, rfl⟩ : ∃ v c, w = v ++ [c] := ⟨w.dropLast, w.getLast (by intro e; simp [e] at hw), (List.dropLast_concat_getLast _).symm⟩
      have hv : v.length = k := by simpa using hw
      rw [wordF_snoc]
      by_cases h0 : v = []
      · rw [if_pos h0]; subst h0
        unfold stepD
        constructor
        · intro h
          cases hd : dval b c with
          | none => rw [hd] at h; simp at h
          | some d =>
            rw [hd] at h
            obtain ⟨h1, h2⟩ := dval_some h16 hd
            simp at h
            obtain ⟨h3, rfl⟩ := h
            exact ⟨by rw [digs_small b _ h1, h2]; rfl, h3⟩
        · rintro ⟨h, h2⟩
          have h1 : n < b := by
            rcases Nat.lt_or_ge n b with k | k
            · exact k
            · exfalso
              rw [digs_big b n hb k (by omega)] at h
              have := congrArg List.length h
              simp at this
              exact digs_ne b _ this
          rw [digs_small b n h1] at h
          simp at h
          rw [h, dval_dig h16 h1]
          simp [h2]
      · rw [if_neg h0]
        constructor
        · intro h
          cases hw2 : wordF b most none v with
          | none => rw [hw2] at h; simp at h
          | some m =>
            rw [hw2] at h
            obtain ⟨e, hm2⟩ := (ih v hv m).1 hw2
            simp only [Option.bind_some] at h
            unfold stepD at h
            cases hd : dval b c with
            | none => rw [hd] at h; simp at h
            | some d =>
              rw [hd] at h
              obtain ⟨h1, h2⟩ := dval_some h16 hd
              simp at h
              obtain ⟨h3, h4, h5⟩ := h
              subst h5
              refine ⟨?_, h4⟩
              have hm1 : 1 ≤ m := by omega
              have hge : b ≤ b * m + d := by
                have := Nat.mul_le_mul_left b hm1
                omega
              rw [digs_big b _ hb hge (by omega), Nat.mul_add_div (by omega), Nat.mul_add_mod, Nat.div_eq_of_lt h1, Nat.mod_eq_of_lt h1, Nat.add_zero, ← e, ← h2]
        · rintro ⟨h, h2⟩
          have h1 : b ≤ n := by
            rcases Nat.lt_or_ge n b with k | k
            · exfalso
              rw [digs_small b n k] at h
              have := congrArg List.length h
              simp at this
              exact h0 this
            · exact k
          rw [digs_big b n hb h1 (by omega)] at h
          obtain ⟨h3, h4⟩ := List.append_inj' h rfl
          have hlt : n % b < b := Nat.mod_lt _ (by omega)
          have hle : n / b ≤ most := Nat.le_trans (Nat.div_le_self _ _) h2
          rw [(ih v hv (n / b)).2 ⟨h3, hle⟩]
          simp at h4
          simp only [Option.bind_some]
          unfold stepD
          rw [h4, dval_dig h16 hlt]
          have hpos : n / b ≠ 0 := by
            have := Nat.div_pos h1 (by omega); omega
          have := Nat.div_add_mod n b
          simp [hpos, this, h2]
  exact ih _ w rfl n
/-- Words as a list: each one read. -/
theorem wordsF_split (b most : Nat) (sign : UInt8) : ∀ (s : Bs) (l : List Nat) (cur : Option Nat) (w0 : Bs) (ws : List Bs), splitC sign s = w0 :: ws →
    wordsF b most sign l cur s = (wordF b most cur w0).bind fun n => (ws.mapM (wordF b most none)).map fun r => l ++ n :: r := by
  intro s
  induction s with
  | nil =>
    intro l cur w0 ws h
    simp [splitC] at h
    obtain ⟨rfl, rfl⟩ := h
    show cur.map _ = _
    cases cur <;> rfl
  | cons c r ih =>
    intro l cur w0 ws h
    show (if c = sign then (match cur with | none => none | some n => wordsF b most sign (l ++ [n]) none r) else match stepD b most cur c with | none => none | some n => wordsF b most sign l (some n) r) = _
    by_cases hc : c = sign
    · subst hc
      rw [show splitC c (c :: r) = [] :: splitC c r from by show (if c = c then [] :: splitC c r else _) = _; rw [if_pos rfl]] at h
      injection h with h1 h2
      subst h1
      rw [if_pos rfl]
      cases cur with
      | none => rfl
      | some n =>
        show wordsF b most c (l ++ [n]) none r = Option.map _ _
        cases hs : splitC c r with
        | nil => exact absurd hs (split_ne _ _)
        | cons x t =>
          rw [ih (l ++ [n]) none x t hs]
          rw [hs] at h2; subst h2
          rw [List.mapM_cons]
          cases wordF b most none x with
          | none => rfl
          | some m =>
            simp only [Option.bind_some]
            cases List.mapM (wordF b most none) t with
            | none => rfl
            | some rr => show some (l ++ [n] ++ m :: rr) = some (l ++ n :: m :: rr); rw [List.append_assoc]; rfl
    · rw [if_neg hc]
      cases hs : splitC sign r with
      | nil => exact absurd hs (split_ne _ _)
      | cons x t =>
        rw [split_cons sign hc hs] at h
        injection h with h1 h2
        subst h1; subst h2
        show _ = Option.bind (match stepD b most cur c with | none => none | some n => wordF b most (some n) x) _
        cases stepD b most cur c with
        | none => rfl
        | some n => exact ih l (some n) x t hs
theorem mapM_digs (b most : Nat) (hb : 2 ≤ b) (h16 : b ≤ 16) (hm : most < b ^ 6) : ∀ (ws : List Bs) (L : List Nat), ws.mapM (wordF b most none) = some L ↔ ws = L.map (digs b) ∧ ∀ n ∈ L, n ≤ most := by
  intro ws
  induction ws with
  | nil => intro L; constructor
           · intro h; have : L = [] := by simpa using h.symm
             subst this; exact ⟨rfl, by simp⟩
           · rintro ⟨h, _⟩; have : L = [] := by simpa using h.symm
             subst this; rfl
  | cons w ws ih =>
    intro L
    rw [List.mapM_cons]
    constructor
    · intro h
      cases hw : wordF b most none w with
      | none => rw [hw] at h; exact absurd h (by simp)
      | some n =>
        rw [hw] at h
        cases hr : ws.mapM (wordF b most none) with
        | none => rw [hr] at h; exact absurd h (by simp)
        | some rr =>
          rw [hr] at h
          have h' : n :: rr = L := by simpa using h
          subst h'
          obtain ⟨e1, e2⟩ := (wordF_iff b most hb h16 hm w n).1 hw
          obtain ⟨e3, e4⟩ := (ih rr).1 hr
          exact ⟨by rw [e1, e3]; rfl, fun k hk => by rcases List.mem_cons.1 hk with rfl | hk; exact e2; exact e4 k hk⟩
    · rintro ⟨h, h2⟩
      cases L with
      | nil => exact absurd h (by simp)
      | cons n rr =>
        injection h with e1 e2
        rw [(wordF_iff b most hb h16 hm w n).2 ⟨e1, h2 n (by simp)⟩, (ih rr).2 ⟨e2, fun k hk => h2 k (by simp [hk])⟩]; rfl
/-- The words of a text are read strictly just if the text is these numbers' digits, the sign between. -/
theorem words_iff (b most : Nat) (sign : UInt8) (hb : 2 ≤ b) (h16 : b ≤ 16) (hm : most < b ^ 6) (hs : sign = 46 ∨ sign = 58) (s : Bs) (L : List Nat) :
    wordsF b most sign [] none s = some L ↔ L ≠ [] ∧ s = joinC sign (L.map (digs b)) ∧ ∀ n ∈ L, n ≤ most := by
  have hM : wordsF b most sign [] none s = (splitC sign s).mapM (wordF b most none) := by
    cases h : splitC sign s with
    | nil => exact absurd h (split_ne _ _)
    | cons x t =>
      rw [wordsF_split b most sign s [] none x t h, List.mapM_cons]
      cases wordF b most none x with
      | none => rfl
      | some n => cases t.mapM (wordF b most none) <;> rfl
  rw [hM, mapM_digs b most hb h16 hm]
  constructor
  · rintro ⟨h1, h2⟩
    refine ⟨fun e => ?_, ?_, h2⟩
    · rw [e] at h1; exact absurd h1 (split_ne _ _)
    · rw [← h1, join_split]
  · rintro ⟨h0, h1, h2⟩
    refine ⟨?_, h2⟩
    rw [h1]
    refine split_join sign _ (by simpa using h0) ?_
    intro w hw
    obtain ⟨n, hn, rfl⟩ := List.mem_map.1 hw
    have := h2 n hn
    exact digs_sign b n hb h16 (by omega) sign hs

/-- ParseUint(s, 16, 16). -/
def low (c : UInt8) : Nat := (c ||| 32).toNat
def hexM (acc : Nat) : Bs → Lib.NumEnd Nat
  | [] => .ok acc
  | c :: r =>
    if 48 ≤ c.toNat ∧ c.toNat ≤ 57 then (if 65535 < acc * 16 + (c.toNat - 48) then .range else hexM (acc * 16 + (c.toNat - 48)) r)
    else if 97 ≤ low c ∧ low c ≤ 102 then (if 65535 < acc * 16 + (low c - 87) then .range else hexM (acc * 16 + (low c - 87)) r)
    else .syntax
def hexU (l : Bs) : Lib.NumEnd Nat := if l = [] then .syntax else hexM 0 l
/-- What 'small' tells: the number, if it is one. -/
def okOf : Lib.NumEnd Nat → Option Nat
  | .ok n => some n
  | _ => none
def small10 (l : Bs) : Option Nat := okOf (Lib.parseUintB 8 l)
def small16 (l : Bs) : Option Nat := okOf (hexU l)
theorem low_dig : ∀ d, d < 16 → 10 ≤ d → low (dig d) = 87 + d := by decide
theorem hexM_dig {acc d : Nat} (h : d < 16) (r : Bs) (ha : acc * 16 + d ≤ 65535) : hexM acc (dig d :: r) = hexM (acc * 16 + d) r := by
  show (if 48 ≤ (dig d).toNat ∧ (dig d).toNat ≤ 57 then (if 65535 < acc * 16 + ((dig d).toNat - 48) then .range else hexM (acc * 16 + ((dig d).toNat - 48)) r)
    else if 97 ≤ low (dig d) ∧ low (dig d) ≤ 102 then (if 65535 < acc * 16 + (low (dig d) - 87) then .range else hexM (acc * 16 + (low (dig d) - 87)) r) else .syntax) = _
  have e := dig_nat h
  by_cases k : d < 10
  · rw [if_pos k] at e
    rw [e, if_pos (by omega), Nat.add_sub_cancel_left, if_neg (by omega)]
  · rw [if_neg k] at e
    rw [e, if_neg (by omega), low_dig d h (by omega), if_pos (by omega), Nat.add_sub_cancel_left, if_neg (by omega)]
theorem hexM_cons (acc : Nat) (c : UInt8) (r : Bs) : hexM acc (c :: r) = if 48 ≤ c.toNat ∧ c.toNat ≤ 57 then (if 65535 < acc * 16 + (c.toNat - 48) then .range else hexM (acc * 16 + (c.toNat - 48)) r)
    else if 97 ≤ low c ∧ low c ≤ 102 then (if 65535 < acc * 16 + (low c - 87) then .range else hexM (acc * 16 + (low c - 87)) r)
    else .syntax := rfl
theorem hexM_append (x : Bs) : ∀ (l : Bs) (a b : Nat), hexM a l = .ok b → hexM a (l ++ x) = hexM b x := by
  intro l
  induction l with
  | nil => intro a b h; have : a = b := by simpa [hexM] using h
           rw [this]; rfl
  | cons c r ih =>
    intro a b h
    rw [List.cons_append, hexM_cons]
    rw [hexM_cons] at h
    split at h
    · rename_i h1
      rw [if_pos h1]
      split at h
      · exact absurd h (by simp)
      · rename_i h2; rw [if_neg h2]; exact ih _ _ h
    · rename_i h1
      rw [if_neg h1]
      split at h
      · rename_i h2
        rw [if_pos h2]
        split at h
        · exact absurd h (by simp)
        · rename_i h3; rw [if_neg h3]; exact ih _ _ h
      · exact absurd h (by simp)
theorem hexU_digs (n : Nat) (h : n ≤ 65535) : hexU (digs 16 n) = .ok n := by
  unfold hexU
  rw [if_neg (digs_ne 16 n)]
  induction n using Nat.strongRecOn with
  | _ n ih =>
    by_cases k : n < 16
    · rw [digs_small 16 n k, hexM_dig k [] (by omega), Nat.zero_mul, Nat.zero_add]; rfl
    · rw [digs_big 16 n (by omega) (by omega) (by omega), hexM_append _ _ _ _ (ih (n / 16) (by omega) (by omega)), hexM_dig (by omega) [] (by omega), Nat.mul_comm, Nat.div_add_mod]; rfl
theorem hexM_le : ∀ (l : Bs) (a b : Nat), a ≤ 65535 → hexM a l = .ok b → b ≤ 65535 := by
  intro l
  induction l with
  | nil => intro a b ha h; have : a = b := by simpa [hexM] using h
           omega
  | cons c r ih =>
    intro a b ha h
    unfold hexM at h
    split at h
    · split at h
      · exact absurd h (by simp)
      · exact ih _ _ (by omega) h
    · split at h
      · split at h
        · exact absurd h (by simp)
        · exact ih _ _ (by omega) h
      · exact absurd h (by simp)
theorem small16_digs (n : Nat) (h : n ≤ 65535) : small16 (digs 16 n) = some n := by unfold small16; rw [hexU_digs n h]; rfl
theorem small16_le {l : Bs} {n : Nat} (h : small16 l = some n) : n ≤ 65535 := by
  unfold small16 hexU at h
  split at h
  · exact absurd h (by simp [okOf])
  · cases hh : hexM 0 l with
    | ok b => rw [hh] at h; have : b = n := Option.some.inj h
              subst this; exact hexM_le l 0 b (by omega) hh
    | «syntax» => rw [hh] at h; exact absurd h (by simp [okOf])
    | range => rw [hh] at h; exact absurd h (by simp [okOf])
theorem pM_le : ∀ (l : Bs) (a b : Nat), a ≤ 255 → Lib.parseUintM 255 a l = .ok b → b ≤ 255 := by
  intro l
  induction l with
  | nil => intro a b ha h; have : a = b := by simpa [Lib.parseUintM] using h
           omega
  | cons c r ih =>
    intro a b ha h
    unfold Lib.parseUintM at h
    split at h
    · split at h
      · exact absurd h (by simp)
      · split at h
        · exact absurd h (by simp)
        · exact ih _ _ (by omega) h
    · exact absurd h (by simp)
theorem small10_le {l : Bs} {n : Nat} (h : small10 l = some n) : n ≤ 255 := by
  unfold small10 Lib.parseUintB at h
  split at h
  · exact absurd h (by simp [okOf])
  · cases hh : Lib.parseUintM (2 ^ 8 - 1) 0 l with
    | ok b => rw [hh] at h; have : b = n := Option.some.inj h
              subst this; exact pM_le l 0 b (by omega) hh
    | «syntax» => rw [hh] at h; exact absurd h (by simp [okOf])
    | range => rw [hh] at h; exact absurd h (by simp [okOf])
theorem small10_digs : ∀ n, n < 256 → small10 (digs 10 n) = some n := by decide +kernel
theorem small10_nil : small10 [] = none := rfl
theorem small16_nil : small16 [] = none := rfl
end Go.Cph.Tx

/- Texts of addresses, plainly. No program. -/
set_option linter.unusedVariables false
set_option linter.unusedSimpArgs false
namespace Go.Cph.Tx
open Go.Cph.Px (Ad rightA num bytesA bytesN rightA_iff ad_ext num_lt)
/-- The groups of V6. -/
def grp (a : Ad) (i : Nat) : Nat := (if i < 4 then a.2.1 else a.2.2).toNat / 65536 ^ (3 - i % 4) % 65536
theorem grp_lt (a : Ad) (i : Nat) : grp a i < 65536 := Nat.mod_lt _ (by omega)
/-- The longest run of groups that are 0: the run so far, where the longest begins, how long it is. -/
def runS (z : Nat → Bool) : Nat → Nat × Nat × Nat
  | 0 => (0, 0, 0)
  | i + 1 =>
    if (runS z i).2.2 < (if z i then (runS z i).1 + 1 else 0) then ((if z i then (runS z i).1 + 1 else 0), i + 1 - (if z i then (runS z i).1 + 1 else 0), (if z i then (runS z i).1 + 1 else 0))
    else ((if z i then (runS z i).1 + 1 else 0), (runS z i).2.1, (runS z i).2.2)
def runR (z : Nat → Bool) : Nat × Nat := if (runS z 8).2.2 < 2 then (8, 0) else ((runS z 8).2.1, (runS z 8).2.2)
/-- The document's: from each group on. -/
def zcount (z : Nat → Bool) : Nat → Nat → Nat
  | 0, _ => 0
  | f + 1, i => if z i then zcount z f (i + 1) + 1 else 0
def zeroS (z : Nat → Bool) : Nat → Nat × Nat
  | 0 => (0, 0)
  | i + 1 => if (zeroS z i).2 < zcount z (8 - i) i then (i, zcount z (8 - i) i) else zeroS z i
theorem runS_congr {z y : Nat → Bool} : ∀ k, (∀ i, i < k → z i = y i) → runS z k = runS y k := by
  intro k
  induction k with
  | zero => intro _; rfl
  | succ k ih => intro h; unfold runS; rw [ih (fun i hi => h i (by omega)), h k (by omega)]
theorem zcount_congr {z y : Nat → Bool} : ∀ f i, (∀ j, i ≤ j → j < i + f → z j = y j) → zcount z f i = zcount y f i := by
  intro f
  induction f with
  | zero => intro i _; rfl
  | succ f ih => intro i h; unfold zcount; rw [ih (i + 1) (fun j h1 h2 => h j (by omega) (by omega)), h i (by omega) (by omega)]
theorem zeroS_congr {z y : Nat → Bool} : ∀ k, k ≤ 8 → (∀ i, i < 8 → z i = y i) → zeroS z k = zeroS y k := by
  intro k
  induction k with
  | zero => intro _ _; rfl
  | succ k ih => intro hk h; unfold zeroS; rw [ih (by omega) h, zcount_congr (8 - k) k (fun j h1 h2 => h j (by omega))]
/-- Signs: a word's number, or 8: a colon. -/
def dtok (at' many i : Nat) : List Nat :=
  if 1 < many ∧ at' ≤ i ∧ i < at' + many then (if i = at' then [8, 8] else [])
  else (if 0 < i ∧ (many < 2 ∨ i ≠ at' + many) then [8] else []) ++ [i]
def dtoks (at' many n : Nat) : List Nat := (List.range n).flatMap (dtok at' many)
def jtok : List Nat → List Nat
  | [] => []
  | [x] => [x]
  | x :: y :: r => x :: 8 :: jtok (y :: r)
def ptoks (at' many : Nat) : List Nat := if many = 0 then jtok (List.range 8) else jtok ((List.range 8).take at') ++ 8 :: 8 :: jtok ((List.range 8).drop (at' + many))
def pick8 (b0 b1 b2 b3 b4 b5 b6 b7 : Bool) : Nat → Bool
  | 0 => b0 | 1 => b1 | 2 => b2 | 3 => b3 | 4 => b4 | 5 => b5 | 6 => b6 | _ => b7
theorem pick_eq (z : Nat → Bool) : ∀ i, i < 8 → z i = pick8 (z 0) (z 1) (z 2) (z 3) (z 4) (z 5) (z 6) (z 7) i := by
  intro i hi
  match i, hi with
  | 0, _ => rfl | 1, _ => rfl | 2, _ => rfl | 3, _ => rfl | 4, _ => rfl | 5, _ => rfl | 6, _ => rfl | 7, _ => rfl
def goodB (z : Nat → Bool) : Bool :=
  decide (dtoks (zeroS z 8).1 (zeroS z 8).2 8 = ptoks (runR z).1 (runR z).2) &&
  (decide ((runR z).2 = 0 ∧ (runR z).1 = 8) || (decide (2 ≤ (runR z).2 ∧ (runR z).1 + (runR z).2 ≤ 8) && (List.range 8).all fun i => !(decide ((runR z).1 ≤ i ∧ i < (runR z).1 + (runR z).2)) || z i))
theorem good_all : ∀ b0 b1 b2 b3 b4 b5 b6 b7 : Bool, goodB (pick8 b0 b1 b2 b3 b4 b5 b6 b7) = true := by decide +kernel
structure Good (z : Nat → Bool) : Prop where
  toks : dtoks (zeroS z 8).1 (zeroS z 8).2 8 = ptoks (runR z).1 (runR z).2
  run : ((runR z).2 = 0 ∧ (runR z).1 = 8) ∨ (2 ≤ (runR z).2 ∧ (runR z).1 + (runR z).2 ≤ 8 ∧ ∀ i, i < 8 → (runR z).1 ≤ i → i < (runR z).1 + (runR z).2 → z i = true)
theorem good (z : Nat → Bool) : Good z := by
  have h := good_all (z 0) (z 1) (z 2) (z 3) (z 4) (z 5) (z 6) (z 7)
  have hp := pick_eq z
  generalize pick8 (z 0) (z 1) (z 2) (z 3) (z 4) (z 5) (z 6) (z 7) = y at h hp
  have e1 : runR z = runR y := by unfold runR; rw [runS_congr 8 hp]
  have e2 : zeroS z 8 = zeroS y 8 := zeroS_congr 8 (Nat.le_refl _) hp
  unfold goodB at h
  rw [Bool.and_eq_true, Bool.or_eq_true, Bool.and_eq_true, decide_eq_true_eq, decide_eq_true_eq, decide_eq_true_eq, List.all_eq_true] at h
  refine ⟨by rw [e1, e2]; exact h.1, ?_⟩
  rw [e1]
  rcases h.2 with h | h
  · exact .inl h
  · refine .inr ⟨h.1.1, h.1.2, fun i h1 h2 h3 => ?_⟩
    have := h.2 i (List.mem_range.2 h1)
    rw [decide_eq_true ⟨h2, h3⟩] at this
    rw [hp i h1]; simpa using this
/-- The text of signs. -/
def flat (w : Nat → Bs) (l : List Nat) : Bs := l.flatMap fun t => if t = 8 then [58] else w t
theorem flat_append (w : Nat → Bs) (x y : List Nat) : flat w (x ++ y) = flat w x ++ flat w y := by unfold flat; rw [List.flatMap_append]
theorem flat_join (w : Nat → Bs) : ∀ l : List Nat, (∀ i ∈ l, i ≠ 8) → flat w (jtok l) = joinC 58 (l.map w) := by
  intro l
  induction l with
  | nil => intro _; rfl
  | cons x r ih =>
    intro h
    cases r with
    | nil => show (if x = 8 then [58] else w x) ++ [] = w x; rw [if_neg (h x (by simp)), List.append_nil]
    | cons y r =>
      show (if x = 8 then [58] else w x) ++ ((if (8 : Nat) = 8 then [58] else w 8) ++ flat w (jtok (y :: r))) = w x ++ 58 :: joinC 58 ((y :: r).map w)
      rw [if_neg (h x (by simp)), if_pos rfl, ih (fun i hi => h i (by simp [hi]))]; rfl
def zf (a : Ad) (i : Nat) : Bool := grp a i == 0
def wd (a : Ad) (i : Nat) : Bs := digs 16 (grp a i)
def run (a : Ad) : Nat × Nat := runR (zf a)
def words6 (a : Ad) : List Bs := (List.range 8).map (wd a)
def text6 (a : Ad) : Bs := flat (wd a) (ptoks (run a).1 (run a).2)
def words4 (a : Ad) : List Bs := (bytesA a).map fun c => digs 10 c.toNat
def textA (a : Ad) : Bs := if rightA a then (if a.1 = 6 then text6 a else joinC 46 (words4 a)) else []
theorem range_ne {l : List Nat} (h : ∀ i ∈ l, i ∈ List.range 8) : ∀ i ∈ l, i ≠ 8 := by
  intro i hi e
  have := h i hi
  rw [List.mem_range] at this; omega
/-- As the program writes it. -/
theorem text6_none (a : Ad) (h : (run a).2 = 0) : text6 a = joinC 58 (words6 a) := by
  unfold text6 ptoks
  rw [if_pos h, flat_join _ _ (range_ne (fun i hi => hi))]; rfl
theorem text6_some (a : Ad) (h : (run a).2 ≠ 0) : text6 a = joinC 58 ((words6 a).take (run a).1) ++ 58 :: 58 :: joinC 58 ((words6 a).drop ((run a).1 + (run a).2)) := by
  unfold text6 ptoks
  rw [if_neg h, show ∀ (x y : List Nat), x ++ 8 :: 8 :: y = x ++ ([8, 8] ++ y) from fun _ _ => rfl, flat_append, flat_append, flat_join _ _ (range_ne (fun i hi => List.mem_of_mem_take hi)), flat_join _ _ (range_ne (fun i hi => List.mem_of_mem_drop hi))]
  unfold words6
  rw [List.map_take, List.map_drop]; rfl
/-- As the document writes it. -/
theorem text6_doc (a : Ad) : text6 a = flat (wd a) (dtoks (zeroS (zf a) 8).1 (zeroS (zf a) 8).2 8) := by
  unfold text6 run; rw [(good (zf a)).toks]
theorem words6_len (a : Ad) : (words6 a).length = 8 := by simp [words6]
theorem words6_at (a : Ad) (i : Nat) (h : i < 8) : (words6 a)[i]? = some (wd a i) := by simp [words6, h]
theorem wd_ne (a : Ad) (i : Nat) : wd a i ≠ [] := digs_ne _ _
theorem wd_sign (a : Ad) (i : Nat) (c : UInt8) (hc : c = 46 ∨ c = 58) : c ∉ wd a i := digs_sign 16 _ (by omega) (by omega) (by have := grp_lt a i; omega) c hc
theorem words6_mem {a : Ad} {w : Bs} (h : w ∈ words6 a) : w ≠ [] ∧ (58 : UInt8) ∉ w := by
  obtain ⟨i, _, rfl⟩ := List.mem_map.1 h
  exact ⟨wd_ne a i, wd_sign a i 58 (.inr rfl)⟩
theorem joinC_nil (c : UInt8) {l : List Bs} (h : ∀ w ∈ l, w ≠ []) (e : joinC c l = []) : l = [] := by
  cases l with
  | nil => rfl
  | cons x r => cases r with
    | nil => exact absurd e (h x (by simp))
    | cons y r => have := congrArg List.length e; simp [joinC] at this
/-- The pieces of a text, when nothing stands for none. -/
theorem pieces_join (l : List Bs) (h : ∀ w ∈ l, w ≠ [] ∧ (58 : UInt8) ∉ w) : (if joinC 58 l = [] then [] else splitC 58 (joinC 58 l)) = l := by
  by_cases e : joinC 58 l = []
  · rw [if_pos e, joinC_nil 58 (fun w hw => (h w hw).1) e]
  · rw [if_neg e, split_join 58 l (fun k => e (by rw [k]; rfl)) (fun w hw => (h w hw).2)]
/-- The words of a text with a run left out, filled up. -/
theorem words6_fill (a : Ad) (h : 2 ≤ (run a).2) : (words6 a).take (run a).1 ++ List.replicate (run a).2 [48] ++ (words6 a).drop ((run a).1 + (run a).2) = words6 a := by
  have hg := (good (zf a)).run
  rw [show runR (zf a) = run a from rfl] at hg
  rcases hg with hg | ⟨_, h2, h3⟩
  · omega
  generalize (run a).1 = p at *
  generalize (run a).2 = m at *
  have hrep : List.replicate m [48] = ((words6 a).drop p).take m := by
    apply List.ext_getElem?
    intro i
    by_cases hi : i < m
    · rw [List.getElem?_replicate, if_pos hi, List.getElem?_take, if_pos hi, List.getElem?_drop, words6_at a (p + i) (by omega)]
      have := h3 (p + i) (by omega) (by omega) (by omega)
      unfold zf at this
      unfold wd
      rw [eq_of_beq this]; rfl
    · rw [List.getElem?_eq_none (by simp; omega), List.getElem?_eq_none (by simp; omega)]
  rw [hrep, ← List.drop_drop, List.append_assoc, List.take_append_drop, List.take_append_drop]
theorem run_le (a : Ad) : ((run a).2 = 0 ∧ (run a).1 = 8) ∨ (2 ≤ (run a).2 ∧ (run a).1 + (run a).2 ≤ 8) := by
  rcases (good (zf a)).run with h | h
  · exact .inl h
  · exact .inr ⟨h.1, h.2.1⟩
/-- A text of V6 has a colon, one of V4 none. -/
theorem colon_join (l : List Bs) (h : 2 ≤ l.length) : (58 : UInt8) ∈ joinC 58 l := by
  match l, h with
  | x :: y :: r, _ => show _ ∈ x ++ 58 :: joinC 58 (y :: r); simp
theorem text6_colon (a : Ad) : (58 : UInt8) ∈ text6 a := by
  by_cases h : (run a).2 = 0
  · rw [text6_none a h]; exact colon_join _ (by rw [words6_len]; omega)
  · rw [text6_some a h]; simp
theorem joinC_all {P : UInt8 → Prop} (c : UInt8) (hc : P c) (l : List Bs) (h : ∀ w ∈ l, ∀ x ∈ w, P x) : ∀ x ∈ joinC c l, P x := by
  induction l with
  | nil => intro x hx; simp [joinC] at hx
  | cons y r ih =>
    cases r with
    | nil => exact h y (by simp)
    | cons z r =>
      intro x hx
      rw [show joinC c (y :: z :: r) = y ++ c :: joinC c (z :: r) from rfl, List.mem_append, List.mem_cons] at hx
      rcases hx with hx | rfl | hx
      · exact h y (by simp) x hx
      · exact hc
      · exact ih (fun w hw => h w (by simp [hw])) x hx
theorem words4_mem {a : Ad} {w : Bs} (h : w ∈ words4 a) : ∃ n, n < 256 ∧ w = digs 10 n := by
  obtain ⟨c, _, rfl⟩ := List.mem_map.1 h
  exact ⟨c.toNat, c.toNat_lt, rfl⟩
theorem words4_free {a : Ad} {w : Bs} (h : w ∈ words4 a) (c : UInt8) (hc : c = 46 ∨ c = 58) : c ∉ w := by
  obtain ⟨n, hn, rfl⟩ := words4_mem h
  exact digs_sign 10 n (by omega) (by omega) (by omega) c hc
theorem text4_colon (a : Ad) : (58 : UInt8) ∉ joinC 46 (words4 a) := by
  intro h
  refine joinC_all (P := fun x => x ≠ 58) 46 (by decide) (words4 a) ?_ 58 h rfl
  intro w hw x hx e
  exact words4_free hw 58 (.inr rfl) (by rw [← e]; exact hx)
end Go.Cph.Tx

/- Reading an address's text, plainly: the program's way and the document's tell the address whose text it is. No program. -/
set_option linter.unusedVariables false
set_option linter.unusedSimpArgs false
namespace Go.Cph.Tx
open Go.Cph.Px (Ad rightA num bytesA bytesN rightA_iff ad_ext num_lt ofNum num_ofNum fromB fromOk zeroA)
def natV (b : Nat) (l : List Nat) : Nat := l.foldl (fun n x => b * n + x) 0
theorem natV_snoc (b : Nat) (l : List Nat) (x : Nat) : natV b (l ++ [x]) = b * natV b l + x := by unfold natV; rw [List.foldl_append]; rfl
theorem natV_lt (b : Nat) (hb : 0 < b) (l : List Nat) (h : ∀ x ∈ l, x < b) : natV b l < b ^ l.length := by
  suffices k : ∀ n, ∀ l : List Nat, l.length = n → (∀ x ∈ l, x < b) → natV b l < b ^ n from k _ l rfl h
  intro n
  induction n with
  | zero => intro l hl _; have : l = [] := List.length_eq_zero_iff.1 hl
            subst this; exact Nat.one_pos
  | succ n ih =>
    intro l hl h
    obtain ⟨v, c, rfl⟩ : ∃ v c, l = v ++ [c] := ⟨l.dropLast, l.getLast (by intro e; simp [e] at hl), (List.dropLast_concat_getLast _).symm⟩
    have h1 := ih v (by simpa using hl) (fun x hx => h x (by simp [hx]))
    have h2 := h c (by simp)
    rw [natV_snoc, Nat.pow_succ]
    calc b * natV b v + c < b * natV b v + b := by omega
      _ = b * (natV b v + 1) := by rw [Nat.mul_add, Nat.mul_one]
      _ ≤ b * b ^ n := Nat.mul_le_mul_left _ h1
      _ = b ^ n * b := Nat.mul_comm _ _
def of4 (l : List Nat) : Ad := (4, 0, UInt64.ofNat (natV 256 l))
def of6 (l : List Nat) : Ad := ofNum 6 (natV 65536 l)
def grps (a : Ad) : List Nat := (List.range 8).map (grp a)
theorem grps_num (a : Ad) : natV 65536 (grps a) = num a := by
  obtain ⟨f, hi, lo⟩ := a
  have h1 := hi.toNat_lt
  have h2 := lo.toNat_lt
  show 65536 * (65536 * (65536 * (65536 * (65536 * (65536 * (65536 * (65536 * 0 + hi.toNat / 65536 ^ 3 % 65536) + hi.toNat / 65536 ^ 2 % 65536) + hi.toNat / 65536 ^ 1 % 65536) + hi.toNat / 65536 ^ 0 % 65536)
    + lo.toNat / 65536 ^ 3 % 65536) + lo.toNat / 65536 ^ 2 % 65536) + lo.toNat / 65536 ^ 1 % 65536) + lo.toNat / 65536 ^ 0 % 65536 = hi.toNat * 18446744073709551616 + lo.toNat
  generalize hi.toNat = x at *
  generalize lo.toNat = y at *
  simp only [show (65536 : Nat) ^ 3 = 281474976710656 from rfl, show (65536 : Nat) ^ 2 = 4294967296 from rfl, Nat.pow_one, Nat.pow_zero]
  omega
theorem grps_len (a : Ad) : (grps a).length = 8 := by simp [grps]
theorem grps_le (a : Ad) : ∀ n ∈ grps a, n ≤ 65535 := by
  intro n hn
  obtain ⟨i, _, rfl⟩ := List.mem_map.1 hn
  have := grp_lt a i; omega
theorem words6_grps (a : Ad) : words6 a = (grps a).map (digs 16) := by unfold words6 grps; rw [List.map_map]; rfl
theorem of6_grps {a : Ad} (h : a.1 = 6) : of6 (grps a) = a := by
  unfold of6
  rw [grps_num]
  refine ad_ext (by rw [h]; rfl) ?_
  exact num_ofNum 6 _ (num_lt a)
theorem val_natV (l : Bs) : Px.val l = natV 256 (l.map UInt8.toNat) := by
  unfold Px.val natV
  rw [List.foldl_map]
theorem bytes4_val {a : Ad} (hr : rightA a = true) (h : a.1 = 4) : natV 256 ((bytesA a).map UInt8.toNat) = num a ∧ (bytesA a).length = 4 := by
  rw [← val_natV]
  unfold bytesA
  rw [if_pos hr]
  have hs : Px.sizeB a = 4 := by unfold Px.sizeB; rw [if_pos h]
  rw [hs, Px.val_bytesN]
  have := rightA_iff.1 hr
  rw [h] at this
  rcases this with h6 | h4
  · exact absurd h6 (by decide)
  · exact ⟨Nat.mod_eq_of_lt (by omega), Px.bytesN_length _ _⟩
theorem of4_bytes {a : Ad} (hr : rightA a = true) (h : a.1 = 4) : of4 ((bytesA a).map UInt8.toNat) = a := by
  have h1 := (bytes4_val hr h).1
  have := rightA_iff.1 hr
  rw [h] at this
  rcases this with h6 | h4
  · exact absurd h6 (by decide)
  · have hn := h4.2
    obtain ⟨f, hi, lo⟩ := a
    subst h
    unfold of4
    rw [h1]
    unfold num at hn ⊢
    have hz : hi = 0 := UInt64.toNat_inj.1 (by simp at hn ⊢; omega)
    subst hz
    simp
theorem of4_right {l : List Nat} (h : ∀ x ∈ l, x ≤ 255) (hl : l.length = 4) : rightA (of4 l) = true := by
  have := natV_lt 256 (by omega) l (fun x hx => by have := h x hx; omega)
  rw [hl] at this
  have e : (UInt64.ofNat (natV 256 l)).toNat = natV 256 l := by rw [UInt64.toNat_ofNat']; exact Nat.mod_eq_of_lt (by omega)
  unfold rightA of4
  simp [e]; omega
theorem of6_fam (l : List Nat) : (of6 l).1 = 6 := rfl
theorem right6 {a : Ad} (h : a.1 = 6) : rightA a = true := rightA_iff.2 (.inl h)
theorem right_fam {a : Ad} (h : rightA a = true) : a.1 = 4 ∨ a.1 = 6 := by
  rcases rightA_iff.1 h with h | h
  · exact .inr h
  · exact .inl h.1
theorem text_6 {a : Ad} (h : a.1 = 6) : textA a = text6 a := by unfold textA; rw [if_pos (right6 h), if_pos h]
theorem text_4 {a : Ad} (hr : rightA a = true) (h : a.1 = 4) : textA a = joinC 46 (words4 a) := by unfold textA; rw [if_pos hr, if_neg (by rw [h]; decide)]
theorem text_no {a : Ad} (h : rightA a = false) : textA a = [] := by unfold textA; rw [h]; rfl
/-- The program's way. -/
def loose4 (s : Bs) : Option Ad := if (splitC 46 s).length = 4 then ((splitC 46 s).mapM small10).map of4 else none
def part (s : Bs) : List Bs := if s = [] then [] else splitC 58 s
def loose6c (l m : List Bs) (found : Bool) : Option Ad :=
  if 8 < l.length + m.length ∨ (found = false ∧ l.length ≠ 8) then none
  else ((l ++ List.replicate (8 - (l.length + m.length)) [48] ++ m).mapM small16).map of6
def loose6 (s : Bs) : Option Ad := loose6c (part (Lib.cut s [58, 58]).1) (part (Lib.cut s [58, 58]).2.1) (Lib.cut s [58, 58]).2.2
def loose (s : Bs) : Option Ad := if (58 : UInt8) ∈ s then loose6 s else loose4 s
def progParse (s : Bs) : Option Ad := (loose s).bind fun a => if textA a = s then some a else none
theorem mapM_some {α β : Type} {f : α → Option β} {P : β → Prop} (hf : ∀ a b, f a = some b → P b) : ∀ {l : List α} {r : List β}, l.mapM f = some r → r.length = l.length ∧ ∀ b ∈ r, P b := by
  intro l
  induction l with
  | nil => intro r h; have : r = [] := by simpa using h.symm
           subst this; exact ⟨rfl, by simp⟩
  | cons a l ih =>
    intro r h
    rw [List.mapM_cons] at h
    cases ha : f a with
    | none => rw [ha] at h; exact absurd h (by simp)
    | some b =>
      rw [ha] at h
      cases hr : l.mapM f with
      | none => rw [hr] at h; exact absurd h (by simp)
      | some q =>
        rw [hr] at h
        have h' : b :: q = r := by simpa using h
        subst h'
        obtain ⟨h1, h2⟩ := ih hr
        exact ⟨by simp [h1], fun x hx => by rcases List.mem_cons.1 hx with rfl | hx; exact hf a _ ha; exact h2 x hx⟩
theorem mapM_map {α β γ : Type} {f : β → Option γ} {g : α → β} {k : α → γ} : ∀ l : List α, (∀ a ∈ l, f (g a) = some (k a)) → (l.map g).mapM f = some (l.map k) := by
  intro l
  induction l with
  | nil => intro _; rfl
  | cons a l ih =>
    intro h
    rw [List.map_cons, List.mapM_cons, h a (by simp), ih (fun b hb => h b (by simp [hb]))]; rfl
theorem loose_right {s : Bs} {a : Ad} (h : loose s = some a) : rightA a = true := by
  unfold loose at h
  split at h
  · unfold loose6 loose6c at h
    split at h
    · exact absurd h (by simp)
    · obtain ⟨l, hl, rfl⟩ := Option.map_eq_some_iff.1 h
      exact right6 (of6_fam l)
  · unfold loose4 at h
    split at h
    · rename_i h4
      obtain ⟨l, hl, rfl⟩ := Option.map_eq_some_iff.1 h
      obtain ⟨h1, h2⟩ := mapM_some (P := fun n => n ≤ 255) (fun _ _ => small10_le) hl
      exact of4_right h2 (by rw [h1, h4])
    · exact absurd h (by simp)
theorem loose_text {a : Ad} (hr : rightA a = true) : loose (textA a) = some a := by
  unfold loose
  rcases right_fam hr with h4 | h6
  · rw [text_4 hr h4, if_neg (text4_colon a)]
    unfold loose4
    have hs : splitC 46 (joinC 46 (words4 a)) = words4 a := split_join 46 _ (by
      intro e
      have := congrArg List.length e
      unfold words4 at this
      rw [List.length_map, (bytes4_val hr h4).2] at this
      exact absurd this (by decide)) (fun w hw => words4_free hw 46 (.inl rfl))
    have hl : (words4 a).length = 4 := by unfold words4; rw [List.length_map, (bytes4_val hr h4).2]
    have hm : (words4 a).mapM small10 = some ((bytesA a).map UInt8.toNat) := mapM_map (g := fun c : UInt8 => digs 10 c.toNat) (bytesA a) (fun c _ => small10_digs c.toNat c.toNat_lt)
    rw [hs, if_pos hl, hm, Option.map_some, of4_bytes hr h4]
  · rw [text_6 h6, if_pos (text6_colon a)]
    have hm : (words6 a).mapM small16 = some (grps a) := mapM_map (g := wd a) (k := grp a) (List.range 8) (fun i _ => small16_digs _ (by have := grp_lt a i; omega))
    by_cases h0 : (run a).2 = 0
    · have hc : Lib.cut (text6 a) [58, 58] = (text6 a, [], false) := by
        rw [cut_lib, text6_none a h0, cut_words _ (fun w hw => (words6_mem hw).1) (fun w hw => (words6_mem hw).2)]
      unfold loose6
      rw [hc, text6_none a h0]
      have hp : part (joinC 58 (words6 a)) = words6 a := pieces_join _ (fun w hw => words6_mem hw)
      dsimp only
      rw [hp, show part [] = [] from rfl]
      unfold loose6c
      rw [if_neg (by rw [words6_len]; simp)]
      rw [words6_len, show 8 - (8 + ([] : List Bs).length) = 0 from rfl, List.replicate_zero, List.append_nil, List.append_nil, hm, Option.map_some, of6_grps h6]
    · have hrun := run_le a
      have h2 : 2 ≤ (run a).2 ∧ (run a).1 + (run a).2 ≤ 8 := by rcases hrun with h | h; exact absurd h.1 h0; exact h
      have hc : Lib.cut (text6 a) [58, 58] = (joinC 58 ((words6 a).take (run a).1), joinC 58 ((words6 a).drop ((run a).1 + (run a).2)), true) := by
        rw [cut_lib, text6_some a h0, cut_words2 _ (fun w hw => (words6_mem (List.mem_of_mem_take hw)).1) (fun w hw => (words6_mem (List.mem_of_mem_take hw)).2)]
        dsimp only
        rw [List.take_left, show ∀ (x y : Bs), (x ++ 58 :: 58 :: y).drop (x.length + 2) = y from fun x y => by
          rw [show x ++ 58 :: 58 :: y = (x ++ [58, 58]) ++ y by simp]; exact List.drop_left' (by simp)]
      unfold loose6
      rw [hc]
      dsimp only
      rw [show part (joinC 58 ((words6 a).take (run a).1)) = (words6 a).take (run a).1 from pieces_join _ (fun w hw => words6_mem (List.mem_of_mem_take hw)),
        show part (joinC 58 ((words6 a).drop ((run a).1 + (run a).2))) = (words6 a).drop ((run a).1 + (run a).2) from pieces_join _ (fun w hw => words6_mem (List.mem_of_mem_drop hw))]
      have hl : ((words6 a).take (run a).1).length + ((words6 a).drop ((run a).1 + (run a).2)).length = 8 - (run a).2 := by
        rw [List.length_take, List.length_drop, words6_len]; omega
      unfold loose6c
      rw [if_neg (by rw [hl]; simp), hl, show 8 - (8 - (run a).2) = (run a).2 by omega, words6_fill a h2.1, hm, Option.map_some, of6_grps h6]
theorem prog_iff (s : Bs) (a : Ad) : progParse s = some a ↔ rightA a = true ∧ textA a = s := by
  unfold progParse
  constructor
  · intro h
    cases hl : loose s with
    | none => rw [hl] at h; exact absurd h (by simp)
    | some b =>
      rw [hl] at h
      simp only [Option.bind_some] at h
      split at h
      · rename_i ht
        have := Option.some.inj h; subst this
        exact ⟨loose_right hl, ht⟩
      · exact absurd h (by simp)
  · rintro ⟨hr, rfl⟩
    rw [loose_text hr, Option.bind_some, if_pos rfl]
/-- The document's way. -/
def docWords (s : Bs) : Option (List Nat) := wordsF 16 65535 58 [] none s
def docGroups (s : Bs) : Option (List Nat) :=
  match cutAt s with
  | none => (docWords s).bind fun l => if l.length = 8 then some l else none
  | some k => (if 0 < k then docWords (s.take k) else some []).bind fun l => (if k + 2 < s.length then docWords (s.drop (k + 2)) else some []).bind fun m =>
      if 8 < l.length + m.length then none else some (l ++ List.replicate (8 - (l.length + m.length)) 0 ++ m)
def bytesG (l : List Nat) : Bs := l.flatMap fun g => [UInt8.ofNat (g / 256), UInt8.ofNat (g % 256)]
def doc6 (s : Bs) : Option Ad := (docGroups s).bind fun l => if textA (fromB 6 (bytesG l)) = s then some (fromB 6 (bytesG l)) else none
def docParse (s : Bs) : Option Ad :=
  match wordsF 10 255 46 [] none s with
  | some l => if l.length = 4 then some (fromB 4 (l.map UInt8.ofNat)) else doc6 s
  | none => doc6 s
theorem bytesG_len (l : List Nat) : (bytesG l).length = 2 * l.length := by
  induction l with
  | nil => rfl
  | cons g l ih =>
    show (UInt8.ofNat (g / 256) :: UInt8.ofNat (g % 256) :: bytesG l).length = _
    rw [List.length_cons, List.length_cons, ih, List.length_cons]; omega
theorem bytesG_val (l : List Nat) (h : ∀ x ∈ l, x ≤ 65535) : Px.val (bytesG l) = natV 65536 l := by
  suffices k : ∀ n, ∀ l : List Nat, l.length = n → (∀ x ∈ l, x ≤ 65535) → Px.val (bytesG l) = natV 65536 l from k _ l rfl h
  intro n
  induction n with
  | zero => intro l hl _; have : l = [] := List.length_eq_zero_iff.1 hl
            subst this; rfl
  | succ n ih =>
    intro l hl h
    obtain ⟨v, c, rfl⟩ : ∃ v c, l = v ++ [c] := ⟨l.dropLast, l.getLast (by intro e; simp [e] at hl), (List.dropLast_concat_getLast _).symm⟩
    have h1 := ih v (by simpa using hl) (fun x hx => h x (by simp [hx]))
    have h2 := h c (by simp)
    rw [natV_snoc, ← h1]
    rw [show bytesG (v ++ [c]) = (bytesG v ++ [UInt8.ofNat (c / 256)]) ++ [UInt8.ofNat (c % 256)] by unfold bytesG; rw [List.flatMap_append]; simp]
    rw [Px.val_snoc, Px.val_snoc, UInt8.toNat_ofNat', UInt8.toNat_ofNat']
    omega
theorem from6 {l : List Nat} (hl : l.length = 8) (h : ∀ x ∈ l, x ≤ 65535) : fromB 6 (bytesG l) = of6 l := by
  unfold fromB of6
  rw [if_pos (by rw [bytesG_len, hl]; rfl), bytesG_val l h]
theorem from4 {l : List Nat} (hl : l.length = 4) (h : ∀ x ∈ l, x ≤ 255) : fromB 4 (l.map UInt8.ofNat) = of4 l := by
  have hn := natV_lt 256 (by omega) l (fun x hx => by have := h x hx; omega)
  rw [hl] at hn
  unfold fromB of4
  rw [if_pos (by rw [List.length_map, hl]; rfl), val_natV, List.map_map]
  have : l.map (UInt8.toNat ∘ UInt8.ofNat) = l := by
    conv => rhs; rw [← List.map_id l]
    refine List.map_congr_left fun x hx => ?_
    have := h x hx
    show (UInt8.ofNat x).toNat = x
    rw [UInt8.toNat_ofNat']; omega
  rw [this]
  unfold ofNum
  rw [Nat.div_eq_of_lt (by omega)]; rfl
theorem docGroups_right {s : Bs} {l : List Nat} (h : docGroups s = some l) : l.length = 8 ∧ ∀ x ∈ l, x ≤ 65535 := by
  have hw : ∀ {t : Bs} {r : List Nat}, docWords t = some r → ∀ x ∈ r, x ≤ 65535 := fun {t r} h => ((words_iff 16 65535 58 (by omega) (by omega) (by omega) (.inr rfl) t r).1 h).2.2
  unfold docGroups at h
  split at h
  · cases hd : docWords s with
    | none => rw [hd] at h; exact absurd h (by simp)
    | some r =>
      rw [hd] at h; simp only [Option.bind_some] at h
      split at h
      · rename_i h8; have := Option.some.inj h; subst this; exact ⟨h8, hw hd⟩
      · exact absurd h (by simp)
  · rename_i k hk
    have hp : ∀ {c : Prop} [Decidable c] {t : Bs} {r : List Nat}, (if c then docWords t else some []) = some r → ∀ x ∈ r, x ≤ 65535 := by
      intro c _ t r h
      split at h
      · exact hw h
      · have := Option.some.inj h; subst this; simp
    cases h1 : (if 0 < k then docWords (s.take k) else some []) with
    | none => rw [h1] at h; exact absurd h (by simp)
    | some r =>
      rw [h1] at h; simp only [Option.bind_some] at h
      cases h2 : (if k + 2 < s.length then docWords (s.drop (k + 2)) else some []) with
      | none => rw [h2] at h; exact absurd h (by simp)
      | some m =>
        rw [h2] at h; simp only [Option.bind_some] at h
        split at h
        · exact absurd h (by simp)
        · rename_i h8
          have := Option.some.inj h; subst this
          refine ⟨by simp; omega, fun x hx => ?_⟩
          rw [List.mem_append, List.mem_append] at hx
          rcases hx with (hx | hx) | hx
          · exact hp h1 x hx
          · have := List.eq_of_mem_replicate hx; omega
          · exact hp h2 x hx
theorem words_join {l : List Nat} (h0 : l ≠ []) (h : ∀ x ∈ l, x ≤ 65535) : docWords (joinC 58 (l.map (digs 16))) = some l :=
  (words_iff 16 65535 58 (by omega) (by omega) (by omega) (.inr rfl) _ l).2 ⟨h0, rfl, h⟩
theorem joinC_ne {l : List Bs} (h0 : l ≠ []) (h : ∀ w ∈ l, w ≠ []) : 0 < (joinC 58 l).length := by
  rcases Nat.eq_zero_or_pos (joinC 58 l).length with k | k
  · exact absurd (joinC_nil 58 h (List.length_eq_zero_iff.1 k)) h0
  · exact k
theorem grps_fill (a : Ad) (h : 2 ≤ (run a).2) : (grps a).take (run a).1 ++ List.replicate (run a).2 0 ++ (grps a).drop ((run a).1 + (run a).2) = grps a := by
  have hg := (good (zf a)).run
  rw [show runR (zf a) = run a from rfl] at hg
  rcases hg with hg | ⟨_, h2, h3⟩
  · omega
  generalize (run a).1 = p at *
  generalize (run a).2 = m at *
  have hrep : List.replicate m 0 = ((grps a).drop p).take m := by
    apply List.ext_getElem?
    intro i
    by_cases hi : i < m
    · rw [List.getElem?_replicate, if_pos hi, List.getElem?_take, if_pos hi, List.getElem?_drop]
      have := h3 (p + i) (by omega) (by omega) (by omega)
      unfold zf at this
      unfold grps
      rw [List.getElem?_map, List.getElem?_range (by omega), Option.map_some, eq_of_beq this]
    · rw [List.getElem?_eq_none (by simp; omega), List.getElem?_eq_none (by simp [grps_len]; omega)]
  rw [hrep, ← List.drop_drop, List.append_assoc, List.take_append_drop, List.take_append_drop]
theorem docGroups_text (a : Ad) : docGroups (text6 a) = some (grps a) := by
  unfold docGroups
  have hmem : ∀ w ∈ words6 a, w ≠ [] ∧ (58 : UInt8) ∉ w := fun w hw => words6_mem hw
  by_cases h0 : (run a).2 = 0
  · rw [text6_none a h0, cut_words _ (fun w hw => (hmem w hw).1) (fun w hw => (hmem w hw).2)]
    dsimp only
    rw [words6_grps, words_join (by intro e; have := grps_len a; rw [e] at this; simp at this) (grps_le a), Option.bind_some, if_pos (grps_len a)]
  · have hrun := run_le a
    have h2 : 2 ≤ (run a).2 ∧ (run a).1 + (run a).2 ≤ 8 := by rcases hrun with h | h; exact absurd h.1 h0; exact h
    rw [text6_some a h0, cut_words2 _ (fun w hw => (words6_mem (List.mem_of_mem_take hw)).1) (fun w hw => (words6_mem (List.mem_of_mem_take hw)).2)]
    dsimp only
    rw [List.take_left, show ∀ (x y : Bs), (x ++ 58 :: 58 :: y).drop (x.length + 2) = y from fun x y => by
      rw [show x ++ 58 :: 58 :: y = (x ++ [58, 58]) ++ y by simp]; exact List.drop_left' (by simp)]
    have e1 : (if 0 < (joinC 58 ((words6 a).take (run a).1)).length then docWords (joinC 58 ((words6 a).take (run a).1)) else some []) = some ((grps a).take (run a).1) := by
      rw [words6_grps, ← List.map_take]
      by_cases hp : (grps a).take (run a).1 = []
      · rw [hp]; rfl
      · rw [if_pos (joinC_ne (by simpa using hp) (fun w hw => by obtain ⟨n, _, rfl⟩ := List.mem_map.1 hw; exact digs_ne _ _)), words_join hp (fun x hx => grps_le a x (List.mem_of_mem_take hx))]
    have e2 : ∀ P : Bs, (if P.length + 2 < (P ++ 58 :: 58 :: joinC 58 ((words6 a).drop ((run a).1 + (run a).2))).length then docWords (joinC 58 ((words6 a).drop ((run a).1 + (run a).2))) else some []) = some ((grps a).drop ((run a).1 + (run a).2)) := by
      intro P
      rw [words6_grps, ← List.map_drop]
      by_cases hp : (grps a).drop ((run a).1 + (run a).2) = []
      · rw [hp, if_neg (by simp [joinC])]
      · have := joinC_ne (l := ((grps a).drop ((run a).1 + (run a).2)).map (digs 16)) (by simpa using hp) (fun w hw => by obtain ⟨n, _, rfl⟩ := List.mem_map.1 hw; exact digs_ne _ _)
        rw [if_pos (by rw [List.length_append, List.length_cons, List.length_cons]; omega), words_join hp (fun x hx => grps_le a x (List.mem_of_mem_drop hx))]
    rw [e1, Option.bind_some, e2, Option.bind_some, List.length_take, List.length_drop, grps_len, if_neg (by omega)]
    rw [show 8 - (min (run a).1 8 + (8 - ((run a).1 + (run a).2))) = (run a).2 by omega, grps_fill a h2.1]
theorem words4_no6 {s : Bs} (h : (58 : UInt8) ∈ s) {l : List Nat} : wordsF 10 255 46 [] none s ≠ some l := by
  intro e
  obtain ⟨_, h2, h3⟩ := (words_iff 10 255 46 (by omega) (by omega) (by omega) (.inl rfl) s l).1 e
  rw [h2] at h
  refine joinC_all (P := fun x => x ≠ 58) 46 (by decide) _ ?_ 58 h rfl
  intro w hw x hx e
  obtain ⟨n, hn, rfl⟩ := List.mem_map.1 hw
  have := h3 n hn
  exact digs_sign 10 n (by omega) (by omega) (by omega) 58 (.inr rfl) (by rw [← e]; exact hx)
theorem doc6_iff (s : Bs) (a : Ad) (h : doc6 s = some a) : rightA a = true ∧ textA a = s ∧ a.1 = 6 := by
  unfold doc6 at h
  cases hg : docGroups s with
  | none => rw [hg] at h; exact absurd h (by simp)
  | some l =>
    rw [hg] at h; simp only [Option.bind_some] at h
    obtain ⟨h8, hx⟩ := docGroups_right hg
    split at h
    · rename_i ht
      have := Option.some.inj h; subst this
      have hf : (fromB 6 (bytesG l)).1 = 6 := by rw [from6 h8 hx]; rfl
      exact ⟨right6 hf, ht, hf⟩
    · exact absurd h (by simp)
theorem doc_iff (s : Bs) (a : Ad) : docParse s = some a ↔ rightA a = true ∧ textA a = s := by
  constructor
  · intro h
    unfold docParse at h
    split at h
    · rename_i l hl
      split at h
      · rename_i h4
        have := Option.some.inj h; subst this
        obtain ⟨_, h2, h3⟩ := (words_iff 10 255 46 (by omega) (by omega) (by omega) (.inl rfl) s l).1 hl
        rw [from4 h4 h3]
        have hr := of4_right h3 h4
        refine ⟨hr, ?_⟩
        rw [text_4 hr rfl, h2]
        unfold words4
        have hb : bytesA (of4 l) = l.map UInt8.ofNat := by
          have hn := natV_lt 256 (by omega) l (fun x hx => by have := h3 x hx; omega)
          rw [h4] at hn
          have hnum : num (of4 l) = natV 256 l := by
            unfold of4 num
            show (0 : UInt64).toNat * _ + (UInt64.ofNat (natV 256 l)).toNat = _
            rw [UInt64.toNat_ofNat', Nat.mod_eq_of_lt (by omega)]; simp
          unfold bytesA
          rw [if_pos hr, hnum, show Px.sizeB (of4 l) = 4 from rfl]
          match l, h4, h3 with
          | [p, q, r, t], _, h3 =>
            have h1 := h3 p (by simp); have h2 := h3 q (by simp); have h5 := h3 r (by simp); have h6 := h3 t (by simp)
            show [UInt8.ofNat ((256 * (256 * (256 * (256 * 0 + p) + q) + r) + t) / 256 ^ 3), UInt8.ofNat ((256 * (256 * (256 * (256 * 0 + p) + q) + r) + t) / 256 ^ 2), UInt8.ofNat ((256 * (256 * (256 * (256 * 0 + p) + q) + r) + t) / 256 ^ 1), UInt8.ofNat ((256 * (256 * (256 * (256 * 0 + p) + q) + r) + t) / 256 ^ 0)] = [UInt8.ofNat p, UInt8.ofNat q, UInt8.ofNat r, UInt8.ofNat t]
            simp only [show (256 : Nat) ^ 3 = 16777216 from rfl, show (256 : Nat) ^ 2 = 65536 from rfl, Nat.pow_one, Nat.pow_zero]
            have k1 : (256 * (256 * (256 * (256 * 0 + p) + q) + r) + t) / 16777216 = p := by omega
            have k2 : UInt8.ofNat ((256 * (256 * (256 * (256 * 0 + p) + q) + r) + t) / 65536) = UInt8.ofNat q := UInt8.toNat_inj.1 (by rw [UInt8.toNat_ofNat', UInt8.toNat_ofNat']; omega)
            have k3 : UInt8.ofNat ((256 * (256 * (256 * (256 * 0 + p) + q) + r) + t) / 256) = UInt8.ofNat r := UInt8.toNat_inj.1 (by rw [UInt8.toNat_ofNat', UInt8.toNat_ofNat']; omega)
            have k4 : UInt8.ofNat ((256 * (256 * (256 * (256 * 0 + p) + q) + r) + t) / 1) = UInt8.ofNat t := UInt8.toNat_inj.1 (by rw [UInt8.toNat_ofNat', UInt8.toNat_ofNat']; omega)
            rw [k1, k2, k3, k4]
        rw [hb, List.map_map]
        congr 1
        refine List.map_congr_left fun x hx => ?_
        have := h3 x hx
        show digs 10 (UInt8.ofNat x).toNat = digs 10 x
        rw [UInt8.toNat_ofNat', Nat.mod_eq_of_lt (by omega)]
      · exact ⟨(doc6_iff s a h).1, (doc6_iff s a h).2.1⟩
    · exact ⟨(doc6_iff s a h).1, (doc6_iff s a h).2.1⟩
  · rintro ⟨hr, rfl⟩
    unfold docParse
    rcases right_fam hr with h4 | h6
    · have hw : wordsF 10 255 46 [] none (textA a) = some ((bytesA a).map UInt8.toNat) := by
        rw [text_4 hr h4]
        refine (words_iff 10 255 46 (by omega) (by omega) (by omega) (.inl rfl) _ _).2 ⟨?_, ?_, ?_⟩
        · intro e
          have := congrArg List.length e
          rw [List.length_map, (bytes4_val hr h4).2] at this
          exact absurd this (by decide)
        · unfold words4; rw [List.map_map]; rfl
        · intro n hn
          obtain ⟨c, _, rfl⟩ := List.mem_map.1 hn
          have := c.toNat_lt; omega
      rw [hw]
      dsimp only
      rw [if_pos (by rw [List.length_map, (bytes4_val hr h4).2]), from4 (by rw [List.length_map, (bytes4_val hr h4).2]) (fun n hn => by
        obtain ⟨c, _, rfl⟩ := List.mem_map.1 hn
        have := c.toNat_lt; omega), of4_bytes hr h4]
    · have hw : wordsF 10 255 46 [] none (textA a) = none := by
        cases h : wordsF 10 255 46 [] none (textA a) with
        | none => rfl
        | some l => exact absurd h (words4_no6 (by rw [text_6 h6]; exact text6_colon a))
      rw [hw]
      dsimp only
      unfold doc6
      rw [text_6 h6, docGroups_text a, Option.bind_some, from6 (grps_len a) (grps_le a), of6_grps h6, if_pos (text_6 h6)]
theorem doc_prog (s : Bs) : docParse s = progParse s := by
  cases h : docParse s with
  | some a => exact ((prog_iff s a).2 ((doc_iff s a).1 h)).symm
  | none =>
    cases h2 : progParse s with
    | none => rfl
    | some a => rw [(doc_iff s a).2 ((prog_iff s a).1 h2)] at h; exact absurd h (by simp)
/-- Each right address has a text of its own. -/
theorem text_inj {a b : Ad} (ha : rightA a = true) (hb : rightA b = true) (h : textA a = textA b) : a = b := by
  have h1 := (prog_iff (textA a) a).2 ⟨ha, rfl⟩
  have h2 := (prog_iff (textA a) b).2 ⟨hb, h.symm⟩
  rw [h1] at h2
  exact Option.some.inj h2
end Go.Cph.Tx

/- Covers of a range of numbers, plainly: greedy from the left, and by halves. No program in sight. -/
namespace Go.Cph.Cv
/-- A block of 2^k numbers, from f on, not beyond t. -/
structure OkB (f t k : Nat) : Prop where
  al : 2 ^ k ∣ f
  le : f + 2 ^ k ≤ t + 1
structure IsGreat (W f t k : Nat) : Prop where
  le : k ≤ W
  ok : OkB f t k
  most : ∀ j, j ≤ W → OkB f t j → j ≤ k
theorem IsGreat.unique {W f t k j : Nat} (h : IsGreat W f t k) (g : IsGreat W f t j) : k = j := Nat.le_antisymm (g.most k h.le h.ok) (h.most j g.le g.ok)
inductive Greedy (W t : Nat) : Nat → List (Nat × Nat) → Prop
  | done {f : Nat} (h : t < f) : Greedy W t f []
  | step {f k : Nat} {l : List (Nat × Nat)} (h : f ≤ t) (hk : IsGreat W f t k) (hl : Greedy W t (f + 2 ^ k) l) : Greedy W t f ((f, k) :: l)
theorem Greedy.unique {W t : Nat} {f : Nat} {l m : List (Nat × Nat)} (h : Greedy W t f l) : Greedy W t f m → l = m := by
  induction h generalizing m with
  | done h =>
    intro g
    cases g with
    | done _ => rfl
    | step h2 _ _ => omega
  | step h hk hl ih =>
    intro g
    cases g with
    | done h2 => omega
    | step h2 hk2 hl2 =>
      obtain rfl := hk.unique hk2
      rw [ih hl2]
theorem Greedy.nil_of {W t f : Nat} {l : List (Nat × Nat)} (h : Greedy W t f l) (hf : t < f) : l = [] := by
  cases h with
  | done _ => rfl
  | step h2 _ _ => omega
/-- A smaller block does, where a greater one does. -/
theorem OkB.less {f t k j : Nat} (h : OkB f t k) (hj : j ≤ k) : OkB f t j :=
  ⟨Nat.dvd_trans (Nat.pow_dvd_pow 2 hj) h.al, by have := Nat.pow_le_pow_right (show 0 < 2 by decide) hj; have := h.le; omega⟩
theorem great_of {W f t k : Nat} (hk : k ≤ W) (h : OkB f t k) (hn : k = W ∨ ¬ OkB f t (k + 1)) : IsGreat W f t k :=
  ⟨hk, h, fun j hj hb => by
    rcases Nat.lt_or_ge k j with hlt | hge
    · rcases hn with rfl | hn
      · omega
      · exact absurd (hb.less hlt) hn
    · exact hge⟩
/-- By halves: what the block of 2^k from a on has of f to t. -/
def partN : Nat → Nat → Nat → Nat → List (Nat × Nat)
  | 0, a, f, t => if a + 1 ≤ f ∨ t < a ∨ t < f then [] else [(a, 0)]
  | k + 1, a, f, t => if a + 2 ^ (k + 1) ≤ f ∨ t < a ∨ t < f then [] else if f ≤ a ∧ a + 2 ^ (k + 1) ≤ t + 1 then [(a, k + 1)] else partN k a f t ++ partN k (a + 2 ^ k) f t
theorem part_out {k a f t : Nat} (h : a + 2 ^ k ≤ f ∨ t < a ∨ t < f) : partN k a f t = [] := by
  cases k with
  | zero => unfold partN; rw [if_pos h]
  | succ k => unfold partN; rw [if_pos h]
theorem part_in {k a f t : Nat} (h1 : f ≤ a) (h2 : a + 2 ^ k ≤ t + 1) : partN k a f t = [(a, k)] := by
  have hp : 0 < 2 ^ k := Nat.pow_pos (by decide)
  cases k with
  | zero => unfold partN; rw [Nat.pow_zero] at h2; rw [if_neg (by omega)]
  | succ k => unfold partN; rw [if_neg (by omega), if_pos ⟨h1, h2⟩]
theorem part_split {k a f t : Nat} (h : ¬ (a + 2 ^ (k + 1) ≤ f ∨ t < a ∨ t < f)) (h2 : ¬ (f ≤ a ∧ a + 2 ^ (k + 1) ≤ t + 1)) : partN (k + 1) a f t = partN k a f t ++ partN k (a + 2 ^ k) f t := by
  conv => lhs; unfold partN
  rw [if_neg h, if_neg h2]
theorem part_greedy {W f t : Nat} (hft : f ≤ t) : ∀ k a, k ≤ W → 2 ^ k ∣ a → (f ≤ a → ∀ j, j ≤ W → OkB a t j → j ≤ k) → f < a + 2 ^ k → a ≤ t → ∀ rest, Greedy W t (a + 2 ^ k) rest → Greedy W t (max f a) (partN k a f t ++ rest) := by
  intro k
  induction k with
  | zero =>
    intro a hk hal hC h1 h2 rest hr
    rw [Nat.pow_zero] at h1
    have hfa : f ≤ a := by omega
    rw [part_in hfa (by rw [Nat.pow_zero]; omega), Nat.max_eq_right hfa]
    exact .step h2 ⟨hk, ⟨hal, by rw [Nat.pow_zero]; omega⟩, hC hfa⟩ hr
  | succ k ih =>
    intro a hk hal hC h1 h2 rest hr
    have hpp : 2 ^ (k + 1) = 2 ^ k + 2 ^ k := by rw [Nat.pow_succ]; omega
    have hp : 0 < 2 ^ k := Nat.pow_pos (by decide)
    have hal2 : 2 ^ k ∣ a := Nat.dvd_trans (Nat.pow_dvd_pow 2 (Nat.le_succ k)) hal
    have halr : 2 ^ k ∣ a + 2 ^ k := Nat.dvd_add hal2 (Nat.dvd_refl _)
    by_cases hin : f ≤ a ∧ a + 2 ^ (k + 1) ≤ t + 1
    · rw [part_in hin.1 hin.2, Nat.max_eq_right hin.1]
      exact .step h2 ⟨hk, ⟨hal, hin.2⟩, hC hin.1⟩ hr
    · rw [part_split (by omega) hin]
      have hCL : f ≤ a → ∀ j, j ≤ W → OkB a t j → j ≤ k := fun hfa j hj hb => by
        have h3 := hC hfa j hj hb
        rcases Nat.lt_or_ge k j with hlt | hge
        · have : j = k + 1 := by omega
          subst this
          exact absurd ⟨hfa, hb.le⟩ hin
        · exact hge
      have hCR : f ≤ a + 2 ^ k → ∀ j, j ≤ W → OkB (a + 2 ^ k) t j → j ≤ k := fun _ j hj hb => by
        rcases Nat.lt_or_ge k j with hlt | hge
        · have h4 : 2 ^ (k + 1) ∣ a + 2 ^ k := Nat.dvd_trans (Nat.pow_dvd_pow 2 hlt) hb.al
          have h5 : 2 ^ (k + 1) ∣ 2 ^ k := (Nat.dvd_add_right hal).1 h4
          have h6 := Nat.le_of_dvd hp h5
          omega
        · exact hge
      have hend : a + 2 ^ (k + 1) = a + 2 ^ k + 2 ^ k := by omega
      rcases Nat.lt_or_ge f (a + 2 ^ k) with hf | hf
      · rcases Nat.lt_or_ge t (a + 2 ^ k) with ht | ht
        · have hrn := hr.nil_of (by omega)
          subst hrn
          rw [part_out (k := k) (a := a + 2 ^ k) (by omega), List.append_nil]
          exact ih a (by omega) hal2 hCL hf h2 [] (.done ht)
        · rw [List.append_assoc]
          refine ih a (by omega) hal2 hCL hf h2 _ ?_
          have h7 := ih (a + 2 ^ k) (by omega) halr hCR (by omega) ht rest (by rw [← hend]; exact hr)
          rwa [Nat.max_eq_right (by omega)] at h7
      · rw [part_out (k := k) (a := a) (by omega), List.nil_append]
        have h7 := ih (a + 2 ^ k) (by omega) halr hCR (by omega) (by omega) rest (by rw [← hend]; exact hr)
        rwa [Nat.max_eq_left (by omega)] at h7 ⊢
/-- The two ways are one. -/
theorem greedy_part {W f t : Nat} (hft : f ≤ t) (ht : t < 2 ^ W) : Greedy W t f (partN W 0 f t) := by
  have h := part_greedy (W := W) hft W 0 (Nat.le_refl _) (Nat.dvd_zero _) (fun _ j hj _ => hj) (by omega) (by omega) [] (.done (by omega))
  rwa [List.append_nil, Nat.max_eq_left (by omega)] at h
/-! ### how many there are -/
theorem part_left {f t : Nat} : ∀ k a, f ≤ a → t + 1 < a + 2 ^ k → (partN k a f t).length ≤ k := by
  intro k
  induction k with
  | zero => intro a h1 h2; rw [part_out (by rw [Nat.pow_zero] at *; omega)]; simp
  | succ k ih =>
    intro a h1 h2
    have hpp : 2 ^ (k + 1) = 2 ^ k + 2 ^ k := by rw [Nat.pow_succ]; omega
    by_cases ho : a + 2 ^ (k + 1) ≤ f ∨ t < a ∨ t < f
    · rw [part_out ho]; simp
    · rw [part_split ho (by omega), List.length_append]
      rcases Nat.lt_or_ge t (a + 2 ^ k) with ht | ht
      · rw [part_out (k := k) (a := a + 2 ^ k) (by omega)]
        by_cases he : a + 2 ^ k ≤ t + 1
        · rw [part_in h1 he]; simp
        · have := ih a h1 (by omega); simp; omega
      · rw [part_in h1 (by omega)]
        have := ih (a + 2 ^ k) (by omega) (by omega)
        simp; omega
theorem part_right {f t : Nat} : ∀ k a, a < f → a + 2 ^ k ≤ t + 1 → (partN k a f t).length ≤ k := by
  intro k
  induction k with
  | zero => intro a h1 h2; rw [part_out (by rw [Nat.pow_zero] at *; omega)]; simp
  | succ k ih =>
    intro a h1 h2
    have hpp : 2 ^ (k + 1) = 2 ^ k + 2 ^ k := by rw [Nat.pow_succ]; omega
    by_cases ho : a + 2 ^ (k + 1) ≤ f ∨ t < a ∨ t < f
    · rw [part_out ho]; simp
    · rw [part_split ho (by omega), List.length_append]
      rcases Nat.lt_or_ge f (a + 2 ^ k) with hf | hf
      · rw [part_in (k := k) (a := a + 2 ^ k) (by omega) (by omega)]
        have := ih a h1 (by omega)
        simp; omega
      · rw [part_out (k := k) (a := a) (by omega)]
        by_cases he : f ≤ a + 2 ^ k
        · rw [part_in (k := k) (a := a + 2 ^ k) he (by omega)]; simp
        · have := ih (a + 2 ^ k) (by omega) (by omega); simp; omega
theorem part_both {f t : Nat} : ∀ k a, a < f → t + 1 < a + 2 ^ k → (partN k a f t).length ≤ 2 * (k - 1) := by
  intro k
  induction k with
  | zero => intro a h1 h2; rw [part_out (by rw [Nat.pow_zero] at *; omega)]; simp
  | succ k ih =>
    intro a h1 h2
    have hpp : 2 ^ (k + 1) = 2 ^ k + 2 ^ k := by rw [Nat.pow_succ]; omega
    by_cases ho : a + 2 ^ (k + 1) ≤ f ∨ t < a ∨ t < f
    · rw [part_out ho]; simp
    · rw [part_split ho (by omega), List.length_append]
      rcases Nat.lt_or_ge f (a + 2 ^ k) with hf | hf
      · rcases Nat.lt_or_ge t (a + 2 ^ k) with ht | ht
        · rw [part_out (k := k) (a := a + 2 ^ k) (by omega)]
          by_cases he : a + 2 ^ k ≤ t + 1
          · have := part_right k a h1 he; simp; omega
          · have := ih a h1 (by omega); simp; omega
        · have h3 := part_right (f := f) (t := t) k a h1 (by omega)
          have h4 := part_left (f := f) (t := t) k (a + 2 ^ k) (by omega) (by omega)
          omega
      · rw [part_out (k := k) (a := a) (by omega)]
        by_cases he : f ≤ a + 2 ^ k
        · have := part_left (f := f) (t := t) k (a + 2 ^ k) he (by omega); simp; omega
        · have := ih (a + 2 ^ k) (by omega) (by omega); simp; omega
theorem part_length {W f t : Nat} (hw : 2 ≤ W) (ht : t < 2 ^ W) : (partN W 0 f t).length ≤ 2 * (W - 1) := by
  by_cases h1 : 0 < f
  · by_cases h2 : t + 1 < 0 + 2 ^ W
    · exact part_both W 0 h1 h2
    · have := part_right (f := f) (t := t) W 0 h1 (by omega); omega
  · by_cases h2 : t + 1 < 0 + 2 ^ W
    · have := part_left (f := f) (t := t) W 0 (by omega) h2; omega
    · rw [part_in (by omega) (by omega)]; simp; omega
/-! ### what a greedy list is like -/
/-- Blocks side by side from f on; what is behind them begins at the end. -/
structure Sides (W t f : Nat) (l : List (Nat × Nat)) : Prop where
  blk : ∀ x ∈ l, IsGreat W x.1 t x.2
  first : ∀ h : 0 < l.length, l[0].1 = f
  next : ∀ i (h : i + 1 < l.length), l[i + 1].1 = l[i].1 + 2 ^ l[i].2
  last : ∀ h : 0 < l.length, l[l.length - 1].1 + 2 ^ l[l.length - 1].2 = t + 1
theorem Greedy.sides {W t f : Nat} {l : List (Nat × Nat)} (h : Greedy W t f l) : Sides W t f l := by
  induction h with
  | done h => exact ⟨by simp, by simp, by simp, by simp⟩
  | @step f k l h hk hl ih =>
    refine ⟨?_, fun _ => rfl, ?_, ?_⟩
    · intro x hx
      rcases List.mem_cons.1 hx with rfl | hx
      · exact hk
      · exact ih.blk x hx
    · intro i hi
      cases i with
      | zero => exact ih.first (by simpa using hi)
      | succ i => exact ih.next i (by simpa using hi)
    · intro _
      cases l with
      | nil =>
        have h1 := hk.ok.le
        have h2 : t < f + 2 ^ k := by
          cases hl with
          | done h => exact h
        show f + 2 ^ k = t + 1
        omega
      | cons y l => exact ih.last (by simp)
theorem Greedy.pos {W t f : Nat} {l : List (Nat × Nat)} (h : Greedy W t f l) (hf : f ≤ t) : 0 < l.length := by
  cases h with
  | done h => omega
  | step => simp
def inB (x : Nat) (b : Nat × Nat) : Bool := decide (b.1 ≤ x) && decide (x < b.1 + 2 ^ b.2)
theorem Greedy.count {W t f : Nat} {l : List (Nat × Nat)} (h : Greedy W t f l) (x : Nat) : l.countP (inB x) = if f ≤ x ∧ x ≤ t then 1 else 0 := by
  induction h with
  | done h => rw [if_neg (by omega)]; rfl
  | @step f k l h hk hl ih =>
    have hp : 0 < 2 ^ k := Nat.pow_pos (by decide)
    have h1 := hk.ok.le
    rw [List.countP_cons, ih]
    unfold inB
    simp only [Bool.and_eq_true, decide_eq_true_eq]
    by_cases c1 : f ≤ x
    · by_cases c2 : x < f + 2 ^ k
      · rw [if_neg (by omega), if_pos ⟨c1, c2⟩, if_pos ⟨c1, by omega⟩]
      · by_cases c3 : x ≤ t
        · rw [if_pos ⟨by omega, c3⟩, if_neg (fun c => c2 c.2), if_pos ⟨c1, c3⟩]
        · rw [if_neg (fun c => c3 c.2), if_neg (fun c => c2 c.2), if_neg (fun c => c3 c.2)]
    · rw [if_neg (by omega), if_neg (fun c => c1 c.1), if_neg (fun c => c1 c.1)]
/-- No two neighbours are a block's halves. -/
theorem Sides.apart {W t f : Nat} {l : List (Nat × Nat)} (h : Sides W t f l) (ht : t < 2 ^ W) (i : Nat) (hi : i + 1 < l.length) (hk : l[i].2 = l[i + 1].2) (hd : 2 ^ (l[i].2 + 1) ∣ l[i].1) : False := by
  have h1 := h.blk l[i] (List.getElem_mem _)
  have h2 := h.blk l[i + 1] (List.getElem_mem _)
  have h3 := h.next i hi
  have h4 := h2.ok.le
  rw [← hk, h3] at h4
  have hb : OkB l[i].1 t (l[i].2 + 1) := ⟨hd, by rw [Nat.pow_succ]; omega⟩
  have hw : l[i].2 + 1 ≤ W := by
    rcases Nat.lt_or_ge W (l[i].2 + 1) with k | k
    · have h5 := hb.le
      have h6 : 2 ^ W ≤ 2 ^ (l[i].2 + 1) := Nat.pow_le_pow_right (by decide) (by omega)
      have h7 : 0 < 2 ^ W := Nat.pow_pos (by decide)
      have h8 : 2 ^ (W + 1) ≤ 2 ^ (l[i].2 + 1) := Nat.pow_le_pow_right (by decide) (by omega)
      rw [Nat.pow_succ] at h8
      omega
    · exact k
  have := h1.most _ hw hb
  omega
end Go.Cph.Cv

/- Prefixes as blocks of numbers, plainly: what they have, their ends and halves, covers. No program in sight. -/
set_option linter.unusedVariables false
set_option linter.unusedSimpArgs false
namespace Go.Cph.Px
open Go.Cph.Cv
theorem aligned {n k : Nat} : n / 2 ^ k * 2 ^ k = n ↔ 2 ^ k ∣ n :=
  ⟨fun h => ⟨n / 2 ^ k, by rw [Nat.mul_comm]; exact h.symm⟩, fun h => Nat.div_mul_cancel h⟩
theorem floor_eq {n m k : Nat} (h : 2 ^ k ∣ m) : n / 2 ^ k * 2 ^ k = m ↔ m ≤ n ∧ n < m + 2 ^ k := by
  have hp : 0 < 2 ^ k := Nat.pow_pos (by decide)
  obtain ⟨q, rfl⟩ := h
  have h1 := Nat.div_add_mod n (2 ^ k)
  have h2 := Nat.mod_lt n hp
  constructor
  · intro e
    rw [Nat.mul_comm] at e
    rw [e] at h1
    omega
  · rintro ⟨a, b⟩
    have e : n / 2 ^ k = q := by
      refine (Nat.div_eq_iff hp).2 ⟨by rw [Nat.mul_comm]; exact a, ?_⟩
      rw [Nat.mul_comm q]; omega
    rw [e, Nat.mul_comm]
/-- What a right prefix has, by numbers. -/
theorem has_num {p : Pf} (h : Rt p) {x : Ad} : hasP p x = true ↔ rightA x = true ∧ x.1 = p.1.1 ∧ num p.1 ≤ num x ∧ num x < num p.1 + 2 ^ rest p.1 p.2 := by
  rw [has_iff]
  constructor
  · intro k
    exact ⟨k.ad, k.fam, (floor_eq (aligned.1 h.al)).1 k.eq⟩
  · rintro ⟨k1, k2, k3⟩
    exact ⟨k1, h.lo, h.hi, k2, (floor_eq (aligned.1 h.al)).2 k3⟩
theorem has_right {p : Pf} {x : Ad} (h : hasP p x = true) : Rt p := (has_iff.1 h).right
theorem no_has {p : Pf} (h : rightP p = false) (x : Ad) : hasP p x = false := by
  cases hx : hasP p x with
  | false => rfl
  | true => have := rightP_iff.2 (has_right hx); rw [h] at this; cases this
theorem rest_range (p : Pf) (h : Rt p) : rest p.1 p.2 ≤ wid p.1 := by rw [rest_wid _ h.lo]; omega
/-- A block of 2^k numbers ends within the family. -/
theorem blk_end {p : Pf} (h : Rt p) : num p.1 + 2 ^ rest p.1 p.2 ≤ 2 ^ wid p.1 := by
  have h1 := num_wid h.ad
  obtain ⟨q, hq⟩ := aligned.1 h.al
  have h2 := rest_range p h
  have e : 2 ^ wid p.1 = 2 ^ rest p.1 p.2 * 2 ^ (wid p.1 - rest p.1 p.2) := by rw [← Nat.pow_add]; congr 1; omega
  have hp : 0 < 2 ^ rest p.1 p.2 := Nat.pow_pos (by decide)
  rw [hq, e] at h1
  have h3 := Nat.lt_of_mul_lt_mul_left h1
  rw [hq, e, ← Nat.mul_succ]
  exact Nat.mul_le_mul_left _ h3
/-- The prefix of a family's block of 2^k numbers from n on. -/
def pfN (f : UInt8) (n k : Nat) : Pf := (ofNum f n, width f - (k : Int))
def widF (f : UInt8) : Nat := if f = 4 then 32 else 128
theorem width_widF (f : UInt8) : width f = (widF f : Int) := by unfold width widF; split <;> rfl
theorem widF_wid (a : Ad) : widF a.1 = wid a := rfl
theorem widF_le (f : UInt8) : widF f ≤ 128 := by unfold widF; split <;> omega
theorem ofNum_fam (f : UInt8) (n : Nat) : (ofNum f n).1 = f := rfl
theorem ofNum_right {f : UInt8} {n : Nat} (hf : f = 4 ∨ f = 6) (hn : n < 2 ^ widF f) : rightA (ofNum f n) = true ∧ num (ofNum f n) = n := by
  have hn2 : n < 2 ^ 128 := Nat.lt_of_lt_of_le hn (Nat.pow_le_pow_right (by decide) (widF_le f))
  have e := num_ofNum f n hn2
  refine ⟨rightA_iff.2 ?_, e⟩
  rcases hf with rfl | rfl
  · right; rw [e]; exact ⟨rfl, hn⟩
  · left; rfl
theorem ofNum_self {a : Ad} : ofNum a.1 (num a) = a := ad_ext (ofNum_fam _ _) (num_ofNum _ _ (num_lt a))
theorem pfN_rt {f : UInt8} {n k : Nat} (hf : f = 4 ∨ f = 6) (hk : k ≤ widF f) (hd : 2 ^ k ∣ n) (hn : n + 2 ^ k ≤ 2 ^ widF f) : Rt (pfN f n k) ∧ num (pfN f n k).1 = n ∧ rest (pfN f n k).1 (pfN f n k).2 = k := by
  have hp : 0 < 2 ^ k := Nat.pow_pos (by decide)
  obtain ⟨h1, h2⟩ := ofNum_right hf (show n < 2 ^ widF f by omega)
  have hr : rest (ofNum f n) (width f - (k : Int)) = k := by unfold rest; rw [ofNum_fam]; omega
  refine ⟨⟨h1, ?_, ?_, ?_⟩, h2, hr⟩
  · show 0 ≤ width f - (k : Int); rw [width_widF]; omega
  · show width f - (k : Int) ≤ width f; omega
  · show num (ofNum f n) / 2 ^ rest (ofNum f n) (width f - (k : Int)) * 2 ^ rest (ofNum f n) (width f - (k : Int)) = num (ofNum f n)
    rw [hr, h2]; exact aligned.2 hd
theorem pf_pfN {p : Pf} (h : Rt p) : p = pfN p.1.1 (num p.1) (rest p.1 p.2) := by
  refine Prod.ext ofNum_self.symm ?_
  show p.2 = width p.1.1 - (rest p.1 p.2 : Int)
  have := h.hi
  unfold rest; omega
theorem pfN_inj {f : UInt8} {n m k j : Nat} (hn : n < 2 ^ 128) (hm : m < 2 ^ 128) (e : pfN f n k = pfN f m j) : n = m ∧ k = j := by
  have h1 := congrArg (fun p : Pf => num p.1) e
  have h2 := congrArg (fun p : Pf => p.2) e
  simp only [pfN] at h1 h2
  rw [num_ofNum _ _ hn, num_ofNum _ _ hm] at h1
  exact ⟨h1, by omega⟩
theorem last_pf {p : Pf} (h : Rt p) : lastR p = ofNum p.1.1 (num p.1 + (2 ^ rest p.1 p.2 - 1)) := by
  obtain ⟨h1, h2, h3⟩ := lastR_num h
  have e := blk_end h
  have hp : 0 < 2 ^ rest p.1 p.2 := Nat.pow_pos (by decide)
  have h4 : num p.1 + (2 ^ rest p.1 p.2 - 1) < 2 ^ 128 := by
    have := Nat.pow_le_pow_right (show 0 < 2 by decide) (widF_le p.1.1)
    rw [widF_wid] at this
    omega
  exact ad_ext (h1.trans (ofNum_fam _ _).symm) (by rw [h2, num_ofNum _ _ h4])
theorem right_rt {p : Pf} : rightP p = true ↔ Rt p := rightP_iff
/-- An address cut to so many bits. -/
theorem cut_pfN {a : Ad} (hr : rightA a = true) {k : Nat} (hk : k ≤ wid a) : cutP a (width a.1 - (k : Int)) = pfN a.1 (num a / 2 ^ k * 2 ^ k) k := by
  have hw := width_wid a
  have hf : fits a (width a.1 - (k : Int)) = true := fits_iff.2 ⟨hr, by omega, by omega⟩
  have hrest : rest a (width a.1 - (k : Int)) = k := by unfold rest; omega
  have hk2 : k ≤ 128 := by have := widF_le a.1; rw [widF_wid] at this; omega
  unfold cutP
  rw [if_pos hf, hrest]
  refine Prod.ext (ad_ext ((cutA_fam a k).trans (ofNum_fam _ _).symm) ?_) rfl
  have h1 := num_lt a
  have h2 := Nat.div_mul_le_self (num a) (2 ^ k)
  rw [num_cutA a k hk2]
  exact (num_ofNum _ _ (by omega)).symm
/-- A prefix's halves. -/
def halvesP (p : Pf) : Pf × Pf × Bool := if rightP p && p.2 != width p.1.1 then ((p.1, p.2 + 1), cutP (lastR p) (p.2 + 1), true) else (zeroP, zeroP, false)
structure Half (p x y : Pf) (k : Nat) : Prop where
  rt : Rt p
  bits : x.2 = p.2 + 1 ∧ y.2 = p.2 + 1
  rest : rest p.1 p.2 = k + 1
  x : x = pfN p.1.1 (num p.1) k
  y : y = pfN p.1.1 (num p.1 + 2 ^ k) k
theorem halves_some {p : Pf} (h : Rt p) (hb : p.2 ≠ width p.1.1) : ∃ x y k, halvesP p = (x, y, true) ∧ Half p x y k := by
  have h1 : (rightP p && p.2 != width p.1.1) = true := by rw [right_rt.2 h]; simpa using hb
  have hk : rest p.1 p.2 = (rest p.1 p.2 - 1) + 1 := by
    have := h.hi
    unfold rest; omega
  obtain ⟨k, hk2⟩ : ∃ k, k = rest p.1 p.2 - 1 := ⟨_, rfl⟩
  rw [← hk2] at hk
  have hw := rest_range p h
  have e2 : p.2 = width p.1.1 - ((k + 1 : Nat) : Int) := by
    have h5 := h.hi
    have h6 : ((width p.1.1 - p.2).toNat : Int) = width p.1.1 - p.2 := by omega
    have h7 : rest p.1 p.2 = (width p.1.1 - p.2).toNat := rfl
    omega
  have hend := blk_end h
  rw [hk] at hend
  have hpp : 2 ^ (k + 1) = 2 ^ k + 2 ^ k := by rw [Nat.pow_succ]; omega
  have hp : 0 < 2 ^ k := Nat.pow_pos (by decide)
  have hal := aligned.1 h.al
  rw [hk] at hal
  obtain ⟨l1, l2, l3⟩ := lastR_num h
  have hlw : wid (lastR p) = wid p.1 := by unfold wid; rw [l1]
  have hy : cutP (lastR p) (p.2 + 1) = pfN p.1.1 (num p.1 + 2 ^ k) k := by
    have hc := cut_pfN l3 (k := k) (by rw [hlw]; omega)
    rw [l1] at hc
    rw [show p.2 + 1 = width p.1.1 - (k : Int) by omega, hc]
    congr 1
    rw [l2, hk]
    refine (floor_eq ?_).2 ⟨by omega, by omega⟩
    exact Nat.dvd_add (Nat.dvd_trans (Nat.pow_dvd_pow 2 (Nat.le_succ k)) hal) (Nat.dvd_refl _)
  refine ⟨(p.1, p.2 + 1), pfN p.1.1 (num p.1 + 2 ^ k) k, k, by unfold halvesP; rw [if_pos h1, hy], h, ⟨rfl, ?_⟩, hk, ?_, rfl⟩
  · show width p.1.1 - (k : Int) = p.2 + 1
    omega
  · refine Prod.ext ofNum_self.symm ?_
    show p.2 + 1 = width p.1.1 - (k : Int)
    omega
theorem halves_none {p : Pf} (h : rightP p = false ∨ p.2 = width p.1.1) : halvesP p = (zeroP, zeroP, false) := by
  unfold halvesP
  rw [if_neg]
  rcases h with h | h
  · rw [h]; simp
  · rw [h]; simp
theorem Half.facts {p x y : Pf} {k : Nat} (h : Half p x y k) : 2 ^ (k + 1) ∣ num p.1 ∧ num p.1 + 2 ^ (k + 1) ≤ 2 ^ widF p.1.1 ∧ k + 1 ≤ widF p.1.1 ∧ (p.1.1 = 4 ∨ p.1.1 = 6) ∧ 2 ^ (k + 1) = 2 ^ k + 2 ^ k := by
  have h1 := aligned.1 h.rt.al
  have h2 := blk_end h.rt
  have h3 := rest_range p h.rt
  rw [h.rest] at h1 h2 h3
  exact ⟨h1, h2, h3, right_fam h.rt.ad, by rw [Nat.pow_succ]; omega⟩
theorem Half.px {p x y : Pf} {k : Nat} (h : Half p x y k) : Rt x ∧ num x.1 = num p.1 ∧ Px.rest x.1 x.2 = k ∧ x.1.1 = p.1.1 := by
  obtain ⟨h1, h2, h3, h4, h5⟩ := h.facts
  have := pfN_rt h4 (n := num p.1) (k := k) (by omega) (Nat.dvd_trans (Nat.pow_dvd_pow 2 (Nat.le_succ k)) h1) (by omega)
  rw [← h.x] at this
  exact ⟨this.1, this.2.1, this.2.2, by rw [h.x]; exact ofNum_fam _ _⟩
theorem Half.py {p x y : Pf} {k : Nat} (h : Half p x y k) : Rt y ∧ num y.1 = num p.1 + 2 ^ k ∧ Px.rest y.1 y.2 = k ∧ y.1.1 = p.1.1 := by
  obtain ⟨h1, h2, h3, h4, h5⟩ := h.facts
  have := pfN_rt h4 (n := num p.1 + 2 ^ k) (k := k) (by omega) (Nat.dvd_add (Nat.dvd_trans (Nat.pow_dvd_pow 2 (Nat.le_succ k)) h1) (Nat.dvd_refl _)) (by omega)
  rw [← h.y] at this
  exact ⟨this.1, this.2.1, this.2.2, by rw [h.y]; exact ofNum_fam _ _⟩
/-- One prefix within another, by numbers. -/
theorem within_num {p q : Pf} (hp : Rt p) (hq : Rt q) : within p q = true ↔ p.1.1 = q.1.1 ∧ num q.1 ≤ num p.1 ∧ num p.1 + 2 ^ rest p.1 p.2 ≤ num q.1 + 2 ^ rest q.1 q.2 := by
  rw [within_iff, ← has_iff, has_num hq]
  have kp : 0 < 2 ^ rest p.1 p.2 := Nat.pow_pos (by decide)
  constructor
  · rintro ⟨_, h2, h3, h4, h5, h6⟩
    refine ⟨h4, h5, ?_⟩
    have hle : rest p.1 p.2 ≤ rest q.1 q.2 := by rw [rest_congr h4]; exact rest_anti h2
    have d1 := aligned.1 hp.al
    have d2 := Nat.dvd_trans (Nat.pow_dvd_pow 2 hle) (aligned.1 hq.al)
    have d3 := Nat.pow_dvd_pow 2 hle
    obtain ⟨a, ha⟩ := d1
    obtain ⟨b, hb⟩ := Nat.dvd_add d2 d3
    rw [ha, hb] at h6
    rw [ha, hb, ← Nat.mul_succ]
    exact Nat.mul_le_mul_left _ (Nat.lt_of_mul_lt_mul_left h6)
  · rintro ⟨h1, h2, h3⟩
    refine ⟨hp, ?_, hp.ad, h1, h2, by omega⟩
    have hle : 2 ^ rest p.1 p.2 ≤ 2 ^ rest q.1 q.2 := by omega
    have hle2 : rest p.1 p.2 ≤ rest q.1 q.2 := (Nat.pow_le_pow_iff_right (by decide)).1 hle
    have h5 := hp.hi
    have h6 := hq.hi
    unfold rest at hle2
    rw [h1] at hle2 h5
    omega
end Go.Cph.Px

/- A prefix's text, plainly: which text is which prefix's. No program in sight. -/
set_option linter.unusedVariables false
set_option linter.unusedSimpArgs false
namespace Go.Cph.Tx
open Go.Cph.Px (Ad Pf rightA rightP bytesA right_fam rightP_iff width)
theorem dig_slash {d : Nat} (h : d < 16) : dig d ≠ 47 := by
  intro e
  have := congrArg UInt8.toNat e
  rw [dig_nat h] at this
  revert this; split <;> (intro this; simp at this; omega)
theorem digs_slash (b n : Nat) (hb : 2 ≤ b) (h16 : b ≤ 16) (hn : n < b ^ 6) : ∀ x ∈ digs b n, x ≠ 47 := by
  intro x hx
  obtain ⟨d, hd, rfl⟩ := digs_all b n hb h16 hn x hx
  exact dig_slash (by omega)
theorem text_slash {a : Ad} (hr : rightA a = true) : (47 : UInt8) ∉ textA a := by
  have h6w : ∀ w ∈ words6 a, ∀ x ∈ w, x ≠ 47 := by
    intro w hw
    rw [words6_grps] at hw
    obtain ⟨n, hn, rfl⟩ := List.mem_map.1 hw
    have := grps_le a n hn
    exact digs_slash 16 n (by omega) (by omega) (by omega)
  have h6j : ∀ l : List Bs, (∀ w ∈ l, w ∈ words6 a) → ∀ x ∈ joinC 58 l, x ≠ 47 := fun l hl => joinC_all (P := fun x => x ≠ 47) 58 (by decide) l fun w hw => h6w w (hl w hw)
  rcases right_fam hr with h | h
  · rw [text_4 hr h]
    intro hm
    refine joinC_all (P := fun x => x ≠ 47) 46 (by decide) (words4 a) ?_ 47 hm rfl
    intro w hw
    obtain ⟨n, hn, rfl⟩ := words4_mem hw
    exact digs_slash 10 n (by omega) (by omega) (by omega)
  · rw [text_6 h]
    intro hm
    by_cases h0 : (run a).2 = 0
    · rw [text6_none a h0] at hm
      exact h6j _ (fun w hw => hw) 47 hm rfl
    · rw [text6_some a h0, List.mem_append, List.mem_cons, List.mem_cons] at hm
      rcases hm with hm | hm | hm | hm
      · exact h6j _ (fun w hw => List.mem_of_mem_take hw) 47 hm rfl
      · exact absurd hm (by decide)
      · exact absurd hm (by decide)
      · exact h6j _ (fun w hw => List.mem_of_mem_drop hw) 47 hm rfl
theorem text_ne {a : Ad} (hr : rightA a = true) : textA a ≠ [] := by
  rcases right_fam hr with h | h
  · rw [text_4 hr h]
    intro e
    have := joinC_nil 46 (fun w hw => by obtain ⟨n, _, rfl⟩ := words4_mem hw; exact digs_ne _ _) e
    have h2 := congrArg List.length this
    unfold words4 at h2
    rw [List.length_map, (bytes4_val hr h).2] at h2
    exact absurd h2 (by decide)
  · rw [text_6 h]
    intro e
    have := text6_colon a
    rw [e] at this
    exact absurd this (by simp)
/-- What stands ahead of the first slash, and behind it. -/
def slash : Bs → Option (Bs × Bs)
  | [] => none
  | a :: r => if a = 47 then some ([], r) else (slash r).map fun x => (a :: x.1, x.2)
theorem slash_cons (a : UInt8) (r : Bs) : slash (a :: r) = if a = 47 then some ([], r) else (slash r).map fun x => (a :: x.1, x.2) := rfl
theorem slash_app {x : Bs} (h : (47 : UInt8) ∉ x) (y : Bs) : slash (x ++ 47 :: y) = some (x, y) := by
  induction x with
  | nil => rw [List.nil_append, slash_cons, if_pos rfl]
  | cons a x ih =>
    rw [List.cons_append, slash_cons, if_neg (fun e => h (by simp [e])), ih (fun k => h (by simp [k]))]; rfl
theorem slash_some {s h t : Bs} (e : slash s = some (h, t)) : s = h ++ 47 :: t ∧ (47 : UInt8) ∉ h := by
  induction s generalizing h with
  | nil => cases e
  | cons a r ih =>
    rw [slash_cons] at e
    split at e
    · rename_i ha
      cases e; subst ha
      exact ⟨rfl, by simp⟩
    · rename_i ha
      cases hs : slash r with
      | none => rw [hs] at e; cases e
      | some x =>
        rw [hs] at e
        obtain ⟨x1, x2⟩ := x
        simp only [Option.map_some, Option.some.injEq, Prod.mk.injEq] at e
        obtain ⟨rfl, rfl⟩ := e
        obtain ⟨k1, k2⟩ := ih hs
        exact ⟨by rw [List.cons_append, ← k1], by simp only [List.mem_cons, not_or]; exact ⟨fun k => ha k.symm, k2⟩⟩
theorem slash_none {s : Bs} (h : (47 : UInt8) ∉ s) : slash s = none := by
  induction s with
  | nil => rfl
  | cons a r ih => rw [slash_cons, if_neg (fun e => h (by simp [e])), ih (fun k => h (by simp [k]))]; rfl
theorem slash_no {s : Bs} (h : slash s = none) : (47 : UInt8) ∉ s := by
  intro k
  obtain ⟨x, y, e, hx⟩ : ∃ x y, s = x ++ 47 :: y ∧ (47 : UInt8) ∉ x := by
    clear h
    induction s with
    | nil => cases k
    | cons a r ih =>
      by_cases ha : a = 47
      · exact ⟨[], r, by rw [ha]; rfl, by simp⟩
      · have : (47 : UInt8) ∈ r := by
          rcases List.mem_cons.1 k with k | k
          · exact absurd k.symm ha
          · exact k
        obtain ⟨x, y, e, hx⟩ := ih this
        exact ⟨a :: x, y, by rw [e]; rfl, by simp only [List.mem_cons, not_or]; exact ⟨fun k => ha k.symm, hx⟩⟩
  rw [e, slash_app hx] at h
  cases h
/-- The library's cut at a slash. -/
theorem index_slash : ∀ s : Bs, Lib.index s [47] = match slash s with | none => -1 | some x => (x.1.length : Int) := by
  intro s
  induction s with
  | nil => rfl
  | cons a r ih =>
    unfold Lib.index
    rw [slash_cons]
    by_cases h : a = 47
    · subst h; rfl
    · rw [if_neg h, if_neg, ih]
      · cases slash r with
        | none => rfl
        | some x => show (if ((x.1.length : Int) == -1) = true then (-1 : Int) else (x.1.length : Int) + 1) = ((x.1.length + 1 : Nat) : Int)
                    rw [if_neg (by simp)]; omega
      · intro k
        apply h
        rw [List.isPrefixOf_iff_prefix] at k
        obtain ⟨t, ht⟩ := k
        injection ht with e1 e2
        exact e1.symm
theorem cut_slash (s : Bs) : Lib.cut s [47] = match slash s with | none => (s, [], false) | some x => (x.1, x.2, true) := by
  unfold Lib.cut
  rw [index_slash]
  cases hs : slash s with
  | none => rfl
  | some x =>
    obtain ⟨h, t⟩ := x
    obtain ⟨e, _⟩ := slash_some hs
    show (if (0 : Int) ≤ (h.length : Int) then _ else _) = _
    rw [if_pos (by omega)]
    show (s.take h.length, s.drop (h.length + 1), true) = (h, t, true)
    rw [e]
    simp
/-- Digits of a number up to 128, read again. -/
theorem atoi_digs : ∀ n, n < 129 → Lib.atoiAll (digs 10 n) = .ok (n : Int) := by
  have h : ∀ n, n < 129 → (match Lib.atoiAll (digs 10 n) with | .ok v => v == (n : Int) | _ => false) = true := by decide +kernel
  intro n hn
  have := h n hn
  split at this
  · rename_i v hv
    rw [hv, eq_of_beq this]
  · cases this
theorem digs_inj10 {m n : Nat} (hm : m < 129) (hn : n < 129) (e : digs 10 m = digs 10 n) : m = n := by
  have h1 := atoi_digs m hm
  rw [e, atoi_digs n hn] at h1
  injection h1 with h2
  omega
def textP (p : Pf) : Bs := if rightP p then textA p.1 ++ 47 :: digs 10 p.2.toNat else []
theorem textP_right {p : Pf} (h : rightP p = true) : textP p = textA p.1 ++ 47 :: digs 10 p.2.toNat := by unfold textP; rw [if_pos h]
theorem textP_wrong {p : Pf} (h : rightP p = false) : textP p = [] := by unfold textP; rw [h]; rfl
theorem textP_ne {p : Pf} (h : rightP p = true) : textP p ≠ [] := by rw [textP_right h]; simp
theorem bits_small {p : Pf} (h : rightP p = true) : p.2.toNat < 129 ∧ (p.2.toNat : Int) = p.2 := by
  have hr := rightP_iff.1 h
  have h1 := hr.hi
  have h2 := hr.lo
  have h3 := Px.width_pos p.1.1
  omega
theorem textP_slash {p : Pf} (h : rightP p = true) : slash (textP p) = some (textA p.1, digs 10 p.2.toNat) := by
  rw [textP_right h]; exact slash_app (text_slash (rightP_iff.1 h).ad) _
/-- Which prefix a text is: none, or the one of that text. -/
def ParseIs (s : Bs) (r : Option Pf) : Prop := ∀ p, r = some p ↔ rightP p = true ∧ textP p = s
theorem ParseIs.unique {s : Bs} {r q : Option Pf} (h : ParseIs s r) (g : ParseIs s q) : r = q := by
  cases r with
  | some p => exact ((g p).2 ((h p).1 rfl)).symm
  | none =>
    cases q with
    | none => rfl
    | some p => exact (h p).2 ((g p).1 rfl)
theorem parse_none {s : Bs} (h : ∀ p, rightP p = true → textP p = s → False) : ParseIs s none := fun p => ⟨fun e => (by cases e), fun k => (h p k.1 k.2).elim⟩
theorem parse_flat {s : Bs} (h : slash s = none) : ParseIs s none := parse_none fun p hp e => by
  have := textP_slash hp
  rw [e, h] at this; cases this
theorem parse_head {s h t : Bs} (hs : slash s = some (h, t)) (hh : progParse h = none) : ParseIs s none := parse_none fun p hp e => by
  have := textP_slash hp
  rw [e, hs] at this
  injection this with this
  injection this with e1 e2
  rw [(prog_iff h p.1).2 ⟨(rightP_iff.1 hp).ad, e1.symm⟩] at hh
  cases hh
theorem parse_tail {s h t : Bs} (hs : slash s = some (h, t)) (ht : ∀ n, n < 129 → t ≠ digs 10 n) : ParseIs s none := parse_none fun p hp e => by
  have := textP_slash hp
  rw [e, hs] at this
  injection this with this
  injection this with e1 e2
  exact ht _ (bits_small hp).1 e2
theorem parse_other {s h t : Bs} {a : Ad} {n : Int} (hs : slash s = some (h, t)) (ha : progParse h = some a) (hn : ∀ m, m < 129 → t = digs 10 m → n = (m : Int)) (hne : textP (a, n) ≠ s) : ParseIs s none := parse_none fun p hp e => by
  have := textP_slash hp
  rw [e, hs] at this
  injection this with this
  injection this with e1 e2
  have e3 := (prog_iff h p.1).2 ⟨(rightP_iff.1 hp).ad, e1.symm⟩
  rw [ha] at e3
  have e4 := hn _ (bits_small hp).1 e2
  rw [(bits_small hp).2] at e4
  apply hne
  rw [Option.some.inj e3, e4]
  exact e
theorem parse_it {s h t : Bs} {a : Ad} {n : Int} (hs : slash s = some (h, t)) (ha : progParse h = some a) (he : textP (a, n) = s) : ParseIs s (some (a, n)) := by
  have hr : rightP (a, n) = true := by
    cases hr : rightP (a, n) with
    | true => rfl
    | false =>
      rw [textP_wrong hr] at he
      subst he
      cases hs
  intro p
  constructor
  · intro e
    cases e
    exact ⟨hr, he⟩
  · rintro ⟨hp, ep⟩
    have h1 := textP_slash hp
    have h2 := textP_slash hr
    rw [ep] at h1
    rw [he, h1] at h2
    injection h2 with h2
    injection h2 with e1 e2
    have e3 := text_inj (rightP_iff.1 hp).ad (rightP_iff.1 hr).ad e1
    have e4 := digs_inj10 (bits_small hp).1 (bits_small hr).1 e2
    have e5 := (bits_small hp).2
    have e6 := (bits_small hr).2
    exact congrArg some (Prod.ext e3.symm (by show n = p.2; have e7 : (p.2.toNat : Int) = ((a, n) : Pf).2.toNat := by rw [e4]
                                              rw [e5, e6] at e7; exact e7.symm))
theorem textP_len (p : Pf) : (textP p).length ≤ 2000 → True := fun _ => trivial
end Go.Cph.Tx
