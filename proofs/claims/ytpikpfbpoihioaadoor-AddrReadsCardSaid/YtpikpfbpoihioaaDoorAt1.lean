/- Texts, plainly: digits of a number, words between signs, what stands between signs, where a pair of signs stands. No program. -/
import Derived.Test.YtpikpfbpoihioaaDoorMA
import Derived.Lib.Split
import Derived.Lib.Join
import Derived.Lib.ItoaNum
import Derived.Lib.ParseIntB
set_option linter.unusedVariables false
set_option linter.unusedSimpArgs false
namespace Go.Cph.Tx
abbrev Bs := List UInt8
/-- A digit's letter; a number's digits. -/
def dig (d : Nat) : UInt8 := UInt8.ofNat (if d < 10 then 48 + d else 87 + d)
def digsF (b : Nat) : Nat → Nat → Bs
  | 0, n => [dig n]
  | f + 1, n => if n < b then [dig n] else digsF b f (n / b) ++ [dig (n % b)]
def digs (b n : Nat) : Bs := digsF b 5 n
theorem digsF_more (b : Nat) (hb : 2 ≤ b) : ∀ (f n : Nat), n < b ^ (f + 1) → digsF b (f + 1) n = digsF b f n := by
  intro f
  induction f with
  | zero => intro n hn; rw [Nat.zero_add, Nat.pow_one] at hn; unfold digsF; rw [if_pos hn]
  | succ f ih =>
    intro n hn
    conv => lhs; unfold digsF
    conv => rhs; unfold digsF
    split
    · rfl
    · rw [ih (n / b) (Nat.div_lt_of_lt_mul (by rw [Nat.pow_succ] at hn; rw [Nat.mul_comm]; exact hn))]
theorem digs_small (b n : Nat) (h : n < b) : digs b n = [dig n] := by unfold digs digsF; rw [if_pos h]
theorem digs_big (b n : Nat) (hb : 2 ≤ b) (h : b ≤ n) (hn : n < b ^ 6) : digs b n = digs b (n / b) ++ [dig (n % b)] := by
  conv => lhs; unfold digs digsF
  rw [if_neg (by omega)]
  have : n / b < b ^ (4 + 1) := Nat.div_lt_of_lt_mul (by rw [Nat.pow_succ] at hn; rw [Nat.mul_comm]; exact hn)
  rw [show digs b (n / b) = digsF b (4 + 1) (n / b) from rfl, digsF_more b hb 4 _ this]
theorem digs_ne (b n : Nat) : digs b n ≠ [] := by unfold digs digsF; split <;> simp
theorem digs_len (b n : Nat) : (digs b n).length ≤ 6 := by
  suffices k : ∀ f n, (digsF b f n).length ≤ f + 1 from k 5 n
  intro f
  induction f with
  | zero => intro n; exact Nat.le_refl _
  | succ f ih => intro n; unfold digsF; split
                 · simp
                 · have := ih (n / b); rw [List.length_append]; simp; omega
theorem dig_nat {d : Nat} (h : d < 16) : (dig d).toNat = if d < 10 then 48 + d else 87 + d := by
  unfold dig; split <;> (rw [UInt8.toNat_ofNat']; omega)
theorem dig_inj {d e : Nat} (h : d < 16) (k : e < 16) (x : dig d = dig e) : d = e := by
  have := congrArg UInt8.toNat x
  rw [dig_nat h, dig_nat k] at this
  split at this <;> split at this <;> omega
theorem digs_all (b n : Nat) (hb : 2 ≤ b) (h16 : b ≤ 16) (hn : n < b ^ 6) : ∀ c ∈ digs b n, ∃ d, d < b ∧ c = dig d := by
  suffices k : ∀ f n, n < b ^ (f + 1) → ∀ c ∈ digsF b f n, ∃ d, d < b ∧ c = dig d from k 5 n hn
  intro f
  induction f with
  | zero => intro n hn c hc; exact ⟨n, by rw [Nat.zero_add, Nat.pow_one] at hn; exact hn, by simpa [digsF] using hc⟩
  | succ f ih =>
    intro n hn c hc
    unfold digsF at hc
    split at hc
    · rename_i h; exact ⟨n, h, by simpa using hc⟩
    · rcases List.mem_append.1 hc with h | h
      · exact ih (n / b) (Nat.div_lt_of_lt_mul (by rw [Nat.pow_succ] at hn; rw [Nat.mul_comm]; exact hn)) c h
      · exact ⟨n % b, Nat.mod_lt _ (by omega), by simpa using h⟩
/-- No digit is a point or a colon. -/
theorem digs_sign (b n : Nat) (hb : 2 ≤ b) (h16 : b ≤ 16) (hn : n < b ^ 6) (c : UInt8) (hc : c = 46 ∨ c = 58) : c ∉ digs b n := by
  intro h
  obtain ⟨d, hd, rfl⟩ := digs_all b n hb h16 hn _ h
  rcases hc with hc | hc <;>
  · have := congrArg UInt8.toNat hc
    rw [dig_nat (by omega)] at this
    revert this; split <;> (intro this; simp at this; omega)
theorem dec_digs (n : Nat) (h : n < 256) : Lib.decDigits n = digs 10 n := by
  suffices k : ∀ n, n < 10 ^ 6 → Lib.decDigits n = digs 10 n from k n (by omega)
  intro n
  induction n using Nat.strongRecOn with
  | _ n ih =>
    intro hn
    unfold Lib.decDigits
    by_cases h : n < 10
    · rw [dif_pos h, digs_small 10 n h]; unfold dig; rw [if_pos h]
    · rw [dif_neg h, digs_big 10 n (by omega) (by omega) hn, ih (n / 10) (by omega) (by omega)]
      have : n % 10 < 10 := Nat.mod_lt _ (by omega)
      unfold dig; rw [if_pos this]
theorem itoa_digs (n : Nat) (h : n < 256) : Lib.itoa (n : Int) = digs 10 n := by
  unfold Lib.itoa
  rw [if_neg (by omega), Int.toNat_natCast, dec_digs n h]

/-- Words with a sign between. -/
def joinC (c : UInt8) : List Bs → Bs
  | [] => []
  | [x] => x
  | x :: y :: r => x ++ c :: joinC c (y :: r)
theorem join_joinC (c : UInt8) (l : List Bs) : Lib.join l [c] = joinC c l := by
  cases l with
  | nil => rfl
  | cons x r =>
    rw [Lib.join_cons]
    induction r generalizing x with
    | nil => simp [Lib.joinTail, joinC]
    | cons y r ih =>
      have := ih y
      show x ++ Lib.joinTail [c] (y :: r) = x ++ c :: joinC c (y :: r)
      rw [← this]
      simp [Lib.joinTail]
/-- What stands between signs. -/
def splitC (c : UInt8) : Bs → List Bs
  | [] => [[]]
  | b :: r => if b = c then [] :: splitC c r else match splitC c r with
    | [] => [[b]]
    | x :: t => (b :: x) :: t
theorem split_ne (c : UInt8) (s : Bs) : splitC c s ≠ [] := by
  cases s with
  | nil => simp [splitC]
  | cons b r => unfold splitC; split
                · simp
                · split <;> simp
theorem split_cons (c : UInt8) {b : UInt8} (h : b ≠ c) {r : Bs} {x : Bs} {t : List Bs} (hs : splitC c r = x :: t) : splitC c (b :: r) = (b :: x) :: t := by
  show (if b = c then [] :: splitC c r else match splitC c r with | [] => [[b]] | x :: t => (b :: x) :: t) = _
  rw [if_neg h, hs]
theorem split_none (c : UInt8) : ∀ s : Bs, c ∉ s → splitC c s = [s] := by
  intro s
  induction s with
  | nil => intro _; rfl
  | cons b r ih =>
    intro h
    exact split_cons c (fun e => h (by simp [e])) (ih (fun e => h (by simp [e])))
theorem split_app (c : UInt8) (a r : Bs) (h : c ∉ a) : splitC c (a ++ c :: r) = a :: splitC c r := by
  induction a with
  | nil => show (if c = c then [] :: splitC c r else _) = _; rw [if_pos rfl]
  | cons b a ih =>
    exact split_cons c (fun e => h (by simp [e])) (ih (fun e => h (by simp [e])))
theorem split_join (c : UInt8) (l : List Bs) (h0 : l ≠ []) (h : ∀ w ∈ l, c ∉ w) : splitC c (joinC c l) = l := by
  induction l with
  | nil => exact absurd rfl h0
  | cons x r ih =>
    cases r with
    | nil => exact split_none c x (h x (by simp))
    | cons y r =>
      show splitC c (x ++ c :: joinC c (y :: r)) = _
      rw [split_app c x _ (h x (by simp)), ih (by simp) (fun w hw => h w (by simp [hw]))]
theorem join_split (c : UInt8) (s : Bs) : joinC c (splitC c s) = s := by
  induction s with
  | nil => rfl
  | cons b r ih =>
    by_cases h : b = c
    · subst h
      show joinC b (if b = b then [] :: splitC b r else _) = _
      rw [if_pos rfl]
      cases hs : splitC b r with
      | nil => exact absurd hs (split_ne _ _)
      | cons x t => rw [hs] at ih; show [] ++ b :: joinC b (x :: t) = _; rw [ih]; rfl
    · cases hs : splitC c r with
      | nil => exact absurd hs (split_ne _ _)
      | cons x t =>
        rw [split_cons c h hs]; rw [hs] at ih
        cases t with
        | nil => show b :: x = b :: r; rw [show x = r from ih]
        | cons y t => show (b :: x) ++ c :: joinC c (y :: t) = b :: r; rw [← ih]; rfl
theorem split_free (c : UInt8) : ∀ (s : Bs), ∀ w ∈ splitC c s, c ∉ w := by
  intro s
  induction s with
  | nil => intro w hw; simp [splitC] at hw; subst hw; simp
  | cons b r ih =>
    intro w hw
    by_cases h : b = c
    · subst h
      rw [show splitC b (b :: r) = [] :: splitC b r from by show (if b = b then [] :: splitC b r else _) = _; rw [if_pos rfl]] at hw
      rcases List.mem_cons.1 hw with rfl | hw
      · simp
      · exact ih w hw
    · cases hs : splitC c r with
      | nil => exact absurd hs (split_ne _ _)
      | cons x t =>
        rw [split_cons c h hs] at hw
        rw [hs] at ih
        rcases List.mem_cons.1 hw with rfl | hw
        · intro k; rcases List.mem_cons.1 k with k | k
          · exact h k.symm
          · exact ih x (by simp) k
        · exact ih w (by simp [hw])
/-- The library's own words are these. -/
theorem occ_one (c : UInt8) (s : Bs) (i : Nat) : Lib.occAt s [c] i = true ↔ s[i]? = some c := by
  unfold Lib.occAt
  rw [List.isPrefixOf_iff_prefix]
  constructor
  · rintro ⟨t, ht⟩
    have := congrArg (·[0]?) ht
    simp [List.getElem?_drop] at this
    exact this.symm
  · intro h
    have hi : i < s.length := by
      rcases Nat.lt_or_ge i s.length with k | k
      · exact k
      · rw [List.getElem?_eq_none k] at h; simp at h
    rw [List.drop_eq_getElem_cons hi]
    have : s[i] = c := by rw [List.getElem?_eq_getElem hi] at h; exact Option.some.inj h
    exact ⟨s.drop (i + 1), by rw [this]; rfl⟩
theorem splitK_splitC (c : UInt8) : ∀ (n : Nat) (s : Bs), s.length < n → Lib.splitK [c] 0 (Lib.count s [c]) s = splitC c s ∧ (splitC c s).length = Lib.count s [c] + 1 := by
  intro n
  induction n with
  | zero => intro s h; omega
  | succ n ih =>
    intro s h
    rcases Lib.index_spec s [c] with ⟨h1, h2⟩ | ⟨i, h1, h2, h3, h4⟩
    · have : c ∉ s := by
        intro hm
        obtain ⟨j, hj, e⟩ := List.getElem_of_mem hm
        have := h2 j (by omega)
        rw [Bool.eq_false_iff] at this
        exact this ((occ_one c s j).2 (by rw [List.getElem?_eq_getElem hj, e]))
      rw [Lib.count_miss h1, split_none c s this]
      exact ⟨rfl, rfl⟩
    · have h5 := (occ_one c s i).1 h3
      have hi : i < s.length := by
        rcases Nat.lt_or_ge i s.length with k | k
        · exact k
        · rw [List.getElem?_eq_none k] at h5; simp at h5
      have hc : c ∉ s.take i := by
        intro hm
        obtain ⟨j, hj, e⟩ := List.getElem_of_mem hm
        rw [List.length_take] at hj
        have := h4 j (by omega)
        rw [Bool.eq_false_iff] at this
        refine this ((occ_one c s j).2 ?_)
        rw [List.getElem_take] at e
        rw [List.getElem?_eq_getElem (by omega), e]
      have hs : s = s.take i ++ c :: s.drop (i + 1) := by
        have := (List.take_append_drop i s).symm
        rw [List.drop_eq_getElem_cons hi] at this
        rw [List.getElem?_eq_getElem hi] at h5
        rw [Option.some.inj h5] at this
        exact this
      have hd := ih (s.drop (i + 1)) (by rw [List.length_drop]; omega)
      have hsc : splitC c s = s.take i :: splitC c (s.drop (i + 1)) := by
        conv => lhs; rw [hs]
        rw [split_app c _ _ hc]
      have hcount : Lib.count s [c] = 1 + Lib.count (s.drop (i + 1)) [c] := Lib.count_hit (by simp) h1
      rw [hcount, hsc, Nat.add_comm 1]
      refine ⟨?_, by rw [List.length_cons, hd.2]⟩
      unfold Lib.splitK
      rw [if_neg (by rw [h1]; simp), h1]
      show s.take (i + 0) :: Lib.splitK [c] 0 _ (s.drop (i + 1)) = _
      rw [Nat.add_zero, hd.1]
theorem splitB_splitC (c : UInt8) (s : ByteArray) : (Lib.splitB ⟨#[c]⟩ 0 (Lib.countB s ⟨#[c]⟩) s).map (·.data.toList) = splitC c s.data.toList ∧ (splitC c s.data.toList).length = Lib.countB s ⟨#[c]⟩ + 1 := by
  rw [Lib.splitB_data]
  exact splitK_splitC c _ _ (Nat.lt_succ_self _)
/-- Where two colons stand. -/
def cutAt : Bs → Option Nat
  | [] => none
  | a :: r => if a = 58 ∧ r.head? = some 58 then some 0 else (cutAt r).map (· + 1)
theorem cut_cons (a : UInt8) (r : Bs) : cutAt (a :: r) = if a = 58 ∧ r.head? = some 58 then some 0 else (cutAt r).map (· + 1) := rfl
theorem index_cut : ∀ s : Bs, Lib.index s [58, 58] = match cutAt s with | none => -1 | some i => (i : Int) := by
  intro s
  induction s with
  | nil => rfl
  | cons a r ih =>
    unfold Lib.index cutAt
    by_cases h : a = 58 ∧ r.head? = some 58
    · rw [if_pos h, if_pos]
      · rfl
      · obtain ⟨rfl, h2⟩ := h
        cases r with
        | nil => simp at h2
        | cons b r => simp at h2; subst h2; rfl
    · rw [if_neg h, if_neg, ih]
      · cases cutAt r with
        | none => rfl
        | some i => show (if ((i : Int) == -1) = true then (-1 : Int) else (i : Int) + 1) = ((i + 1 : Nat) : Int)
                    rw [if_neg (by simp)]; omega
      · intro k
        apply h
        rw [List.isPrefixOf_iff_prefix] at k
        obtain ⟨t, ht⟩ := k
        injection ht with e1 e2
        exact ⟨e1.symm, by rw [← e2]; rfl⟩
theorem cut_lib (s : Bs) : Lib.cut s [58, 58] = match cutAt s with | none => (s, [], false) | some i => (s.take i, s.drop (i + 2), true) := by
  unfold Lib.cut
  rw [index_cut]
  cases cutAt s with
  | none => rfl
  | some i => show (if (0 : Int) ≤ (i : Int) then _ else _) = _; rw [if_pos (by omega)]; rfl
theorem cut_none (w : Bs) (h : (58 : UInt8) ∉ w) : cutAt w = none := by
  induction w with
  | nil => rfl
  | cons a w ih =>
    unfold cutAt
    rw [if_neg (fun k => h (by rw [k.1]; simp)), ih (fun k => h (by simp [k]))]; rfl
theorem cut_two (w : Bs) (h : (58 : UInt8) ∉ w) (r : Bs) : cutAt (w ++ 58 :: 58 :: r) = some w.length := by
  induction w with
  | nil => unfold cutAt; rw [List.nil_append]; exact if_pos ⟨rfl, rfl⟩
  | cons a w ih =>
    show cutAt (a :: (w ++ 58 :: 58 :: r)) = _
    unfold cutAt
    rw [if_neg (fun k => h (by rw [k.1]; simp)), ih (fun k => h (by simp [k]))]; rfl
theorem cut_one (w : Bs) (h : (58 : UInt8) ∉ w) (r : Bs) (hr : r.head? ≠ some 58) : cutAt (w ++ 58 :: r) = (cutAt r).map (· + (w.length + 1)) := by
  induction w with
  | nil => show cutAt (58 :: r) = _; rw [cut_cons, if_neg (fun k => hr k.2)]; rfl
  | cons a w ih =>
    show cutAt (a :: (w ++ 58 :: r)) = _
    rw [cut_cons, if_neg (fun k => h (by rw [k.1]; simp)), ih (fun k => h (by simp [k])), Option.map_map]
    cases cutAt r with
    | none => rfl
    | some i => show some (i + (w.length + 1) + 1) = some (i + (w.length + 1 + 1)); rfl
theorem head_join (c : UInt8) (x : Bs) (r : List Bs) (hx : x ≠ []) : (joinC c (x :: r)).head? = x.head? := by
  cases x with
  | nil => exact absurd rfl hx
  | cons a x => cases r with
    | nil => rfl
    | cons y r => rfl
theorem head_free (x : Bs) (h : (58 : UInt8) ∉ x) : x.head? ≠ some 58 := by
  cases x with
  | nil => simp
  | cons a x => intro k; simp at k; exact h (by simp [k])
/-- Words that are not empty and hold no colon: no two colons; with two colons behind them: there. -/
theorem cut_words (l : List Bs) (h0 : ∀ w ∈ l, w ≠ []) (h : ∀ w ∈ l, (58 : UInt8) ∉ w) : cutAt (joinC 58 l) = none := by
  induction l with
  | nil => rfl
  | cons x r ih =>
    cases r with
    | nil => exact cut_none x (h x (by simp))
    | cons y r =>
      show cutAt (x ++ 58 :: joinC 58 (y :: r)) = none
      rw [cut_one x (h x (by simp)) _ (by rw [head_join _ _ _ (h0 y (by simp))]; exact head_free y (h y (by simp))), ih (fun w hw => h0 w (by simp [hw])) (fun w hw => h w (by simp [hw]))]; rfl
theorem cut_words2 (l : List Bs) (h0 : ∀ w ∈ l, w ≠ []) (h : ∀ w ∈ l, (58 : UInt8) ∉ w) (q : Bs) : cutAt (joinC 58 l ++ 58 :: 58 :: q) = some (joinC 58 l).length := by
  induction l with
  | nil => exact cut_two [] (by simp) q
  | cons x r ih =>
    cases r with
    | nil => exact cut_two x (h x (by simp)) q
    | cons y r =>
      have hne : joinC 58 (y :: r) ≠ [] := by
        intro k
        have := head_join 58 y r (h0 y (by simp))
        rw [k] at this
        cases y with
        | nil => exact h0 [] (by simp) rfl
        | cons a y => simp at this
      have hh : (joinC 58 (y :: r) ++ 58 :: 58 :: q).head? = (joinC 58 (y :: r)).head? := by
        cases hj : joinC 58 (y :: r) with
        | nil => exact absurd hj hne
        | cons a t => rfl
      show cutAt ((x ++ 58 :: joinC 58 (y :: r)) ++ 58 :: 58 :: q) = _
      rw [List.append_assoc, List.cons_append, cut_one x (h x (by simp)) _ (by rw [hh, head_join _ _ _ (h0 y (by simp))]; exact head_free y (h y (by simp))),
        ih (fun w hw => h0 w (by simp [hw])) (fun w hw => h w (by simp [hw]))]
      show some ((joinC 58 (y :: r)).length + (x.length + 1)) = some ((x ++ 58 :: joinC 58 (y :: r)).length)
      congr 1
      rw [List.length_append, List.length_cons]; omega
end Go.Cph.Tx
