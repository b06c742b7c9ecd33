/- Texts, plainly: numbers read of words, strictly and loosely. No program. -/
import Derived.Test.YtpikpfbpoihioaaDoorAt1
set_option linter.unusedVariables false
set_option linter.unusedSimpArgs false
namespace Go.Cph.Tx
/-- A digit of a base. -/
def dval (b : Nat) (c : UInt8) : Option Nat :=
  if 48 ≤ c.toNat ∧ c.toNat ≤ 57 then (if c.toNat - 48 < b then some (c.toNat - 48) else none)
  else if 97 ≤ c.toNat ∧ c.toNat ≤ 102 then (if c.toNat - 87 < b then some (c.toNat - 87) else none) else none
def stepD (b most : Nat) (cur : Option Nat) (c : UInt8) : Option Nat :=
  match dval b c with
  | none => none
  | some d => if cur = some 0 then none else if b * cur.getD 0 + d ≤ most then some (b * cur.getD 0 + d) else none
/-- One word; words with a sign between. -/
def wordF (b most : Nat) : Option Nat → Bs → Option Nat
  | cur, [] => cur
  | cur, c :: r => match stepD b most cur c with
    | none => none
    | some n => wordF b most (some n) r
def wordsF (b most : Nat) (sign : UInt8) : List Nat → Option Nat → Bs → Option (List Nat)
  | l, cur, [] => cur.map fun n => l ++ [n]
  | l, cur, c :: r => if c = sign then (match cur with
      | none => none
      | some n => wordsF b most sign (l ++ [n]) none r)
    else match stepD b most cur c with
      | none => none
      | some n => wordsF b most sign l (some n) r
theorem dval_dig {b d : Nat} (h16 : b ≤ 16) (h : d < b) : dval b (dig d) = some d := by
  unfold dval
  rw [dig_nat (by omega)]
  by_cases k : d < 10
  · rw [if_pos k, if_pos (by omega), if_pos (by omega)]; congr 1; omega
  · rw [if_neg k, if_neg (by omega), if_pos (by omega), if_pos (by omega)]; congr 1; omega
theorem dval_some {b d : Nat} {c : UInt8} (h16 : b ≤ 16) (h : dval b c = some d) : d < b ∧ c = dig d := by
  unfold dval at h
  split at h
  · split at h
    · rename_i h1 h2
      have := Option.some.inj h; subst this
      refine ⟨h2, UInt8.toNat_inj.1 ?_⟩
      rw [dig_nat (by omega), if_pos (by omega)]; omega
    · exact absurd h (by simp)
  · split at h
    · split at h
      · rename_i h1 h2 h3
        have := Option.some.inj h; subst this
        refine ⟨h3, UInt8.toNat_inj.1 ?_⟩
        rw [dig_nat (by omega), if_neg (by omega)]; omega
      · exact absurd h (by simp)
    · exact absurd h (by simp)
theorem wordF_snoc (b most : Nat) (c : UInt8) : ∀ (w : Bs) (cur : Option Nat), wordF b most cur (w ++ [c]) = if w = [] then stepD b most cur c else (wordF b most cur w).bind fun n => stepD b most (some n) c := by
  intro w
  induction w with
  | nil => intro cur; rw [if_pos rfl]; show (match stepD b most cur c with | none => none | some n => wordF b most (some n) []) = _; cases stepD b most cur c <;> rfl
  | cons a w ih =>
    intro cur
    rw [if_neg (by simp)]
    show (match stepD b most cur a with | none => none | some n => wordF b most (some n) (w ++ [c])) = Option.bind (match stepD b most cur a with | none => none | some n => wordF b most (some n) w) _
    cases stepD b most cur a with
    | none => rfl
    | some n =>
      show wordF b most (some n) (w ++ [c]) = Option.bind (wordF b most (some n) w) _
      rw [ih (some n)]
      by_cases h : w = []
      · rw [if_pos h, h]; rfl
      · rw [if_neg h]
/-- A word is read strictly just if it is a number's digits. -/
theorem wordF_iff (b most : Nat) (hb : 2 ≤ b) (h16 : b ≤ 16) (hm : most < b ^ 6) (w : Bs) (n : Nat) : wordF b most none w = some n ↔ w = digs b n ∧ n ≤ most := by
  have ih : ∀ k : Nat, ∀ w : Bs, w.length = k → ∀ n, wordF b most none w = some n ↔ w = digs b n ∧ n ≤ most := by
    intro k
    induction k with
    | zero =>
      intro w hw n
      have : w = [] := List.length_eq_zero_iff.1 hw
      subst this
      exact ⟨fun h => absurd h (by simp [wordF]), fun h => absurd h.1.symm (digs_ne b n)⟩
    | succ k ih =>
      intro w hw n
      obtain ⟨v, c, rfl⟩ : ∃ v c, w = v ++ [c] := ⟨w.dropLast, w.getLast (by intro e; simp [e] at hw), (List.dropLast_concat_getLast _).symm⟩
      have hv : v.length = k := by simpa using hw
      rw [wordF_snoc]
      by_cases h0 : v = []
      · rw [if_pos h0]; subst h0
        unfold stepD
        constructor
        · intro h
          cases hd : dval b c with
          | none => rw [hd] at h; simp at h
          | some d =>
            rw [hd] at h
            obtain ⟨h1, h2⟩ := dval_some h16 hd
            simp at h
            obtain ⟨h3, rfl⟩ := h
            exact ⟨by rw [digs_small b _ h1, h2]; rfl, h3⟩
        · rintro ⟨h, h2⟩
          have h1 : n < b := by
            rcases Nat.lt_or_ge n b with k | k
            · exact k
            · exfalso
              rw [digs_big b n hb k (by omega)] at h
              have := congrArg List.length h
              simp at this
              exact digs_ne b _ this
          rw [digs_small b n h1] at h
          simp at h
          rw [h, dval_dig h16 h1]
          simp [h2]
      · rw [if_neg h0]
        constructor
        · intro h
          cases hw2 : wordF b most none v with
          | none => rw [hw2] at h; simp at h
          | some m =>
            rw [hw2] at h
            obtain ⟨e, hm2⟩ := (ih v hv m).1 hw2
            simp only [Option.bind_some] at h
            unfold stepD at h
            cases hd : dval b c with
            | none => rw [hd] at h; simp at h
            | some d =>
              rw [hd] at h
              obtain ⟨h1, h2⟩ := dval_some h16 hd
              simp at h
              obtain ⟨h3, h4, h5⟩ := h
              subst h5
              refine ⟨?_, h4⟩
              have hm1 : 1 ≤ m := by omega
              have hge : b ≤ b * m + d := by
                have := Nat.mul_le_mul_left b hm1
                omega
              rw [digs_big b _ hb hge (by omega), Nat.mul_add_div (by omega), Nat.mul_add_mod, Nat.div_eq_of_lt h1, Nat.mod_eq_of_lt h1, Nat.add_zero, ← e, ← h2]
        · rintro ⟨h, h2⟩
          have h1 : b ≤ n := by
            rcases Nat.lt_or_ge n b with k | k
            · exfalso
              rw [digs_small b n k] at h
              have := congrArg List.length h
              simp at this
              exact h0 this
            · exact k
          rw [digs_big b n hb h1 (by omega)] at h
          obtain ⟨h3, h4⟩ := List.append_inj' h rfl
          have hlt : n % b < b := Nat.mod_lt _ (by omega)
          have hle : n / b ≤ most := Nat.le_trans (Nat.div_le_self _ _) h2
          rw [(ih v hv (n / b)).2 ⟨h3, hle⟩]
          simp at h4
          simp only [Option.bind_some]
          unfold stepD
          rw [h4, dval_dig h16 hlt]
          have hpos : n / b ≠ 0 := by
            have := Nat.div_pos h1 (by omega); omega
          have := Nat.div_add_mod n b
          simp [hpos, this, h2]
  exact ih _ w rfl n
/-- Words as a list: each one read. -/
theorem wordsF_split (b most : Nat) (sign : UInt8) : ∀ (s : Bs) (l : List Nat) (cur : Option Nat) (w0 : Bs) (ws : List Bs), splitC sign s = w0 :: ws →
    wordsF b most sign l cur s = (wordF b most cur w0).bind fun n => (ws.mapM (wordF b most none)).map fun r => l ++ n :: r := by
  intro s
  induction s with
  | nil =>
    intro l cur w0 ws h
    simp [splitC] at h
    obtain ⟨rfl, rfl⟩ := h
    show cur.map _ = _
    cases cur <;> rfl
  | cons c r ih =>
    intro l cur w0 ws h
    show (if c = sign then (match cur with | none => none | some n => wordsF b most sign (l ++ [n]) none r) else match stepD b most cur c with | none => none | some n => wordsF b most sign l (some n) r) = _
    by_cases hc : c = sign
    · subst hc
      rw [show splitC c (c :: r) = [] :: splitC c r from by show (if c = c then [] :: splitC c r else _) = _; rw [if_pos rfl]] at h
      injection h with h1 h2
      subst h1
      rw [if_pos rfl]
      cases cur with
      | none => rfl
      | some n =>
        show wordsF b most c (l ++ [n]) none r = Option.map _ _
        cases hs : splitC c r with
        | nil => exact absurd hs (split_ne _ _)
        | cons x t =>
          rw [ih (l ++ [n]) none x t hs]
          rw [hs] at h2; subst h2
          rw [List.mapM_cons]
          cases wordF b most none x with
          | none => rfl
          | some m =>
            simp only [Option.bind_some]
            cases List.mapM (wordF b most none) t with
            | none => rfl
            | some rr => show some (l ++ [n] ++ m :: rr) = some (l ++ n :: m :: rr); rw [List.append_assoc]; rfl
    · rw [if_neg hc]
      cases hs : splitC sign r with
      | nil => exact absurd hs (split_ne _ _)
      | cons x t =>
        rw [split_cons sign hc hs] at h
        injection h with h1 h2
        subst h1; subst h2
        show _ = Option.bind (match stepD b most cur c with | none => none | some n => wordF b most (some n) x) _
        cases stepD b most cur c with
        | none => rfl
        | some n => exact ih l (some n) x t hs
theorem mapM_digs (b most : Nat) (hb : 2 ≤ b) (h16 : b ≤ 16) (hm : most < b ^ 6) : ∀ (ws : List Bs) (L : List Nat), ws.mapM (wordF b most none) = some L ↔ ws = L.map (digs b) ∧ ∀ n ∈ L, n ≤ most := by
  intro ws
  induction ws with
  | nil => intro L; constructor
           · intro h; have : L = [] := by simpa using h.symm
             subst this; exact ⟨rfl, by simp⟩
           · rintro ⟨h, _⟩; have : L = [] := by simpa using h.symm
             subst this; rfl
  | cons w ws ih =>
    intro L
    rw [List.mapM_cons]
    constructor
    · intro h
      cases hw : wordF b most none w with
      | none => rw [hw] at h; exact absurd h (by simp)
      | some n =>
        rw [hw] at h
        cases hr : ws.mapM (wordF b most none) with
        | none => rw [hr] at h; exact absurd h (by simp)
        | some rr =>
          rw [hr] at h
          have h' : n :: rr = L := by simpa using h
          subst h'
          obtain ⟨e1, e2⟩ := (wordF_iff b most hb h16 hm w n).1 hw
          obtain ⟨e3, e4⟩ := (ih rr).1 hr
          exact ⟨by rw [e1, e3]; rfl, fun k hk => by rcases List.mem_cons.1 hk with rfl | hk; exact e2; exact e4 k hk⟩
    · rintro ⟨h, h2⟩
      cases L with
      | nil => exact absurd h (by simp)
      | cons n rr =>
        injection h with e1 e2
        rw [(wordF_iff b most hb h16 hm w n).2 ⟨e1, h2 n (by simp)⟩, (ih rr).2 ⟨e2, fun k hk => h2 k (by simp [hk])⟩]; rfl
/-- The words of a text are read strictly just if the text is these numbers' digits, the sign between. -/
theorem words_iff (b most : Nat) (sign : UInt8) (hb : 2 ≤ b) (h16 : b ≤ 16) (hm : most < b ^ 6) (hs : sign = 46 ∨ sign = 58) (s : Bs) (L : List Nat) :
    wordsF b most sign [] none s = some L ↔ L ≠ [] ∧ s = joinC sign (L.map (digs b)) ∧ ∀ n ∈ L, n ≤ most := by
  have hM : wordsF b most sign [] none s = (splitC sign s).mapM (wordF b most none) := by
    cases h : splitC sign s with
    | nil => exact absurd h (split_ne _ _)
    | cons x t =>
      rw [wordsF_split b most sign s [] none x t h, List.mapM_cons]
      cases wordF b most none x with
      | none => rfl
      | some n => cases t.mapM (wordF b most none) <;> rfl
  rw [hM, mapM_digs b most hb h16 hm]
  constructor
  · rintro ⟨h1, h2⟩
    refine ⟨fun e => ?_, ?_, h2⟩
    · rw [e] at h1; exact absurd h1 (split_ne _ _)
    · rw [← h1, join_split]
  · rintro ⟨h0, h1, h2⟩
    refine ⟨?_, h2⟩
    rw [h1]
    refine split_join sign _ (by simpa using h0) ?_
    intro w hw
    obtain ⟨n, hn, rfl⟩ := List.mem_map.1 hw
    have := h2 n hn
    exact digs_sign b n hb h16 (by omega) sign hs

/-- ParseUint(s, 16, 16). -/
def low (c : UInt8) : Nat := (c ||| 32).toNat
def hexM (acc : Nat) : Bs → Lib.NumEnd Nat
  | [] => .ok acc
  | c :: r =>
    if 48 ≤ c.toNat ∧ c.toNat ≤ 57 then (if 65535 < acc * 16 + (c.toNat - 48) then .range else hexM (acc * 16 + (c.toNat - 48)) r)
    else if 97 ≤ low c ∧ low c ≤ 102 then (if 65535 < acc * 16 + (low c - 87) then .range else hexM (acc * 16 + (low c - 87)) r)
    else .syntax
def hexU (l : Bs) : Lib.NumEnd Nat := if l = [] then .syntax else hexM 0 l
/-- What 'small' tells: the number, if it is one. -/
def okOf : Lib.NumEnd Nat → Option Nat
  | .ok n => some n
  | _ => none
def small10 (l : Bs) : Option Nat := okOf (Lib.parseUintB 8 l)
def small16 (l : Bs) : Option Nat := okOf (hexU l)
theorem low_dig : ∀ d, d < 16 → 10 ≤ d → low (dig d) = 87 + d := by decide
theorem hexM_dig {acc d : Nat} (h : d < 16) (r : Bs) (ha : acc * 16 + d ≤ 65535) : hexM acc (dig d :: r) = hexM (acc * 16 + d) r := by
  show (if 48 ≤ (dig d).toNat ∧ (dig d).toNat ≤ 57 then (if 65535 < acc * 16 + ((dig d).toNat - 48) then .range else hexM (acc * 16 + ((dig d).toNat - 48)) r)
    else if 97 ≤ low (dig d) ∧ low (dig d) ≤ 102 then (if 65535 < acc * 16 + (low (dig d) - 87) then .range else hexM (acc * 16 + (low (dig d) - 87)) r) else .syntax) = _
  have e := dig_nat h
  by_cases k : d < 10
  · rw [if_pos k] at e
    rw [e, if_pos (by omega), Nat.add_sub_cancel_left, if_neg (by omega)]
  · rw [if_neg k] at e
    rw [e, if_neg (by omega), low_dig d h (by omega), if_pos (by omega), Nat.add_sub_cancel_left, if_neg (by omega)]
theorem hexM_cons (acc : Nat) (c : UInt8) (r : Bs) : hexM acc (c :: r) = if 48 ≤ c.toNat ∧ c.toNat ≤ 57 then (if 65535 < acc * 16 + (c.toNat - 48) then .range else hexM (acc * 16 + (c.toNat - 48)) r)
    else if 97 ≤ low c ∧ low c ≤ 102 then (if 65535 < acc * 16 + (low c - 87) then .range else hexM (acc * 16 + (low c - 87)) r)
    else .syntax := rfl
theorem hexM_append (x : Bs) : ∀ (l : Bs) (a b : Nat), hexM a l = .ok b → hexM a (l ++ x) = hexM b x := by
  intro l
  induction l with
  | nil => intro a b h; have : a = b := by simpa [hexM] using h
           rw [this]; rfl
  | cons c r ih =>
    intro a b h
    rw [List.cons_append, hexM_cons]
    rw [hexM_cons] at h
    split at h
    · rename_i h1
      rw [if_pos h1]
      split at h
      · exact absurd h (by simp)
      · rename_i h2; rw [if_neg h2]; exact ih _ _ h
    · rename_i h1
      rw [if_neg h1]
      split at h
      · rename_i h2
        rw [if_pos h2]
        split at h
        · exact absurd h (by simp)
        · rename_i h3; rw [if_neg h3]; exact ih _ _ h
      · exact absurd h (by simp)
theorem hexU_digs (n : Nat) (h : n ≤ 65535) : hexU (digs 16 n) = .ok n := by
  unfold hexU
  rw [if_neg (digs_ne 16 n)]
  induction n using Nat.strongRecOn with
  | _ n ih =>
    by_cases k : n < 16
    · rw [digs_small 16 n k, hexM_dig k [] (by omega), Nat.zero_mul, Nat.zero_add]; rfl
    · rw [digs_big 16 n (by omega) (by omega) (by omega), hexM_append _ _ _ _ (ih (n / 16) (by omega) (by omega)), hexM_dig (by omega) [] (by omega), Nat.mul_comm, Nat.div_add_mod]; rfl
theorem hexM_le : ∀ (l : Bs) (a b : Nat), a ≤ 65535 → hexM a l = .ok b → b ≤ 65535 := by
  intro l
  induction l with
  | nil => intro a b ha h; have : a = b := by simpa [hexM] using h
           omega
  | cons c r ih =>
    intro a b ha h
    unfold hexM at h
    split at h
    · split at h
      · exact absurd h (by simp)
      · exact ih _ _ (by omega) h
    · split at h
      · split at h
        · exact absurd h (by simp)
        · exact ih _ _ (by omega) h
      · exact absurd h (by simp)
theorem small16_digs (n : Nat) (h : n ≤ 65535) : small16 (digs 16 n) = some n := by unfold small16; rw [hexU_digs n h]; rfl
theorem small16_le {l : Bs} {n : Nat} (h : small16 l = some n) : n ≤ 65535 := by
  unfold small16 hexU at h
  split at h
  · exact absurd h (by simp [okOf])
  · cases hh : hexM 0 l with
    | ok b => rw [hh] at h; have : b = n := Option.some.inj h
              subst this; exact hexM_le l 0 b (by omega) hh
    | «syntax» => rw [hh] at h; exact absurd h (by simp [okOf])
    | range => rw [hh] at h; exact absurd h (by simp [okOf])
theorem pM_le : ∀ (l : Bs) (a b : Nat), a ≤ 255 → Lib.parseUintM 255 a l = .ok b → b ≤ 255 := by
  intro l
  induction l with
  | nil => intro a b ha h; have : a = b := by simpa [Lib.parseUintM] using h
           omega
  | cons c r ih =>
    intro a b ha h
    unfold Lib.parseUintM at h
    split at h
    · split at h
      · exact absurd h (by simp)
      · split at h
        · exact absurd h (by simp)
        · exact ih _ _ (by omega) h
    · exact absurd h (by simp)
theorem small10_le {l : Bs} {n : Nat} (h : small10 l = some n) : n ≤ 255 := by
  unfold small10 Lib.parseUintB at h
  split at h
  · exact absurd h (by simp [okOf])
  · cases hh : Lib.parseUintM (2 ^ 8 - 1) 0 l with
    | ok b => rw [hh] at h; have : b = n := Option.some.inj h
              subst this; exact pM_le l 0 b (by omega) hh
    | «syntax» => rw [hh] at h; exact absurd h (by simp [okOf])
    | range => rw [hh] at h; exact absurd h (by simp [okOf])
theorem small10_digs : ∀ n, n < 256 → small10 (digs 10 n) = some n := by decide +kernel
theorem small10_nil : small10 [] = none := rfl
theorem small16_nil : small16 [] = none := rfl
end Go.Cph.Tx
