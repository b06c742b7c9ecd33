/- Keys of numbers and texts: their order, plainly. No program here. -/
import Derived.Test.YtkikjbcmdlghnaaDoorOx2
import Derived.Test.YtkikjbcmdlghnaaDoorSkO
set_option linter.unusedVariables false
namespace Go.Cph.Ok
open Go Go.RowKit Go.Cph Go.Cph.Skip

/-- Ahead at a byte. -/
def Apart (xs ys : Bs) : Prop := ∃ p a b xs' ys', xs = p ++ a :: xs' ∧ ys = p ++ b :: ys' ∧ a < b
theorem Apart.head {a b : UInt8} (h : a < b) (xs ys : Bs) : Apart (a :: xs) (b :: ys) := ⟨[], a, b, xs, ys, rfl, rfl, h⟩
theorem Apart.pre {xs ys : Bs} (h : Apart xs ys) (p : Bs) : Apart (p ++ xs) (p ++ ys) := by
  obtain ⟨q, a, b, xs', ys', rfl, rfl, hl⟩ := h
  exact ⟨p ++ q, a, b, xs', ys', by rw [List.append_assoc], by rw [List.append_assoc], hl⟩
theorem Apart.cons {xs ys : Bs} (h : Apart xs ys) (c : UInt8) : Apart (c :: xs) (c :: ys) := h.pre [c]
theorem Apart.app {xs ys : Bs} (h : Apart xs ys) (u v : Bs) : Apart (xs ++ u) (ys ++ v) := by
  obtain ⟨q, a, b, xs', ys', rfl, rfl, hl⟩ := h
  exact ⟨q, a, b, xs' ++ u, ys' ++ v, by simp, by simp, hl⟩
theorem bl_pre (p x y : Bs) : Op.bytesLess (p ++ x) (p ++ y) = Op.bytesLess x y := by
  induction p with
  | nil => rfl
  | cons c p ih => show Op.bytesLess (c :: (p ++ x)) (c :: (p ++ y)) = _; simp [Op.bytesLess, ih]
theorem Apart.less {xs ys : Bs} (h : Apart xs ys) : Op.bytesLess xs ys = true := by
  obtain ⟨q, a, b, xs', ys', rfl, rfl, hl⟩ := h
  rw [bl_pre]
  simp [Op.bytesLess, hl]
theorem bl_asymm {x y : Bs} (h : Op.bytesLess x y = true) : Op.bytesLess y x = false := by
  cases k : Op.bytesLess y x with
  | false => rfl
  | true => have := bl_trans _ _ _ h k; rw [bl_irrefl] at this; cases this
theorem Apart.prefix_not {xs ys : Bs} (h : Apart xs ys) : xs.isPrefixOf ys = false ∧ ys.isPrefixOf xs = false := by
  obtain ⟨q, a, b, xs', ys', rfl, rfl, hl⟩ := h
  have hne : a ≠ b := fun e => by subst e; exact absurd hl (UInt8.lt_irrefl _)
  constructor
  · rw [Bool.eq_false_iff]
    intro hc
    rw [List.isPrefixOf_iff_prefix, List.prefix_append_right_inj, List.cons_prefix_cons] at hc
    exact hne hc.1
  · rw [Bool.eq_false_iff]
    intro hc
    rw [List.isPrefixOf_iff_prefix, List.prefix_append_right_inj, List.cons_prefix_cons] at hc
    exact hne hc.1.symm
/-- What is below: at a byte, or the beginning. -/
theorem bl_cases : ∀ {x y : Bs}, Op.bytesLess x y = true → Apart x y ∨ ∃ c r, y = x ++ c :: r
  | _, [], h => by simp [Op.bytesLess] at h
  | [], c :: r, _ => Or.inr ⟨c, r, rfl⟩
  | a :: x, b :: y, h => by
    simp only [Op.bytesLess, Bool.or_eq_true, Bool.and_eq_true, decide_eq_true_eq, beq_iff_eq] at h
    rcases h with h | ⟨rfl, h⟩
    · exact Or.inl (Apart.head h _ _)
    · rcases bl_cases h with k | ⟨c, r, rfl⟩
      · exact Or.inl (k.cons a)
      · exact Or.inr ⟨c, r, rfl⟩
theorem bl_nil_cons (c : UInt8) (r : Bs) : Op.bytesLess [] (c :: r) = true := rfl
theorem bl_longer (x : Bs) (c : UInt8) (r : Bs) : Op.bytesLess x (x ++ c :: r) = true := by
  have := bl_pre x [] (c :: r)
  rw [List.append_nil] at this
  rw [this]; rfl

/-! ### numbers -/
theorem u8_lt {a b : Nat} (ha : a < 256) (hb : b < 256) (h : a < b) : UInt8.ofNat a < UInt8.ofNat b := by
  rw [UInt8.lt_iff_toNat_lt, ofNat_toNat, ofNat_toNat, Nat.mod_eq_of_lt ha, Nat.mod_eq_of_lt hb]; exact h
theorem be_apart : ∀ (k m n : Nat), m < n → n < 256 ^ k → Apart (be k m) (be k n)
  | 0, m, n, h, hn => by simp at hn; omega
  | k + 1, m, n, h, hn => by
    have hp : 0 < 256 ^ k := Nat.pow_pos (by omega)
    have hmq : m / 256 ^ k < 256 := by rw [Nat.div_lt_iff_lt_mul hp]; rw [Nat.pow_succ, Nat.mul_comm] at hn; omega
    have hnq : n / 256 ^ k < 256 := by rw [Nat.div_lt_iff_lt_mul hp]; rw [Nat.pow_succ, Nat.mul_comm] at hn; omega
    have hle : m / 256 ^ k ≤ n / 256 ^ k := Nat.div_le_div_right (by omega)
    rcases Nat.lt_or_ge (m / 256 ^ k) (n / 256 ^ k) with hl | hg
    · exact Apart.head (u8_lt hmq hnq hl) _ _
    · have he : m / 256 ^ k = n / 256 ^ k := by omega
      have h1 := Nat.div_add_mod m (256 ^ k)
      have h2 := Nat.div_add_mod n (256 ^ k)
      have ih := be_apart k (m % 256 ^ k) (n % 256 ^ k) (by rw [he] at h1; omega) (Nat.mod_lt _ hp)
      show Apart (UInt8.ofNat (m / 256 ^ k) :: be k m) (UInt8.ofNat (n / 256 ^ k) :: be k n)
      rw [he, ← be_mod k m, ← be_mod k n]
      exact ih.cons _
where
  be_mod : ∀ (k n : Nat), be k (n % 256 ^ k) = be k n
    | 0, n => rfl
    | k + 1, n => by
      show UInt8.ofNat (n % 256 ^ (k + 1) / 256 ^ k) :: be k (n % 256 ^ (k + 1)) = UInt8.ofNat (n / 256 ^ k) :: be k n
      have h1 : n % 256 ^ (k + 1) / 256 ^ k = n / 256 ^ k % 256 := by rw [Nat.pow_succ, Nat.mod_mul_right_div_self]
      have h2 : be k (n % 256 ^ (k + 1)) = be k n := by
        rw [← be_mod k (n % 256 ^ (k + 1)), Nat.pow_succ, Nat.mod_mul_right_mod, be_mod k n]
      rw [h1, h2]
      congr 1
      apply UInt8.toNat_inj.1
      rw [ofNat_toNat, ofNat_toNat, Nat.mod_mod]
theorem row_apart {m n : Nat} (h : m < n) (hn : n < 18446744073709551616) : Apart (row m) (row n) := by
  have h8 := blen_8 hn
  unfold row
  by_cases h1 : n < 248
  · rw [if_pos h1, if_pos (by omega)]
    exact Apart.head (u8_lt (by omega) (by omega) h) _ _
  · have hb := blen_1 (n := n) (by omega)
    rw [if_neg h1]
    by_cases h2 : m < 248
    · rw [if_pos h2]
      exact Apart.head (u8_lt (by omega) (by omega) (by omega)) _ _
    · rw [if_neg h2]
      have hm := blen_1 (n := m) (by omega)
      have hle : blen m ≤ blen n := by
        refine blen_le ?_
        exact Nat.lt_trans h (blen_lt n)
      rcases Nat.lt_or_ge (blen m) (blen n) with hl | hg
      · exact Apart.head (u8_lt (by omega) (by omega) (by omega)) _ _
      · have he : blen m = blen n := by omega
        rw [he]
        exact (be_apart _ _ _ h (blen_lt n)).cons _

/-! ### texts -/
theorem u8_pos {c : UInt8} (h : c ≠ 0) : (0 : UInt8) < c := by
  rw [UInt8.lt_iff_toNat_lt]
  have : c.toNat ≠ 0 := fun e => h (UInt8.toNat_inj.1 e)
  show 0 < c.toNat
  omega
theorem esc_apart : ∀ (s t : Bs), Op.bytesLess s t = true → Apart (esc s ++ [0, 1]) (esc t ++ [0, 1])
  | _, [], h => by simp [Op.bytesLess] at h
  | [], c :: t, _ => by
    rw [esc_cons]
    by_cases hc : c = 0
    · rw [if_pos hc]
      exact (Apart.head (a := 1) (b := 255) (by decide) [] (esc t ++ [0, 1])).cons 0
    · rw [if_neg hc]
      exact Apart.head (u8_pos hc) [1] (esc t ++ [0, 1])
  | a :: s, b :: t, h => by
    simp only [Op.bytesLess, Bool.or_eq_true, Bool.and_eq_true, decide_eq_true_eq, beq_iff_eq] at h
    rcases h with h | ⟨rfl, h⟩
    · have hb : b ≠ 0 := fun e => by
        subst e
        rw [UInt8.lt_iff_toNat_lt] at h
        exact absurd h (Nat.not_lt_zero _)
      rw [esc_cons, esc_cons, if_neg hb]
      by_cases ha : a = 0
      · rw [if_pos ha]
        exact Apart.head (u8_pos hb) (255 :: (esc s ++ [0, 1])) (esc t ++ [0, 1])
      · rw [if_neg ha]
        exact Apart.head h (esc s ++ [0, 1]) (esc t ++ [0, 1])
    · rw [esc_cons, esc_cons, List.append_assoc, List.append_assoc]
      exact (esc_apart s t h).pre _

/-! ### parts, and lists of them -/
def bless (a b : ByteArray) : Bool := Op.bytesLess a.data.toList b.data.toList
theorem bless_total {a b : ByteArray} (h : bless a b = false) (k : bless b a = false) : a = b := by
  have := bl_total _ _ h k
  cases a; cases b
  congr 1
  exact Array.ext' this
/-- Is a part ahead of another one? -/
def aheadP (a b : Pt) : Bool := if a.text != b.text then b.text else if a.text then bless a.s b.s else decide (a.n.toNat < b.n.toNat)
theorem ahead_apart {a b : Pt} (h : aheadP a b = true) : Apart (bytes a) (bytes b) := by
  obtain ⟨t, s, n⟩ := a
  obtain ⟨u, v, m⟩ := b
  cases t <;> cases u
  · have h : n.toNat < m.toNat := of_decide_eq_true h
    exact (row_apart h m.toNat_lt).cons 1
  · exact Apart.head (by decide) _ _
  · cases h
  · have h : bless s v = true := h
    exact (esc_apart _ _ h).cons 2
theorem ahead_same {a b : Pt} (h : aheadP a b = false) (k : aheadP b a = false) : plainP a = plainP b := by
  obtain ⟨t, s, n⟩ := a
  obtain ⟨u, v, m⟩ := b
  cases t <;> cases u
  · have h : ¬ n.toNat < m.toNat := of_decide_eq_false h
    have k : ¬ m.toNat < n.toNat := of_decide_eq_false k
    have e : n = m := UInt64.toNat_inj.1 (by omega)
    rw [e]; rfl
  · cases h
  · cases k
  · have h : bless s v = false := h
    have k : bless v s = false := k
    rw [bless_total h k]; rfl
theorem ahead_irrefl (a : Pt) : aheadP a a = false := by
  obtain ⟨t, s, n⟩ := a
  cases t
  · show decide (n.toNat < n.toNat) = false
    simp
  · exact bl_irrefl _
/-- How two lists stand: -1, 0, 1. -/
def cmpL : List Pt → List Pt → Int
  | [], [] => 0
  | [], _ :: _ => -1
  | _ :: _, [] => 1
  | a :: x, b :: y => if aheadP a b then -1 else if aheadP b a then 1 else cmpL x y
/-- What a key tells of two lists. -/
theorem key_cases : ∀ (x y : List Pt), (cmpL x y = -1 ∧ (Apart (key x) (key y) ∨ ∃ c r, y.map plainP = x.map plainP ++ c :: r)) ∨
    (cmpL x y = 1 ∧ (Apart (key y) (key x) ∨ ∃ c r, x.map plainP = y.map plainP ++ c :: r)) ∨ (cmpL x y = 0 ∧ x.map plainP = y.map plainP)
  | [], [] => Or.inr (Or.inr ⟨rfl, rfl⟩)
  | [], b :: y => Or.inl ⟨rfl, Or.inr ⟨_, _, rfl⟩⟩
  | a :: x, [] => Or.inr (Or.inl ⟨rfl, Or.inr ⟨_, _, rfl⟩⟩)
  | a :: x, b :: y => by
    by_cases h : aheadP a b = true
    · refine Or.inl ⟨by rw [cmpL, if_pos h], Or.inl ?_⟩
      exact (ahead_apart h).app _ _
    · by_cases k : aheadP b a = true
      · refine Or.inr (Or.inl ⟨by rw [cmpL, if_neg h, if_pos k], Or.inl ?_⟩)
        exact (ahead_apart k).app _ _
      · have he := ahead_same (by simpa using h) (by simpa using k)
        have hb : bytes a = bytes b := by rw [← bytes_plain a, he, bytes_plain]
        have hc : cmpL (a :: x) (b :: y) = cmpL x y := by rw [cmpL, if_neg h, if_neg k]
        rw [hc]
        rcases key_cases x y with ⟨h1, h2⟩ | ⟨h1, h2⟩ | ⟨h1, h2⟩
        · refine Or.inl ⟨h1, ?_⟩
          rcases h2 with h2 | ⟨c, r, h2⟩
          · refine Or.inl ?_
            rw [key_cons, key_cons, hb]
            exact h2.pre _
          · exact Or.inr ⟨c, r, by rw [List.map_cons, List.map_cons, h2, he]; rfl⟩
        · refine Or.inr (Or.inl ⟨h1, ?_⟩)
          rcases h2 with h2 | ⟨c, r, h2⟩
          · refine Or.inl ?_
            rw [key_cons, key_cons, hb]
            exact h2.pre _
          · exact Or.inr ⟨c, r, by rw [List.map_cons, List.map_cons, h2, he]; rfl⟩
        · exact Or.inr (Or.inr ⟨h1, by rw [List.map_cons, List.map_cons, h2, he]⟩)
theorem key_longer {x y : List Pt} {c : Pt} {r : List Pt} (h : y.map plainP = x.map plainP ++ c :: r) : ∃ d s, key y = key x ++ d :: s ∧ d < 3 := by
  have h1 : key y = key x ++ key (c :: r) := by rw [← key_plain y, h, key_append, key_plain]
  rw [h1, key_cons]
  unfold bytes
  split
  · exact ⟨2, _, rfl, by decide⟩
  · exact ⟨1, _, rfl, by decide⟩
/-- Keys stand as their lists do. -/
theorem key_less (x y : List Pt) : Op.bytesLess (key x) (key y) = decide (cmpL x y = -1) := by
  rcases key_cases x y with ⟨h1, h2⟩ | ⟨h1, h2⟩ | ⟨h1, h2⟩
  · rw [h1]
    rcases h2 with h2 | ⟨c, r, h2⟩
    · rw [h2.less]; rfl
    · obtain ⟨d, s, e, -⟩ := key_longer h2
      rw [e, bl_longer]; rfl
  · rw [h1]
    rcases h2 with h2 | ⟨c, r, h2⟩
    · rw [bl_asymm h2.less]; rfl
    · obtain ⟨d, s, e, -⟩ := key_longer h2
      rw [e, bl_asymm (bl_longer _ _ _)]; rfl
  · rw [h1, ← key_plain x, h2, key_plain, bl_irrefl]; rfl
theorem cmp_flip : ∀ (x y : List Pt), cmpL y x = - cmpL x y
  | [], [] => rfl
  | [], _ :: _ => rfl
  | _ :: _, [] => rfl
  | a :: x, b :: y => by
    have ih := cmp_flip x y
    rw [cmpL, cmpL]
    by_cases h : aheadP a b = true
    · have k : ¬ aheadP b a = true := fun k => by
        have h1 := bl_asymm (ahead_apart h).less
        rw [(ahead_apart k).less] at h1; cases h1
      simp [h, k]
    · by_cases k : aheadP b a = true
      · simp [h, k]
      · simp [h, k, ih]
theorem cmp_one (x y : List Pt) : cmpL x y = -1 ∨ cmpL x y = 0 ∨ cmpL x y = 1 := by
  rcases key_cases x y with ⟨h, -⟩ | ⟨h, -⟩ | ⟨h, -⟩
  · exact Or.inl h
  · exact Or.inr (Or.inr h)
  · exact Or.inr (Or.inl h)
/-- A key is the beginning of another one just if its list is. -/
theorem key_begins (x y : List Pt) : (key x).isPrefixOf (key y) = true ↔ ∃ r, y.map plainP = x.map plainP ++ r := by
  constructor
  · intro h
    rcases key_cases x y with ⟨-, h2⟩ | ⟨-, h2⟩ | ⟨-, h2⟩
    · rcases h2 with h2 | ⟨c, r, h2⟩
      · rw [h2.prefix_not.1] at h; cases h
      · exact ⟨_, h2⟩
    · rcases h2 with h2 | ⟨c, r, h2⟩
      · rw [h2.prefix_not.2] at h; cases h
      · obtain ⟨d, s, e, -⟩ := key_longer h2
        rw [List.isPrefixOf_iff_prefix] at h
        have := h.length_le
        rw [e, List.length_append, List.length_cons] at this
        omega
    · exact ⟨[], by rw [List.append_nil, h2]⟩
  · rintro ⟨r, h⟩
    rw [List.isPrefixOf_iff_prefix, ← key_plain y, h, key_append, key_plain]
    exact List.prefix_append _ _
/-- The range of those that begin with a list. -/
theorem key_range (x y : List Pt) : ((!Op.bytesLess (key y) (key x)) && Op.bytesLess (key y) (key x ++ [3])) = (key x).isPrefixOf (key y) := by
  rcases key_cases x y with ⟨h1, h2⟩ | ⟨h1, h2⟩ | ⟨h1, h2⟩
  · rcases h2 with h2 | ⟨c, r, h2⟩
    · rw [h2.prefix_not.1, bl_asymm h2.less]
      have := (h2.app [3] []).less
      rw [List.append_nil] at this
      rw [bl_asymm this]; rfl
    · obtain ⟨d, s, e, hd⟩ := key_longer h2
      have h3 : (key x).isPrefixOf (key y) = true := (key_begins x y).2 ⟨_, h2⟩
      rw [h3, e, bl_asymm (bl_longer _ _ _), bl_pre]
      simp [Op.bytesLess, hd]
  · rcases h2 with h2 | ⟨c, r, h2⟩
    · rw [h2.prefix_not.2, h2.less]; rfl
    · obtain ⟨d, s, e, hd⟩ := key_longer h2
      have h3 : (key x).isPrefixOf (key y) = false := by
        rw [Bool.eq_false_iff]
        intro h
        rw [List.isPrefixOf_iff_prefix] at h
        have := h.length_le
        rw [e, List.length_append, List.length_cons] at this
        omega
      rw [h3, e, bl_longer]; rfl
  · have e : key y = key x := by rw [← key_plain y, ← h2, key_plain]
    have h3 : (key x).isPrefixOf (key x) = true := by rw [List.isPrefixOf_iff_prefix]; exact List.prefix_refl _
    rw [e, h3, bl_irrefl, bl_longer (key x) 3 []]; rfl
end Go.Cph.Ok
