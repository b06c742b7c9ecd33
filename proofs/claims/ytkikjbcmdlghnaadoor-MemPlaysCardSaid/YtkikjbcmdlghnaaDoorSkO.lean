/- The order of texts; the links of a skip list, as what they say. No program here. -/
import Derived.Test.YtkikjbcmdlghnaaDoorSkA
set_option linter.unusedVariables false
set_option linter.unusedSimpArgs false
namespace Go.Cph.Skip
open Go.RowKit Go.Cph

/-! ### the order of texts -/
theorem bl_irrefl : ∀ x : List UInt8, Op.bytesLess x x = false
  | [] => rfl
  | a :: x => by simp [Op.bytesLess, bl_irrefl x]
theorem bl_trans : ∀ x y z : List UInt8, Op.bytesLess x y = true → Op.bytesLess y z = true → Op.bytesLess x z = true
  | _, [], z, h, _ => by simp [Op.bytesLess] at h
  | _, _ :: _, [], _, h => by simp [Op.bytesLess] at h
  | [], _ :: _, _ :: _, _, _ => rfl
  | a :: x, b :: y, c :: z, h, k => by
    simp only [Op.bytesLess, Bool.or_eq_true, Bool.and_eq_true, decide_eq_true_eq, beq_iff_eq] at h k ⊢
    rcases h with h | ⟨rfl, h⟩
    · rcases k with k | ⟨rfl, k⟩
      · exact .inl (UInt8.lt_trans h k)
      · exact .inl h
    · rcases k with k | ⟨rfl, k⟩
      · exact .inl k
      · exact .inr ⟨rfl, bl_trans x y z h k⟩
theorem bl_total : ∀ x y : List UInt8, Op.bytesLess x y = false → Op.bytesLess y x = false → x = y
  | [], [], _, _ => rfl
  | [], _ :: _, h, _ => by simp [Op.bytesLess] at h
  | _ :: _, [], _, h => by simp [Op.bytesLess] at h
  | a :: x, b :: y, h, k => by
    simp only [Op.bytesLess, Bool.or_eq_false_iff, Bool.and_eq_false_iff, decide_eq_false_iff_not, beq_eq_false_iff_ne] at h k
    have hab : a = b := by
      have h1 := h.1
      have k1 := k.1
      rw [UInt8.not_lt] at h1 k1
      exact UInt8.le_antisymm k1 h1
    subst hab
    have h2 : Op.bytesLess x y = false := by rcases h.2 with h | h; exact absurd rfl h; exact h
    have k2 : Op.bytesLess y x = false := by rcases k.2 with h | h; exact absurd rfl h; exact h
    rw [bl_total x y h2 k2]
def klt (a b : ByteArray) : Bool := Op.bytesLess a.toList b.toList
theorem toList_inj {a b : ByteArray} (h : a.toList = b.toList) : a = b := by
  rw [ByteArray.toList_eq, ByteArray.toList_eq] at h
  exact ByteArray.ext (Array.ext' h)
theorem klt_irrefl (a : ByteArray) : klt a a = false := bl_irrefl _
theorem klt_trans {a b c : ByteArray} (h : klt a b = true) (k : klt b c = true) : klt a c = true := bl_trans _ _ _ h k
theorem klt_total {a b : ByteArray} (h : klt a b = false) (k : klt b a = false) : a = b := toList_inj (bl_total _ _ h k)
theorem klt_asymm {a b : ByteArray} (h : klt a b = true) : klt b a = false := by
  cases k : klt b a with
  | false => rfl
  | true => have := klt_trans h k; rw [klt_irrefl] at this; exact absurd this (by simp)
/-- From 'not below' to 'below': a ≤ b < c. -/
theorem klt_of_le_lt {a b c : ByteArray} (h : klt b a = false) (k : klt b c = true) : klt a c = true := by
  cases hab : klt a b with
  | true => exact klt_trans hab k
  | false => rw [klt_total hab h]; exact k
theorem klt_of_lt_le {a b c : ByteArray} (h : klt a b = true) (k : klt c b = false) : klt a c = true := by
  cases hbc : klt b c with
  | true => exact klt_trans h hbc
  | false => rw [← klt_total hbc k]; exact h
theorem kle_trans {a b c : ByteArray} (h : klt b a = false) (k : klt c b = false) : klt c a = false := by
  cases hca : klt c a with
  | false => rfl
  | true => have := klt_of_le_lt k hca; rw [h] at this; exact absurd this (by simp)
theorem beq_toList (a b : ByteArray) : (a.toList == b.toList) = decide (a = b) := by
  by_cases h : a = b
  · subst h; simp
  · have : a.toList ≠ b.toList := fun e => h (toList_inj e)
    simp [h, this]

section
variable {α : Type}
/-- Is a key above a place (none: the list's head)? -/
def above : Option ByteArray → ByteArray → Bool
  | none, _ => true
  | some k, x => klt k x
/-- The key of a node (0: the head). -/
def keyNo (nodes : List (Nd α)) : Nat → Option ByteArray
  | 0 => none
  | n + 1 => (nodes[n]?).map (·.key)

/-- m is the node of the least key above a place, of those on a level (0: none). -/
def Nxt (nodes : List (Nd α)) (l : Nat) (lo : Option ByteArray) (m : Nat) : Prop :=
  (m = 0 ∧ ∀ y ∈ nodes, l < y.ht → above lo y.key = false) ∨
  (∃ i, ∃ h : i < nodes.length, m = i + 1 ∧ l < nodes[i].ht ∧ above lo nodes[i].key = true ∧ ∀ y ∈ nodes, l < y.ht → above lo y.key = true → klt y.key nodes[i].key = false)
/-- m is the node of the greatest key below one, of those on a level (0: none). -/
def Prv (nodes : List (Nd α)) (l : Nat) (key : ByteArray) (m : Nat) : Prop :=
  (m = 0 ∧ ∀ y ∈ nodes, l < y.ht → klt y.key key = false) ∨
  (∃ i, ∃ h : i < nodes.length, m = i + 1 ∧ l < nodes[i].ht ∧ klt nodes[i].key key = true ∧ ∀ y ∈ nodes, l < y.ht → klt y.key key = true → klt nodes[i].key y.key = false)
/-- A node of a level, or the head. -/
def On (nodes : List (Nd α)) (l n : Nat) : Prop := n = 0 ∨ ∃ i, ∃ h : i < nodes.length, n = i + 1 ∧ l < nodes[i].ht
/-- What the links of a list say. -/
structure Linked (nodes : List (Nd α)) (nx : Nat → Nat → Nat) : Prop where
  links : ∀ l n, l < 12 → On nodes l n → Nxt nodes l (keyNo nodes n) (nx n l)
  hts : ∀ x ∈ nodes, 1 ≤ x.ht ∧ x.ht ≤ 12
  keys : ∀ i j (hi : i < nodes.length) (hj : j < nodes.length), nodes[i].key = nodes[j].key → i = j

theorem keyNo_succ (nodes : List (Nd α)) (i : Nat) (h : i < nodes.length) : keyNo nodes (i + 1) = some nodes[i].key := by simp [keyNo, h]
theorem On.down {nodes : List (Nd α)} {l n : Nat} (h : On nodes (l + 1) n) : On nodes l n := by
  rcases h with h | ⟨i, hi, h, hl⟩
  · exact .inl h
  · exact .inr ⟨i, hi, h, by omega⟩
theorem Nxt.on {nodes : List (Nd α)} {l m : Nat} {lo : Option ByteArray} (h : Nxt nodes l lo m) : On nodes l m := by
  rcases h with ⟨h, _⟩ | ⟨i, hi, h, hl, _⟩
  · exact .inl h
  · exact .inr ⟨i, hi, h, hl⟩
theorem Prv.on {nodes : List (Nd α)} {l m : Nat} {key : ByteArray} (h : Prv nodes l key m) : On nodes l m := by
  rcases h with ⟨h, _⟩ | ⟨i, hi, h, hl, _⟩
  · exact .inl h
  · exact .inr ⟨i, hi, h, hl⟩

/-- Is a place below a key (the head is)? -/
def under (lo : Option ByteArray) (key : ByteArray) : Bool := match lo with | none => true | some k => klt k key
/-- The walk of a level ends: what lies behind is not below the key. -/
theorem prev_of_next {nodes : List (Nd α)} {l at' n : Nat} {key : ByteArray} (hon : On nodes l at') (hu : under (keyNo nodes at') key = true) (hn : Nxt nodes l (keyNo nodes at') n)
    (hstop : n = 0 ∨ ∃ i, ∃ h : i < nodes.length, n = i + 1 ∧ klt nodes[i].key key = false) : Prv nodes l key at' := by
  have hno : ∀ y ∈ nodes, l < y.ht → above (keyNo nodes at') y.key = true → klt y.key key = false := by
    intro y hy hl ha
    rcases hn with ⟨rfl, h0⟩ | ⟨i, hi, rfl, hli, hai, hle⟩
    · rw [h0 y hy hl] at ha; exact absurd ha (by simp)
    · rcases hstop with h | ⟨i', hi', he, hk⟩
      · omega
      · obtain rfl : i = i' := by omega
        exact kle_trans hk (hle y hy hl ha)
  rcases hon with rfl | ⟨i, hi, rfl, hl⟩
  · exact .inl ⟨rfl, fun y hy hl => hno y hy hl rfl⟩
  · refine .inr ⟨i, hi, rfl, hl, ?_, fun y hy hl hk => ?_⟩
    · rw [keyNo_succ nodes i hi] at hu; exact hu
    · cases ha : klt nodes[i].key y.key with
      | false => rfl
      | true =>
        have := hno y hy hl (by rw [keyNo_succ nodes i hi]; exact ha)
        rw [hk] at this; exact absurd this (by simp)
/-- How many keys lie above a place. -/
def left (nodes : List (Nd α)) (n : Nat) : Nat := nodes.countP fun y => above (keyNo nodes n) y.key
theorem left_lt {nodes : List (Nd α)} {l n m : Nat} (hn : Nxt nodes l (keyNo nodes n) m) (hm : m ≠ 0) : left nodes m < left nodes n := by
  rcases hn with ⟨h, _⟩ | ⟨i, hi, rfl, hl, ha, _⟩
  · exact absurd h hm
  · unfold left
    rw [keyNo_succ nodes i hi]
    have hsub : ∀ y : Nd α, above (some nodes[i].key) y.key = true → above (keyNo nodes n) y.key = true := by
      intro y hy
      cases hk : keyNo nodes n with
      | none => rfl
      | some k => rw [hk] at ha; exact klt_trans ha hy
    have hle : nodes.countP (fun y => above (some nodes[i].key) y.key) ≤ (nodes.countP fun y => above (keyNo nodes n) y.key && !(decide (y.key = nodes[i].key))) := by
      refine List.countP_mono_left fun y _ hy => ?_
      have h2 : y.key ≠ nodes[i].key := fun e => by rw [e] at hy; simp [above, klt_irrefl] at hy
      simp [hsub y hy, h2]
    refine Nat.lt_of_le_of_lt hle ?_
    rw [List.countP_eq_length_filter, List.countP_eq_length_filter]
    have hss : List.Sublist (nodes.filter fun y => above (keyNo nodes n) y.key && !(decide (y.key = nodes[i].key))) (nodes.filter fun y => above (keyNo nodes n) y.key) := by
      have : (nodes.filter fun y => above (keyNo nodes n) y.key && !(decide (y.key = nodes[i].key))) = ((nodes.filter fun y => above (keyNo nodes n) y.key).filter fun y => !(decide (y.key = nodes[i].key))) := by
        rw [List.filter_filter]
        exact List.filter_congr fun y _ => Bool.and_comm _ _
      rw [this]
      exact List.filter_sublist
    rcases Nat.lt_or_ge (nodes.filter fun y => above (keyNo nodes n) y.key && !(decide (y.key = nodes[i].key))).length (nodes.filter fun y => above (keyNo nodes n) y.key).length with h | h
    · exact h
    · have he := hss.eq_of_length_le h
      have hin : nodes[i] ∈ (nodes.filter fun y => above (keyNo nodes n) y.key) := List.mem_filter.2 ⟨List.getElem_mem hi, ha⟩
      rw [← he] at hin
      have := (List.mem_filter.1 hin).2
      simp at this

/-- The node of the least key that is not below one (0: none). -/
def Seek (nodes : List (Nd α)) (key : ByteArray) (m : Nat) : Prop :=
  (m = 0 ∧ ∀ y ∈ nodes, klt y.key key = true) ∨
  (∃ i, ∃ h : i < nodes.length, m = i + 1 ∧ klt nodes[i].key key = false ∧ ∀ y ∈ nodes, klt y.key key = false → klt y.key nodes[i].key = false)
theorem seek_of_prev {nodes : List (Nd α)} {nx : Nat → Nat → Nat} (hl : Linked nodes nx) {key : ByteArray} {at' n : Nat} (hp : Prv nodes 0 key at') (hn : Nxt nodes 0 (keyNo nodes at') n) : Seek nodes key n := by
  have hgo : ∀ y ∈ nodes, klt y.key key = false → above (keyNo nodes at') y.key = true := by
    intro y hy hk
    rcases hp with ⟨rfl, _⟩ | ⟨i, hi, rfl, _, hik, _⟩
    · rfl
    · rw [keyNo_succ nodes i hi]; exact klt_of_lt_le hik hk
  have hno : ∀ y ∈ nodes, above (keyNo nodes at') y.key = true → klt y.key key = false := by
    intro y hy ha
    have h0 := (hl.hts y hy).1
    rcases hp with ⟨rfl, h⟩ | ⟨i, hi, rfl, _, hik, hle⟩
    · exact h y hy (by omega)
    · rw [keyNo_succ nodes i hi] at ha
      cases hk : klt y.key key with
      | false => rfl
      | true => have := hle y hy (by omega) hk; rw [show klt nodes[i].key y.key = true from ha] at this; exact absurd this (by simp)
  rcases hn with ⟨rfl, h⟩ | ⟨i, hi, rfl, _, hai, hle⟩
  · refine .inl ⟨rfl, fun y hy => ?_⟩
    cases hk : klt y.key key with
    | true => rfl
    | false => have := h y hy (by have := (hl.hts y hy).1; omega); rw [hgo y hy hk] at this; exact absurd this (by simp)
  · exact .inr ⟨i, hi, rfl, hno _ (List.getElem_mem hi) hai, fun y hy hk => hle y hy (by have := (hl.hts y hy).1; omega) (hgo y hy hk)⟩
end
end Go.Cph.Skip
