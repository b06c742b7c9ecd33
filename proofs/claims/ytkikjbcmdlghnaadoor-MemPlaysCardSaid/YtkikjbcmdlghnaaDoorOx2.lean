/- Keys of numbers and texts: parts, and what is read of a key, plainly. No program here. -/
import Derived.Test.YtkikjbcmdlghnaaDoorOx1
set_option linter.unusedVariables false
namespace Go.Cph.Ok
open Go Go.RowKit Go.Cph

/-- A part: a number, or a text. -/
structure Pt where
  text : Bool
  s : ByteArray
  n : UInt64
def esc (s : Bs) : Bs := s.flatMap fun b => if b = 0 then [0, 255] else [b]
def bytes (p : Pt) : Bs := if p.text then 2 :: (esc p.s.data.toList ++ [0, 1]) else 1 :: row p.n.toNat
def key (l : List Pt) : Bs := l.flatMap bytes
def ofBs (l : Bs) : ByteArray := ⟨l.toArray⟩
theorem ofBs_list (l : Bs) : (ofBs l).data.toList = l := rfl
theorem ofBs_data (s : ByteArray) : ofBs s.data.toList = s := by cases s; rfl
/-- A part without what is no matter. -/
def plainP (p : Pt) : Pt := if p.text then ⟨true, p.s, 0⟩ else ⟨false, ByteArray.empty, p.n⟩
theorem bytes_plain (p : Pt) : bytes (plainP p) = bytes p := by
  obtain ⟨t, s, n⟩ := p
  cases t <;> rfl
theorem plain_plain (p : Pt) : plainP (plainP p) = plainP p := by
  obtain ⟨t, s, n⟩ := p
  cases t <;> rfl
theorem key_plain (l : List Pt) : key (l.map plainP) = key l := by
  induction l with
  | nil => rfl
  | cons p l ih =>
    show bytes (plainP p) ++ key (l.map plainP) = bytes p ++ key l
    rw [ih, bytes_plain]
theorem key_cons (p : Pt) (l : List Pt) : key (p :: l) = bytes p ++ key l := rfl
theorem key_append (l m : List Pt) : key (l ++ m) = key l ++ key m := List.flatMap_append
theorem esc_cons (b : UInt8) (s : Bs) : esc (b :: s) = (if b = 0 then [0, 255] else [b]) ++ esc s := rfl
theorem esc_append (s t : Bs) : esc (s ++ t) = esc s ++ esc t := List.flatMap_append
theorem bytes_pos (p : Pt) : 0 < (bytes p).length := by unfold bytes; split <;> simp

/-- A text, read behind its first byte: it, and what is behind it. -/
def readText : Bs → Option (Bs × Bs)
  | [] => none
  | [c] => none
  | c :: d :: r => if c = 0 then (if d = 1 then some ([], r) else if d = 255 then (readText r).map fun x => (0 :: x.1, x.2) else none)
    else (readText (d :: r)).map fun x => (c :: x.1, x.2)
theorem read_text : ∀ (s x : Bs), readText (esc s ++ 0 :: 1 :: x) = some (s, x)
  | [], x => rfl
  | b :: s, x => by
    have ih := read_text s x
    rw [esc_cons]
    by_cases hb : b = 0
    · subst hb
      show readText (0 :: 255 :: (esc s ++ 0 :: 1 :: x)) = _
      rw [readText, if_pos rfl, if_neg (by decide), if_pos rfl, ih]; rfl
    · rw [if_neg hb]
      show readText (b :: (esc s ++ 0 :: 1 :: x)) = _
      cases hs : esc s ++ 0 :: 1 :: x with
      | nil => simp at hs
      | cons d r => rw [readText, if_neg hb, ← hs, ih]; rfl
theorem text_read : ∀ (k : Nat) (s t r : Bs), s.length ≤ k → readText s = some (t, r) → s = esc t ++ 0 :: 1 :: r
  | _, [], t, r, _, h => by cases h
  | _, [c], t, r, _, h => by cases h
  | 0, c :: d :: r', t, r, hk, h => by simp at hk
  | k + 1, c :: d :: r', t, r, hk, h => by
    rw [readText] at h
    split at h
    · rename_i hc
      split at h
      · rename_i hd
        injection h with h
        injection h with h1 h2
        subst h1 h2 hc hd
        rfl
      · split at h
        · rename_i hd
          cases hr : readText r' with
          | none => rw [hr] at h; cases h
          | some x =>
            rw [hr] at h
            injection h with h
            injection h with h1 h2
            have ih := text_read k r' x.1 x.2 (by simp at hk; omega) hr
            subst h1 h2 hc hd
            show _ = esc (0 :: x.1) ++ _
            rw [esc_cons, if_pos rfl]
            show (0 : UInt8) :: 255 :: r' = 0 :: 255 :: (esc x.1 ++ 0 :: 1 :: x.2)
            rw [← ih]
        · cases h
    · rename_i hc
      cases hr : readText (d :: r') with
      | none => rw [hr] at h; cases h
      | some x =>
        rw [hr] at h
        injection h with h
        injection h with h1 h2
        have ih := text_read k (d :: r') x.1 x.2 (by simp at hk ⊢; omega) hr
        subst h1 h2
        show _ = esc (c :: x.1) ++ _
        rw [esc_cons, if_neg hc]
        show c :: d :: r' = c :: (esc x.1 ++ 0 :: 1 :: x.2)
        rw [← ih]
/-- A part, and what is behind it. -/
def readPart : Bs → Option (Pt × Bs)
  | [] => none
  | c :: t => if c = 1 then (readRow t).map fun x => (⟨false, ByteArray.empty, UInt64.ofNat x.1⟩, t.drop x.2)
    else if c = 2 then (readText t).map fun x => (⟨true, ofBs x.1, 0⟩, x.2) else none
theorem readPart_cons (c : UInt8) (t : Bs) : readPart (c :: t) = if c = 1 then (readRow t).map fun x => (⟨false, ByteArray.empty, UInt64.ofNat x.1⟩, t.drop x.2)
    else if c = 2 then (readText t).map fun x => (⟨true, ofBs x.1, 0⟩, x.2) else none := rfl
theorem read_part (p : Pt) (x : Bs) : readPart (bytes p ++ x) = some (plainP p, x) := by
  obtain ⟨t, s, n⟩ := p
  cases t with
  | false =>
    show readPart (1 :: (row n.toNat ++ x)) = _
    rw [readPart, if_pos rfl, read_row n.toNat_lt]
    show some (_, List.drop (row n.toNat).length (row n.toNat ++ x)) = _
    rw [List.drop_left]
    show some ((⟨false, ByteArray.empty, UInt64.ofNat n.toNat⟩ : Pt), x) = some ((⟨false, ByteArray.empty, n⟩ : Pt), x)
    rw [UInt64.ofNat_toNat]
  | true =>
    show readPart (2 :: ((esc s.data.toList ++ [0, 1]) ++ x)) = _
    rw [readPart, if_neg (by decide), if_pos rfl, List.append_assoc]
    show (readText (esc s.data.toList ++ 0 :: 1 :: x)).map _ = _
    rw [read_text]
    show some ((⟨true, ofBs s.data.toList, 0⟩ : Pt), x) = _
    rw [ofBs_data]; rfl
theorem part_read {s r : Bs} {p : Pt} (h : readPart s = some (p, r)) : s = bytes p ++ r ∧ plainP p = p := by
  cases s with
  | nil => cases h
  | cons c t =>
    rw [readPart_cons] at h
    split at h
    · rename_i hc
      cases hr : readRow t with
      | none => rw [hr] at h; cases h
      | some x =>
        obtain ⟨n, k⟩ := x
        rw [hr] at h
        injection h with h
        injection h with h1 h2
        obtain ⟨h3, h4, h5, h6⟩ := row_read hr
        subst h1 h2 hc
        refine ⟨?_, rfl⟩
        show (1 : UInt8) :: t = 1 :: (row (UInt64.ofNat n).toNat ++ t.drop k)
        rw [UInt64.toNat_ofNat', Nat.mod_eq_of_lt h6, ← h5, List.take_append_drop]
    · split at h
      · rename_i hc
        cases hr : readText t with
        | none => rw [hr] at h; cases h
        | some x =>
          rw [hr] at h
          injection h with h
          injection h with h1 h2
          have h3 := text_read t.length t x.1 x.2 (Nat.le_refl _) hr
          subst h1 h2 hc
          refine ⟨?_, rfl⟩
          show (2 : UInt8) :: t = 2 :: ((esc x.1 ++ [0, 1]) ++ x.2)
          rw [List.append_assoc]
          show _ = 2 :: (esc x.1 ++ 0 :: 1 :: x.2)
          rw [← h3]
      · cases h
theorem part_less {s r : Bs} {p : Pt} (h : readPart s = some (p, r)) : r.length < s.length := by
  rw [(part_read h).1, List.length_append]
  have := bytes_pos p
  omega
/-- What is read of a key. -/
def parts (s : Bs) : Option (List Pt) :=
  if s = [] then some [] else
  match h : readPart s with
  | none => none
  | some (p, r) => (parts r).map (p :: ·)
termination_by s.length
decreasing_by exact part_less h
theorem parts_nil : parts [] = some [] := by rw [parts, if_pos rfl]
theorem parts_none {s : Bs} (h0 : s ≠ []) (h : readPart s = none) : parts s = none := by
  rw [parts, if_neg h0]
  split
  · rfl
  · rename_i p r h2; rw [h] at h2; cases h2
theorem parts_some {s r : Bs} {p : Pt} (h0 : s ≠ []) (h : readPart s = some (p, r)) : parts s = (parts r).map (p :: ·) := by
  rw [parts, if_neg h0]
  split
  · rename_i h2; rw [h] at h2; cases h2
  · rename_i p' r' h2
    rw [h] at h2
    injection h2 with h2
    injection h2 with h3 h4
    subst h3 h4
    rfl
theorem parts_key (l : List Pt) : parts (key l) = some (l.map plainP) := by
  induction l with
  | nil => exact parts_nil
  | cons p l ih =>
    have hp := read_part p (key l)
    rw [key_cons]
    rw [parts_some (fun e => by have h1 := bytes_pos p; have h2 := congrArg List.length e; rw [List.length_append, List.length_nil] at h2; omega) hp, ih]
    rfl
theorem key_parts : ∀ (k : Nat) (s : Bs) (l : List Pt), s.length ≤ k → parts s = some l → key l = s ∧ l.map plainP = l
  | _, [], l, _, h => by
    rw [parts_nil] at h
    injection h with h
    subst h
    exact ⟨rfl, rfl⟩
  | 0, c :: t, l, hk, h => by simp at hk
  | k + 1, c :: t, l, hk, h => by
    cases hr : readPart (c :: t) with
    | none => rw [parts_none (by simp) hr] at h; cases h
    | some x =>
      obtain ⟨p, r⟩ := x
      rw [parts_some (by simp) hr] at h
      cases hp : parts r with
      | none => rw [hp] at h; cases h
      | some m =>
        rw [hp] at h
        injection h with h
        subst h
        have h1 := part_read hr
        have h2 := part_less hr
        obtain ⟨h3, h4⟩ := key_parts k r m (by omega) hp
        refine ⟨?_, ?_⟩
        · rw [key_cons, h3, ← h1.1]
        · rw [List.map_cons, h1.2, h4]
end Go.Cph.Ok
