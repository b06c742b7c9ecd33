/- The document's Parse of prefixes, plainly. No program in sight. -/
import Derived.Test.YtmjjhnfdpiclfaaGreatDoorCp5
set_option linter.unusedVariables false
set_option linter.unusedSimpArgs false
namespace Go.Cph.Tx
open Go.Cph.Px Go.Cph.Cv
theorem doc_bits {s h t : Bs} {a : Ad} (hs : slash s = some (h, t)) (ha : docParse h = some a) (hno : ∀ m, m < 129 → t = digs 10 m → rightP (a, (m : Int)) = false) : ParseIs s none := parse_none fun p hp e => by
  have := textP_slash hp
  rw [e, hs] at this
  injection this with this
  injection this with e1 e2
  have e3 := (doc_iff h p.1).2 ⟨(rightP_iff.1 hp).ad, e1.symm⟩
  rw [ha] at e3
  have e4 := hno _ (bits_small hp).1 e2
  rw [(bits_small hp).2, Option.some.inj e3] at e4
  have e5 : rightP p = false := e4
  rw [hp] at e5
  cases e5
theorem doc_found {s h t : Bs} {a : Ad} {m : Nat} (hs : slash s = some (h, t)) (ha : docParse h = some a) (ht : t = digs 10 m) (hr : rightP (a, (m : Int)) = true) : ParseIs s (some (a, (m : Int))) := by
  refine parse_it hs (by rw [← doc_prog]; exact ha) ?_
  rw [textP_right hr, (slash_some hs).1, ht, ((doc_iff h a).1 ha).2]
  rfl
theorem doc_head {s h t : Bs} (hs : slash s = some (h, t)) (hh : docParse h = none) : ParseIs s none := parse_head hs (by rw [← doc_prog]; exact hh)
/-- What stands ahead of the first stroke. -/
structure Head (l h : Bs) : Prop where
  le : h.length ≤ l.length
  take : l.take h.length = h
  plain : ∀ i (_ : i < h.length) (k : i < l.length), l[i] ≠ 47
  last : (h.length = l.length ∧ slash l = none) ∨ (∃ (k : h.length < l.length), l[h.length] = 47 ∧ slash l = some (h, l.drop (h.length + 1)))
theorem head_of (l : Bs) : ∃ h, Head l h := by
  cases hs : slash l with
  | none =>
    refine ⟨l, Nat.le_refl _, List.take_length, fun i hi k e => ?_, .inl ⟨rfl, hs⟩⟩
    exact slash_no hs (e ▸ List.getElem_mem k)
  | some x =>
    obtain ⟨h, t⟩ := x
    obtain ⟨e, hn⟩ := slash_some hs
    subst e
    refine ⟨h, by simp, by simp, fun i hi k e => ?_, .inr ⟨by simp, by simp, ?_⟩⟩
    · rw [List.getElem_append_left hi] at e
      exact hn (e ▸ List.getElem_mem hi)
    · rw [hs]
      simp
end Go.Cph.Tx
