/- SkipBetween. -/
import Derived.Test.YthcakgnendnekaaSkJ
open Go.RowKit Go.Cph Go.Cph.Skip
set_option linter.unusedVariables false
set_option linter.unusedSimpArgs false
namespace Go.Proofs.Try.SkS

theorem betw {nodes : List (Nd V)} {nx : Nat → Nat → Nat} (hln : Linked nodes nx) {key other : ByteArray} {n n' a b : Nat} {k m k1 k2 : ByteArray} {x u x1 x2 : V} {ok is there some' : Bool}
    (hs : Seek nodes key n) (t1 : Tells nodes n k x ok) (hn : Nxt nodes 0 (some key) n') (t2 : Tells nodes n' m u is) (h1 : Has nodes key a) (t3 : Tells nodes a k1 x1 there) (h2 : Has nodes other b) (t4 : Tells nodes b k2 x2 some') :
    (ok = false ∧ k = ByteArray.empty ∧ x = ByteArray.empty ∧ m = ByteArray.empty ∧ u = ByteArray.empty ∧ is = false ∧ there = false ∧ (some' = false ∨ some' = true ∧ klt other key = true)) ∨
    (ok = true ∧ there = false ∧ m = k ∧ u = x ∧ is = true ∧ klt k key = false ∧ k ≠ key ∧ (some' = false ∨ some' = true ∧ (klt other key = true ∨ klt other key = false ∧ klt other k = false))) ∨
    (ok = true ∧ there = true ∧ k = key ∧ (is = false ∧ (some' = false ∨ some' = true ∧ (klt other key = true ∨ other = key)) ∨
      is = true ∧ klt key m = true ∧ (some' = false ∨ some' = true ∧ (klt other key = true ∨ other = key ∨ klt key other = true ∧ klt other m = false)))) := by
  -- whether the other key is there
  have hso : some' = false ∨ (some' = true ∧ ∃ y ∈ nodes, y.key = other) := by
    rcases t4 with ⟨_, _, _, h⟩ | ⟨i, hi, rfl, _, _, h⟩
    · exact .inl h
    · rcases h2 with ⟨h2, _⟩ | ⟨j, hj, e, h2⟩
      · omega
      · exact .inr ⟨h, _, List.getElem_mem hj, h2⟩
  have hht : ∀ y ∈ nodes, 0 < y.ht := fun y hy => (hln.hts y hy).1
  rcases hs with ⟨rfl, hs⟩ | ⟨i, hi, rfl, hik, hs⟩
  · left
    rcases t1 with ⟨_, rfl, rfl, rfl⟩ | ⟨j, _, e, _⟩
    rotate_left; · omega
    have hth : there = false := by
      rcases t3 with ⟨_, _, _, h⟩ | ⟨j, hj, rfl, _, _, h⟩
      · exact h
      · rcases h1 with ⟨h1, _⟩ | ⟨j', hj', e, h1⟩
        · omega
        · have := hs _ (List.getElem_mem hj'); rw [h1, klt_irrefl] at this; exact absurd this (by simp)
    rcases hn with ⟨rfl, hn⟩ | ⟨j, hj, rfl, _, hjk, _⟩
    · rcases t2 with ⟨_, rfl, rfl, rfl⟩ | ⟨j, _, e, _⟩
      rotate_left; · omega
      refine ⟨rfl, rfl, rfl, rfl, rfl, rfl, hth, ?_⟩
      rcases hso with h | ⟨h, y, hy, he⟩
      · exact .inl h
      · exact .inr ⟨h, he ▸ hs y hy⟩
    · have := hs _ (List.getElem_mem hj)
      rw [klt_asymm hjk] at this; exact absurd this (by simp)
  · right
    rcases t1 with ⟨e, _⟩ | ⟨i', hi', e, rfl, rfl, rfl⟩
    · omega
    obtain rfl : i = i' := by omega
    by_cases hkk : nodes[i].key = key
    · right
      have hth : there = true := by
        rcases t3 with ⟨e, _, _, h⟩ | ⟨j, hj, rfl, _, _, h⟩
        · subst e
          rcases h1 with ⟨_, h1⟩ | ⟨j', hj', e, h1⟩
          · exact absurd hkk (h1 _ (List.getElem_mem hi))
          · omega
        · exact h
      refine ⟨rfl, hth, hkk, ?_⟩
      have htri : ∀ z : ByteArray, klt z key = true ∨ z = key ∨ klt key z = true := fun z => by
        cases e1 : klt z key with
        | true => exact .inl rfl
        | false =>
          cases e2 : klt key z with
          | true => exact .inr (.inr rfl)
          | false => exact .inr (.inl (klt_total e1 e2))
      rcases hn with ⟨rfl, hn⟩ | ⟨j, hj, rfl, _, hjk, hle⟩
      · rcases t2 with ⟨_, rfl, rfl, rfl⟩ | ⟨j, _, e, _⟩
        rotate_left; · omega
        refine .inl ⟨rfl, ?_⟩
        rcases hso with h | ⟨h, y, hy, he⟩
        · exact .inl h
        · refine .inr ⟨h, ?_⟩
          rcases htri other with h | h | h
          · exact .inl h
          · exact .inr h
          · have := hn y hy (hht y hy); rw [he] at this; rw [show above (some key) other = klt key other from rfl, h] at this; exact absurd this (by simp)
      · rcases t2 with ⟨e, _⟩ | ⟨j', hj', e, rfl, rfl, rfl⟩
        · omega
        obtain rfl : j = j' := by omega
        refine .inr ⟨rfl, hjk, ?_⟩
        rcases hso with h | ⟨h, y, hy, he⟩
        · exact .inl h
        · refine .inr ⟨h, ?_⟩
          rcases htri other with h | h | h
          · exact .inl h
          · exact .inr (.inl h)
          · refine .inr (.inr ⟨h, ?_⟩)
            have := hle y hy (hht y hy) (by rw [he]; exact h)
            rw [he] at this; exact this
    · left
      have hth : there = false := by
        rcases t3 with ⟨_, _, _, h⟩ | ⟨j, hj, rfl, _, _, h⟩
        · exact h
        · rcases h1 with ⟨h1, _⟩ | ⟨j', hj', e, h1⟩
          · omega
          · have := hs _ (List.getElem_mem hj') (by rw [h1, klt_irrefl])
            rw [h1] at this
            exact absurd (klt_total hik this) hkk
      have hgt : klt key nodes[i].key = true := by
        cases e : klt key nodes[i].key with
        | true => rfl
        | false => exact absurd (klt_total hik e) hkk
      have hne : n' = i + 1 := by
        rcases hn with ⟨rfl, hn⟩ | ⟨j, hj, rfl, _, hjk, hle⟩
        · have := hn _ (List.getElem_mem hi) (hht _ (List.getElem_mem hi)); rw [show above (some key) nodes[i].key = true from hgt] at this; exact absurd this (by simp)
        · have a1 := hle _ (List.getElem_mem hi) (hht _ (List.getElem_mem hi)) hgt
          have a2 := hs _ (List.getElem_mem hj) (klt_asymm hjk)
          rw [hln.keys j i hj hi (klt_total a2 a1)]
      subst hne
      rcases t2 with ⟨e, _⟩ | ⟨j', hj', e, rfl, rfl, rfl⟩
      · omega
      obtain rfl : i = j' := by omega
      refine ⟨rfl, hth, rfl, rfl, rfl, hik, hkk, ?_⟩
      rcases hso with h | ⟨h, y, hy, he⟩
      · exact .inl h
      · refine .inr ⟨h, ?_⟩
        cases e : klt other key with
        | true => exact .inl rfl
        | false =>
          have := hs y hy (by rw [he]; exact e)
          rw [he] at this
          exact .inr ⟨rfl, this⟩
theorem betw_get {nodes : List (Nd V)} {nx : Nat → Nat → Nat} (hln : Linked nodes nx) {n c : Nat} {k k1 : ByteArray} {x x1 : V} {at' : Bool} (t1 : Tells nodes n k x true) (h1 : Has nodes k c) (t3 : Tells nodes c k1 x1 at') : at' = true ∧ x1 = x := by
  rcases t1 with ⟨_, _, _, e⟩ | ⟨i, hi, rfl, rfl, rfl, _⟩
  · exact absurd e (by simp)
  rcases h1 with ⟨rfl, h1⟩ | ⟨j, hj, rfl, h1⟩
  · exact absurd rfl (h1 _ (List.getElem_mem hi))
  · obtain rfl := hln.keys j i hj hi h1
    rcases t3 with ⟨e, _⟩ | ⟨j', hj', e, rfl, rfl, rfl⟩
    · omega
    · obtain rfl : j = j' := by omega
      exact ⟨rfl, rfl⟩
end Go.Proofs.Try.SkS
