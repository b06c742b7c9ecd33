/- CidrHalves: what the walk asks, plainly. No program in sight. -/
import Derived.Test.YtmjjhnfdpiclfaaDoorCl1
set_option linter.unusedVariables false
set_option linter.unusedSimpArgs false
namespace Go.Cph.Px
open Go.Cph.Cv Go.Cph.Tx
structure HalfFacts (p : Pf) (A : Ad) (a : Ad) : Prop where
  next : Go.Proofs.Tryd.Gp.nextA (lastR (p.1, p.2 + 1)) = (A, true)
  last : lastR (A, p.2 + 1) = lastR p
  mt : meets (p.1, p.2 + 1) (A, p.2 + 1) = false
  wx : within (p.1, p.2 + 1) p = true
  wy : within (A, p.2 + 1) p = true
  bx : before (p.1, p.2 + 1) (A, p.2 + 1) = true
  bp : before p (p.1, p.2 + 1) = true
  bits : 0 ≤ p.2 ∧ p.2 ≤ 128
  has : (hasP p a = false ∧ hasP (p.1, p.2 + 1) a = false ∧ hasP (A, p.2 + 1) a = false) ∨ (hasP p a = true ∧ hasP (p.1, p.2 + 1) a = true ∧ hasP (A, p.2 + 1) a = false) ∨ (hasP p a = true ∧ hasP (p.1, p.2 + 1) a = false ∧ hasP (A, p.2 + 1) a = true)
theorem halves_facts {p : Pf} (h : Rt p) (hb : p.2 ≠ width p.1.1) (a : Ad) : ∃ A, halvesP p = ((p.1, p.2 + 1), (A, p.2 + 1), true) ∧ HalfFacts p A a := by
  obtain ⟨x, y, k, h1, h2⟩ := halves_some h hb
  obtain ⟨f1, f2, f3, f4, f5⟩ := h2.facts
  obtain ⟨x1, x2, x3, x4⟩ := h2.px
  obtain ⟨y1, y2, y3, y4⟩ := h2.py
  have ex : x = (p.1, p.2 + 1) := Prod.ext (by rw [h2.x]; exact ofNum_self) h2.bits.1
  have ey : y = (y.1, p.2 + 1) := Prod.ext rfl h2.bits.2
  have hp : 0 < 2 ^ k := Nat.pow_pos (by decide)
  have hr := h2.rest
  have hx := fun b => has_num x1 (x := b)
  have hy := fun b => has_num y1 (x := b)
  have hpn := fun b => has_num h (x := b)
  have nb := (Go.Proofs.Tryd.Gp.next_blk x1).1
  rw [x2, x3, x4] at nb
  have wxy := within_num x1 y1
  have wyx := within_num y1 x1
  have wxp := within_num x1 h
  have wyp := within_num y1 h
  rw [x2, x3, x4] at wxy wyx wxp
  rw [y2, y3, y4] at wxy wyx wyp
  rw [hr] at wxp wyp
  obtain ⟨l1, l2, l3⟩ := lastR_num h
  obtain ⟨m1, m2, m3⟩ := lastR_num y1
  refine ⟨y.1, by rw [h1, ← ex, ← ey], ?_⟩
  have hnx := nb (by omega)
  have hyA : ofNum p.1.1 (num p.1 + 2 ^ k) = y.1 := by rw [h2.y]; rfl
  have hlast : lastR y = lastR p := ad_ext (by rw [m1, l1, y4]) (by rw [m2, l2, y2, y3, hr]; omega)
  have hm : meets x y = false := bool_of fun hm => by
    rcases meets_iff.1 hm with k | k
    · have := (wxy.1 k).2.1; omega
    · have := (wyx.1 k).2.2; omega
  have hw1 : within x p = true := wxp.2 ⟨rfl, Nat.le_refl _, by omega⟩
  have hw2 : within y p = true := wyp.2 ⟨rfl, by omega, by omega⟩
  have hb1 : before x y = true := before_iff.2 (.inl ((rank_same (by rw [x4, y4])).2 (by omega)))
  have hb2 : before p x = true := before_iff.2 (.inr ⟨by rw [ex], by rw [ex]; show p.2 < p.2 + 1; omega⟩)
  have hh : (hasP p a = false ∧ hasP x a = false ∧ hasP y a = false) ∨ (hasP p a = true ∧ hasP x a = true ∧ hasP y a = false) ∨ (hasP p a = true ∧ hasP x a = false ∧ hasP y a = true) := by
    have i1 := hx a
    have i2 := hy a
    have i3 := hpn a
    rw [x2, x3, x4] at i1
    rw [y2, y3, y4] at i2
    rw [hr] at i3
    by_cases c0 : rightA a = true ∧ a.1 = p.1.1
    · by_cases c1 : num p.1 ≤ num a ∧ num a < num p.1 + 2 ^ k
      · exact .inr (.inl ⟨i3.2 ⟨c0.1, c0.2, c1.1, by omega⟩, i1.2 ⟨c0.1, c0.2, c1.1, c1.2⟩, bool_of fun k => by have := (i2.1 k).2.2.1; omega⟩)
      · by_cases c2 : num p.1 + 2 ^ k ≤ num a ∧ num a < num p.1 + 2 ^ k + 2 ^ k
        · exact .inr (.inr ⟨i3.2 ⟨c0.1, c0.2, by omega, by omega⟩, bool_of fun k => by have := (i1.1 k).2.2; omega, i2.2 ⟨c0.1, c0.2, c2.1, c2.2⟩⟩)
        · exact .inl ⟨bool_of fun k => by have := (i3.1 k).2.2; omega, bool_of fun k => by have := (i1.1 k).2.2; omega, bool_of fun k => by have := (i2.1 k).2.2; omega⟩
    · exact .inl ⟨bool_of fun k => c0 ⟨(i3.1 k).1, (i3.1 k).2.1⟩, bool_of fun k => c0 ⟨(i1.1 k).1, (i1.1 k).2.1⟩, bool_of fun k => c0 ⟨(i2.1 k).1, (i2.1 k).2.1⟩⟩
  have hb0 := h.hi
  have hw0 := width_pos p.1.1
  rw [ex] at hm hw1 hb1 hb2 hh hnx
  rw [ey] at hm hw2 hb1 hh hlast
  exact ⟨by rw [hnx, hyA], hlast, hm, hw1, hw2, hb1, hb2, ⟨h.lo, by omega⟩, hh⟩
theorem last_whole {p : Pf} (h : Rt p) (hb : p.2 = width p.1.1) : lastR p = p.1 := by
  obtain ⟨l1, l2, l3⟩ := lastR_num h
  have : rest p.1 p.2 = 0 := by unfold rest; omega
  rw [this] at l2
  exact ad_ext l1 (by rw [l2, Nat.pow_zero, Nat.sub_self, Nat.add_zero])
end Go.Cph.Px
