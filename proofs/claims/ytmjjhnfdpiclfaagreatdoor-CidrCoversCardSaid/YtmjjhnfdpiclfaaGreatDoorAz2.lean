/- AddrOrder's walk. -/
import Derived.Test.YtmjjhnfdpiclfaaGreatDoorAz1
import Derived.Deep.DeepCutAuto
set_option linter.unusedVariables false
set_option linter.unusedSimpArgs false
set_option maxRecDepth 100000
namespace Go.Proofs.Tryz.Tx
open Go.RowKit Go.Cph Go.Cph.Tx
open Go.Cph.Ok (ofBs)
open Go.Cph.Px (Ad rightA bytesA zeroA lessA rank num rank_inj less_rank)
open Go.Proofs.Tryz.Pfx (encA bcell ad_eq)
theorem later_box {W : World} {g : Nat} {f : UInt8} {x y : UInt64} (h : W.heap[g]? = some (boxA (f, x, y))) :
    (∀ zz : Later W.heap.size W, zz.val.cell? ⟨g, 0, none⟩ = some (.int .u8 (f.toNat : Int))) ∧ (∀ zz : Later W.heap.size W, zz.val.cell? ⟨g, 1, none⟩ = some (.int .u64 (x.toNat : Int))) ∧ (∀ zz : Later W.heap.size W, zz.val.cell? ⟨g, 2, none⟩ = some (.int .u64 (y.toNat : Int))) :=
  ⟨fun zz => by rw [blk_cell (blk_kept zz.prop h)]; rfl, fun zz => by rw [blk_cell (blk_kept zz.prop h)]; rfl, fun zz => by rw [blk_cell (blk_kept zz.prop h)]; rfl⟩
theorem box_at {W : World} {g : Nat} {f : UInt8} {x y : UInt64} (h : W.heap[g]? = some (boxA (f, x, y))) :
    W.cell? ⟨g, 0, none⟩ = some (.int .u8 (f.toNat : Int)) ∧ W.cell? ⟨g, 1, none⟩ = some (.int .u64 (x.toNat : Int)) ∧ W.cell? ⟨g, 2, none⟩ = some (.int .u64 (y.toNat : Int)) :=
  ⟨by rw [blk_cell h]; rfl, by rw [blk_cell h]; rfl, by rw [blk_cell h]; rfl⟩
theorem box_free {W : World} {g : Nat} {f : UInt8} {x y : UInt64} (h : W.heap[g]? = some (boxA (f, x, y))) :
    W.frozen? ⟨g, 0, none⟩ = false ∧ W.frozen? ⟨g, 1, none⟩ = false ∧ W.frozen? ⟨g, 2, none⟩ = false :=
  ⟨by rw [blk_frozen h]; rfl, by rw [blk_frozen h]; rfl, by rw [blk_frozen h]; rfl⟩
theorem val_cons (c : UInt8) (x : Bs) : Px.val (c :: x) = c.toNat * 256 ^ x.length + Px.val x := by
  have := Rows.val_two [c] x
  have e : Px.val (c :: x) = Px.val [c] * 256 ^ x.length + Px.val x := this
  rw [e]
  simp [Px.val]
theorem bl_val : ∀ x y : Bs, x.length = y.length → Op.bytesLess x y = decide (Px.val x < Px.val y) := by
  intro x
  induction x with
  | nil =>
    intro y h
    have : y = [] := List.length_eq_zero_iff.1 (by simpa using h.symm)
    subst this
    simp [Op.bytesLess]
  | cons a x ih =>
    intro y h
    cases y with
    | nil => exact absurd h (by simp)
    | cons b y =>
      have hl : x.length = y.length := by simpa using h
      have hx := Pfx.val_lt x
      have hy := Pfx.val_lt y
      rw [val_cons, val_cons]
      show (decide (a < b) || (a == b && Op.bytesLess x y)) = _
      rw [ih y hl]
      rw [hl] at hx ⊢
      by_cases h1 : a = b
      · subst h1
        have : ¬ a < a := by rw [UInt8.lt_iff_toNat_lt]; omega
        simp [this]
      · have hne : a.toNat ≠ b.toNat := fun e => h1 (UInt8.toNat_inj.1 e)
        have hb : (a == b) = false := by simpa using h1
        rw [hb, Bool.false_and, Bool.or_false]
        by_cases h2 : a < b
        · rw [decide_eq_true h2]
          rw [UInt8.lt_iff_toNat_lt] at h2
          symm
          rw [decide_eq_true_eq]
          have := Nat.mul_le_mul_right (256 ^ y.length) (show a.toNat + 1 ≤ b.toNat by omega)
          rw [Nat.add_mul, Nat.one_mul] at this
          omega
        · rw [decide_eq_false h2]
          rw [UInt8.lt_iff_toNat_lt] at h2
          symm
          rw [decide_eq_false_iff_not]
          have := Nat.mul_le_mul_right (256 ^ y.length) (show b.toNat + 1 ≤ a.toNat by omega)
          rw [Nat.add_mul, Nat.one_mul] at this
          omega
theorem bytes_len {a : Ad} (hr : rightA a = true) : (bytesA a).length = if a.1 = 4 then 4 else 16 := by
  unfold bytesA; rw [if_pos hr, Px.bytesN_length]; rfl
theorem bytes_val {a : Ad} (hr : rightA a = true) : Px.val (bytesA a) = num a := by
  rcases right_fam hr with h | h
  · have := (bytes4_val hr h).1
    rw [← val_natV] at this; exact this
  · unfold bytesA
    rw [if_pos hr, Px.val_bytesN]
    have : Px.sizeB a = 16 := by unfold Px.sizeB; rw [if_neg (by rw [h]; decide)]
    rw [this]
    exact Nat.mod_eq_of_lt (Px.num_lt a)
theorem bytes_order {a b : Ad} (ha : rightA a = true) (hb : rightA b = true) (hf : a.1 = b.1) : Op.bytesLess (bytesA a) (bytesA b) = lessA a b := by
  rw [bl_val _ _ (by rw [bytes_len ha, bytes_len hb, hf]), bytes_val ha, bytes_val hb, Bool.eq_iff_iff, less_rank]
  unfold rank
  rw [hf, decide_eq_true_eq]; omega
/-- How three addresses may stand. -/
theorem order3 (a b c : Ad) : (lessA a b = true ∧ lessA b a = false ∧ (a == b) = false ∧ lessA b c = true ∧ lessA a c = true) ∨ (lessA a b = true ∧ lessA b a = false ∧ (a == b) = false ∧ lessA b c = false) ∨
    (lessA a b = false ∧ lessA b a = false ∧ (a == b) = true) ∨ (lessA a b = false ∧ lessA b a = true ∧ (a == b) = false) := by
  have f : ∀ x y : Ad, ¬ rank x < rank y → lessA x y = false := fun x y h => by
    cases hl : lessA x y with
    | false => rfl
    | true => exact absurd (less_rank.1 hl) h
  have n : ∀ x y : Ad, rank x ≠ rank y → (x == y) = false := fun x y h => by
    rw [beq_eq_false_iff_ne]; exact fun e => h (by rw [e])
  rcases Nat.lt_trichotomy (rank a) (rank b) with h | h | h
  · by_cases k : rank b < rank c
    · exact .inl ⟨less_rank.2 h, f _ _ (by omega), n _ _ (by omega), less_rank.2 k, less_rank.2 (by omega)⟩
    · exact .inr (.inl ⟨less_rank.2 h, f _ _ (by omega), n _ _ (by omega), f _ _ k⟩)
  · exact .inr (.inr (.inl ⟨f _ _ (by omega), f _ _ (by omega), by rw [rank_inj h]; simp⟩))
  · exact .inr (.inr (.inr ⟨f _ _ (by omega), less_rank.2 h, n _ _ (by omega)⟩))
theorem fam_less {a b : Ad} (ha : rightA a = true) (hb : rightA b = true) (hf : a.1 ≠ b.1) : (a.1 = 4 ∧ b.1 = 6 ∧ lessA a b = true) ∨ (a.1 = 6 ∧ b.1 = 4 ∧ lessA a b = false) := by
  have n1 := Px.num_lt a
  have n2 := Px.num_lt b
  rcases right_fam ha with h1 | h1 <;> rcases right_fam hb with h2 | h2
  · exact absurd (h1.trans h2.symm) hf
  · refine .inl ⟨h1, h2, less_rank.2 ?_⟩
    unfold rank; rw [h1, h2]
    show 4 * 2 ^ 128 + num a < 6 * 2 ^ 128 + num b
    omega
  · refine .inr ⟨h1, h2, ?_⟩
    cases hl : lessA a b with
    | false => rfl
    | true =>
      have := less_rank.1 hl
      unfold rank at this; rw [h1, h2] at this
      have : 6 * 2 ^ 128 + num a < 4 * 2 ^ 128 + num b := this
      omega
  · exact absurd (h1.trans h2.symm) hf
end Go.Proofs.Tryz.Tx
