/- The document's neighbours of an address, plainly: a byte one more, those behind it anew. A row of bytes in the making. -/
import Derived.Test.YtmjjhnfdpiclfaaGreatDoorMW
import Derived.Test.YtmjjhnfdpiclfaaGreatDoorBz1
set_option linter.unusedVariables false
set_option linter.unusedSimpArgs false
set_option maxRecDepth 100000
namespace Go.Proofs.Tryz.Tx
open Go.RowKit Go.Cph Go.Cph.Tx
open Go.Cph.Ok (ofBs)
open Go.Cph.Px (Ad rightA bytesA zeroA lessA rank num rank_inj less_rank ad_ext rightA_iff fromB fromOk bytesN)
open Go.Proofs.Tryz.Gp (nextA backA next_is back_is)
open Go.Proofs.Tryz.Pfx (BsAt encB encB_len)
theorem val_rep255 : ∀ n : Nat, Px.val (List.replicate n 255) + 1 = 256 ^ n := by
  intro n
  induction n with
  | zero => rfl
  | succ n ih =>
    rw [List.replicate_succ, val_cons, List.length_replicate, Nat.pow_succ]
    have : (255 : UInt8).toNat = 255 := rfl
    rw [this]; omega
theorem val_rep0 : ∀ n : Nat, Px.val (List.replicate n 0) = 0 := by
  intro n
  induction n with
  | zero => rfl
  | succ n ih => rw [List.replicate_succ, val_cons, ih]; simp
theorem val_mid (x : Bs) (c : UInt8) (n : Nat) (b : UInt8) : Px.val (x ++ c :: List.replicate n b) = Px.val x * 256 ^ (n + 1) + c.toNat * 256 ^ n + Px.val (List.replicate n b) := by
  have h : Px.val (x ++ c :: List.replicate n b) = Px.val x * 256 ^ (c :: List.replicate n b).length + Px.val (c :: List.replicate n b) := Rows.val_two _ _
  rw [h, val_cons, List.length_cons, List.length_replicate]; omega
theorem val_bytesA {a : Ad} (hr : rightA a = true) : Px.val (bytesA a) = num a := by
  have hb : bytesA a = bytesN (num a) (Px.sizeB a) := by unfold bytesA; rw [if_pos hr]
  rw [hb, Px.val_bytesN]
  refine Nat.mod_eq_of_lt ?_
  unfold Px.sizeB
  have h1 := Px.num_lt a
  rcases rightA_iff.1 hr with h | h
  · rw [if_neg (by rw [h]; decide)]; omega
  · rw [if_pos h.1]; have := h.2; omega
theorem up_one {c : UInt8} (h : c ≠ 255) : (c + 1).toNat = c.toNat + 1 := by
  have h1 := c.toNat_lt
  have h2 : c.toNat ≠ 255 := fun e => h (UInt8.toNat_inj.1 e)
  rw [UInt8.toNat_add]
  have : (1 : UInt8).toNat = 1 := rfl
  omega
theorem down_one {c : UInt8} (h : c ≠ 0) : (c - 1).toNat + 1 = c.toNat := by
  have h1 := c.toNat_lt
  have h2 : c.toNat ≠ 0 := fun e => h (UInt8.toNat_inj.1 e)
  rw [UInt8.toNat_sub]
  have : (1 : UInt8).toNat = 1 := rfl
  omega
theorem fromOk_same {a : Ad} (hr : rightA a = true) {l : Bs} (h : l.length = (bytesA a).length) : fromOk a.1 l.length = true := by
  rw [h]; exact (from_bytes hr).2
theorem next_step {a : Ad} (hr : rightA a = true) {x : Bs} {c : UInt8} {n : Nat} (hl : bytesA a = x ++ c :: List.replicate n 255) (hc : c ≠ 255) :
    nextA a = (fromB a.1 (x ++ (c + 1) :: List.replicate n 0), true) ∧ fromOk a.1 (x ++ (c + 1) :: List.replicate n 0).length = true := by
  have hok : fromOk a.1 (x ++ (c + 1) :: List.replicate n 0).length = true := fromOk_same hr (by rw [hl]; simp)
  refine ⟨?_, hok⟩
  have hF := from_ok2 hok
  have hn : num (fromB a.1 (x ++ (c + 1) :: List.replicate n 0)) = num a + 1 := by
    rw [← val_bytesA hF.right, hF.bytes, ← val_bytesA hr, hl, val_mid, val_mid, val_rep0, up_one hc, Nat.add_mul]
    have := val_rep255 n
    omega
  generalize fromB a.1 (x ++ (c + 1) :: List.replicate n 0) = b at *
  have hk : rank b = rank a + 1 := by unfold rank; rw [hF.fam, hn]; omega
  obtain ⟨h1, h2⟩ := next_is a
  cases h : (nextA a).2 with
  | true => exact Prod.ext (rank_inj (by rw [(h1 h).2.2.2, hk])) h
  | false => have := h2 hr h b hF.right hF.fam; omega
theorem back_step {a : Ad} (hr : rightA a = true) {x : Bs} {c : UInt8} {n : Nat} (hl : bytesA a = x ++ c :: List.replicate n 0) (hc : c ≠ 0) :
    backA a = (fromB a.1 (x ++ (c - 1) :: List.replicate n 255), true) ∧ fromOk a.1 (x ++ (c - 1) :: List.replicate n 255).length = true := by
  have hok : fromOk a.1 (x ++ (c - 1) :: List.replicate n 255).length = true := fromOk_same hr (by rw [hl]; simp)
  refine ⟨?_, hok⟩
  have hF := from_ok2 hok
  have hn : num (fromB a.1 (x ++ (c - 1) :: List.replicate n 255)) + 1 = num a := by
    rw [← val_bytesA hF.right, hF.bytes, ← val_bytesA hr, hl, val_mid, val_mid, val_rep0, ← down_one hc, Nat.add_mul]
    have := val_rep255 n
    omega
  generalize fromB a.1 (x ++ (c - 1) :: List.replicate n 255) = b at *
  have hk : rank b + 1 = rank a := by unfold rank; rw [hF.fam]; omega
  obtain ⟨h1, h2⟩ := back_is a
  cases h : (backA a).2 with
  | true => exact Prod.ext (rank_inj (by have := (h1 h).2.2.2; show rank (backA a).1 = rank b; omega)) h
  | false => have := h2 hr h b hF.right hF.fam; omega
theorem bytes_len_fam {a b : Ad} (ha : rightA a = true) (hb : rightA b = true) (h : b.1 = a.1) : (bytesA b).length = (bytesA a).length := by
  unfold bytesA
  rw [if_pos ha, if_pos hb, Px.bytesN_length, Px.bytesN_length]; unfold Px.sizeB; rw [h]
theorem next_none {a : Ad} {n : Nat} (hl : bytesA a = List.replicate n 255) : nextA a = (zeroA, false) := by
  cases hr : rightA a with
  | false => exact (near_wrong hr).1
  | true =>
    cases h : (nextA a).2 with
    | false => exact next_no h
    | true =>
      exfalso
      obtain ⟨k1, k2, k3, k4⟩ := (next_is a).1 h
      have hv := Pfx.val_lt (bytesA (nextA a).1)
      rw [val_bytesA k2, bytes_len_fam hr k2 k3, hl, List.length_replicate] at hv
      have h1 := val_bytesA hr
      rw [hl] at h1
      have h2 := val_rep255 n
      have : num (nextA a).1 = num a + 1 := by unfold rank at k4; rw [k3] at k4; omega
      omega
theorem back_none {a : Ad} {n : Nat} (hl : bytesA a = List.replicate n 0) : backA a = (zeroA, false) := by
  cases hr : rightA a with
  | false => exact (near_wrong hr).2
  | true =>
    cases h : (backA a).2 with
    | false => exact back_no h
    | true =>
      exfalso
      obtain ⟨k1, k2, k3, k4⟩ := (back_is a).1 h
      have h1 := val_bytesA hr
      rw [hl, val_rep0] at h1
      have : num (backA a).1 + 1 = num a := by unfold rank at k4; rw [k3] at k4; omega
      omega
/-! ### a row of bytes that is ours -/
structure RowIs (W : World) (g : Nat) (row : Bs) : Prop where
  blk : ∃ cur e, W.heap[g]? = some (.cells cur e (0, 0)) ∧ row.length ≤ cur.size ∧ ∀ j, j < row.length → cur[j]? = some (.int .u8 ((row.getD j 0).toNat : Int))
theorem RowIs.cell {W : World} {g : Nat} {row : Bs} (h : RowIs W g row) (j : Nat) (hj : j < row.length) : W.cell? ⟨g, j, none⟩ = some (.int .u8 ((row.getD j 0).toNat : Int)) := by
  obtain ⟨cur, e, h1, h2, h3⟩ := h.blk
  rw [blk_cell h1, h3 j hj]
theorem RowIs.free {W : World} {g : Nat} {row : Bs} (h : RowIs W g row) (j : Nat) : W.frozen? ⟨g, j, none⟩ = false := by
  obtain ⟨cur, e, h1, h2, h3⟩ := h.blk
  rw [blk_frozen h1]; simp
theorem RowIs.set {W : World} {g : Nat} {row : Bs} (h : RowIs W g row) (j : Nat) (c : UInt8) (hj : j < row.length) : RowIs (W.setCell ⟨g, j, none⟩ (.int .u8 (c.toNat : Int))) g (row.set j c) := by
  obtain ⟨cur, e, h1, h2, h3⟩ := h.blk
  refine ⟨_, _, blk_set h1 j _, by simpa using h2, fun k hk => ?_⟩
  rw [List.length_set] at hk
  rw [Array.getElem?_setIfInBounds]
  by_cases e : j = k
  · subst e
    rw [if_pos rfl, if_pos (by omega)]
    simp [hj]
  · rw [if_neg e, h3 k hk]
    simp [List.getD_eq_getElem?_getD, List.getElem?_set, e]
theorem RowIs.kept {W W' : World} {g : Nat} {row : Bs} (h : RowIs W g row) (hb : Below W.heap.size W W') : RowIs W' g row := by
  obtain ⟨cur, e, h1, h2, h3⟩ := h.blk
  exact ⟨cur, e, blk_kept hb h1, h2, h3⟩
theorem RowIs.bs {W : World} {g : Nat} {row : Bs} (h : RowIs W g row) (cap : Nat) : BsAt W (.slice (some ⟨g, 0, none⟩) row.length cap) row := by
  refine ⟨⟨_, _, rfl, fun h0 => ⟨g, 0, rfl, fun j hj => ?_⟩⟩, by rw [flat_length encB_len]⟩
  have hj' : j < row.length := by omega
  rw [Nat.zero_add, h.cell j hj']
  have := Cph.flat_at encB_len row j hj' 0 (by decide)
  rw [Nat.mul_one, Nat.add_zero] at this
  rw [this]; simp [hj']
theorem RowIs.of_owns {W : World} {base : Nat} {l : Bs} {v : Value} (h : W.ownsRow base 5 1 v l.length (l.flatMap encB)) (h0 : 0 < l.length) : ∃ g cap, v = .slice (some ⟨g, 0, none⟩) l.length cap ∧ base ≤ g ∧ RowIs W g l := by
  obtain ⟨g, cap, rfl, hb, hlt, hc, hcell, hfr⟩ := owns_shape h h0
  obtain ⟨cur, -, hg, -, -, hsz, htk⟩ := owns_block h
  refine ⟨g, cap, rfl, hb, cur, _, hg, by omega, fun j hj => ?_⟩
  have h1 := hcell j (by omega)
  rw [blk_cell hg] at h1
  rw [h1]
  have := Cph.flat_at encB_len l j hj 0 (by decide)
  rw [Nat.mul_one, Nat.add_zero] at this
  rw [this]; simp [hj]
end Go.Proofs.Tryz.Tx
