/- An address as a row of bytes, and of bits; what the document asks of those. No program in sight. -/
import Derived.Test.YtbhnpndkdhhpfaaPxC
namespace Go.Cph.Px

def bitsN (x n : Nat) : List UInt8 := (List.range n).map fun i => if x.testBit (n - 1 - i) then 1 else 0
def bytesN (x n : Nat) : List UInt8 := (List.range n).map fun i => UInt8.ofNat (x / 256 ^ (n - 1 - i))
def valB (l : List UInt8) : Nat := l.foldl (fun n b => 2 * n + b.toNat) 0
def val (l : List UInt8) : Nat := l.foldl (fun n b => 256 * n + b.toNat) 0
def wid (a : Ad) : Nat := if a.1 = 4 then 32 else 128
def sizeB (a : Ad) : Nat := if a.1 = 4 then 4 else 16
def bytesA (a : Ad) : List UInt8 := if rightA a then bytesN (num a) (sizeB a) else []
def rowA (a : Ad) : List UInt8 := if rightA a then bitsN (num a) (wid a) else []

theorem bitsN_length (x n : Nat) : (bitsN x n).length = n := by simp [bitsN]
theorem bytesN_length (x n : Nat) : (bytesN x n).length = n := by simp [bytesN]
theorem bitsN_at (x n i : Nat) (h : i < n) : (bitsN x n)[i]? = some (if x.testBit (n - 1 - i) then 1 else 0) := by simp [bitsN, h]
theorem bytesN_at (x n i : Nat) (h : i < n) : (bytesN x n)[i]? = some (UInt8.ofNat (x / 256 ^ (n - 1 - i))) := by simp [bytesN, h]
theorem bitsN_succ (x n : Nat) : bitsN x (n + 1) = bitsN (x / 2) n ++ [if x.testBit 0 then 1 else 0] := by
  unfold bitsN
  rw [List.range_succ, List.map_append]
  congr 1
  · refine List.map_congr_left fun i hi => ?_
    rw [List.mem_range] at hi
    rw [Nat.testBit_div_two]
    have : n - 1 - i + 1 = n + 1 - 1 - i := by omega
    rw [this]
  · simp
theorem bytesN_succ (x n : Nat) : bytesN x (n + 1) = bytesN (x / 256) n ++ [UInt8.ofNat x] := by
  unfold bytesN
  rw [List.range_succ, List.map_append]
  congr 1
  · refine List.map_congr_left fun i hi => ?_
    rw [List.mem_range] at hi
    have : n + 1 - 1 - i = n - 1 - i + 1 := by omega
    rw [this, Nat.pow_succ', Nat.div_div_eq_div_mul]
  · simp
theorem valB_snoc (l : List UInt8) (b : UInt8) : valB (l ++ [b]) = 2 * valB l + b.toNat := by unfold valB; rw [List.foldl_append]; rfl
theorem val_snoc (l : List UInt8) (b : UInt8) : val (l ++ [b]) = 256 * val l + b.toNat := by unfold val; rw [List.foldl_append]; rfl
theorem valB_bitsN (n : Nat) : ∀ x, valB (bitsN x n) = x % 2 ^ n := by
  induction n with
  | zero => intro x; simp [bitsN, valB, Nat.mod_one]
  | succ n ih =>
    intro x
    rw [bitsN_succ, valB_snoc, ih, Nat.testBit_zero]
    have h := Nat.mod_mul (x := x) (a := 2) (b := 2 ^ n)
    rw [Nat.pow_succ', h]
    have h2 : x % 2 = 0 ∨ x % 2 = 1 := by omega
    rcases h2 with h2 | h2
    · rw [h2]; simp
    · rw [h2]; simp; omega
theorem val_bytesN (n : Nat) : ∀ x, val (bytesN x n) = x % 256 ^ n := by
  induction n with
  | zero => intro x; simp [bytesN, val, Nat.mod_one]
  | succ n ih =>
    intro x
    rw [bytesN_succ, val_snoc, ih]
    have h := Nat.mod_mul (x := x) (a := 256) (b := 256 ^ n)
    have h3 : (UInt8.ofNat x).toNat = x % 256 := by simp [UInt8.toNat_ofNat']
    rw [Nat.pow_succ', h, h3]; omega
theorem take_bitsN (x n k : Nat) (h : k ≤ n) : (bitsN x n).take k = bitsN (x / 2 ^ (n - k)) k := by
  refine List.ext_getElem (by simp [bitsN_length, h]) fun i h1 h2 => ?_
  rw [bitsN_length] at h2
  simp only [bitsN, List.getElem_take, List.getElem_map, List.getElem_range, Nat.testBit_div_two_pow]
  have : k - 1 - i + (n - k) = n - 1 - i := by omega
  first | rw [this] | (rw [Nat.add_comm, this])
theorem drop_bitsN (x n k : Nat) : (bitsN x n).drop k = bitsN x (n - k) := by
  refine List.ext_getElem (by simp [bitsN_length]) fun i h1 h2 => ?_
  rw [bitsN_length] at h2
  simp only [bitsN, List.getElem_drop, List.getElem_map, List.getElem_range]
  have : n - 1 - (k + i) = n - k - 1 - i := by omega
  rw [this]
theorem bitsN_mod (x n : Nat) : bitsN (x % 2 ^ n) n = bitsN x n := by
  unfold bitsN
  refine List.map_congr_left fun i hi => ?_
  rw [List.mem_range] at hi
  rw [Nat.testBit_mod_two_pow]
  simp [show n - 1 - i < n by omega]
theorem valB_foldl (l : List UInt8) : ∀ n, l.foldl (fun n b => 2 * n + b.toNat) n = n * 2 ^ l.length + valB l := by
  induction l with
  | nil => intro n; simp [valB]
  | cons b l ih =>
    intro n
    have e : valB (b :: l) = l.foldl (fun n b => 2 * n + b.toNat) (2 * 0 + b.toNat) := rfl
    rw [List.foldl_cons, ih, e, ih, List.length_cons, Nat.pow_succ', Nat.add_mul, Nat.mul_comm 2 n, Nat.mul_assoc, Nat.mul_zero, Nat.zero_add]
    omega
theorem valB_append (x y : List UInt8) : valB (x ++ y) = valB x * 2 ^ y.length + valB y := by
  unfold valB
  rw [List.foldl_append]
  exact valB_foldl y _
theorem valB_zeros (n : Nat) : valB (List.replicate n 0) = 0 := by
  induction n with
  | zero => rfl
  | succ n ih => rw [List.replicate_succ', valB_snoc, ih]; rfl
theorem valB_ones (n : Nat) : valB (List.replicate n 1) = 2 ^ n - 1 := by
  induction n with
  | zero => rfl
  | succ n ih =>
    rw [List.replicate_succ', valB_snoc, ih, Nat.pow_succ']
    have : 0 < 2 ^ n := Nat.pow_pos (by decide)
    have e : (1 : UInt8).toNat = 1 := rfl
    omega
theorem bitsN_inj {x y n : Nat} (h : bitsN x n = bitsN y n) (hx : x < 2 ^ n) (hy : y < 2 ^ n) : x = y := by
  have := congrArg valB h
  rwa [valB_bitsN, valB_bitsN, Nat.mod_eq_of_lt hx, Nat.mod_eq_of_lt hy] at this
/-- A byte's bits; a number's. -/
theorem bits_bytes (n : Nat) : ∀ x, (bytesN x n).flatMap (fun c => bitsN c.toNat 8) = bitsN x (8 * n) := by
  induction n with
  | zero => intro x; simp [bytesN, bitsN]
  | succ n ih =>
    intro x
    rw [bytesN_succ, List.flatMap_append, ih]
    have h1 := take_bitsN x (8 * (n + 1)) (8 * n) (by omega)
    have h2 := drop_bitsN x (8 * (n + 1)) (8 * n)
    have e1 : 8 * (n + 1) - 8 * n = 8 := by omega
    rw [e1] at h1 h2
    have h3 : (UInt8.ofNat x).toNat = x % 2 ^ 8 := by simp [UInt8.toNat_ofNat']
    rw [← List.take_append_drop (8 * n) (bitsN x (8 * (n + 1))), h1, h2]
    simp only [List.flatMap_cons, List.flatMap_nil, List.append_nil, h3, bitsN_mod]
/-- Bits to bytes. -/
def byteAt (row : List UInt8) (m : Nat) : UInt8 := UInt8.ofNat (valB ((row.drop (8 * m)).take 8))
def bytesR (row : List UInt8) : List UInt8 := (List.range (row.length / 8)).map (byteAt row)
theorem valB_lt (l : List UInt8) (h : ∀ b ∈ l, b.toNat ≤ 1) : valB l < 2 ^ l.length := by
  suffices k : ∀ r : List UInt8, (∀ b ∈ r.reverse, b.toNat ≤ 1) → valB r.reverse < 2 ^ r.reverse.length by simpa using k l.reverse (by simpa using h)
  intro r
  induction r with
  | nil => intro _; simp [valB]
  | cons b r ih =>
    intro h
    rw [List.reverse_cons] at h ⊢
    have h1 := ih fun c hc => h c (List.mem_append_left _ hc)
    have h2 := h b (by simp)
    rw [valB_snoc, List.length_append, List.length_singleton, Nat.pow_succ']
    omega
theorem val_bytesR (n : Nat) : ∀ row : List UInt8, row.length = 8 * n → (∀ b ∈ row, b.toNat ≤ 1) → val (bytesR row) = valB row := by
  induction n with
  | zero =>
    intro row h _
    obtain rfl : row = [] := List.eq_nil_of_length_eq_zero (by omega)
    rfl
  | succ n ih =>
    intro row h hb
    have hl : (row.take (8 * n)).length = 8 * n := by simp; omega
    have h1 := ih (row.take (8 * n)) hl fun b hm => hb b (List.mem_of_mem_take hm)
    have e : bytesR row = bytesR (row.take (8 * n)) ++ [byteAt row n] := by
      unfold bytesR
      have e1 : row.length / 8 = n + 1 := by omega
      have e2 : (row.take (8 * n)).length / 8 = n := by omega
      rw [e1, e2, List.range_succ, List.map_append]
      congr 1
      refine List.map_congr_left fun m hm => ?_
      rw [List.mem_range] at hm
      unfold byteAt
      rw [List.drop_take, List.take_take, Nat.min_eq_left (by omega)]
    have e3 : (row.drop (8 * n)).take 8 = row.drop (8 * n) := List.take_of_length_le (by simp; omega)
    have h4 : valB (row.drop (8 * n)) < 2 ^ 8 := by
      have := valB_lt (row.drop (8 * n)) fun b hm => hb b (List.mem_of_mem_drop hm)
      have hl2 : (row.drop (8 * n)).length = 8 := by simp; omega
      rwa [hl2] at this
    have h5 : (byteAt row n).toNat = valB (row.drop (8 * n)) := by
      unfold byteAt
      rw [e3, UInt8.toNat_ofNat', Nat.mod_eq_of_lt h4]
    rw [e, val_snoc, h1, h5]
    conv => rhs; rw [← List.take_append_drop (8 * n) row, valB_append]
    have hl2 : (row.drop (8 * n)).length = 8 := by simp; omega
    rw [hl2]; omega
def ofNum (fam : UInt8) (n : Nat) : Ad := (fam, UInt64.ofNat (n / 18446744073709551616), UInt64.ofNat n)
theorem num_ofNum (fam : UInt8) (n : Nat) (h : n < 2 ^ 128) : num (ofNum fam n) = n := by
  unfold num ofNum
  simp only [UInt64.toNat_ofNat']
  omega
def fromOk (fam : UInt8) (k : Nat) : Bool := (fam == 4 && k == 4) || (fam == 6 && k == 16)
def fromB (fam : UInt8) (l : List UInt8) : Ad := if fromOk fam l.length then ofNum fam (val l) else zeroA
/-- An address's first bits, and behind them all as one. -/
def fillA (a : Ad) (k : Nat) (b : UInt8) : Ad := fromB a.1 (bytesR ((rowA a).take k ++ List.replicate ((rowA a).length - k) b))
theorem right_fam {a : Ad} (h : rightA a = true) : a.1 = 4 ∨ a.1 = 6 := by
  rcases rightA_iff.1 h with h | ⟨h, _⟩
  · exact .inr h
  · exact .inl h
theorem num_wid {a : Ad} (h : rightA a = true) : num a < 2 ^ wid a := by
  unfold wid
  rcases rightA_iff.1 h with h | ⟨h, k⟩
  · rw [if_neg (by rw [h]; decide)]; exact num_lt a
  · rw [if_pos h]; exact k
theorem width_wid (a : Ad) : width a.1 = (wid a : Int) := by unfold width wid; split <;> rfl
theorem wid_size (a : Ad) : wid a = 8 * sizeB a := by unfold wid sizeB; split <;> rfl
theorem fillA_num {a : Ad} (h : rightA a = true) {k : Nat} (hk : k ≤ wid a) (b : UInt8) (hb : b = 0 ∨ b = 1) :
    (fillA a k b).1 = a.1 ∧ num (fillA a k b) = num a / 2 ^ (wid a - k) * 2 ^ (wid a - k) + (if b = 1 then 2 ^ (wid a - k) - 1 else 0) := by
  have hr : rowA a = bitsN (num a) (wid a) := by unfold rowA; rw [if_pos h]
  obtain ⟨row, hrow⟩ : ∃ row, row = (rowA a).take k ++ List.replicate ((rowA a).length - k) b := ⟨_, rfl⟩
  have hlen : row.length = 8 * sizeB a := by rw [hrow, hr, ← wid_size]; simp [bitsN_length]; omega
  have hbit : ∀ c ∈ row, c.toNat ≤ 1 := by
    intro c hc
    rw [hrow, List.mem_append] at hc
    rcases hc with hc | hc
    · have := List.mem_of_mem_take hc
      rw [hr] at this
      simp only [bitsN, List.mem_map] at this
      obtain ⟨i, _, rfl⟩ := this
      split <;> decide
    · rw [List.mem_replicate] at hc
      rcases hb with rfl | rfl <;> rw [hc.2] <;> decide
  have hv : val (bytesR row) = num a / 2 ^ (wid a - k) * 2 ^ (wid a - k) + (if b = 1 then 2 ^ (wid a - k) - 1 else 0) := by
    have hlt : num a / 2 ^ (wid a - k) < 2 ^ k := by
      rw [Nat.div_lt_iff_lt_mul (Nat.pow_pos (by decide)), ← Nat.pow_add]
      have e : k + (wid a - k) = wid a := by omega
      rw [e]; exact num_wid h
    rw [val_bytesR (sizeB a) row hlen hbit, hrow, valB_append, hr, take_bitsN _ _ _ hk, valB_bitsN, Nat.mod_eq_of_lt hlt, bitsN_length, List.length_replicate]
    congr 1
    rcases hb with rfl | rfl
    · rw [valB_zeros]; rfl
    · rw [valB_ones]; rfl
  have hok : fromOk a.1 (bytesR row).length = true := by
    have e : (bytesR row).length = sizeB a := by unfold bytesR; simp; omega
    rw [e]
    unfold fromOk sizeB
    rcases right_fam h with h4 | h6
    · rw [h4]; rfl
    · rw [h6]; rfl
  have hlt2 : val (bytesR row) < 2 ^ 128 := by
    rw [val_bytesR (sizeB a) row hlen hbit]
    have := valB_lt row hbit
    rw [hlen, ← wid_size] at this
    refine Nat.lt_of_lt_of_le this (Nat.pow_le_pow_right (by decide) ?_)
    unfold wid; split <;> omega
  unfold fillA
  rw [← hrow]
  unfold fromB
  rw [if_pos hok]
  exact ⟨rfl, by rw [num_ofNum _ _ hlt2, hv]⟩

/-! ### the document's Right, Has, Last, Within -/
theorem rest_wid (a : Ad) {k : Int} (h0 : 0 ≤ k) : rest a k = wid a - k.toNat := by unfold rest; rw [width_wid]; omega
theorem row_length {a : Ad} (h : rightA a = true) : (rowA a).length = wid a := by unfold rowA; rw [if_pos h, bitsN_length]
theorem row_none {a : Ad} (h : rightA a = false) : rowA a = [] := by unfold rowA; rw [h]; rfl
theorem wid_pos (a : Ad) : 0 < wid a := by unfold wid; split <;> omega
theorem low_zero {x m : Nat} : (∀ b ∈ bitsN x m, b ≠ 1) ↔ x % 2 ^ m = 0 := by
  constructor
  · intro h
    have e : bitsN x m = List.replicate m 0 := by
      refine List.eq_replicate_iff.2 ⟨bitsN_length x m, fun b hb => ?_⟩
      have h1 := h b hb
      simp only [bitsN, List.mem_map] at hb
      obtain ⟨i, _, rfl⟩ := hb
      split
      · rename_i h2; rw [if_pos h2] at h1; exact absurd rfl h1
      · rfl
    rw [← valB_bitsN, e, valB_zeros]
  · intro h b hb he
    subst he
    simp only [bitsN, List.mem_map, List.mem_range] at hb
    obtain ⟨i, hi, h1⟩ := hb
    have hbit : x.testBit (m - 1 - i) = true := by
      cases hc : x.testBit (m - 1 - i) with
      | true => rfl
      | false => rw [hc] at h1; exact absurd h1 (by decide)
    have := Nat.testBit_mod_two_pow x m (m - 1 - i)
    rw [h, hbit] at this
    simp at this
    omega
def rightR (p : Pf) : Bool := decide ((rowA p.1).length ≠ 0) && (decide (0 ≤ p.2) && (decide (p.2 ≤ ((rowA p.1).length : Int)) && ((rowA p.1).drop p.2.toNat).all (fun b => b != 1)))
theorem rightR_eq (p : Pf) : rightR p = rightP p := by
  rw [Bool.eq_iff_iff, rightP_iff]
  cases hr : rightA p.1 with
  | false =>
    have : (rowA p.1).length = 0 := by rw [row_none hr]; rfl
    unfold rightR
    constructor
    · intro h; simp [this] at h
    · intro h; rw [h.ad] at hr; cases hr
  | true =>
    have hl := row_length hr
    have hw := wid_pos p.1
    unfold rightR
    rw [hl]
    simp only [Bool.and_eq_true, decide_eq_true_eq]
    have hb : 0 ≤ p.2 → p.2 ≤ (wid p.1 : Int) → ((((rowA p.1).drop p.2.toNat).all (fun b => b != 1)) = true ↔ num p.1 / 2 ^ rest p.1 p.2 * 2 ^ rest p.1 p.2 = num p.1) := by
      intro h0 h1
      have e : rowA p.1 = bitsN (num p.1) (wid p.1) := by unfold rowA; rw [if_pos hr]
      rw [e, drop_bitsN, List.all_eq_true, rest_wid _ h0]
      have hz := low_zero (x := num p.1) (m := wid p.1 - p.2.toNat)
      have hd := Nat.div_add_mod (num p.1) (2 ^ (wid p.1 - p.2.toNat))
      rw [Nat.mul_comm] at hd
      constructor
      · intro h
        have := hz.1 fun b hb => by simpa using h b hb
        omega
      · intro h
        have := hz.2 (by omega)
        intro b hb
        simpa using this b hb
    constructor
    · rintro ⟨_, h0, h1, h2⟩
      exact ⟨hr, h0, by rw [width_wid]; exact h1, (hb h0 h1).1 h2⟩
    · intro h
      have h1 := h.hi
      rw [width_wid] at h1
      exact ⟨by omega, h.lo, h1, (hb h.lo h1).2 h.al⟩
def hasR (p : Pf) (a : Ad) : Bool := rightP p && (decide ((rowA a).length = (rowA p.1).length) && decide ((rowA p.1).take p.2.toNat = (rowA a).take p.2.toNat))
theorem wid_fam {a b : Ad} (ha : rightA a = true) (hb : rightA b = true) (h : wid a = wid b) : a.1 = b.1 := by
  unfold wid at h
  rcases right_fam ha with h1 | h1 <;> rcases right_fam hb with h2 | h2 <;> rw [h1, h2] at h ⊢ <;> simp at h
theorem hasR_eq (p : Pf) (a : Ad) : hasR p a = hasP p a := by
  rw [Bool.eq_iff_iff, has_iff]
  unfold hasR
  simp only [Bool.and_eq_true, decide_eq_true_eq]
  constructor
  · rintro ⟨hp, hl, ht⟩
    have hp := rightP_iff.1 hp
    have hra : rightA a = true := by
      cases h : rightA a with
      | true => rfl
      | false => rw [row_none h, row_length hp.ad] at hl; have := wid_pos p.1; simp at hl; omega
    rw [row_length hra, row_length hp.ad] at hl
    have hf := wid_fam hra hp.ad hl
    have hi := hp.hi
    rw [width_wid] at hi
    have h0 := hp.lo
    unfold rowA at ht
    rw [if_pos hra, if_pos hp.ad, hl, take_bitsN _ _ _ (by omega), take_bitsN _ _ _ (by omega)] at ht
    have hlt : ∀ x, x < 2 ^ wid p.1 → x / 2 ^ (wid p.1 - p.2.toNat) < 2 ^ p.2.toNat := fun x hx => by
      rw [Nat.div_lt_iff_lt_mul (Nat.pow_pos (by decide)), ← Nat.pow_add]
      have e : p.2.toNat + (wid p.1 - p.2.toNat) = wid p.1 := by omega
      rw [e]; exact hx
    have h2 := bitsN_inj ht (hlt _ (num_wid hp.ad)) (hlt _ (by rw [← hl]; exact num_wid hra))
    refine ⟨hra, h0, hp.hi, hf, ?_⟩
    rw [rest_wid _ h0, ← h2, ← rest_wid _ h0]
    exact hp.al
  · intro h
    have hp := h.right
    have hl : wid a = wid p.1 := by unfold wid; rw [h.fam]
    have hi := hp.hi
    rw [width_wid] at hi
    have h0 := hp.lo
    refine ⟨rightP_iff.2 hp, by rw [row_length h.ad, row_length hp.ad, hl], ?_⟩
    unfold rowA
    rw [if_pos h.ad, if_pos hp.ad, hl, take_bitsN _ _ _ (by omega), take_bitsN _ _ _ (by omega)]
    refine congrArg (fun x => bitsN x p.2.toNat) ?_
    have e := h.eq
    rw [rest_wid _ h0] at e
    rw [← e, floor_floor _ (Nat.le_refl _)]
def lastR (p : Pf) : Ad := if rightP p then fillA p.1 p.2.toNat 1 else zeroA
theorem lastR_num {p : Pf} (h : Rt p) : (lastR p).1 = p.1.1 ∧ num (lastR p) = num p.1 + (2 ^ rest p.1 p.2 - 1) ∧ rightA (lastR p) = true := by
  have hi := h.hi
  rw [width_wid] at hi
  have h0 := h.lo
  obtain ⟨h1, h2⟩ := fillA_num h.ad (k := p.2.toNat) (by omega) 1 (.inr rfl)
  have e : lastR p = fillA p.1 p.2.toNat 1 := by unfold lastR; rw [if_pos (rightP_iff.2 h)]
  rw [if_pos rfl, ← rest_wid _ h0, h.al] at h2
  rw [e]
  refine ⟨h1, h2, rightA_iff.2 ?_⟩
  rcases rightA_iff.1 h.ad with h6 | ⟨h4, hn⟩
  · exact .inl (by rw [h1, h6])
  · refine .inr ⟨by rw [h1, h4], ?_⟩
    rw [h2]
    have hr : rest p.1 p.2 ≤ 32 := by unfold rest width; rw [if_pos h4]; omega
    have e2 : (4294967296 : Nat) = 2 ^ (32 - rest p.1 p.2) * 2 ^ rest p.1 p.2 := by rw [← Nat.pow_add, Nat.sub_add_cancel hr]
    have h3 : num p.1 / 2 ^ rest p.1 p.2 < 2 ^ (32 - rest p.1 p.2) := by
      rw [Nat.div_lt_iff_lt_mul (Nat.pow_pos (by decide)), ← e2]; exact hn
    have h5 := Nat.mul_le_mul_right (2 ^ rest p.1 p.2) (Nat.succ_le_of_lt h3)
    rw [← e2, Nat.succ_mul, h.al] at h5
    have : 0 < 2 ^ rest p.1 p.2 := Nat.pow_pos (by decide)
    omega
def withinR (p q : Pf) : Bool := rightP p && (hasP q p.1 && hasP q (lastR p))
theorem withinR_eq (p q : Pf) : withinR p q = within p q := by
  rw [Bool.eq_iff_iff, within_iff]
  unfold withinR
  simp only [Bool.and_eq_true, rightP_iff, has_iff]
  constructor
  · rintro ⟨hp, hq, hl⟩
    refine ⟨hp, ?_, hq⟩
    obtain ⟨l1, l2, l3⟩ := lastR_num hp
    have e1 := hq.eq
    have e2 := hl.eq
    have hf : p.1.1 = q.1.1 := hq.fam
    rw [l2] at e2
    false_or_by_contra
    rename_i hgt
    have hlt : p.2 < q.2 := by omega
    have hqh := hq.hi
    have hpl := hp.lo
    have hrr : rest q.1 q.2 < rest p.1 p.2 := by rw [rest_congr hf]; unfold rest; omega
    obtain ⟨d, hd⟩ : ∃ d, rest p.1 p.2 = rest q.1 q.2 + (d + 1) := ⟨rest p.1 p.2 - rest q.1 q.2 - 1, by omega⟩
    have hpos : 0 < 2 ^ rest q.1 q.2 := Nat.pow_pos (by decide)
    have hge : 2 ^ rest p.1 p.2 = 2 * (2 ^ d * 2 ^ rest q.1 q.2) := by rw [hd, Nat.pow_add, Nat.pow_succ', ← Nat.mul_assoc, ← Nat.mul_assoc, Nat.mul_comm _ 2, Nat.mul_assoc, Nat.mul_assoc, Nat.mul_comm (2 ^ rest q.1 q.2)]
    have hd1 : 1 ≤ 2 ^ d := Nat.pow_pos (by decide)
    have hm := Nat.mul_le_mul_right (2 ^ rest q.1 q.2) hd1
    have h1 : num p.1 + 2 ^ rest q.1 q.2 ≤ num p.1 + (2 ^ rest p.1 p.2 - 1) := by omega
    have h2 := Nat.div_le_div_right (c := 2 ^ rest q.1 q.2) h1
    rw [Nat.add_div_right _ hpos] at h2
    have h3 := Nat.mul_le_mul_right (2 ^ rest q.1 q.2) h2
    rw [e2, Nat.succ_mul, e1] at h3
    have h4 := Nat.div_mul_le_self (num p.1) (2 ^ rest q.1 q.2)
    omega
  · rintro ⟨hp, hle, hq⟩
    obtain ⟨l1, l2, l3⟩ := lastR_num hp
    refine ⟨hp, hq, l3, hq.lo, hq.hi, by rw [l1]; exact hq.fam, ?_⟩
    have hf : p.1.1 = q.1.1 := hq.fam
    rw [l2]
    have hrr : rest p.1 p.2 ≤ rest q.1 q.2 := by rw [rest_congr hf]; exact rest_anti hle
    have hpos : 0 < 2 ^ rest p.1 p.2 := Nat.pow_pos (by decide)
    have e : (num p.1 + (2 ^ rest p.1 p.2 - 1)) / 2 ^ rest q.1 q.2 = num p.1 / 2 ^ rest q.1 q.2 := by
      rw [← floor_floor (num p.1 + (2 ^ rest p.1 p.2 - 1)) hrr]
      congr 1
      have h1 : (num p.1 + (2 ^ rest p.1 p.2 - 1)) / 2 ^ rest p.1 p.2 = num p.1 / 2 ^ rest p.1 p.2 := by
        conv => lhs; rw [← hp.al]
        rw [Nat.add_comm, Nat.add_mul_div_right _ _ hpos, Nat.div_eq_of_lt (by omega), Nat.zero_add]
      rw [h1, hp.al]
    rw [e]; exact hq.eq
end Go.Cph.Px
