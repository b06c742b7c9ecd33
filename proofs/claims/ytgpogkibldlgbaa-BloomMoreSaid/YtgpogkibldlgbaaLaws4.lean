/- BloomMore: more bits, more keys. -/
import Derived.Test.YtgpogkibldlgbaaPlain
import Derived.Test.YtgpogkibldlgbaaLaws
namespace Go.Proofs.Try
open Go.RowKit Go.Cph
set_option linter.unusedVariables false
set_option linter.unusedSimpArgs false

/-- Bits more, the first k bytes of them. -/
def moreTo (s more : List UInt8) (k : Nat) : List UInt8 := (List.range s.length).map fun j => if j < k ∧ j < more.length then s.getD j 0 ||| more.getD j 0 else s.getD j 0
def fullTo (s : List UInt8) (k : Nat) : List UInt8 := (List.range s.length).map fun j => if j < k then 255 else s.getD j 0
theorem moreTo_length (s more : List UInt8) (k : Nat) : (moreTo s more k).length = s.length := by simp [moreTo]
theorem fullTo_length (s : List UInt8) (k : Nat) : (fullTo s k).length = s.length := by simp [fullTo]
theorem moreTo_at (s more : List UInt8) (k j : Nat) (hj : j < s.length) : (moreTo s more k).getD j 0 = if j < k ∧ j < more.length then s.getD j 0 ||| more.getD j 0 else s.getD j 0 := by
  simp [moreTo, List.getD_eq_getElem?_getD, hj]
theorem fullTo_at (s : List UInt8) (k j : Nat) (hj : j < s.length) : (fullTo s k).getD j 0 = if j < k then 255 else s.getD j 0 := by
  simp [fullTo, List.getD_eq_getElem?_getD, hj]
theorem list_ext0 (a b : List UInt8) (hl : a.length = b.length) (h : ∀ j, j < a.length → a.getD j 0 = b.getD j 0) : a = b := by
  apply List.ext_getElem hl
  intro i h1 h2
  simpa [List.getD_eq_getElem?_getD, h1, h2] using h i h1
theorem getD_set (l : List UInt8) (k j : Nat) (c : UInt8) (hk : k < l.length) : (l.set k c).getD j 0 = if j = k then c else l.getD j 0 := by
  by_cases h : j = k
  · subst h; simp [List.getD_eq_getElem?_getD, hk]
  · simp [List.getD_eq_getElem?_getD, h, List.getElem?_set_ne (fun e => h e.symm)]
theorem moreTo_zero (s more : List UInt8) : moreTo s more 0 = s :=
  list_ext0 _ _ (moreTo_length _ _ _) fun j hj => by rw [moreTo_at _ _ _ _ (by rw [moreTo_length] at hj; exact hj), if_neg (by omega)]
theorem fullTo_zero (s : List UInt8) : fullTo s 0 = s :=
  list_ext0 _ _ (fullTo_length _ _) fun j hj => by rw [fullTo_at _ _ _ (by rw [fullTo_length] at hj; exact hj), if_neg (by omega)]
theorem moreTo_yes (s more : List UInt8) (k : Nat) (hk : k < s.length) (hm : k < more.length) : moreTo s more (k + 1) = (moreTo s more k).set k ((moreTo s more k).getD k 0 ||| more.getD k 0) :=
  list_ext0 _ _ (by simp [moreTo_length]) fun j hj => by
    rw [moreTo_length] at hj
    rw [getD_set _ _ _ _ (by rw [moreTo_length]; exact hk), moreTo_at _ _ _ _ hj, moreTo_at _ _ _ _ hj, moreTo_at _ _ _ _ hk, if_neg (show ¬ (k < k ∧ k < more.length) by omega)]
    by_cases h : j = k
    · subst h; rw [if_pos ⟨by omega, hm⟩, if_pos rfl]
    · rw [if_neg h]
      by_cases h2 : j < k ∧ j < more.length
      · rw [if_pos h2, if_pos ⟨by omega, h2.2⟩]
      · rw [if_neg h2, if_neg (by omega)]
theorem moreTo_no (s more : List UInt8) (k : Nat) (hm : ¬ k < more.length) : moreTo s more (k + 1) = moreTo s more k :=
  list_ext0 _ _ (by simp [moreTo_length]) fun j hj => by
    rw [moreTo_length] at hj
    rw [moreTo_at _ _ _ _ hj, moreTo_at _ _ _ _ hj]
    by_cases h2 : j < k ∧ j < more.length
    · rw [if_pos h2, if_pos ⟨by omega, h2.2⟩]
    · rw [if_neg h2, if_neg (by omega)]
theorem fullTo_step (s : List UInt8) (k : Nat) (hk : k < s.length) : fullTo s (k + 1) = (fullTo s k).set k 255 :=
  list_ext0 _ _ (by simp [fullTo_length]) fun j hj => by
    rw [fullTo_length] at hj
    rw [getD_set _ _ _ _ (by rw [fullTo_length]; exact hk), fullTo_at _ _ _ hj, fullTo_at _ _ _ hj]
    by_cases h : j = k
    · subst h; rw [if_pos (by omega), if_pos rfl]
    · rw [if_neg h]
      by_cases h2 : j < k
      · rw [if_pos h2, if_pos (by omega)]
      · rw [if_neg h2, if_neg (by omega)]
theorem bitL_more (s more : List UInt8) (k m : Nat) (h : bitL s m = true) : bitL (moreTo s more k) m = true := by
  unfold bitL at *
  by_cases hm : m / 8 < s.length
  · rw [moreTo_at _ _ _ _ hm]
    split
    · rw [UInt8.toNat_or, Nat.testBit_or, h]; rfl
    · exact h
  · have : s.getD (m / 8) 0 = 0 := by simp [List.getD_eq_getElem?_getD, show s.length ≤ m / 8 by omega]
    rw [this] at h
    simp at h
theorem bitL_full (s : List UInt8) (m : Nat) (hm : m / 8 < s.length) : bitL (fullTo s s.length) m = true := by
  unfold bitL
  rw [fullTo_at _ _ _ hm, if_pos hm]
  have : (255 : UInt8).toNat = 2 ^ 8 - 1 := rfl
  rw [this, Nat.testBit_two_pow_sub_one]
  simp; omega
theorem may_more (s key : ByteArray) (b : List UInt8) (hl : b.length = s.data.toList.length) (hb : ∀ m, bitL s.data.toList m = true → bitL b m = true) (h : mayB s key = true) : mayB ⟨b.toArray⟩ key = true := by
  have hs : (⟨b.toArray⟩ : ByteArray).size = s.size := by rw [size_mk, hl]; rfl
  unfold mayB mayTo at *
  rw [hs]
  simp only [Bool.and_eq_true, bne_iff_ne, ne_eq, List.all_eq_true, List.mem_range] at *
  exact ⟨h.1, fun t ht => hb _ (h.2 t ht)⟩
theorem may_full (s key : ByteArray) : mayB ⟨(fullTo s.data.toList s.data.toList.length).toArray⟩ key = decide (0 < s.size) := by
  have hs : (⟨(fullTo s.data.toList s.data.toList.length).toArray⟩ : ByteArray).size = s.size := by rw [size_mk, fullTo_length]; rfl
  unfold mayB mayTo
  rw [hs]
  by_cases h0 : s.size = 0
  · simp [h0]
  · rw [show decide (0 < s.size) = true from decide_eq_true (by omega)]
    simp only [Bool.and_eq_true, bne_iff_ne, ne_eq, List.all_eq_true, List.mem_range]
    refine ⟨h0, fun t ht => ?_⟩
    rw [bitB_mk]
    have := prN_lt (hashU key.data.toList) (8 * s.size) t (by omega)
    exact bitL_full _ _ (by show _ < s.size; omega)

/-- A block that begins with these bytes, none of which is frozen. -/
def BytesIn (w : World) (b : Nat) (e : TypeId) (bs : List UInt8) : Prop :=
  ∃ cur lo hi, w.heap[b]? = some (.cells cur e (lo, hi)) ∧ bs.length ≤ lo ∧ ∀ j, j < bs.length → cur[j]? = some (.int .u8 ((bs.getD j 0).toNat : Int))
theorem BytesIn.cell {w : World} {b : Nat} {e : TypeId} {bs : List UInt8} (h : BytesIn w b e bs) (j : Nat) (hj : j < bs.length) : w.cell? ⟨b, j, none⟩ = some (.int .u8 ((bs.getD j 0).toNat : Int)) := by
  obtain ⟨cur, lo, hi, hb, _, hc⟩ := h
  rw [blk_cell hb]; exact hc j hj
theorem BytesIn.free {w : World} {b : Nat} {e : TypeId} {bs : List UInt8} (h : BytesIn w b e bs) (j : Nat) (hj : j < bs.length) : w.frozen? ⟨b, j, none⟩ = false := by
  obtain ⟨cur, lo, hi, hb, hl, _⟩ := h
  rw [blk_frozen hb]
  simp; omega
theorem BytesIn.set {w : World} {b : Nat} {e : TypeId} {bs : List UInt8} (h : BytesIn w b e bs) (j : Nat) (hj : j < bs.length) (c : UInt8) : BytesIn (w.setCell ⟨b, j, none⟩ (.int .u8 (c.toNat : Int))) b e (bs.set j c) := by
  obtain ⟨cur, lo, hi, hb, hl, hc⟩ := h
  refine ⟨_, lo, hi, blk_set hb j _, by simpa using hl, fun i hi' => ?_⟩
  rw [List.length_set] at hi'
  rw [getD_set _ _ _ _ hj]
  have hcj := hc j hj
  have hjs : j < cur.size := (Array.getElem?_eq_some_iff.1 hcj).1
  by_cases h : i = j
  · subst h; rw [if_pos rfl, Array.getElem?_setIfInBounds_self_of_lt hjs]
  · rw [if_neg h, Array.getElem?_setIfInBounds_ne (fun e => h e.symm)]; exact hc i hi'
theorem BytesIn.other {w : World} {b : Nat} {e : TypeId} {bs : List UInt8} (h : BytesIn w b e bs) {a : Addr} (ha : a.block ≠ b) (v : Value) : BytesIn (w.setCell a v) b e bs := by
  obtain ⟨cur, lo, hi, hb, hl, hc⟩ := h
  exact ⟨cur, lo, hi, by rw [blk_set_other (fun e => ha e.symm)]; exact hb, hl, hc⟩
theorem BytesIn.kept {w w' : World} {b : Nat} {e : TypeId} {bs : List UInt8} (h : BytesIn w b e bs) (hb' : Below w.heap.size w w') : BytesIn w' b e bs := by
  obtain ⟨cur, lo, hi, hb, hl, hc⟩ := h
  exact ⟨cur, lo, hi, blk_kept hb' hb, hl, hc⟩
theorem BytesIn.drew {w : World} {b : Nat} {e : TypeId} {bs : List UInt8} (h : BytesIn w b e bs) : BytesIn w.drew b e bs := h
theorem conv_in {P : Program} (w : World) (src dst e : TypeId) (s : ByteArray) (hs : P.underlying src = some .string) (hd : P.underlying dst = some (.slice e)) (he : P.underlying e = some (.int .u8)) :
    ∃ cap w', (convert src dst (.string s)).run P w = .ok (.slice (some ⟨w.heap.size, 0, none⟩) s.size cap) w' ∧ s.size ≤ cap ∧ BytesIn w' w.heap.size e s.data.toList ∧ Below w.heap.size w w' ∧ w'.heap.size = w.heap.size + 1 := by
  obtain ⟨cap, cur, w', h1, h2, h3, h4, h5, h6, h7⟩ := conv_bytes w src dst e s hs hd he
  refine ⟨cap, w', h1, h2, ⟨cur, cap, cap + 1, h4, h2, fun j hj => ?_⟩, h6, h7⟩
  have hj' : j < s.size := by simpa using hj
  rw [h5 j hj']
  rw [List.getD_eq_getElem?_getD, List.getElem?_eq_getElem hj]; rfl
theorem BytesIn.string {P : Program} {w : World} {b : Nat} {e : TypeId} {bs : List UInt8} (h : BytesIn w b e bs) (src dst : TypeId) (hs : P.underlying src = some (.slice e)) (he : P.underlying e = some (.int .u8)) (hd : P.underlying dst = some .string) (n cap : Nat) (hn : n = bs.length) :
    (convert src dst (.slice (some ⟨b, 0, none⟩) n cap)).run P w = .ok (.string ⟨bs.toArray⟩) w := by
  subst hn
  exact run_string_of_bytes w src dst e hs he hd b cap bs fun j hj => h.cell j hj
theorem or_u8 (a b : UInt8) : bits BinOp.or IntKind.u8 (a.toNat : Int) (b.toNat : Int) = ((a ||| b).toNat : Int) := by
  have h1 := a.toNat_lt
  have h2 := b.toNat_lt
  have hb := (bits_nat .u8 8 (by decide) wraps_u8 a.toNat b.toNat (by omega) (by omega)).2
  have hb' : bits BinOp.or IntKind.u8 (a.toNat : Int) (b.toNat : Int) = ((a.toNat ||| b.toNat : Nat) : Int) := hb
  rw [hb', UInt8.toNat_or]
theorem getD_data (s : ByteArray) (k : Nat) (h : k < s.size) : s.data.toList.getD k 0 = s[k] := by
  rw [List.getD_eq_getElem?_getD, List.getElem?_eq_getElem (by simpa using h)]; rfl

set_option maxHeartbeats 2000000 in
theorem more_core (F more K : ByteArray) (w : World) (hF : F.size ≤ 4000) (hm : more.size ≤ maxLen) (hK : K.size ≤ maxLen) (s key : ByteArray)
    (h : (4000 < s.size ∧ s.extract 0 4000 = F) ∨ (¬ 4000 < s.size ∧ F = s)) (h' : (4000 < key.size ∧ key.extract 0 4000 = K) ∨ (¬ 4000 < key.size ∧ K = key)) (hs : s.size ≤ maxLen) (hk : key.size ≤ maxLen) :
    Calls Try.prog 8 #[.string s, .string more, .string key] w fun e w' => e = .returned (.bool true) ∧ Below w.heap.size w w' := by
  have hK' := hK
  unfold maxLen at hm hs hk
  obtain ⟨cap1, w1, hconv1, hcap1, hin1, hb1, hsz1⟩ := conv_in (P := Try.prog) w 9 32 5 F Try.underlying9 Try.underlying32 Try.underlying5
  obtain ⟨cap2, w2, hconv2, hcap2, hin2, hb2, hsz2⟩ := conv_in (P := Try.prog) w1 9 32 5 F Try.underlying9 Try.underlying32 Try.underlying5
  have hB := below_step hb1 hb2 (by omega)
  replace hin1 := hin1.kept hb2
  have hl12 : w.heap.size < w1.heap.size := by omega
  have HI1 := Lib.hid hin1
  have HI2 := Lib.hid hin2
  clear hin1 hin2 hb1 hb2 hsz1 hsz2
  obtain ⟨S, hS⟩ : ∃ S, S = F.data.toList := ⟨_, rfl⟩
  obtain ⟨M, hM⟩ : ∃ M, M = more.data.toList := ⟨_, rfl⟩
  have hSl : S.length = F.size := by rw [hS]; simp
  have hMl : M.length = more.size := by rw [hM]; simp
  rw [← hS] at HI1 HI2
  have HSL := Lib.hid hSl
  have HML := Lib.hid hMl
  have HSS := Lib.hid hS
  have HMM := Lib.hid hM
  clear hS hM hSl hMl
  rcases h with ⟨h, he⟩ | ⟨h, rfl⟩ <;> rcases h' with ⟨h', he'⟩ | ⟨h', rfl⟩
  all_goals
    go_enter Try.func8, Try.ntmps8
    go_wp2
    go_loopw [9] (fun i wr => ∃ k : Nat, k ≤ F.size ∧ i = .int .i64 k ∧ BytesIn wr w.heap.size 5 (moreTo S M k) ∧ BytesIn wr w1.heap.size 5 (fullTo S k) ∧ Below w.heap.size w wr) (fun i _ => F.size - (intOf i).toNat)
    case atStart => exact ⟨0, by omega, rfl, by rw [moreTo_zero]; exact HI1.out, by rw [fullTo_zero]; exact HI2.out, hB⟩
    case round =>
      obtain ⟨k, hk, rfl, hin1, hin2, hbel⟩ := hrel
      have hml := moreTo_length S M k
      have hfl := fullTo_length S k
      by_cases hlt : k < F.size
      · have hk1 : k < (moreTo S M k).length := by rw [hml, HSL.out]; exact hlt
        have hk2 : k < (fullTo S k).length := by rw [hfl, HSL.out]; exact hlt
        have hc1 := hin1.cell k hk1
        have hz1 := hin1.free k hk1
        have hc2 := hin2.cell k hk2
        have hz2 := hin2.free k hk2
        have HF := Lib.hid (fullTo_step S k (by rw [HSL.out]; exact hlt))
        have HI1 := Lib.hid hin1
        have HI2 := Lib.hid hin2
        have HK1 := Lib.hid hk1
        have HK2 := Lib.hid hk2
        clear hin1 hin2 hml hfl hk1 hk2
        by_cases hmk : k < more.size
        · have HY := Lib.hid (moreTo_yes S M k (by rw [HSL.out]; exact hlt) (by rw [HML.out]; exact hmk))
          have HG := Lib.hid (getD_data more k hmk)
          have hor := or_u8 ((moreTo S M k).getD k 0) more[k]
          have HSET := Lib.hid (HI1.out.set k HK1.out ((moreTo S M k).getD k 0 ||| more[k]))
          have HNX := Lib.hid (show (moreTo S M k).set k ((moreTo S M k).getD k 0 ||| more[k]) = moreTo S M (k + 1) by rw [HY.out, HMM.out, HG.out])
          generalize (moreTo S M k).getD k 0 = c at *
          generalize (fullTo S k).getD k 0 = d at *
          go_wp2
          go_region
          go_wp2
          go_roundw
          case rel =>
            refine ⟨k + 1, by omega, by go_num, ?_, ?_, ?_⟩
            · have := HSET.out
              rw [HNX.out] at this
              exact BytesIn.other this.drew (by simp; omega) _
            · have := (BytesIn.other HI2.out (a := ⟨w.heap.size, k, none⟩) (by simp; omega) (.int .u8 ((c ||| more[k]).toNat : Int))).drew.set k HK2.out 255
              rw [← HF.out] at this
              exact this
            · exact ((hbel.setCell (Nat.le_refl _) _).drew).setCell (by simp; omega) _
          case measure => simp [intOf]; omega
        · have HN := Lib.hid (moreTo_no S M k (by rw [HML.out]; exact hmk))
          generalize (moreTo S M k).getD k 0 = c at *
          generalize (fullTo S k).getD k 0 = d at *
          go_wp2
          go_roundw
          case rel =>
            refine ⟨k + 1, by omega, by go_num, ?_, ?_, hbel.setCell (by simp; omega) _⟩
            · rw [HN.out]; exact BytesIn.other HI1.out (by simp; omega) _
            · have := HI2.out.set k HK2.out 255
              rw [← HF.out] at this
              exact this
          case measure => simp [intOf]; omega
      · have HKF := Lib.hid (show k = F.size by omega)
        have HI1 := Lib.hid hin1
        have HI2 := Lib.hid hin2
        have HL1 := Lib.hid (show F.size = (moreTo S M k).length by rw [hml, HSL.out])
        have HL2 := Lib.hid (show F.size = (fullTo S k).length by rw [hfl, HSL.out])
        have HMORE := Lib.hid (fun h => may_more F K (moreTo S M k) (by rw [hml, ← HSS.out]) (fun m hm => by rw [← HSS.out] at hm; exact bitL_more S M k m hm) h)
        have HFULL := Lib.hid (show mayB ⟨(fullTo S k).toArray⟩ K = decide (0 < F.size) by
          have := may_full F K
          rw [← HSS.out, HSL.out] at this
          rw [HKF.out]
          exact this)
        clear hin1 hin2 hml hfl
        have hsz := hbel.size
        go_wp2_with fail
        refine (bmay F K _ (by omega) hK').mono ?_
        cases hmay : mayB F K
        all_goals
          have HMAY := Lib.hid hmay
          clear hmay
          rintro e w3 ⟨rfl, hb3⟩
          replace hbel := below_step hbel hb3 hsz
          replace hsz := hbel.size
          replace HI1 := Lib.hid (HI1.out.kept hb3)
          replace HI2 := Lib.hid (HI2.out.kept hb3)
          clear hb3
        · have hs2 := HI2.out.string 32 9 Try.underlying32 Try.underlying5 Try.underlying9 F.size cap2 HL2.out
          go_wp2_with fail
          clear hs2
          refine (bmay _ K _ (by rw [size_mk, ← HL2.out]; omega) hK').mono ?_
          rw [HFULL.out]
          rintro e w5 ⟨rfl, hb5⟩
          replace hbel := below_step hbel hb5 hsz
          replace hsz := hbel.size
          clear hb5
          go_wp2_with fail
          refine (awake _).mono ?_
          rintro e w6 ⟨rfl, hb6⟩
          replace hbel := below_step hbel hb6 hsz
          clear hb6
          go_wp2
          go_ret
          exact ⟨rfl, hbel⟩
        · have hs1 := HI1.out.string 32 9 Try.underlying32 Try.underlying5 Try.underlying9 F.size cap1 HL1.out
          go_wp2_with fail
          clear hs1
          refine (bmay _ K _ (by rw [size_mk, ← HL1.out]; omega) hK').mono ?_
          rw [HMORE.out HMAY.out]
          rintro e w4 ⟨rfl, hb4⟩
          replace hbel := below_step hbel hb4 hsz
          replace hsz := hbel.size
          replace HI2 := Lib.hid (HI2.out.kept hb4)
          clear hb4
          have hs2 := HI2.out.string 32 9 Try.underlying32 Try.underlying5 Try.underlying9 F.size cap2 HL2.out
          go_wp2_with fail
          clear hs2
          refine (bmay _ K _ (by rw [size_mk, ← HL2.out]; omega) hK').mono ?_
          rw [HFULL.out]
          rintro e w5 ⟨rfl, hb5⟩
          replace hbel := below_step hbel hb5 hsz
          replace hsz := hbel.size
          clear hb5
          go_wp2_with fail
          refine (awake _).mono ?_
          rintro e w6 ⟨rfl, hb6⟩
          replace hbel := below_step hbel hb6 hsz
          clear hb6
          go_wp2
          go_ret
          exact ⟨rfl, hbel⟩
theorem law_more (s more key : ByteArray) (w : World) (hs : s.size ≤ maxLen) (hm : more.size ≤ maxLen) (hk : key.size ≤ maxLen) :
    Calls Try.prog 8 #[.string s, .string more, .string key] w fun e w' => e = .returned (.bool true) ∧ Below w.heap.size w w' := by
  have h1 : ∃ F, F.size ≤ 4000 ∧ ((4000 < s.size ∧ s.extract 0 4000 = F) ∨ (¬ 4000 < s.size ∧ F = s)) := by
    by_cases h : 4000 < s.size
    · exact ⟨_, by simp; omega, .inl ⟨h, rfl⟩⟩
    · exact ⟨s, by omega, .inr ⟨h, rfl⟩⟩
  have h2 : ∃ K, K.size ≤ 4000 ∧ ((4000 < key.size ∧ key.extract 0 4000 = K) ∨ (¬ 4000 < key.size ∧ K = key)) := by
    by_cases h : 4000 < key.size
    · exact ⟨_, by simp; omega, .inl ⟨h, rfl⟩⟩
    · exact ⟨key, by omega, .inr ⟨h, rfl⟩⟩
  obtain ⟨F, hF, h1⟩ := h1
  obtain ⟨K, hK, h2⟩ := h2
  exact more_core F more K w hF hm (Nat.le_trans hK (by decide)) s key h1 h2 hs hk
end Go.Proofs.Try
