/- BloomRow: the row of the keys does not matter. -/
import Derived.Test.YtgpogkibldlgbaaLaws4
namespace Go.Proofs.Try
open Go.RowKit Go.Cph
set_option linter.unusedVariables false
set_option linter.unusedSimpArgs false

/-! ### plain: lists of keys -/
def turnTo (keys : List ByteArray) (i k : Nat) : List ByteArray := (List.range k).map fun n => keys.getD ((n + i) % keys.length) ⟨#[]⟩
theorem turnTo_length (keys : List ByteArray) (i k : Nat) : (turnTo keys i k).length = k := by simp [turnTo]
theorem turnTo_succ (keys : List ByteArray) (i k : Nat) : turnTo keys i (k + 1) = turnTo keys i k ++ [keys.getD ((k + i) % keys.length) ⟨#[]⟩] := by simp [turnTo, List.range_succ]
theorem turn_mem (keys : List ByteArray) (i : Nat) (hi : i < keys.length) (x : ByteArray) : x ∈ turnTo keys i keys.length ↔ x ∈ keys := by
  unfold turnTo
  simp only [List.mem_map, List.mem_range]
  constructor
  · rintro ⟨n, hn, rfl⟩
    have : (n + i) % keys.length < keys.length := Nat.mod_lt _ (by omega)
    rw [List.getD_eq_getElem?_getD, List.getElem?_eq_getElem this]
    exact List.getElem_mem _
  · intro h
    obtain ⟨j, hj, rfl⟩ := List.getElem_of_mem h
    by_cases hij : i ≤ j
    · refine ⟨j - i, by omega, ?_⟩
      rw [show j - i + i = j by omega, Nat.mod_eq_of_lt hj, List.getD_eq_getElem?_getD, List.getElem?_eq_getElem hj]; rfl
    · refine ⟨j + keys.length - i, by omega, ?_⟩
      rw [show j + keys.length - i + i = j + keys.length by omega, Nat.add_mod_right, Nat.mod_eq_of_lt hj, List.getD_eq_getElem?_getD, List.getElem?_eq_getElem hj]; rfl
def swapEnds (l : List ByteArray) : List ByteArray := (l.set 0 (l.getD (l.length - 1) ⟨#[]⟩)).set (l.length - 1) (l.getD 0 ⟨#[]⟩)
theorem swap_length (l : List ByteArray) : (swapEnds l).length = l.length := by simp [swapEnds]
theorem swap_at (l : List ByteArray) (j : Nat) (hj : j < l.length) : (swapEnds l)[j]'(by rw [swap_length]; exact hj) = if j = l.length - 1 then l.getD 0 ⟨#[]⟩ else if j = 0 then l.getD (l.length - 1) ⟨#[]⟩ else l[j] := by
  unfold swapEnds
  rw [List.getElem_set]
  by_cases h : j = l.length - 1
  · rw [if_pos h.symm, if_pos h]
  · rw [if_neg (fun e => h e.symm), if_neg h, List.getElem_set]
    by_cases h0 : j = 0
    · rw [if_pos h0.symm, if_pos h0]
    · rw [if_neg (fun e => h0 e.symm), if_neg h0]
theorem swap_mem (l : List ByteArray) (hl : 0 < l.length) (x : ByteArray) : x ∈ swapEnds l ↔ x ∈ l := by
  have e0 : l.getD 0 ⟨#[]⟩ = l[0] := by rw [List.getD_eq_getElem?_getD, List.getElem?_eq_getElem hl]; rfl
  have e1 : l.getD (l.length - 1) ⟨#[]⟩ = l[l.length - 1] := by rw [List.getD_eq_getElem?_getD, List.getElem?_eq_getElem (by omega)]; rfl
  constructor
  · intro h
    obtain ⟨j, hj, rfl⟩ := List.getElem_of_mem h
    rw [swap_length] at hj
    rw [swap_at l j hj, e0, e1]
    split
    · exact List.getElem_mem _
    · split <;> exact List.getElem_mem _
  · intro h
    obtain ⟨j, hj, rfl⟩ := List.getElem_of_mem h
    by_cases h0 : j = 0
    · subst h0
      have := swap_at l (l.length - 1) (by omega)
      rw [if_pos rfl, e0] at this
      rw [← this]; exact List.getElem_mem _
    · by_cases h1 : j = l.length - 1
      · have := swap_at l 0 hl
        by_cases h2 : (0 : Nat) = l.length - 1
        · omega
        · rw [if_neg h2, if_pos rfl, e1] at this
          subst h1
          rw [← this]; exact List.getElem_mem _
      · have := swap_at l j hj
        rw [if_neg h1, if_neg h0] at this
        rw [← this]; exact List.getElem_mem _
theorem less_mem (keys : List ByteArray) (i k : Nat) (hk : k < keys.length) (x : ByteArray) (h : x ∈ keys.set i (keys.getD k ⟨#[]⟩)) : x ∈ keys := by
  rcases List.mem_or_eq_of_mem_set h with h | rfl
  · exact h
  · rw [List.getD_eq_getElem?_getD, List.getElem?_eq_getElem hk]; exact List.getElem_mem _
theorem andNot_zero (a b : UInt8) (h : ∀ t, t < 8 → a.toNat.testBit t = true → b.toNat.testBit t = true) : (bits BinOp.andNot IntKind.u8 (a.toNat : Int) (b.toNat : Int) != 0) = false := by
  have key : ∀ a b : BitVec 8, (∀ t, t < 8 → a.toNat.testBit t = true → b.toNat.testBit t = true) → a &&& ~~~b = 0#8 := by
    intro a b h
    apply BitVec.eq_of_getLsbD_eq
    intro i hi
    rw [BitVec.getLsbD_and, BitVec.getLsbD_not]
    have := h i hi
    simp only [BitVec.testBit_toNat] at this
    cases ha : a.getLsbD i
    · simp
    · rw [this ha]; simp
  have e1 : BitVec.ofInt 8 (a.toNat : Int) = a.toBitVec := by
    rw [BitVec.ofInt_natCast]; exact BitVec.eq_of_toNat_eq (by simp)
  have e2 : BitVec.ofInt 8 (b.toNat : Int) = b.toBitVec := by
    rw [BitVec.ofInt_natCast]; exact BitVec.eq_of_toNat_eq (by simp)
  have := key a.toBitVec b.toBitVec h
  show (IntKind.u8.wrap ((BitVec.ofInt 8 (a.toNat : Int) &&& ~~~BitVec.ofInt 8 (b.toNat : Int)).toNat : Int) != 0) = false
  rw [e1, e2, this]
  rfl

/-! ### the walk -/
def strV (ss : List ByteArray) : List Value := ss.map Value.string
theorem strV_at (ss : List ByteArray) (j : Nat) (hj : j < ss.length) : (strV ss)[j]? = some (.string ss[j]) := by simp [strV, hj]
theorem strs_own {w : World} {base n : Nat} {v : Value} {ss : List ByteArray} (hn : n = ss.length) (h : w.ownsRow base 9 1 v n (strV ss)) : StrsAt w v ss := by
  subst hn
  by_cases h0 : 0 < ss.length
  · obtain ⟨g, cap, rfl, _, _, _, hc, _⟩ := owns_shape h h0
    refine ⟨_, cap, rfl, fun _ => ⟨g, 0, rfl, fun j hj => ?_⟩⟩
    rw [Nat.zero_add, hc j (by omega), strV_at ss j hj]
  · have hz : ss.length = 0 := by omega
    obtain ⟨_, h2⟩ := h
    rcases h2 with ⟨rfl, _⟩ | ⟨g, cap, cur, rfl, _⟩
    · exact ⟨none, 0, by rw [hz], fun h => by omega⟩
    · exact ⟨_, cap, rfl, fun h => by omega⟩
theorem own_blk {w : World} {base : Nat} {e : TypeId} {size : Nat} {v : Value} {n : Nat} {xs : List Value} (h : w.ownsRow base e size v n xs) (hn : 0 < n) :
    ∃ g cap cur, v = .slice (some ⟨g, 0, none⟩) n cap ∧ base ≤ g ∧ w.heap[g]? = some (.cells cur e (0, 0)) ∧ n * size ≤ cur.size ∧ ∀ j, j < n * size → cur[j]? = xs[j]? := by
  obtain ⟨hx, h2⟩ := h
  rcases h2 with ⟨_, h0⟩ | ⟨g, cap, cur, rfl, hb, hg, hc, _, hcs, ht⟩
  · omega
  · refine ⟨g, cap, cur, rfl, hb, hg, by rw [hcs]; exact Nat.mul_le_mul_right _ hc, fun j hj => ?_⟩
    rw [← ht, List.getElem?_take, if_pos hj]
    simp
/-- What a block of strings holds behind two stores at its ends. -/
theorem strs_swapped {w : World} {g cap : Nat} {cur : Array Value} {l : List ByteArray} (hg : w.heap[g]? = some (.cells cur 9 (0, 0))) (hl : 0 < l.length) (hcs : l.length ≤ cur.size) (hc : ∀ j (h : j < l.length), cur[j]? = some (.string l[j])) :
    StrsAt ((w.setCell ⟨g, 0, none⟩ (.string (l.getD (l.length - 1) ⟨#[]⟩))).setCell ⟨g, l.length - 1, none⟩ (.string (l.getD 0 ⟨#[]⟩))) (.slice (some ⟨g, 0, none⟩) l.length cap) (swapEnds l) := by
  refine ⟨_, cap, by rw [swap_length], fun _ => ⟨g, 0, rfl, fun j hj => ?_⟩⟩
  rw [swap_length] at hj
  rw [Nat.zero_add, blk_cell (blk_set (blk_set hg 0 _) _ _), swap_at l j hj]
  by_cases h1 : j = l.length - 1
  · rw [if_pos h1, h1, Array.getElem?_setIfInBounds_self_of_lt (by simp; omega)]
  · rw [if_neg h1, Array.getElem?_setIfInBounds_ne (fun e => h1 e.symm)]
    by_cases h0 : j = 0
    · subst h0
      rw [if_pos rfl, Array.getElem?_setIfInBounds_self_of_lt (by omega)]
    · rw [if_neg h0, Array.getElem?_setIfInBounds_ne (fun e => h0 e.symm)]
      exact hc j hj
/-- What a block of strings holds behind one store. -/
theorem strs_stored {w : World} {g cap : Nat} {cur : Array Value} {l : List ByteArray} (hg : w.heap[g]? = some (.cells cur 9 (0, 0))) (i : Nat) (s : ByteArray) (hi : i < l.length) (hcs : l.length ≤ cur.size) (hc : ∀ j (h : j < l.length), cur[j]? = some (.string l[j])) :
    StrsAt (w.setCell ⟨g, i, none⟩ (.string s)) (.slice (some ⟨g, 0, none⟩) l.length cap) (l.set i s) := by
  refine ⟨_, cap, by rw [List.length_set], fun _ => ⟨g, 0, rfl, fun j hj => ?_⟩⟩
  rw [List.length_set] at hj
  rw [Nat.zero_add, blk_cell (blk_set hg i _), List.getElem_set]
  by_cases h1 : i = j
  · subst h1; rw [if_pos rfl, Array.getElem?_setIfInBounds_self_of_lt (by omega)]
  · rw [if_neg h1, Array.getElem?_setIfInBounds_ne h1]
    exact hc j hj
theorem info9' : (Try.prog.info? 9).map (fun i => (i.zero, i.size, i.bytes)) = some (some (.string ⟨#[]⟩), 1, 16) := by kernel_rfl

set_option maxHeartbeats 2000000 in
theorem row_core (ao : Option Addr) (cap : Nat) (keys : List ByteArray) (a1 a2 : Int) (w : World) (hv : StrsAt w (.slice ao keys.length cap) keys) (hn : keys.length ≤ maxLen) (hs : ∀ s ∈ keys, s.size ≤ maxLen)
    (h1 : 0 ≤ a1 ∧ a1 ≤ 255) (h2 : 0 ≤ a2 ∧ a2 ≤ 255) (hg : greatB keys = false) (h0 : 0 < keys.length) :
    Calls Try.prog 7 #[.slice ao keys.length cap, .int .u8 a1, .int .u8 a2] w fun e w' => e = .returned (.bool true) ∧ Below w.heap.size w w' := by
  obtain ⟨hg1, _⟩ := great_no hg
  obtain ⟨h1a, h1b⟩ := h1
  obtain ⟨h2a, h2b⟩ := h2
  have hL0 : ((keys.length : Int) == 0) = false := by simp; intro h; rw [h] at h0; simp at h0
  have HV0 := Lib.hid hv
  have HS := Lib.hid hs
  obtain ⟨i, hi⟩ : ∃ i : Nat, a1 % (keys.length : Int) = i := ⟨(a1 % (keys.length : Int)).toNat, by rw [Int.toNat_of_nonneg (Int.emod_nonneg _ (by omega))]⟩
  obtain ⟨k, hk⟩ : ∃ k : Nat, a2 % (keys.length : Int) = k := ⟨(a2 % (keys.length : Int)).toNat, by rw [Int.toNat_of_nonneg (Int.emod_nonneg _ (by omega))]⟩
  have hil : i < keys.length := by have := Int.emod_lt_of_pos a1 (show 0 < (keys.length : Int) by omega); omega
  have hkl : k < keys.length := by have := Int.emod_lt_of_pos a2 (show 0 < (keys.length : Int) by omega); omega
  obtain ⟨ao', cap', hve, hcells⟩ := hv
  simp only [Value.slice.injEq, true_and] at hve
  obtain ⟨rfl, rfl⟩ := hve
  obtain ⟨b, off, rfl, hc⟩ := hcells h0
  have HC := Lib.hid hc
  clear hcells hc hs
  go_enter Try.func7, Try.ntmps7
  go_wp2_with (first | (go_at_call 13; refine (great _ keys _ HV0.out hn HS.out).mono ?_; rw [hg]; rintro e w1 ⟨rfl, rfl⟩) | (go_at_call 10; refine (bmake _ keys _ HV0.out (by omega) HS.out).mono ?_; rintro e w1 ⟨rfl, hb1⟩))
  have HB1 := Lib.hid hb1
  have hsz1 := hb1.size
  clear hb1
  go_loopw [10, 11] (fun v x wr => ∃ m : Nat, m ≤ keys.length ∧ x = .int .i64 m ∧ wr.ownsRow w.heap.size 9 1 v m (strV (turnTo keys i m)) ∧ Below w.heap.size w wr) (fun _ x _ => keys.length - (intOf x).toNat)
  case atStart => exact ⟨0, by omega, rfl, World.ownsRow_nil _ _ _ _, HB1.out⟩
  case round =>
    obtain ⟨m, hm, rfl, hown, hbel⟩ := hrel
    have hsz := hbel.size
    by_cases hlt : m < keys.length
    · have hq : (m + i) % keys.length < keys.length := Nat.mod_lt _ h0
      have hq1 : 0 ≤ ((m : Int) + i) % keys.length := Int.emod_nonneg _ (by omega)
      have hq2 : ((m : Int) + i) % keys.length < keys.length := Int.emod_lt_of_pos _ (by omega)
      have hcell := (hbel.cell (World.block_lt_of_cell? w _ (HC.out _ hq))).trans (HC.out _ hq)
      have HT := Lib.hid (show turnTo keys i (m + 1) = turnTo keys i m ++ [keys[(m + i) % keys.length]] by
        rw [turnTo_succ, List.getD_eq_getElem?_getD, List.getElem?_eq_getElem hq]; rfl)
      generalize keys[(m + i) % keys.length] = key at *
      go_wp2_with (at_builtin; refine wpList_append1 rfl (.tmp 41) (.tmp 51) 22 rfl w.heap.size 9 _ 1 16 Try.underlying22 info9' rfl (by decide) _ m _ [.string key] rfl hown _ _ rfl rfl rfl (by simp [Value.oneCell']) (by omega) (by omega) hsz w.heap.size w hbel (Nat.le_refl _) ?_)
      intro v' w' hown' _ hbel' _
      clear hown hbel hcell
      go_wp2
      go_roundw
      case rel => exact ⟨m + 1, by omega, by go_num, by rw [HT.out, strV, List.map_append]; exact hown', hbel'⟩
      case measure => simp [intOf]; omega
    · obtain ⟨l, hl⟩ : ∃ l, l = turnTo keys i keys.length := ⟨_, rfl⟩
      have hml : m = keys.length := by omega
      have hll : l.length = keys.length := by rw [hl, turnTo_length]
      obtain ⟨g, cp, cur, hve, hgb, hblk, hcs, hcur⟩ := own_blk hown (by omega)
      rw [hml, ← hl] at hcur
      rw [hml] at hve
      have hcur' : ∀ j (h : j < l.length), cur[j]? = some (.string l[j]) := fun j h => by rw [hcur j (by omega), strV_at l j h]
      have HSW := Lib.hid (strs_swapped (cap := cp) hblk (by omega) (by omega) hcur')
      have hsame : makeL (swapEnds l) = makeL keys := makeL_same _ _ (by rw [swap_length, hll]) fun x => by
        rw [swap_mem l (by omega), hl, turn_mem keys i hil]
      have hlmem : ∀ s ∈ swapEnds l, s.size ≤ maxLen := fun s hs => HS.out s (by
        rw [swap_mem l (by omega), hl, turn_mem keys i hil] at hs; exact hs)
      have HSAME := Lib.hid hsame
      have HMEM := Lib.hid hlmem
      have HLL := Lib.hid hll
      have hcA : wr.cell? ⟨g, 0, none⟩ = some (.string (l.getD 0 ⟨#[]⟩)) := by
        rw [blk_cell hblk, hcur' 0 (by omega), List.getD_eq_getElem?_getD, List.getElem?_eq_getElem (by omega)]; rfl
      have hcZ : wr.cell? ⟨g, keys.length - 1, none⟩ = some (.string (l.getD (l.length - 1) ⟨#[]⟩)) := by
        rw [blk_cell hblk, ← hll, hcur' _ (by omega), List.getD_eq_getElem?_getD, List.getElem?_eq_getElem (by omega)]; rfl
      have hzA : wr.frozen? ⟨g, 0, none⟩ = false := by rw [blk_frozen hblk]; simp
      have hcZ' : ∃ c, (wr.setCell ⟨g, 0, none⟩ (.string (l.getD (l.length - 1) ⟨#[]⟩))).cell? ⟨g, keys.length - 1, none⟩ = some c := by
        rw [blk_cell (blk_set hblk 0 _), ← hll]
        exact ⟨_, Array.getElem?_eq_getElem (by simp; omega)⟩
      have hzZ : (wr.setCell ⟨g, 0, none⟩ (.string (l.getD (l.length - 1) ⟨#[]⟩))).frozen? ⟨g, keys.length - 1, none⟩ = false := by
        rw [blk_frozen (blk_set hblk 0 _)]; simp
      clear hcur hcur' hblk hsame hlmem hll hl hown hcs HB1
      generalize l.getD (l.length - 1) ⟨#[]⟩ = xz at *
      generalize l.getD 0 ⟨#[]⟩ = xa at *
      rw [HLL.out] at HSW
      obtain ⟨cz, hcZ'⟩ := hcZ'
      rw [hve]
      have HMK := Lib.hid hml
      clear hml hve
      go_wp2
      go_region
      have hbS : Below w.heap.size w ((wr.setCell ⟨g, 0, none⟩ (.string xz)).setCell ⟨g, keys.length - 1, none⟩ (.string xa)).drew := ((hbel.setCell hgb _).setCell hgb _).drew
      have HSW' := Lib.hid (show StrsAt ((wr.setCell ⟨g, 0, none⟩ (.string xz)).setCell ⟨g, keys.length - 1, none⟩ (.string xa)).drew (.slice (some ⟨g, 0, none⟩) keys.length cp) (swapEnds l) from HSW.out)
      clear hcA hcZ hzA hzZ hcZ' hbel HSW
      generalize ((wr.setCell ⟨g, 0, none⟩ (.string xz)).setCell ⟨g, keys.length - 1, none⟩ (.string xa)).drew = w2 at *
      go_wp2_with fail
      refine (bmake _ (swapEnds l) _ HSW'.out (by rw [swap_length, HLL.out]; omega) HMEM.out).mono ?_
      rw [HSAME.out]
      rintro e w3 ⟨rfl, hb3⟩
      replace hbS := below_step hbS hb3 hbS.size
      clear hb3 HSW'
      have hszS := hbS.size
      have hfl : (⟨(makeL keys).toArray⟩ : ByteArray).size = sizeF keys.length := by rw [size_mk, makeL_length]
      have HBIT := Lib.hid (makeL_part (keys.set i (keys.getD k ⟨#[]⟩)) keys (by rw [List.length_set]) (fun x hx => less_mem keys i k hkl x hx))
      have HGL := Lib.hid (show (⟨(makeL (keys.set i (keys.getD k ⟨#[]⟩))).toArray⟩ : ByteArray).size = sizeF keys.length by rw [size_mk, makeL_length, List.length_set])
      have HDF := Lib.hid (fun m (hm : m < (⟨(makeL keys).toArray⟩ : ByteArray).size) => getD_data ⟨(makeL keys).toArray⟩ m hm)
      have HDG := Lib.hid (fun m (hm : m < (⟨(makeL (keys.set i (keys.getD k ⟨#[]⟩))).toArray⟩ : ByteArray).size) => getD_data ⟨(makeL (keys.set i (keys.getD k ⟨#[]⟩))).toArray⟩ m hm)
      have HLF := Lib.hid (show (⟨(makeL keys).toArray⟩ : ByteArray).data.toList = makeL keys from rfl)
      have HLG := Lib.hid (show (⟨(makeL (keys.set i (keys.getD k ⟨#[]⟩))).toArray⟩ : ByteArray).data.toList = makeL (keys.set i (keys.getD k ⟨#[]⟩)) from rfl)
      have HFL := Lib.hid hfl
      clear hfl
      generalize (⟨(makeL keys).toArray⟩ : ByteArray) = f at *
      obtain ⟨i9, hi9, hz9, hs9, hy9⟩ := info_parts info9'
      have Hi9 := Lib.hid hi9
      have Hz9 := Lib.hid hz9
      have Hs9 := Lib.hid hs9
      have Hy9 := Lib.hid hy9
      clear hi9 hz9 hs9 hy9
      have hown0 : (w3.alloc (.cells #[] 9)).ownsRow w.heap.size 9 1 (.slice (some ⟨w3.heap.size, 0, none⟩) 0 0) 0 [] := World.ownsRow_made w3 #[] 0 hszS (by decide) rfl
      have hbA : Below w.heap.size w (w3.alloc (.cells #[] 9)) := hbS.alloc hszS _
      have hkc : ∀ j u, (strV keys)[j]? = some u → (w3.alloc (.cells #[] 9)).cell? ((⟨b, off, none⟩ : Addr).add j) = some u := by
        intro j u hu
        have hj : j < keys.length := by have := (List.getElem?_eq_some_iff.1 hu).1; simpa [strV] using this
        rw [strV_at keys j hj] at hu
        have hadd : (⟨b, off, none⟩ : Addr).add j = ⟨b, off + j, none⟩ := by unfold Addr.add; split <;> simp_all
        rw [hadd, ← hu]
        exact (hbA.cell (World.block_lt_of_cell? w _ (HC.out j hj))).trans (HC.out j hj)
      have HKC := Lib.hid hkc
      have HOWN0 := Lib.hid hown0
      clear hkc hown0
      go_wp2_with (at_builtin; refine wpList_append_own _ rfl (.tmp 73) (.tmp 74) 22 rfl w.heap.size 9 i9 _ 1 16 Try.underlying22 Hi9.out Hz9.out Hs9.out Hy9.out rfl (by decide) _ 0 _ rfl HOWN0.out ⟨b, off, none⟩ keys.length cap (strV keys) rfl (by simp [strV]) HKC.out (by simp [strV, Value.oneCell']) (by unfold maxLen; omega) (by omega) (by simp; omega) ?_)
      intro v' w' hown' hgrow _
      have hbL : Below w.heap.size w w' := below_grown hbA hgrow HOWN0.out (Nat.le_refl _) (by simp; omega)
      obtain ⟨g2, cp2, cur2, hve, hgb2, hblk2, hcs2, hcur2⟩ := own_blk hown' h0
      have hcur2' : ∀ j (h : j < keys.length), cur2[j]? = some (.string keys[j]) := fun j h => by rw [hcur2 j (by omega), strV_at keys j h]
      have ek : keys.getD k ⟨#[]⟩ = keys[k] := by rw [List.getD_eq_getElem?_getD, List.getElem?_eq_getElem hkl]; rfl
      have hck : w'.cell? ⟨g2, k, none⟩ = some (.string keys[k]) := by rw [blk_cell hblk2, hcur2' k hkl]
      have hci : w'.cell? ⟨g2, i, none⟩ = some (.string keys[i]) := by rw [blk_cell hblk2, hcur2' i hil]
      have hzi : w'.frozen? ⟨g2, i, none⟩ = false := by rw [blk_frozen hblk2]; simp
      have HLS := Lib.hid (strs_stored (cap := cp2) hblk2 i keys[k] hil (by omega) hcur2')
      rw [← ek] at HLS hck
      have HMEM2 := Lib.hid (fun s (hs : s ∈ keys.set i (keys.getD k ⟨#[]⟩)) => HS.out s (less_mem keys i k hkl s hs))
      have HLEN2 := Lib.hid (show (keys.set i (keys.getD k ⟨#[]⟩)).length = keys.length by rw [List.length_set])
      generalize keys.set i (keys.getD k ⟨#[]⟩) = less at *
      generalize keys.getD k ⟨#[]⟩ = kk at *
      generalize keys[i] = ki at *
      clear ek hcur2 hcur2' hcs2 hblk2 hown' hgrow hbA HOWN0 HKC
      rw [hve]
      clear hve
      go_wp2_with fail
      have hbT : Below w.heap.size w (w'.setCell ⟨g2, i, none⟩ (.string kk)) := hbL.setCell hgb2 _
      refine (bmake _ less _ HLS.out (by rw [HLEN2.out]; omega) HMEM2.out).mono ?_
      have HGL' := Lib.hid (show (⟨(makeL less).toArray⟩ : ByteArray).size = f.size by rw [HGL.out, HFL.out])
      have HLG' := Lib.hid (show (⟨(makeL less).toArray⟩ : ByteArray).data.toList = makeL less from rfl)
      have HDG' := Lib.hid (fun m (hm : m < (⟨(makeL less).toArray⟩ : ByteArray).size) => getD_data ⟨(makeL less).toArray⟩ m hm)
      clear HLG HDG
      rintro e w4 ⟨rfl, hb4⟩
      replace hbT := below_step hbT hb4 hbT.size
      clear hb4 hck hci hzi HLS hbL
      generalize (⟨(makeL less).toArray⟩ : ByteArray) = gg at *
      have hsg : (gg.size : Int) = f.size := by rw [HGL'.out]
      have hfs : f.size ≤ 1000000 := by rw [HFL.out]; unfold sizeF; omega
      go_wp2
      clear hsg
      go_loopw [14] (fun x wr => ∃ m : Nat, m ≤ f.size ∧ x = .int .i64 m ∧ Below w.heap.size w wr) (fun x _ => f.size - (intOf x).toNat)
      case atStart => exact ⟨0, by omega, rfl, hbT⟩
      case round =>
        clear hbT
        obtain ⟨m, hm, rfl, hbel⟩ := hrel
        have hsz := hbel.size
        by_cases hlt : m < f.size
        · have hlt' : m < gg.size := by rw [HGL'.out]; exact hlt
          have hnot := andNot_zero gg[m] f[m] (fun t ht hb => by
            have := HBIT.out (8 * m + t)
            rw [bitL_part _ _ _ ht, bitL_part _ _ _ ht, ← HLF.out, ← HLG'.out, HDF.out m hlt, HDG'.out m hlt'] at this
            exact this hb)
          have hi1 : (m : Int) < (gg.size : Int) := by omega
          have hi2 : (m : Int) < (f.size : Int) := by omega
          go_wp2
          go_quiet (fail)
          go_wp2
          go_roundw
          case rel => exact ⟨m + 1, by omega, by go_num, below_drewN hbel _⟩
          case measure => simp [intOf]; omega
        · go_wp2_with fail
          refine (awake _).mono ?_
          rintro e w6 ⟨rfl, hb6⟩
          replace hbel := below_step hbel hb6 hsz
          clear hb6
          go_wp2
          go_ret
          exact ⟨rfl, hbel⟩

theorem law_row (v : Value) (keys : List ByteArray) (a1 a2 : Int) (w : World) (hv : StrsAt w v keys) (hn : keys.length ≤ maxLen) (hs : ∀ s ∈ keys, s.size ≤ maxLen)
    (h1 : (Lit.int .u8 a1).wf = true) (h2 : (Lit.int .u8 a2).wf = true) :
    Calls Try.prog 7 #[v, .int .u8 a1, .int .u8 a2] w fun e w' => e = .returned (.bool true) ∧ Below w.heap.size w w' := by
  have hv0 := hv
  obtain ⟨ao, cap, rfl, hv⟩ := hv
  by_cases hg : greatB keys = false ∧ 0 < keys.length
  · exact row_core ao cap keys a1 a2 w hv0 hn hs (bounds_u8 h1) (bounds_u8 h2) hg.1 hg.2
  · have HV0 := Lib.hid hv0
    have HS := Lib.hid hs
    clear hv0 hs hv h1 h2
    cases hq : greatB keys
    · have hl : ((keys.length : Int) == 0) = true := by simp; rw [hq] at hg; simp at hg; exact hg
      clear hg
      go_enter Try.func7, Try.ntmps7
      go_wp2_with (first | (go_at_call 13; refine (great _ keys _ HV0.out hn HS.out).mono ?_; rw [hq]; rintro e w1 ⟨rfl, rfl⟩))
      refine (awake _).mono ?_
      rintro e w3 ⟨rfl, hb1⟩
      go_wp2
      go_ret
      exact ⟨rfl, hb1⟩
    · clear hg
      go_enter Try.func7, Try.ntmps7
      go_wp2_with (first | (go_at_call 13; refine (great _ keys _ HV0.out hn HS.out).mono ?_; rw [hq]; rintro e w1 ⟨rfl, rfl⟩))
      refine (awake _).mono ?_
      rintro e w3 ⟨rfl, hb1⟩
      go_wp2
      go_ret
      exact ⟨rfl, hb1⟩
end Go.Proofs.Try
