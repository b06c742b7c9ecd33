/- The document's Make: it lays 'makeL', too. -/
import Derived.Test.YtgpogkibldlgbaaMake
namespace Go.Proofs.Try
open Go.RowKit Go.Cph

def bitL (bs : List UInt8) (n : Nat) : Bool := (bs.getD (n / 8) 0).toNat.testBit (n % 8)
theorem bitL_orBit (bs : List UInt8) (q m : Nat) (hq : q / 8 < bs.length) : bitL (orBit bs q) m = (bitL bs m || decide (m = q)) := by
  unfold bitL orBit
  by_cases h8 : m / 8 = q / 8
  · have hset : (bs.set (q / 8) (bs.getD (q / 8) 0 ||| UInt8.ofNat (2 ^ (q % 8)))).getD (m / 8) 0 = bs.getD (q / 8) 0 ||| UInt8.ofNat (2 ^ (q % 8)) := by
      rw [h8, List.getD_eq_getElem?_getD, List.getElem?_set_self hq]; rfl
    have hp : 2 ^ (q % 8) < 2 ^ 8 := Nat.pow_lt_pow_right (by decide) (by omega)
    rw [hset, h8, UInt8.toNat_or, UInt8.toNat_ofNat', Nat.mod_eq_of_lt hp, Nat.testBit_or, Nat.testBit_two_pow]
    congr 1
    by_cases hm : m = q
    · simp [hm]
    · have : ¬ q % 8 = m % 8 := by omega
      simp [hm, this]
  · have hset : (bs.set (q / 8) (bs.getD (q / 8) 0 ||| UInt8.ofNat (2 ^ (q % 8)))).getD (m / 8) 0 = bs.getD (m / 8) 0 := by
      simp only [List.getD_eq_getElem?_getD]
      rw [List.getElem?_set_ne (by omega)]
    have hm : ¬ m = q := by intro h; subst h; exact h8 rfl
    rw [hset]
    rw [show decide (m = q) = false from decide_eq_false hm, Bool.or_false]
def rowV (bs : List UInt8) (m : Nat) : Array Value := ((List.range m).map fun j => Value.bool (bitL bs j)).toArray
theorem rowV_zero (n : Nat) : (List.replicate (8 * n) (Value.bool false)).toArray = rowV (List.replicate n 0) (8 * n) := by
  unfold rowV
  congr 1
  apply List.ext_getElem
  · simp
  · intro i h1 h2
    simp at h1
    simp [bitL, List.getD_eq_getElem?_getD, List.getElem?_replicate, show i / 8 < n by omega]
theorem rowV_size (bs : List UInt8) (m : Nat) : (rowV bs m).size = m := by simp [rowV]
theorem rowV_at (bs : List UInt8) (m j : Nat) (h : j < m) : (rowV bs m)[j]? = some (.bool (bitL bs j)) := by simp [rowV, h]
theorem rowV_set (bs : List UInt8) (m q : Nat) (hq : q / 8 < bs.length) : (rowV bs m).setIfInBounds q (.bool true) = rowV (orBit bs q) m := by
  unfold rowV
  apply Array.ext'
  apply List.ext_getElem
  · simp
  · intro i h1 h2
    simp only [Array.toList_setIfInBounds, List.length_set, List.length_map, List.length_range] at h1
    simp only [Array.toList_setIfInBounds, List.getElem_set, List.getElem_map, List.getElem_range, bitL_orBit bs q i hq]
    by_cases hi : q = i
    · subst hi; simp
    · simp [hi, show ¬ i = q from fun h => hi h.symm]
theorem info4 : (Try.prog.info? 4).map (fun i => (i.zero, i.size, i.bytes)) = some (some (.bool false), 1, 1) := by kernel_rfl

theorem div_step (B r : Nat) : B / 2 ^ r = 2 * (B / 2 ^ (r + 1)) + (if B.testBit r then 1 else 0) := by
  have h1 : B / 2 ^ (r + 1) = B / 2 ^ r / 2 := by rw [Nat.pow_succ, Nat.div_div_eq_div_mul]
  rw [h1, Nat.testBit_eq_decide_div_mod_eq]
  generalize B / 2 ^ r = q
  by_cases h : q % 2 = 1 <;> simp [h] <;> omega
def shr8 (B : UInt8) (r : Nat) : Int := ((B.toNat / 2 ^ r : Nat) : Int)
theorem shr8_zero (B : UInt8) : shr8 B 0 = (B.toNat : Int) := by simp [shr8]
theorem shr8_eight (B : UInt8) : shr8 B 8 = 0 := by
  unfold shr8; rw [Nat.div_eq_of_lt B.toNat_lt]; rfl
theorem shr8_range (B : UInt8) (r : Nat) : 0 ≤ shr8 B (r + 1) ∧ shr8 B (r + 1) ≤ 127 := by
  have : B.toNat / 2 ^ (r + 1) ≤ B.toNat / 2 ^ 1 := Nat.div_le_div_left (Nat.pow_le_pow_right (by decide) (by omega)) (by decide)
  have := B.toNat_lt
  unfold shr8
  generalize B.toNat / 2 ^ (r + 1) = q at *
  omega
theorem shr8_yes (B : UInt8) (r : Nat) (h : B.toNat.testBit r = true) : 2 * shr8 B (r + 1) + 1 = shr8 B r := by
  have := div_step B.toNat r
  rw [h, if_pos rfl] at this
  unfold shr8; omega
theorem shr8_no (B : UInt8) (r : Nat) (h : B.toNat.testBit r = false) : 2 * shr8 B (r + 1) = shr8 B r := by
  have := div_step B.toNat r
  rw [h, if_neg (by simp)] at this
  unfold shr8; omega
theorem bitL_part (bs : List UInt8) (a r : Nat) (hr : r < 8) : bitL bs (8 * a + r) = (bs.getD a 0).toNat.testBit r := by
  unfold bitL
  rw [show (8 * a + r) / 8 = a by omega, show (8 * a + r) % 8 = r by omega]
def u8s (bs : List UInt8) : List Value := bs.map fun c => .int .u8 (c.toNat : Int)
theorem u8s_snoc (bs : List UInt8) (a : Nat) (ha : a < bs.length) : u8s (bs.take (a + 1)) = u8s (bs.take a) ++ [.int .u8 ((bs.getD a 0).toNat : Int)] := by
  unfold u8s
  rw [List.take_succ_eq_append_getElem ha, List.map_append]
  simp [List.getD_eq_getElem?_getD, ha]

set_option maxHeartbeats 2000000 in
theorem rmake (v : Value) (keys : List ByteArray) (w : World) (hv : StrsAt w v keys) (hn : keys.length ≤ 1000000) (hs : ∀ s ∈ keys, s.size ≤ maxLen) :
    Calls Try.prog 15 #[v] w fun e w' => e = .returned (.string ⟨(makeL keys).toArray⟩) ∧ Below w.heap.size w w' := by
  obtain ⟨ao, cap, rfl, hv⟩ := hv
  obtain ⟨n, hnn⟩ : ∃ n, n = sizeF keys.length := ⟨_, rfl⟩
  have hn1 : 8 ≤ n := by unfold sizeF at hnn; omega
  have hn2 : n ≤ 2000000 := by unfold sizeF at hnn; omega
  have hmk := fun w => run_make_one (P := Try.prog) w 36 4 _ 1 Try.underlying36 info4 rfl .i64 .i64 (8 * n) (by omega) (by omega)
  rw [rowV_zero n] at hmk
  have HN := Lib.hid hnn
  have HV := Lib.hid hv
  have HS := Lib.hid hs
  have HMK := Lib.hid hmk
  clear hv hs hmk
  have h64 : ((10 * (keys.length : Int) < 64 ∧ n ≤ 8) ∨ (¬ 10 * (keys.length : Int) < 64 ∧ 10 * keys.length ≤ 8 * n ∧ 8 * n < 10 * keys.length + 8)) := by
    unfold sizeF at hnn; omega
  clear hnn
  rcases h64 with ⟨h64, h8⟩ | ⟨h64, h8, h9⟩
  all_goals
    go_enter Try.func15, Try.ntmps15
    go_wp2
    go_loop [3] (fun i => ∃ x : Nat, x ≤ 8 * n ∧ 8 * n < x + 8 ∧ i = .int .i64 x) (fun i => 8 * n - (intOf i).toNat)
    case atStart =>
      first
      | exact ⟨64, by omega, by omega, rfl⟩
      | exact ⟨10 * keys.length, by omega, by omega, by simp⟩
    case round =>
      obtain ⟨x, hx1, hx2, rfl⟩ := hrel
      by_cases hx : x % 8 = 0
      · have hx8 : x = 8 * n := by omega
        have ht : ((x : Int) % 8 != 0) = false := by rw [bne_eq_false_iff_eq]; omega
        have hmk := HMK.out
        rw [← hx8] at hmk
        have H8 := Lib.hid hx8
        have hx8' : 8 * n ≤ x := by omega
        clear hx8 hx HMK
        go_wp2
        have HX := Lib.hid (show rowV (makeTo keys 0) x = rowV (List.replicate n 0) x by rw [HN.out]; rfl)
        go_loopw [5] (fun i wr => ∃ k : Nat, k ≤ keys.length ∧ i = .int .i64 k ∧ wr.heap[w.heap.size]? = some (.cells (rowV (makeTo keys k) x) 4 (0, 0)) ∧ Below w.heap.size w wr)
          (fun i _ => keys.length - (intOf i).toNat)
        case atStart => exact ⟨0, by omega, rfl, by rw [HX.out]; exact heap_alloc_new _ _, (Below.refl _ _).alloc (Nat.le_refl _) _⟩
        case round =>
          obtain ⟨k, hk, rfl, hblk, hbel⟩ := hrel
          by_cases hlt : k < keys.length
          · obtain ⟨b, off, rfl, hc⟩ := HV.out (by omega)
            have hc' := cell_kept hbel (hc k hlt)
            have hkey := HS.out keys[k] (List.getElem_mem _)
            have HB := Lib.hid hblk
            have HT := Lib.hid (makeTo_succ keys k hlt)
            have HL := Lib.hid (makeTo_length keys k hk)
            clear hblk hc
            obtain ⟨key, hkk⟩ : ∃ key, key = keys[k] := ⟨_, rfl⟩
            rw [← hkk] at hc' hkey
            have HK := Lib.hid hkk
            clear hkk
            go_wp2_with (go_at_call 19; refine (rprobes_at key x _ hkey (by omega) (by omega)).mono ?_; rintro e w1 ⟨g, cp, rfl, hg, hcs, hb⟩)
            have hbel1 : Below w.heap.size w w1 := below_step hbel hb hbel.size
            have HB1 := Lib.hid (blk_kept hb HB.out)
            have hg1 : w.heap.size < g := by have := blk_lt HB.out; omega
            clear hb hbel HB hc'
            obtain ⟨h, hh⟩ : ∃ h, h = hashU key.data.toList := ⟨_, rfl⟩
            rw [← hh] at hcs
            have HH := Lib.hid hh
            have HCS := Lib.hid hcs
            clear hh hcs
            obtain ⟨bs, hbs⟩ : ∃ bs, bs = makeTo keys k := ⟨_, rfl⟩
            rw [← hbs] at HB1
            have hlen : bs.length = n := by rw [hbs, HL.out, HN.out]
            have HLEN := Lib.hid hlen
            have HBS := Lib.hid hbs
            clear hlen hbs
            obtain ⟨wo, rfl⟩ : ∃ wo : World, wo = wr := ⟨_, rfl⟩
            go_loopw [7] (fun i wi => ∃ t : Nat, t ≤ 6 ∧ i = .int .i64 t ∧ wi.heap[w.heap.size]? = some (.cells (rowV (addTo h x bs t) x) 4 (0, 0)) ∧ Below w.heap.size w wi ∧ Hid (∀ j, j < 6 → wi.cell? ⟨g, j, none⟩ = some (.int .i64 (prN h x j))))
              (fun i _ => 6 - (intOf i).toNat)
            case atStart => exact ⟨0, by omega, rfl, HB1.out, hbel1, HCS⟩
            case round =>
              obtain ⟨t, ht, rfl, hblk, hbel, hcs⟩ := hrel
              clear HCS HB1
              by_cases hlt6 : t < 6
              · have hidx := hcs.out t hlt6
                have hnlt := prN_lt h x t (by omega)
                have HST := Lib.hid (addTo_succ h x bs t)
                have HLT := Lib.hid (addTo_length h x bs t)
                generalize prN h x t = q at hidx hnlt HST
                generalize addTo h x bs t = cs at *
                have hlen : cs.length = n := by rw [HLT.out, HLEN.out]
                have hc : wr.cell? ⟨w.heap.size, q, none⟩ = some (.bool (bitL cs q)) := by rw [blk_cell hblk]; exact rowV_at cs _ _ hnlt
                have hz : wr.frozen? ⟨w.heap.size, q, none⟩ = false := by rw [blk_frozen hblk]; simp
                have HSET := Lib.hid (rowV_set cs x q (by omega))
                have HBL := Lib.hid hblk
                clear hblk hlen
                go_wp2
                go_roundw
                case rel =>
                  refine ⟨t + 1, by omega, by go_num, ?_, hbel.setCell (Nat.le_refl _) _, ?_⟩
                  · have := blk_set HBL.out q (.bool true)
                    rw [HSET.out, ← HST.out] at this
                    exact this
                  · intro j hj
                    rw [World.cell?_of_block (blk_set_other (by simp; omega))]
                    exact hcs.out j hj
                case measure => simp [intOf]; omega
              · have ht6 : t = 6 := by omega
                have H6 := Lib.hid ht6
                have HBL := Lib.hid hblk
                clear hblk ht6
                go_wp2
                go_roundw
                case rel =>
                  refine ⟨k + 1, by omega, by go_num, ?_, hbel⟩
                  have := HBL.out
                  rw [H6.out, HBS.out, HH.out, HK.out] at this
                  rw [HT.out, addKey, ← HN.out, ← H8.out]
                  exact this
                case measure => simp [intOf]; omega
          · have hkk : k = keys.length := by omega
            have hlen := makeTo_length keys k hk
            rw [← HN.out] at hlen
            obtain ⟨bs, hbs⟩ : ∃ bs, bs = makeTo keys k := ⟨_, rfl⟩
            rw [← hbs] at hblk hlen
            have HBS := Lib.hid (show bs = makeL keys by rw [hbs, hkk]; rfl)
            have HLEN := Lib.hid hlen
            have HBLK := Lib.hid hblk
            clear hbs hkk hlen hblk
            have hws := blk_lt HBLK.out
            go_wp2
            obtain ⟨wo, hwo⟩ : ∃ wo : World, wo = wr := ⟨_, rfl⟩
            rw [← hwo] at HBLK hbel hws
            have hst : Below (w.heap.size + 1) wo wr := by rw [hwo]; exact Below.refl _ _
            clear hwo
            go_loopw [8, 9] (fun v i wi => ∃ a : Nat, a ≤ n ∧ i = .int .i64 (8 * (a : Int)) ∧ wi.ownsRow (w.heap.size + 1) 5 1 v a (u8s (bs.take a)) ∧ Below (w.heap.size + 1) wo wi)
              (fun _ i _ => 8 * n - (intOf i).toNat)
            case atStart => exact ⟨0, by omega, rfl, World.ownsRow_nil _ _ _ _, hst⟩
            case round =>
              obtain ⟨a, ha, rfl, hown, hst⟩ := hrel
              have hsz := hst.size
              by_cases hlt8 : a < n
              · obtain ⟨B, hB⟩ : ∃ B : UInt8, B = bs.getD a 0 := ⟨_, rfl⟩
                have HSN := Lib.hid (u8s_snoc bs a (by rw [HLEN.out]; exact hlt8))
                have HB := Lib.hid hB
                clear hB
                have hBlt := B.toNat_lt
                have HOWN := Lib.hid hown
                clear hown
                obtain ⟨wp, hwp⟩ : ∃ wp : World, wp = wr := ⟨_, rfl⟩
                go_wp2
                go_loop [10, 11] (fun c i => ∃ r : Nat, r ≤ 8 ∧ i = .int .i64 ((r : Int) - 1) ∧ c = .int .u8 (shr8 B r)) (fun _ i => ((intOf i) + 1).toNat)
                case atStart => exact ⟨8, by omega, by simp, by rw [shr8_eight]⟩
                case round =>
                  obtain ⟨r, hr, rfl, rfl⟩ := hrel
                  cases r with
                  | zero =>
                    rw [shr8_zero]
                    have hown := HOWN.out
                    go_wp2_with (at_builtin; refine wpList_append1 rfl (.tmp 68) (.tmp 70) 32 rfl (w.heap.size + 1) 5 _ 1 1 Try.underlying32 info5 rfl (by decide) _ a _ [.int .u8 (B.toNat : Int)] rfl HOWN.out _ _ rfl rfl rfl (by simp [Value.oneCell']) (by omega) (by omega) (by omega) (w.heap.size + 1) wo hst (Nat.le_refl _) ?_)
                    intro v' w' hown' _ hst' _
                    rw [HB.out, ← HSN.out] at hown'
                    clear hown hst
                    go_wp2
                    go_roundw
                    case rel => exact ⟨a + 1, by omega, by simp; omega, hown', hst'⟩
                    case measure => simp [intOf]; omega
                  | succ r =>
                    have hq0 := (shr8_range B r).1
                    have hq1 := (shr8_range B r).2
                    have hcell : wr.cell? ⟨w.heap.size, 8 * a + r, none⟩ = some (.bool (B.toNat.testBit r)) := by
                      rw [blk_cell (blk_below hst HBLK.out (by omega)), rowV_at bs x _ (by omega), bitL_part bs a r (by omega), HB.out]
                    cases hbit : B.toNat.testBit r
                    · rw [hbit] at hcell
                      have HBIT := Lib.hid (shr8_no B r hbit)
                      clear hbit
                      go_wp2
                      go_round
                      case rel => exact ⟨r, by omega, rfl, by rw [← HBIT.out]⟩
                      case measure => simp [intOf]
                    · rw [hbit] at hcell
                      have HBIT := Lib.hid (shr8_yes B r hbit)
                      clear hbit
                      go_wp2
                      go_round
                      case rel => exact ⟨r, by omega, rfl, by rw [← HBIT.out]⟩
                      case measure => simp [intOf]
              · have han : a = n := by omega
                have HAN := Lib.hid han
                clear han
                obtain ⟨g, cp, hv, hg, _, _, hc, _⟩ := owns_shape hown (by omega)
                have hconv := run_string_of_bytes (P := Try.prog) wr 32 9 5 Try.underlying32 Try.underlying5 Try.underlying9 g cp bs (fun j hj => by
                  rw [hc j (by rw [Nat.mul_one, HAN.out, ← HLEN.out]; exact hj), List.take_of_length_le (by rw [HAN.out, HLEN.out]; exact Nat.le_refl _)]
                  simp [u8s, List.getD_eq_getElem?_getD, hj])
                rw [HLEN.out, ← HAN.out] at hconv
                rw [hv]
                clear hc hown hv
                go_wp2
                go_ret
                exact ⟨ret_str (by rw [HBS.out]), hbel.trans (hst.mono (by omega))⟩
      · have ht : ((x : Int) % 8 != 0) = true := by rw [bne_iff_ne]; omega
        go_wp2
        go_round
        case rel => exact ⟨x + 1, by omega, by omega, by go_num⟩
        case measure => simp [intOf]; omega
end Go.Proofs.Try
