/- Make: both texts lay 'makeL'. -/
import Derived.Test.YtgpogkibldlgbaaMay
import Derived.BigRegion
namespace Go.Proofs.Try
open Go.RowKit Go.Cph

def orBit (bs : List UInt8) (n : Nat) : List UInt8 := bs.set (n / 8) (bs.getD (n / 8) 0 ||| UInt8.ofNat (2 ^ (n % 8)))
def addTo (h : UInt64) (m : Nat) (bs : List UInt8) (k : Nat) : List UInt8 := (List.range k).foldl (fun bs t => orBit bs (prN h m t)) bs
def addKey (m : Nat) (bs : List UInt8) (key : ByteArray) : List UInt8 := addTo (hashU key.data.toList) m bs 6
def sizeF (n : Nat) : Nat := (max (10 * n) 64 + 7) / 8
def makeTo (keys : List ByteArray) (k : Nat) : List UInt8 := (keys.take k).foldl (addKey (8 * sizeF keys.length)) (List.replicate (sizeF keys.length) 0)
def makeL (keys : List ByteArray) : List UInt8 := makeTo keys keys.length
theorem orBit_length (bs : List UInt8) (n : Nat) : (orBit bs n).length = bs.length := by simp [orBit]
theorem addTo_succ (h : UInt64) (m : Nat) (bs : List UInt8) (k : Nat) : addTo h m bs (k + 1) = orBit (addTo h m bs k) (prN h m k) := by simp [addTo, List.range_succ]
theorem addTo_length (h : UInt64) (m : Nat) (bs : List UInt8) (k : Nat) : (addTo h m bs k).length = bs.length := by
  induction k with
  | zero => rfl
  | succ k ih => rw [addTo_succ, orBit_length, ih]
theorem makeTo_succ (keys : List ByteArray) (k : Nat) (hk : k < keys.length) : makeTo keys (k + 1) = addKey (8 * sizeF keys.length) (makeTo keys k) keys[k] := by
  unfold makeTo
  rw [List.take_succ_eq_append_getElem hk, List.foldl_append]
  rfl
theorem makeTo_length (keys : List ByteArray) (k : Nat) (hk : k ≤ keys.length) : (makeTo keys k).length = sizeF keys.length := by
  induction k with
  | zero => simp [makeTo]
  | succ k ih => rw [makeTo_succ keys k (by omega), addKey, addTo_length, ih (by omega)]
theorem or_eq (c : UInt8) (j : Nat) (hj : j < 8) : bits BinOp.or IntKind.u8 (c.toNat : Int) (2 ^ j % 256) = ((c ||| UInt8.ofNat (2 ^ j)).toNat : Int) := by
  have hc := c.toNat_lt
  have hp : 2 ^ j < 2 ^ 8 := Nat.pow_lt_pow_right (by decide) hj
  have e : ((2 : Int) ^ j % 256) = ((2 ^ j : Nat) : Int) := by
    have e1 : ((2 : Int) ^ j) = ((2 ^ j : Nat) : Int) := by simp
    rw [e1]
    generalize 2 ^ j = q at hp
    omega
  have hb := (bits_nat .u8 8 (by decide) wraps_u8 c.toNat (2 ^ j) (by omega) hp).2
  have hb' : bits BinOp.or IntKind.u8 (c.toNat : Int) ((2 ^ j : Nat) : Int) = ((c.toNat ||| 2 ^ j : Nat) : Int) := hb
  rw [e, hb', UInt8.toNat_or, UInt8.toNat_ofNat']
  congr 2
  exact (Nat.mod_eq_of_lt hp).symm
theorem info5 : (Try.prog.info? 5).map (fun i => (i.zero, i.size, i.bytes)) = some (some (.int .u8 0), 1, 1) := by kernel_rfl

set_option maxHeartbeats 1000000 in
theorem bmake (v : Value) (keys : List ByteArray) (w : World) (hv : StrsAt w v keys) (hn : keys.length ≤ 1000000) (hs : ∀ s ∈ keys, s.size ≤ maxLen) :
    Calls Try.prog 10 #[v] w fun e w' => e = .returned (.string ⟨(makeL keys).toArray⟩) ∧ Below w.heap.size w w' := by
  obtain ⟨ao, cap, rfl, hv⟩ := hv
  obtain ⟨n, hnn⟩ : ∃ n, n = sizeF keys.length := ⟨_, rfl⟩
  have hn1 : 8 ≤ n := by unfold sizeF at hnn; omega
  have hn2 : n ≤ 2000000 := by unfold sizeF at hnn; omega
  have hmk := run_make_bytes (P := Try.prog) w 32 5 Try.underlying32 info5 .i64 .i64 n (by omega)
  have HN := Lib.hid hnn
  have HV := Lib.hid hv
  have HS := Lib.hid hs
  clear hv hs
  have h64 : ((10 * (keys.length : Int) < 64 ∧ (n : Int) = 8) ∨ (¬ 10 * (keys.length : Int) < 64 ∧ (n : Int) = (10 * keys.length + 7) / 8)) := by
    unfold sizeF at hnn; omega
  clear hnn
  rcases h64 with ⟨h64, h8⟩ | ⟨h64, h8⟩
  all_goals
    rw [h8] at hmk
    clear h8
    go_enter Try.func10, Try.ntmps10
    go_wp2
    go_loopw [17] (fun i wr => ∃ k : Nat, k ≤ keys.length ∧ i = .int .i64 k ∧ wr.heap[w.heap.size]? = some (.cells (bytesV (makeTo keys k)) 5 (0, 0)) ∧ Below w.heap.size w wr)
      (fun i _ => keys.length - (intOf i).toNat)
    case atStart => exact ⟨0, by omega, rfl, by rw [show makeTo keys 0 = List.replicate n 0 by rw [HN.out]; rfl]; exact heap_alloc_new _ _, (Below.refl _ _).alloc (Nat.le_refl _) _⟩
    case round =>
      obtain ⟨k, hk, rfl, hblk, hbel⟩ := hrel
      by_cases hlt : k < keys.length
      · obtain ⟨b, off, rfl, hc⟩ := HV.out (by omega)
        have hc' := cell_kept hbel (hc k hlt)
        have hkey := HS.out keys[k] (List.getElem_mem _)
        have HB := Lib.hid hblk
        have HT := Lib.hid (makeTo_succ keys k hlt)
        have HL := Lib.hid (makeTo_length keys k hk)
        clear hblk hc
        obtain ⟨key, hkk⟩ : ∃ key, key = keys[k] := ⟨_, rfl⟩
        rw [← hkk] at hc' hkey
        have HK := Lib.hid hkk
        clear hkk
        go_wp2_with (go_at_call 18; refine (probes key (8 * n) _ hkey (by omega) (by omega)).mono ?_; rintro e w1 ⟨rfl, hb⟩)
        have hbel1 : Below w.heap.size w w1 := below_step hbel hb hbel.size
        have HB1 := Lib.hid (blk_kept hb HB.out)
        clear hb hbel HB hc'
        obtain ⟨h, hh⟩ : ∃ h, h = hashU key.data.toList := ⟨_, rfl⟩
        rw [← hh]
        have HH := Lib.hid hh
        clear hh
        obtain ⟨bs, hbs⟩ : ∃ bs, bs = makeTo keys k := ⟨_, rfl⟩
        rw [← hbs] at HB1
        have hlen : bs.length = n := by rw [hbs, HL.out, HN.out]
        have HLEN := Lib.hid hlen
        have HBS := Lib.hid hbs
        clear hlen hbs
        obtain ⟨wo, rfl⟩ : ∃ wo : World, wo = wr := ⟨_, rfl⟩
        go_loopw [26] (fun i wi => ∃ t : Nat, t ≤ 6 ∧ i = .int .i64 t ∧ wi.heap[w.heap.size]? = some (.cells (bytesV (addTo h (8 * n) bs t)) 5 (0, 0)) ∧ Below w.heap.size w wi)
          (fun i _ => 6 - (intOf i).toNat)
        case atStart => exact ⟨0, by omega, rfl, HB1.out, hbel1⟩
        case round =>
          obtain ⟨t, ht, rfl, hblk, hbel⟩ := hrel
          by_cases hlt6 : t < 6
          · have hidx := idx34 h (8 * n) t hlt6
            have hnlt := prN_lt h (8 * n) t (by omega)
            have HST := Lib.hid (addTo_succ h (8 * n) bs t)
            rw [prN_eq _ _ _ (by omega)] at hidx
            have HLT := Lib.hid (addTo_length h (8 * n) bs t)
            generalize prN h (8 * n) t = q at *
            generalize addTo h (8 * n) bs t = cs at *
            have hlen : cs.length = n := by rw [HLT.out, HLEN.out]
            have hc : wr.cell? ⟨w.heap.size, q / 8, none⟩ = some (.int .u8 ((cs.getD (q / 8) 0).toNat : Int)) := by rw [blk_cell hblk]; exact bytesV_at cs _ (by omega)
            have hz : wr.frozen? ⟨w.heap.size, q / 8, none⟩ = false := by rw [blk_frozen hblk]; simp
            have hor := or_eq (cs.getD (q / 8) 0) (q % 8) (by omega)
            have HSET := Lib.hid (show (bytesV cs).setIfInBounds (q / 8) (.int .u8 ((cs.getD (q / 8) 0 ||| UInt8.ofNat (2 ^ (q % 8))).toNat : Int)) = bytesV (orBit cs q) from bytesV_set cs _ _)
            generalize cs.getD (q / 8) 0 = c at *
            have HBL := Lib.hid hblk
            clear hblk hlen
            go_wp2
            go_region
            go_wp2
            go_roundw
            case rel =>
              refine ⟨t + 1, by omega, by go_num, ?_, (hbel.setCell (Nat.le_refl _) _).drew⟩
              have := blk_set HBL.out (q / 8) (.int .u8 ((c ||| UInt8.ofNat (2 ^ (q % 8))).toNat : Int))
              rw [HSET.out, ← HST.out] at this
              exact this
            case measure => simp [intOf]; omega
          · have ht6 : t = 6 := by omega
            have H6 := Lib.hid ht6
            have HBL := Lib.hid hblk
            clear hblk ht6
            go_wp2
            go_roundw
            case rel =>
              refine ⟨k + 1, by omega, by go_num, ?_, hbel⟩
              have := HBL.out
              rw [H6.out, HBS.out, HH.out, HK.out] at this
              rw [HT.out, addKey, ← HN.out]
              exact this
            case measure => simp [intOf]; omega
      · have hkk : k = keys.length := by omega
        have hlen := makeTo_length keys k hk
        rw [← HN.out] at hlen
        have hconv := run_string_of_bytes (P := Try.prog) wr 32 9 5 Try.underlying32 Try.underlying5 Try.underlying9 w.heap.size n (makeTo keys k) (fun j hj => by rw [blk_cell hblk]; exact bytesV_at _ j hj)
        rw [hlen] at hconv
        have HK := Lib.hid hkk
        clear hkk hblk hlen
        go_wp2
        go_ret
        exact ⟨ret_str (by rw [HK.out]; rfl), hbel⟩
end Go.Proofs.Try
