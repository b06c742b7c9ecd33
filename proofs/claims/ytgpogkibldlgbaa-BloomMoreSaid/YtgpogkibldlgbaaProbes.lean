/- The probes of a key in a filter of so many bits: both texts compute 'pr'. -/
import Derived.Test.YtgpogkibldlgbaaHash
namespace Go.Proofs.Try
open Go.RowKit Go.Cph

/-- Where the probes begin, and their step; the place after so many steps. -/
def stU (h : UInt64) : UInt32 := (h >>> 32).toUInt32 ||| 1
def atU (h : UInt64) (i : Nat) : UInt32 := h.toUInt32 + UInt32.ofNat i * stU h
def atI (h : UInt64) (i : Nat) : Int := (atU h i).toNat
def stI (h : UInt64) : Int := (stU h).toNat
def prI (h : UInt64) (m i : Nat) : Int := atI h i % m
theorem atI_range (h : UInt64) (i : Nat) : 0 ≤ atI h i ∧ atI h i ≤ 4294967295 := by
  unfold atI; have := (atU h i).toNat_lt; omega
theorem stI_range (h : UInt64) : 0 ≤ stI h ∧ stI h ≤ 4294967295 := by
  unfold stI; have := (stU h).toNat_lt; omega
theorem prI_range (h : UInt64) (m i : Nat) (hm : 1 ≤ m) : 0 ≤ prI h m i ∧ prI h m i < m := by
  unfold prI; exact ⟨Int.emod_nonneg _ (by omega), Int.emod_lt_of_pos _ (by omega)⟩
theorem u32_wrap_nat' (n : Nat) : IntKind.u32.wrap (n : Int) = ((UInt32.ofNat n).toNat : Int) := by
  rw [u32_wrap_nat, UInt32.toNat_ofNat']
theorem at_zero (h : UInt64) : IntKind.u32.wrap (h.toNat : Int) = atI h 0 := by
  rw [u32_wrap_nat']
  unfold atI atU
  simp
theorem at_step (h : UInt64) (i : Nat) : IntKind.u32.wrap (atI h i + stI h) = atI h (i + 1) := by
  unfold atI stI
  rw [← Int.natCast_add, u32_wrap_nat', UInt32.ofNat_add, UInt32.ofNat_toNat, UInt32.ofNat_toNat]
  congr 2
  unfold atU
  rw [UInt32.ofNat_add, UInt32.add_mul, UInt32.add_assoc]
  simp
theorem st_nat (h : UInt64) : (stU h).toNat = (h.toNat / 4294967296 % 4294967296) ||| 1 := by
  unfold stU
  rw [UInt32.toNat_or, UInt64.toNat_toUInt32, UInt64.toNat_shiftRight]
  have e : (32 : UInt64).toNat = 32 := rfl
  rw [e, Nat.shiftRight_eq_div_pow]
  rfl
theorem st_eq (h : UInt64) : bits .or .u32 (IntKind.u32.wrap ((h.toNat : Int) / 4294967296)) 1 = stI h := by
  have e : ((h.toNat : Int) / 4294967296) = ((h.toNat / 4294967296 : Nat) : Int) := by omega
  have hb := (bits_nat .u32 32 (by decide) (fun n h0 h1 => by rw [IntKind.wrap_u32]; omega) (h.toNat / 4294967296 % 4294967296) 1 (by omega) (by decide)).2
  rw [e, u32_wrap_nat]
  unfold stI
  rw [st_nat]
  exact hb
theorem at_zero' (h : UInt64) : (h.toNat : Int) % 4294967296 = atI h 0 := by rw [← at_zero, IntKind.wrap_u32]
theorem at_step' (h : UInt64) (i : Nat) : (atI h i + stI h) % 4294967296 = atI h (i + 1) := by rw [← at_step, IntKind.wrap_u32]
theorem st_eq' (h : UInt64) : bits .or .u32 ((h.toNat : Int) / 4294967296) 1 = stI h := by
  rw [← st_eq, IntKind.wrap_u32]; have := u64lt h; congr 1; omega

/-- The six probes, the first k of them laid. -/
def prCells (h : UInt64) (m k : Nat) : Array Value := ((List.range 6).map fun j => Value.int .i64 (if j < k then prI h m j else 0)).toArray
def prAgg (h : UInt64) (m : Nat) : Value := .agg #[.int .i64 (prI h m 0), .int .i64 (prI h m 1), .int .i64 (prI h m 2), .int .i64 (prI h m 3), .int .i64 (prI h m 4), .int .i64 (prI h m 5)]
theorem prCells_zero (h : UInt64) (m : Nat) : prCells h m 0 = #[.int .i64 0, .int .i64 0, .int .i64 0, .int .i64 0, .int .i64 0, .int .i64 0] := by
  simp [prCells, List.range_succ]
theorem prCells_size (h : UInt64) (m k : Nat) : (prCells h m k).size = 6 := by simp [prCells]
theorem prCells_step (h : UInt64) (m k : Nat) (hk : k < 6) : (prCells h m k).setIfInBounds k (.int .i64 (prI h m k)) = prCells h m (k + 1) := by
  match k, hk with
  | 0, _ | 1, _ | 2, _ | 3, _ | 4, _ | 5, _ => simp [prCells, List.range_succ]

set_option maxHeartbeats 400000 in
theorem probes (s : ByteArray) (m : Nat) (w : World) (hs : s.size ≤ maxLen) (hm : 1 ≤ m) (hm2 : m ≤ 1000000000) :
    Calls Try.prog 18 #[.string s, .int .i64 m] w fun e w' => e = .returned (prAgg (hashU s.data.toList) m) ∧ Below w.heap.size w w' := by
  obtain ⟨h, hh⟩ : ∃ h, hashI s.data.toList = ((h : UInt64).toNat : Int) ∧ h = hashU s.data.toList := ⟨hashU s.data.toList, rfl, rfl⟩
  have HH := Lib.hid hh
  have HST := Lib.hid (st_eq' h)
  have HA0 := Lib.hid (at_zero' h)
  have b1 := u64lt h
  clear hh
  go_enter Try.func18, Try.ntmps18
  go_wp2_with (go_at_call 9; refine (bhash s _ hs).mono ?_; rw [HH.out.1]; rintro e w1 ⟨rfl, hb⟩)
  rw [HST.out, HA0.out]
  have hb' := Lib.hid hb
  have h0 : w1.heap[w.heap.size]? = some (.cells #[.int .i64 0, .int .i64 0, .int .i64 0, .int .i64 0, .int .i64 0, .int .i64 0] 34) := blk_kept hb (heap_alloc_new w _)
  have hlt0 := blk_lt h0
  have hbw : Below w.heap.size w w1 := ((Below.refl _ _).alloc (Nat.le_refl _) _).trans (hb.mono (by simp))
  have H0 := Lib.hid h0
  clear h0 hb
  go_loopw [6, 18] (fun a i wr => ∃ k : Nat, k ≤ 6 ∧ i = .int .i64 k ∧ a = .int .u32 (atI h k) ∧ wr.heap[w1.heap.size]? = some (.cells (prCells h m k) 34 (0, 0)) ∧ wr.heap[w.heap.size]? = some (.cells (prCells h m 0) 34 (0, 0)) ∧ Below w.heap.size w wr)
    (fun _ i _ => 6 - (intOf i).toNat)
  case atStart => exact ⟨0, by omega, rfl, rfl, by rw [prCells_zero]; exact heap_alloc_new _ _, by rw [prCells_zero]; exact blk_alloc H0.out _, hbw.alloc (by omega) _⟩
  case round =>
    obtain ⟨k, hk, rfl, rfl, hblk, hres, hbel⟩ := hrel
    by_cases hlt : k < 6
    · have hr1 := (atI_range h k).1
      have hr2 := (atI_range h k).2
      have hp1 := (prI_range h m k hm).1
      have hp2 := (prI_range h m k hm).2
      have HP := Lib.hid (show atI h k % (m : Int) = prI h m k from rfl)
      unfold prI at hp1 hp2
      have hc : wr.cell? ⟨w1.heap.size, k, none⟩ = some ((prCells h m k)[k]'(by rw [prCells_size]; exact hlt)) := by rw [blk_cell hblk, Array.getElem?_eq_getElem (by rw [prCells_size]; exact hlt)]
      have hz : wr.frozen? ⟨w1.heap.size, k, none⟩ = false := by rw [blk_frozen hblk]; simp
      have HB := Lib.hid hblk
      have HR := Lib.hid hres
      have HC := Lib.hid hc
      clear hblk hres hc
      obtain ⟨c, hc⟩ : ∃ c, wr.cell? ⟨w1.heap.size, k, none⟩ = some c := ⟨_, HC.out⟩
      go_wp2
      go_roundw
      case rel =>
        refine ⟨k + 1, by omega, by go_num, by rw [at_step'], ?_, ?_, ?_⟩
        · have := blk_set HB.out k (.int .i64 (atI h k % (m : Int)))
          rw [HP.out, prCells_step h m k hlt] at this
          rw [HP.out]
          exact this
        · rw [blk_set_other (by simp; omega)]; exact HR.out
        · exact hbel.setCell (by simp; omega) _
      case measure => simp [intOf]; omega
    · have hk6 : k = 6 := by omega
      have HK := Lib.hid hk6
      have HB := Lib.hid hblk
      have HR := Lib.hid hres
      clear hblk hres hk6
      go_wp2_with (first | (refine wpList_load_row rfl 34 (.tmp 8) rfl w1.heap.size rfl 34 (prCells h m k) (0, 0) _ HB.out Try.underlying34 rfl (by rw [prCells_size]; kernel_rfl) ?_) | (refine wpList_store_row rfl 34 (.tmp 4) (.tmp 33) rfl w.heap.size (prCells h m k) rfl rfl 34 (prCells h m 0) HR.out (by rw [prCells_size]; kernel_rfl) (by rw [prCells_size, prCells_size]) (by simp [prCells, Value.oneCell']) ?_))
      refine bodyPost_ret (v := .agg (prCells h m k)) (results_cell_row Try.results18 _ _ w.heap.size 34 (prCells h m k) (0, 0) _ rfl (setRow_heap _ _ _ _ _ _ HR.out) Try.underlying34 rfl (by rw [prCells_size]; kernel_rfl)) rfl ⟨?_, ?_⟩
      · rw [← HH.out.2, HK.out]; simp [prCells, prAgg, List.range_succ]
      · exact below_row hbel (Nat.le_refl _) _

/-! ### the document's probes -/
theorem or_one (n : Nat) : n ||| 1 = if n % 2 = 0 then n + 1 else n := by
  have h1 : (n ||| 1) / 2 = n / 2 := by rw [Nat.or_div_two]; simp
  have h2 : (n ||| 1) % 2 = 1 := by rw [Nat.or_mod_two_eq_one]; right; rfl
  split <;> omega
theorem st_even (h : UInt64) (hp : h.toNat / 4294967296 % 2 = 0) : ((h.toNat : Int) / 4294967296 + 1) = stI h := by
  unfold stI; rw [st_nat, or_one]; have := u64lt h
  rw [if_pos (by omega)]; omega
theorem st_odd (h : UInt64) (hp : ¬ h.toNat / 4294967296 % 2 = 0) : ((h.toNat : Int) / 4294967296) = stI h := by
  unfold stI; rw [st_nat, or_one]; have := u64lt h
  rw [if_neg (by omega)]; omega
theorem at_nat (h : UInt64) (k : Nat) (hk : k < 4294967296) : (atU h k).toNat = (h.toNat % 4294967296 + k * (stU h).toNat) % 4294967296 := by
  unfold atU
  rw [UInt32.toNat_add, UInt32.toNat_mul, UInt64.toNat_toUInt32, UInt32.toNat_ofNat', Nat.mod_eq_of_lt (b := 2 ^ 32) (a := k) hk]
  simp only [Nat.reducePow]
  omega
theorem at_int (h : UInt64) (k : Nat) (hk : k < 6) : ((h.toNat : Int) + (k : Int) * stI h) % 4294967296 = atI h k := by
  unfold atI stI
  rw [at_nat h k (by omega)]
  omega
def prList (h : UInt64) (m k : Nat) : List Value := (List.range k).map fun j => .int .i64 (prI h m j)
theorem prList_succ (h : UInt64) (m k : Nat) : prList h m (k + 1) = prList h m k ++ [.int .i64 (prI h m k)] := by simp [prList, List.range_succ]
theorem info3 : (Try.prog.info? 3).map (fun i => (i.zero, i.size, i.bytes)) = some (some (.int .i64 0), 1, 8) := by kernel_rfl

set_option maxHeartbeats 400000 in
theorem rprobes (s : ByteArray) (m : Nat) (w : World) (hs : s.size ≤ maxLen) (hm : 1 ≤ m) (hm2 : m ≤ 1000000000) :
    Calls Try.prog 19 #[.string s, .int .u64 m] w fun e w' => ∃ v, e = .returned v ∧ w'.ownsRow w.heap.size 3 1 v 6 (prList (hashU s.data.toList) m 6) ∧ Below w.heap.size w w' := by
  obtain ⟨h, hh⟩ : ∃ h, hashI s.data.toList = ((h : UInt64).toNat : Int) ∧ h = hashU s.data.toList := ⟨hashU s.data.toList, rfl, rfl⟩
  have HH := Lib.hid hh
  have b1 := u64lt h
  clear hh
  have hst1 := (stI_range h).1
  have hst2 := (stI_range h).2
  by_cases hp : h.toNat / 4294967296 % 2 = 0
  · have HST := Lib.hid (st_even h hp)
    have hq : ((h.toNat : Int) / 4294967296 % 2 == 0) = true := by simp; omega
    clear hp
    go_enter Try.func19, Try.ntmps19
    go_wp2_with (go_at_call 14; refine (rhash s _ hs).mono ?_; rw [HH.out.1]; rintro e w1 ⟨rfl, rfl⟩)
    rw [HST.out]
    go_loopw [8, 9] (fun v i wr => ∃ k : Nat, k ≤ 6 ∧ i = .int .u64 k ∧ wr.ownsRow w.heap.size 3 1 v k (prList h m k) ∧ Below w.heap.size w wr)
      (fun _ i _ => 6 - (intOf i).toNat)
    case atStart => exact ⟨0, by omega, rfl, World.ownsRow_nil _ _ _ _, Below.refl _ _⟩
    case round =>
      obtain ⟨k, hk, rfl, hown, hbel⟩ := hrel
      have hsz := hbel.size
      by_cases hlt : k < 6
      · have hm1 : (k : Int) * stI h ≤ 6 * 4294967295 := Int.mul_le_mul (by omega) hst2 hst1 (by omega)
        have hm0 : 0 ≤ (k : Int) * stI h := Int.mul_nonneg (by omega) hst1
        have hat := at_int h k hlt
        have hp1 := (prI_range h m k hm).1
        have hp2 := (prI_range h m k hm).2
        have HP := Lib.hid (show atI h k % (m : Int) = prI h m k from rfl)
        unfold prI at hp1 hp2
        go_wp2_with (at_builtin; refine wpList_append1 rfl (.tmp 25) (.tmp 35) 37 rfl w.heap.size 3 _ 1 8 Try.underlying37 info3 rfl (by decide) _ k _ [.int .i64 (atI h k % (m : Int))] rfl hown _ _ rfl rfl rfl (by simp [Value.oneCell']) (by omega) (by omega) hsz w.heap.size w hbel (Nat.le_refl _) ?_)
        intro v' w' hown' _ hbel' _
        rw [HP.out] at hown'
        clear hown hbel hm1 hm0 hat
        go_wp2
        go_roundw
        case rel => exact ⟨k + 1, by omega, by go_num, by rw [prList_succ]; exact hown', hbel'⟩
        case measure => simp [intOf]; omega
      · have hk6 : k = 6 := by omega
        have HK := Lib.hid hk6
        clear hk6
        go_wp2
        go_ret
        exact ⟨_, rfl, by rw [← HH.out.2, ← HK.out]; rw [HK.out] at hown ⊢; exact hown, hbel⟩
  · have HST := Lib.hid (st_odd h hp)
    have hq : ((h.toNat : Int) / 4294967296 % 2 == 0) = false := by simp; omega
    clear hp
    go_enter Try.func19, Try.ntmps19
    go_wp2_with (go_at_call 14; refine (rhash s _ hs).mono ?_; rw [HH.out.1]; rintro e w1 ⟨rfl, rfl⟩)
    rw [HST.out]
    go_loopw [8, 9] (fun v i wr => ∃ k : Nat, k ≤ 6 ∧ i = .int .u64 k ∧ wr.ownsRow w.heap.size 3 1 v k (prList h m k) ∧ Below w.heap.size w wr)
      (fun _ i _ => 6 - (intOf i).toNat)
    case atStart => exact ⟨0, by omega, rfl, World.ownsRow_nil _ _ _ _, Below.refl _ _⟩
    case round =>
      obtain ⟨k, hk, rfl, hown, hbel⟩ := hrel
      have hsz := hbel.size
      by_cases hlt : k < 6
      · have hm1 : (k : Int) * stI h ≤ 6 * 4294967295 := Int.mul_le_mul (by omega) hst2 hst1 (by omega)
        have hm0 : 0 ≤ (k : Int) * stI h := Int.mul_nonneg (by omega) hst1
        have hat := at_int h k hlt
        have hp1 := (prI_range h m k hm).1
        have hp2 := (prI_range h m k hm).2
        have HP := Lib.hid (show atI h k % (m : Int) = prI h m k from rfl)
        unfold prI at hp1 hp2
        go_wp2_with (at_builtin; refine wpList_append1 rfl (.tmp 25) (.tmp 35) 37 rfl w.heap.size 3 _ 1 8 Try.underlying37 info3 rfl (by decide) _ k _ [.int .i64 (atI h k % (m : Int))] rfl hown _ _ rfl rfl rfl (by simp [Value.oneCell']) (by omega) (by omega) hsz w.heap.size w hbel (Nat.le_refl _) ?_)
        intro v' w' hown' _ hbel' _
        rw [HP.out] at hown'
        clear hown hbel hm1 hm0 hat
        go_wp2
        go_roundw
        case rel => exact ⟨k + 1, by omega, by go_num, by rw [prList_succ]; exact hown', hbel'⟩
        case measure => simp [intOf]; omega
      · have hk6 : k = 6 := by omega
        have HK := Lib.hid hk6
        clear hk6
        go_wp2
        go_ret
        exact ⟨_, rfl, by rw [← HH.out.2, ← HK.out]; rw [HK.out] at hown ⊢; exact hown, hbel⟩
end Go.Proofs.Try
