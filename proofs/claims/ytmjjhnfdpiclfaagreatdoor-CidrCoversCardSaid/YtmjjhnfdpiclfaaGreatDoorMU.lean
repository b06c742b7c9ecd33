/- MU: texts put together: Au1 Au2 Au3 Au4. -/
import Derived.Test.YtmjjhnfdpiclfaaGreatDoorMT
import Derived.Test.YtmjjhnfdpiclfaaGreatDoorShelf
import Derived.Test.YtmjjhnfdpiclfaaGreatDoorMC
import Derived.Lib.LaidTab
import Derived.Lib.SmallJoins
import Derived.Shelf.LaysM
import Derived.Lib.Strings
import Derived.Lib.Walk
import Derived.Lib.ConvBytes
import Derived.Lib.ParseIntBMem
import Derived.Laws.Strings3
import Derived.Laws.Closers25
import Derived.Laws.Closers25b
import Derived.BigCall
import Derived.BigGuard
/- What the library reads: the tables and variables; FormatUint of base 16. -/
set_option linter.unusedVariables false
set_option linter.unusedSimpArgs false
set_option maxRecDepth 100000
namespace Go.Proofs.Tryz.Tx
open Go.RowKit Go.Cph Go.Cph.Tx
open Go.Cph.Ok (ofBs)
/-- What the library's variables hold. -/
structure Env (w : World) : Prop where
  len : ∃ m, w.cell? ⟨0, 0, none⟩ = some (.int .i64 m)
  tab : Lib.TabIs Tryz.prog w "internal/strconv.uint64pow10" .u64 Lib.pow10Tab
  tz : w.cell? ⟨5, 15, none⟩ = some (.int .u8 4)
  syn : ∃ t p, w.cell? ⟨1, 0, none⟩ = some (.iface t p)
  rng : ∃ t p, w.cell? ⟨2, 0, none⟩ = some (.iface t p)
theorem Env.kept {w w' : World} (h : Env w) (hb : Below w.heap.size w w') : Env w' :=
  ⟨by obtain ⟨m, hm⟩ := h.len; exact ⟨m, cell_kept hb hm⟩, Go.Joins.tab_stays (g := 3) (by kernel_rfl) h.tab hb (Nat.le_refl _), cell_kept hb h.tz,
    by obtain ⟨t, p, hm⟩ := h.syn; exact ⟨t, p, cell_kept hb hm⟩, by obtain ⟨t, p, hm⟩ := h.rng; exact ⟨t, p, cell_kept hb hm⟩⟩
theorem tz16 (w : World) (h : Env w) : Calls Tryz.prog 123 #[.int .u64 16] w fun e w' => e = .returned (.int .i64 4) ∧ w' = w := by
  have hc := h.tz
  have hz : IntKind.u64.wrap (Go.bits .and .u64 16 (IntKind.u64.wrap (-16)) * 285870213051353865) / 288230376151711744 = 15 := by rfl
  clear h
  go_enter Tryz.func123, Tryz.ntmps123
  go_wp2
  go_ret
  exact ⟨rfl, rfl⟩
theorem and15 (n : Nat) (h : n < 18446744073709551616) : Go.bits .and .u64 (n : Int) 15 = ((n % 16 : Nat) : Int) := by
  have := u64_and_nat n 15 h (by decide)
  refine this.trans ?_
  rw [show (15 : Nat) = 2 ^ 4 - 1 from rfl, Nat.and_two_pow_sub_one_eq_mod]
theorem cell_bytes {w : World} {b : Nat} {l : Bs} {E : TypeId} {fr : Nat × Nat} (h : w.heap[b]? = some (.cells (bytesV l) E fr)) (j : Nat) (hj : j < l.length) : w.cell? ⟨b, j, none⟩ = some (.int .u8 ((l.getD j 0).toNat : Int)) := by
  rw [blk_cell h, bytesV_at l j hj]
/-- The digits that the loop has laid: behind place i the row holds the number's last digits. -/
structure Laid (n i us : Nat) (l : Bs) : Prop where
  len : l.length = 65
  lt16 : us < 65536
  dg : digs 16 n = digs 16 us ++ l.drop (i + 1)
  cnt : (digs 16 us).length + 64 = (digs 16 n).length + i
  top : i ≤ 64
theorem Laid.low {n i us : Nat} {l : Bs} (h : Laid n i us l) : 59 ≤ i := by
  have h1 := h.cnt
  have h2 := digs_len 16 n
  have h3 := digs_ne 16 us
  have h4 : 0 < (digs 16 us).length := List.length_pos_iff.2 h3
  omega
theorem Laid.start (n : Nat) (h : n < 65536) : Laid n 64 n (List.replicate 65 0) := ⟨by simp, h, by simp, rfl, by omega⟩
theorem drop_set {l : Bs} {i : Nat} (c : UInt8) (h : i < l.length) : (l.set i c).drop i = c :: l.drop (i + 1) := by
  rw [List.drop_eq_getElem_cons (by simpa using h), List.getElem_set_self, List.drop_set_of_lt (by omega)]
theorem Laid.step {n q us : Nat} {l : Bs} (h : Laid n (q + 1) us l) (hu : 16 ≤ us) : Laid n q (us / 16) (l.set (q + 1) (dig (us % 16))) := by
  have h1 := digs_big 16 us (by omega) hu (by have := h.lt16; omega)
  have ht := h.top
  refine ⟨by rw [List.length_set]; exact h.len, by have := h.lt16; omega, ?_, ?_, by omega⟩
  · rw [drop_set _ (by rw [h.len]; omega), h.dg, h1, List.append_assoc]; rfl
  · have := h.cnt; rw [h1, List.length_append] at this; simp at this; omega
theorem Laid.last {n i us : Nat} {l : Bs} (h : Laid n i us l) (hu : us < 16) : (l.set i (dig us)).drop i = digs 16 n := by
  rw [drop_set _ (by rw [h.len]; have := h.top; omega), h.dg, digs_small 16 us hu]; rfl
abbrev DIGITS : ByteArray := ⟨#[48, 49, 50, 51, 52, 53, 54, 55, 56, 57, 97, 98, 99, 100, 101, 102, 103, 104, 105, 106, 107, 108, 109, 110, 111, 112, 113, 114, 115, 116, 117, 118, 119, 120, 121, 122]⟩
theorem digit_at : ∀ d, d < 16 → ∀ h : d < DIGITS.size, DIGITS[d]'h = dig d := by decide
set_option maxHeartbeats 3200000 in
theorem fmtBits (n : Nat) (hn : n < 65536) (w : World) (henv : Env w) :
    Calls Tryz.prog 111 #[.slice none 0 0, .int .u64 (n : Int), .int .i64 16, .bool false, .bool false] w fun e w' => e = .returned (.tuple #[.slice none 0 0, .string (ofBs (digs 16 n))]) ∧ Below w.heap.size w w' := by
  have HE := Lib.hid henv
  have HN := Lib.hid hn
  have hp : Go.bits .and .i64 16 15 = 0 := by rfl
  have HBX := Lib.hid (show ∀ o : Obj, Below w.heap.size w (w.alloc o) from fun o => (Below.refl _ _).alloc (Nat.le_refl _) _)
  have HEX := Lib.hid (show ∀ o : Obj, Env (w.alloc o) from fun o => henv.kept ((Below.refl _ _).alloc (Nat.le_refl _) _))
  clear henv hn
  go_enter Tryz.func111, Tryz.ntmps111
  go_wp2_with (first | (go_at_call 123; refine (tz16 _ (HEX.out _)).mono ?_; rintro e w1 ⟨rfl, rfl⟩) | go_in)
  go_loopw [1, 13] (fun v1 v13 W => ∃ (i us : Nat) (l : Bs), v1 = .int .u64 (us : Int) ∧ v13 = .int .i64 ((i : Int) + 1) ∧ W.heap[w.heap.size]? = some (.cells (bytesV l) 161 (0, 0)) ∧ Laid n i us l ∧ Below w.heap.size w W) (fun v1 _ _ => (intOf v1).toNat)
  case atStart => exact ⟨64, n, List.replicate 65 0, rfl, rfl, by rw [heap_alloc_new]; rfl, .start n HN.out, HBX.out _⟩
  case round =>
    obtain ⟨i, us, l, rfl, rfl, hblk, hl, hb⟩ := hrel
    have HL := Lib.hid hl
    have HB := Lib.hid hb
    have HK := Lib.hid hblk
    have hlo := hl.low
    have hto := hl.top
    have hw1 : IntKind.i64.wrap (i : Int) = (i : Int) := by rw [IntKind.wrap_i64]; omega
    have hi2 : (i : Int) < 65 := by omega
    have hi3 : (0 : Int) ≤ (i : Int) := by omega
    have hz := hl.lt16
    have hf : wr.frozen? ⟨w.heap.size, i, none⟩ = false := by rw [blk_frozen hblk]; rfl
    have hcl := cell_bytes hblk i (by rw [hl.len]; omega)
    by_cases hu : 16 ≤ us
    · have ha := and15 us (by omega)
      have HG := Lib.hid (digit_at (us % 16) (by omega))
      have hm0 : (0 : Int) ≤ ((us % 16 : Nat) : Int) := by omega
      have hm1 : ((us % 16 : Nat) : Int) < 36 := by omega
      have hu1 : (16 : Int) ≤ (us : Int) := by omega
      obtain ⟨q, rfl⟩ : ∃ q, i = q + 1 := ⟨i - 1, by omega⟩
      have HS := Lib.hid (hl.step hu)
      clear hl hb hblk
      go_wp2_with fail
      go_roundw
      case rel =>
        refine ⟨q, us / 16, l.set (q + 1) (dig (us % 16)), rfl, rfl, ?_, HS.out, ?_⟩
        · rw [HG.out _, blk_set HK.out, bytesV_set]
        · exact HB.out.setCell (Nat.le_refl _) _
      case measure => simp [intOf]; omega
    · have HG := Lib.hid (digit_at us (by omega))
      have hm0 : (0 : Int) ≤ (us : Int) := by omega
      have hm1 : (us : Int) < 36 := by omega
      have hu1 : ¬ (16 : Int) ≤ (us : Int) := by omega
      have HS := hl.last (by omega)
      have hm : (digs 16 n).length = 65 - i := by rw [← HS, List.length_drop, List.length_set, hl.len]
      have HSL := Lib.hid (fun W : World => show (Instr.sliceAt 161 (.pointer (some ⟨w.heap.size, 0, none⟩)) (some (.int .i64 (i : Int))) none none).run Tryz.prog W = .ok (.slice (some ⟨w.heap.size, i, none⟩) (digs 16 n).length (digs 16 n).length) W from by
        have hal : Tryz.prog.arrayLen 161 = 65 := by kernel_rfl
        rw [run_sliceAt_array_l W 161 ⟨w.heap.size, 0, none⟩ (by kernel_rfl) .i64 (i : Int) (by omega) (by rw [hal]; omega), hal, hm]
        have hsz : sizeOf (Tryz.prog.elem 161) = sizeOf 5 := by rfl
        rw [hsz]
        simp [go_sem, slicedAt, Addr.add, Nat.ne_of_gt (show i < 65 by omega)]; omega)
      have HCV := Lib.hid (fun (h : us < DIGITS.size) => show (convert 63 9 (.slice (some ⟨w.heap.size, i, none⟩) (digs 16 n).length (digs 16 n).length)).run Tryz.prog (wr.setCell ⟨w.heap.size, i, none⟩ (.int .u8 ((DIGITS[us]'h).toNat : Int))) = .ok (.string (ofBs (digs 16 n))) (wr.setCell ⟨w.heap.size, i, none⟩ (.int .u8 ((DIGITS[us]'h).toNat : Int))) from by
        rw [HG.out h]
        refine run_convert_bytes_back _ 63 9 5 ⟨w.heap.size, i, none⟩ _ (digs 16 n) Tryz.underlying63 Tryz.underlying5 Tryz.underlying9 fun j hj => ?_
        have hadd : (⟨w.heap.size, i, none⟩ : Addr).add j = ⟨w.heap.size, i + j, none⟩ := by unfold Addr.add; split <;> simp_all
        have hb2 := blk_set hblk i (.int .u8 ((dig us).toNat : Int))
        rw [bytesV_set] at hb2
        rw [hadd, cell_bytes hb2 (i + j) (by rw [List.length_set, hl.len]; omega)]
        have : (digs 16 n)[j]? = (l.set i (dig us))[i + j]? := by rw [← HS, List.getElem?_drop]
        rw [List.getElem?_eq_getElem hj] at this
        rw [List.getD_eq_getElem?_getD, ← this]; rfl)
      have hsl := HSL.out
      have hcv := HCV.out
      clear hl hb hblk HS hm
      obtain ⟨m, hmm⟩ : ∃ m, m = (digs 16 n).length := ⟨_, rfl⟩
      rw [← hmm] at hsl hcv
      clear hmm HSL HCV
      go_wp2_with fail
      go_ret2
      exact ⟨rfl, HB.out.setCell (Nat.le_refl _) _⟩
set_option maxHeartbeats 400000 in
theorem fmt16i (n : Nat) (hn : n < 65536) (w : World) (henv : Env w) :
    Calls Tryz.prog 93 #[.int .u64 (n : Int), .int .i64 16] w fun e w' => e = .returned (.string (ofBs (digs 16 n))) ∧ Below w.heap.size w w' := by
  have HC := Lib.hid (fmtBits n hn w henv)
  obtain ⟨s, hs⟩ : ∃ s, s = ofBs (digs 16 n) := ⟨_, rfl⟩
  rw [← hs] at HC ⊢
  clear hn henv hs
  go_enter Tryz.func93, Tryz.ntmps93
  go_wp2_with (go_at_call 111; refine HC.out.mono ?_; rintro e w1 ⟨rfl, hb⟩)
  go_ret
  exact ⟨rfl, hb⟩
theorem fmt16 (n : Nat) (hn : n < 65536) (w : World) (henv : Env w) :
    Calls Tryz.prog 70 #[.int .u64 (n : Int), .int .i64 16] w fun e w' => e = .returned (.string (ofBs (digs 16 n))) ∧ Below w.heap.size w w' := by
  have HC := Lib.hid (fmt16i n hn w henv)
  obtain ⟨s, hs⟩ : ∃ s, s = ofBs (digs 16 n) := ⟨_, rfl⟩
  rw [← hs] at HC ⊢
  clear hn henv hs
  go_enter Tryz.func70, Tryz.ntmps70
  go_wp2_with (go_at_call 93; refine HC.out.mono ?_; rintro e w1 ⟨rfl, hb⟩)
  go_ret
  exact ⟨rfl, hb⟩
end Go.Proofs.Tryz.Tx

/- ParseUint of base 16, of 16 bits; what the program's 'small' reads. -/
set_option linter.unusedVariables false
set_option linter.unusedSimpArgs false
set_option maxRecDepth 100000
namespace Go.Proofs.Tryz.Tx
open Go.RowKit Go.Cph Go.Cph.Tx
open Go.Cph.Ok (ofBs)
theorem or32 (c : UInt8) : Go.bits .or .u8 (c.toNat : Int) 32 = (low c : Int) := by
  have h := c.toNat_lt
  suffices k : ∀ n : Nat, n < 256 → Go.bits .or .u8 (n : Int) 32 = ((UInt8.ofNat n ||| 32).toNat : Int) by
    have := k c.toNat h
    rwa [UInt8.ofNat_toNat] at this
  decide +kernel
theorem low_facts : ∀ c : UInt8, (97 ≤ low c → low c ≤ 102 → 65 ≤ c.toNat ∧ c.toNat ≠ 95) ∧ low c < 256 ∧ 32 ≤ low c := by
  intro c
  have h := c.toNat_lt
  suffices k : ∀ n : Nat, n < 256 → (97 ≤ low (UInt8.ofNat n) → low (UInt8.ofNat n) ≤ 102 → 65 ≤ n ∧ n ≠ 95) ∧ low (UInt8.ofNat n) < 256 ∧ 32 ≤ low (UInt8.ofNat n) by
    have := k c.toNat h
    rwa [UInt8.ofNat_toNat] at this
  decide +kernel
/-- What ParseUint hands back: the number, or an error that is not nil. -/
def encU : Lib.NumEnd Nat → Value
  | .ok n => .tuple #[.int .u64 (n : Int), .nilIface]
  | .«syntax» => .tuple #[.int .u64 0, .iface 114 (.int .i64 2)]
  | .range => .tuple #[.int .u64 65535, .iface 114 (.int .i64 1)]
set_option maxHeartbeats 32000000 in
theorem parse16 (t : ByteArray) (hne : t.size ≠ 0) (hmax : t.size ≤ 1000000000) (w : World) :
    Calls Tryz.prog 101 #[.string t, .int .i64 16, .int .i64 16] w fun e w' => e = .returned (encU (hexM 0 t.data.toList)) ∧ w' = Lib.bytesWorld w 5 t := by
  have hemp : t.toList.isEmpty = false := by
    rw [← decide_eq_emptyBytes]
    exact decide_eq_false (fun h => hne (by rw [h]; rfl))
  have hcv := Lib.run_convert_string_bytes (P := Tryz.prog) w 9 63 5 t (u := .string) Tryz.underlying9 Tryz.underlying63 Tryz.underlying5
  have hB : ∀ j, j < t.size → (Lib.bytesWorld w 5 t).cell? ⟨w.heap.size, j, none⟩ = some (.int .u8 (t.data.toList.getD j 0).toNat) := fun j hj => Lib.bytesWorld_cell w 5 t j hj
  obtain ⟨W1, hW1⟩ : ∃ W1, W1 = Lib.bytesWorld w 5 t := ⟨_, rfl⟩
  rw [← hW1] at hcv hB ⊢
  clear hW1
  obtain ⟨bs, hL⟩ : ∃ bs, bs = t.data.toList := ⟨_, rfl⟩
  have hLn : bs.length = t.size := by rw [hL, Lib.size_eq]
  rw [← hL] at hB ⊢
  clear hL
  have hmv : IntKind.u64.wrap (IntKind.u64.wrap 65536 - 1) = 65535 := by
    rw [IntKind.wrap_u64, IntKind.wrap_u64]
    decide
  go_enter Tryz.func101, Tryz.ntmps101
  go_wp2
  go_loop [12, 13, 101] (fun vu vn vi => ∃ (k acc : Nat) (a : Int), vu = .bool false ∧ vn = .int .u64 a ∧ vi = .int .i64 k ∧ k ≤ t.size ∧ Hid (a = (acc : Int) ∧ acc ≤ 65535 ∧ hexM 0 bs = hexM acc (bs.drop k)))
    (fun _ _ vi => t.size - (intOf vi).toNat)
  case atStart => exact ⟨0, 0, 0, rfl, rfl, rfl, by omega, rfl, by omega, rfl⟩
  case round =>
    obtain ⟨k, acc, a, rfl, rfl, rfl, hk, hh⟩ := hrel
    obtain ⟨ha, hacc, hdec⟩ := hh.out
    clear hh
    have a0 : 0 ≤ a := by omega
    have a1 : a ≤ 65535 := by omega
    by_cases hkn : k < t.size
    · have hc := hB k hkn
      have hdrop : bs.drop k = bs[k]'(by omega) :: bs.drop (k + 1) := List.drop_eq_getElem_cons (by omega)
      have hget : bs.getD k 0 = bs[k]'(by omega) := by simp [List.getD, List.getElem?_eq_getElem (show k < bs.length by omega)]
      rw [hdrop] at hdec
      rw [hget] at hc
      generalize bs[k]'(by omega) = c at hc hdec
      have hc256 : c.toNat < 256 := c.toNat_lt
      clear hB hdrop hget
      rw [hexM_cons] at hdec
      by_cases hdig : 48 ≤ c.toNat ∧ c.toNat ≤ 57
      · rw [if_pos hdig] at hdec
        obtain ⟨hd0, hd1⟩ := hdig
        by_cases hov : 65535 < acc * 16 + (c.toNat - 48)
        · rw [if_pos hov] at hdec
          have iov : 65535 < a * 16 + ((c.toNat : Int) - 48) := by omega
          have HD := Lib.hid hdec
          clear hacc hov ha hdec
          go_wp2
          go_ret2
          exact ⟨by rw [HD.out]; rfl, rfl⟩
        · rw [if_neg hov] at hdec
          have HN : Hid (a * 16 + ((c.toNat : Int) - 48) = ((acc * 16 + (c.toNat - 48) : Nat) : Int) ∧ acc * 16 + (c.toNat - 48) ≤ 65535 ∧ hexM 0 bs = hexM (acc * 16 + (c.toNat - 48)) (bs.drop (k + 1))) := Lib.hid ⟨by omega, by omega, hdec⟩
          have iov : a * 16 + ((c.toNat : Int) - 48) ≤ 65535 := by omega
          clear hacc hov hdec ha
          go_wp2
          refine ⟨⟨k + 1, acc * 16 + (c.toNat - 48), a * 16 + ((c.toNat : Int) - 48), rfl, (by first | rfl | (congr 1; omega)), (by first | rfl | (congr 1; omega)), by omega, HN⟩, by simp [intOf]; omega⟩
      · rw [if_neg hdig] at hdec
        have hlo := or32 c
        obtain ⟨hf1, hf2, hf3⟩ := low_facts c
        by_cases hlet : 97 ≤ low c ∧ low c ≤ 102
        · rw [if_pos hlet] at hdec
          obtain ⟨hd0, hd1⟩ := hlet
          obtain ⟨hc65, hc95⟩ := hf1 hd0 hd1
          generalize low c = lw at hlo hf1 hf2 hf3 hd0 hd1 hdec
          clear hf1
          have hnd : ¬ (c.toNat : Int) ≤ 57 := by omega
          have h95 : ¬ (c.toNat : Int) = 95 := by omega
          clear hc95
          by_cases hov : 65535 < acc * 16 + (lw - 87)
          · rw [if_pos hov] at hdec
            have iov : 65535 < a * 16 + ((lw : Int) - 87) := by omega
            have HD := Lib.hid hdec
            clear hacc hov ha hdec hdig
            go_wp2_with (go_at_call 116; refine (Tryz.internal_strconv_lower _ _).mono ?_; rintro e w' ⟨rfl, rfl⟩)
            all_goals first | omega | skip
            all_goals go_ret2
            all_goals exact ⟨by rw [HD.out]; rfl, rfl⟩
          · rw [if_neg hov] at hdec
            have HN : Hid (a * 16 + ((lw : Int) - 87) = ((acc * 16 + (lw - 87) : Nat) : Int) ∧ acc * 16 + (lw - 87) ≤ 65535 ∧ hexM 0 bs = hexM (acc * 16 + (lw - 87)) (bs.drop (k + 1))) := Lib.hid ⟨by omega, by omega, hdec⟩
            have iov : a * 16 + ((lw : Int) - 87) ≤ 65535 := by omega
            clear hacc hov hdec ha hdig
            go_wp2_with (go_at_call 116; refine (Tryz.internal_strconv_lower _ _).mono ?_; rintro e w' ⟨rfl, rfl⟩)
            all_goals first | omega | skip
            all_goals refine ⟨⟨k + 1, acc * 16 + (lw - 87), a * 16 + ((lw : Int) - 87), rfl, (by first | rfl | (congr 1; omega)), (by first | rfl | (congr 1; omega)), by omega, HN⟩, by simp [intOf]; omega⟩
        · rw [if_neg hlet] at hdec
          have HD := Lib.hid hdec
          generalize low c = lw at hlo hf2 hf3 hlet
          clear hf1 hacc ha hdec
          go_wp2_with (go_at_call 116; refine (Tryz.internal_strconv_lower _ _).mono ?_; rintro e w' ⟨rfl, rfl⟩)
          all_goals first | omega | skip
          all_goals go_ret2
          all_goals exact ⟨by rw [HD.out]; rfl, rfl⟩
    · have hkk : k = t.size := by omega
      subst hkk
      have hF : hexM acc (bs.drop t.size) = .ok acc := by rw [List.drop_eq_nil_of_le (by omega)]; rfl
      rw [hF] at hdec
      subst ha
      have HD := Lib.hid hdec
      clear hacc hF a0 a1 hdec
      go_wp2
      go_ret2
      exact ⟨by rw [HD.out]; rfl, rfl⟩
theorem parse16i (t : ByteArray) (hmax : t.size ≤ 1000000000) (w : World) :
    Calls Tryz.prog 101 #[.string t, .int .i64 16, .int .i64 16] w fun e w' => e = .returned (encU (hexU t.data.toList)) ∧ Below w.heap.size w w' := by
  by_cases h0 : t.size = 0
  · have ht : t.data.toList = [] := List.length_eq_zero_iff.1 (by simpa using h0)
    have htl := str_nil t h0
    have HV := Lib.hid (show encU (hexU t.data.toList) = .tuple #[.int .u64 0, .iface 114 (.int .i64 2)] from by rw [ht]; rfl)
    have htb : t = ByteArray.empty := ByteArray.ext (Array.ext' ht)
    subst htb
    clear ht htl h0
    go_enter Tryz.func101, Tryz.ntmps101
    go_wp2
    go_ret2
    exact ⟨by rw [HV.out]; rfl, Below.refl _ _⟩
  · refine (parse16 t h0 hmax w).mono ?_
    rintro e w' ⟨rfl, rfl⟩
    refine ⟨?_, Lib.bytesWorld_below ..⟩
    unfold hexU
    rw [if_neg (fun h => h0 (by have := congrArg List.length h; simpa using this))]
def PubPost (l : Bs) (sm : Bs → Option Nat) (w : World) (e : Ending) (w' : World) : Prop :=
  (∃ n v, e = .returned (.tuple #[.int .u64 n, v]) ∧ ((∃ u : Nat, sm l = some u ∧ n = (u : Int) ∧ v = .nilIface) ∨ (sm l = none ∧ ∃ q p, v = .iface q p))) ∧ Below w.heap.size w w'
set_option maxHeartbeats 400000 in
/-- strconv.ParseUint(s, 16, 16): is there an error? -/
theorem pub16 (t : ByteArray) (hmax : t.size ≤ 1000000000) (w : World) (henv : Env w) :
    Calls Tryz.prog 100 #[.string t, .int .i64 16, .int .i64 16] w (PubPost t.data.toList small16 w) := by
  have HI := Lib.hid (parse16i t hmax w)
  have HE := Lib.hid henv
  have HM := Lib.hid hmax
  cases hx : hexU t.data.toList with
  | ok n =>
    have HS := Lib.hid (show small16 t.data.toList = some n by unfold small16; rw [hx]; rfl)
    rw [hx] at HI
    have HI2 := Lib.hid (show Calls Tryz.prog 101 #[.string t, .int .i64 16, .int .i64 16] w fun e w' => e = .returned (.tuple #[.int .u64 (n : Int), .nilIface]) ∧ Below w.heap.size w w' from HI.out)
    clear HI hx henv hmax
    go_enter Tryz.func100, Tryz.ntmps100
    go_wp2_with (go_at_call 101; refine HI2.out.mono ?_; rintro e w1 ⟨rfl, hb⟩)
    go_ret2
    exact ⟨⟨_, _, rfl, .inl ⟨n, HS.out, rfl, rfl⟩⟩, hb⟩
  | «syntax» =>
    have HS := Lib.hid (show small16 t.data.toList = none by unfold small16; rw [hx]; rfl)
    rw [hx] at HI
    have HI2 := Lib.hid (show Calls Tryz.prog 101 #[.string t, .int .i64 16, .int .i64 16] w fun e w' => e = .returned (.tuple #[.int .u64 0, .iface 114 (.int .i64 2)]) ∧ Below w.heap.size w w' from HI.out)
    obtain ⟨q, p, hc⟩ := henv.syn
    have HC := Lib.hid hc
    clear HI hx henv hmax hc
    go_enter Tryz.func100, Tryz.ntmps100
    go_wp2_with (first
      | (go_at_call 101; refine HI2.out.mono ?_; rintro e w1 ⟨rfl, hb⟩; have HB := Lib.hid hb; clear hb)
      | (go_at_call 60; refine (Tryz.strconv_toError_syntax _ _ _ _ _ _ (by have := HM.out; omega) (cell_kept HB.out HC.out) (.inr ⟨q, p, rfl⟩)).mono ?_; rintro e w2 ⟨N, rfl, _, _, hb2⟩))
    go_ret2
    exact ⟨⟨_, _, rfl, .inr ⟨HS.out, _, _, rfl⟩⟩, below_step HB.out hb2 HB.out.size⟩
  | range =>
    have HS := Lib.hid (show small16 t.data.toList = none by unfold small16; rw [hx]; rfl)
    rw [hx] at HI
    have HI2 := Lib.hid (show Calls Tryz.prog 101 #[.string t, .int .i64 16, .int .i64 16] w fun e w' => e = .returned (.tuple #[.int .u64 65535, .iface 114 (.int .i64 1)]) ∧ Below w.heap.size w w' from HI.out)
    obtain ⟨q, p, hc⟩ := henv.rng
    have HC := Lib.hid hc
    clear HI hx henv hmax hc
    go_enter Tryz.func100, Tryz.ntmps100
    go_wp2_with (first
      | (go_at_call 101; refine HI2.out.mono ?_; rintro e w1 ⟨rfl, hb⟩; have HB := Lib.hid hb; clear hb)
      | (go_at_call 60; refine (Tryz.strconv_toError_range _ _ _ _ _ _ (by have := HM.out; omega) (cell_kept HB.out HC.out) (.inr ⟨q, p, rfl⟩)).mono ?_; rintro e w2 ⟨N, rfl, _, _, hb2⟩))
    go_ret2
    exact ⟨⟨_, _, rfl, .inr ⟨HS.out, _, _, rfl⟩⟩, below_step HB.out hb2 HB.out.size⟩
theorem pub10 (t : ByteArray) (hmax : t.size ≤ 1000000000) (w : World) (henv : Env w) :
    Calls Tryz.prog 100 #[.string t, .int .i64 10, .int .i64 8] w (PubPost t.data.toList small10 w) := by
  cases hx : Lib.parseUintB 8 t.data.toList with
  | ok n =>
    refine (Tryz.strconv_ParseUint_10_at8_ok t (by omega) n hx w).mono ?_
    rintro e w' ⟨rfl, hw⟩
    refine ⟨⟨_, _, rfl, .inl ⟨n, by unfold small10; rw [hx]; rfl, rfl, rfl⟩⟩, ?_⟩
    rcases hw with rfl | rfl
    · exact Below.refl _ _
    · exact Lib.bytesWorld_below ..
  | «syntax» =>
    obtain ⟨q, p, hc⟩ := henv.syn
    refine (Tryz.strconv_ParseUint_10_at8_syntax t (by omega) hx _ w hc (.inr ⟨q, p, rfl⟩)).mono ?_
    rintro e w' ⟨N, rfl, _, _, hb⟩
    exact ⟨⟨_, _, rfl, .inr ⟨by unfold small10; rw [hx]; rfl, _, _, rfl⟩⟩, hb⟩
  | range =>
    obtain ⟨q, p, hc⟩ := henv.rng
    refine (Tryz.strconv_ParseUint_10_at8_range t (by omega) hx _ w hc (.inr ⟨q, p, rfl⟩)).mono ?_
    rintro e w' ⟨N, rfl, _, _, hb⟩
    exact ⟨⟨_, _, rfl, .inr ⟨by unfold small10; rw [hx]; rfl, _, _, rfl⟩⟩, hb⟩
/-- What 'small' answers. -/
def SmallPost (r : Option Nat) (w : World) (e : Ending) (w' : World) : Prop :=
  (∃ n, e = .returned (.tuple #[.int .u64 n, .bool r.isSome]) ∧ ∀ u, r = some u → n = (u : Int)) ∧ Below w.heap.size w w'
set_option maxHeartbeats 400000 in
theorem small_of (t : ByteArray) (base size : Int) (sm : Bs → Option Nat) (w : World) (hpub : Calls Tryz.prog 100 #[.string t, .int .i64 base, .int .i64 size] w (PubPost t.data.toList sm w)) :
    Calls Tryz.prog 78 #[.string t, .int .i64 base, .int .i64 size] w (SmallPost (sm t.data.toList) w) := by
  have HP := Lib.hid hpub
  clear hpub
  go_enter Tryz.func78, Tryz.ntmps78
  go_wp2_with fail
  refine HP.out.mono ?_
  rintro e w1 ⟨⟨n, v, rfl, hv⟩, hb⟩
  have HB := Lib.hid hb
  rcases hv with ⟨u, hs, rfl, rfl⟩ | ⟨hs, q, p, rfl⟩
  · have HS := Lib.hid hs
    clear hs hb
    go_wp2_with fail
    go_region
    go_wp2_with fail
    go_ret2
    exact ⟨⟨_, by rw [HS.out]; rfl, fun u' h => by rw [HS.out] at h; rw [Option.some.inj h]⟩, HB.out.drew⟩
  · have HS := Lib.hid hs
    clear hs hb
    go_wp2_with fail
    go_region
    go_wp2_with fail
    go_ret2
    exact ⟨⟨_, by rw [HS.out]; rfl, fun u' h => by rw [HS.out] at h; cases h⟩, HB.out.drew⟩
theorem small_16 (t : ByteArray) (hmax : t.size ≤ 1000000000) (w : World) (henv : Env w) :
    Calls Tryz.prog 78 #[.string t, .int .i64 16, .int .i64 16] w (SmallPost (small16 t.data.toList) w) := small_of t 16 16 small16 w (pub16 t hmax w henv)
theorem small_10 (t : ByteArray) (hmax : t.size ≤ 1000000000) (w : World) (henv : Env w) :
    Calls Tryz.prog 78 #[.string t, .int .i64 10, .int .i64 8] w (SmallPost (small10 t.data.toList) w) := small_of t 10 8 small10 w (pub10 t hmax w henv)
end Go.Proofs.Tryz.Tx

/- The groups of an address; the longest run of groups that are 0. -/
set_option linter.unusedVariables false
set_option linter.unusedSimpArgs false
set_option maxRecDepth 100000
namespace Go.Proofs.Tryz.Tx
open Go.RowKit Go.Cph Go.Cph.Tx
open Go.Cph.Ok (ofBs)
open Go.Cph.Px (Ad rightA bytesA)
open Go.Proofs.Tryz.Pfx (encA bcell)
theorem and16 (n : Nat) (h : n < 18446744073709551616) : Go.bits .and .u64 (n : Int) 65535 = ((n % 65536 : Nat) : Int) := by
  have := u64_and_nat n 65535 h (by decide)
  refine this.trans ?_
  rw [show (65535 : Nat) = 2 ^ 16 - 1 from rfl, Nat.and_two_pow_sub_one_eq_mod]
theorem shr_and (n k : Nat) (h : n < 18446744073709551616) : Go.bits .and .u64 ((n : Int) / (k : Int)) 65535 = ((n / k % 65536 : Nat) : Int) := by
  rw [show (n : Int) / (k : Int) = ((n / k : Nat) : Int) by simp, and16 _ (Nat.lt_of_le_of_lt (Nat.div_le_self _ _) h)]
abbrev boxA (a : Ad) : Obj := .cells #[.int .u8 (a.1.toNat : Int), .int .u64 (a.2.1.toNat : Int), .int .u64 (a.2.2.toNat : Int)] 24 (0, 0)
theorem ret_u {a b : Int} (h : a = b) : Ending.returned (.int .u64 a) = .returned (.int .u64 b) := by rw [h]
set_option maxHeartbeats 1600000 in
theorem group_any (a : Ad) (i : Nat) (hi : i < 8) (w : World) : Calls Tryz.prog 71 #[encA a, .int .i64 (i : Int)] w fun e w' => e = .returned (.int .u64 (grp a i : Int)) ∧ Below w.heap.size w w' := by
  obtain ⟨f, x, y⟩ := a
  have HB := Lib.hid (show Below w.heap.size w (w.alloc (boxA (f, x, y))) from (Below.refl _ _).alloc (Nat.le_refl _) _)
  have hx := heap_alloc_new w (boxA (f, x, y))
  have c1 : (w.alloc (boxA (f, x, y))).cell? ⟨w.heap.size, 1, none⟩ = some (.int .u64 (x.toNat : Int)) := by rw [blk_cell hx]; rfl
  have c2 : (w.alloc (boxA (f, x, y))).cell? ⟨w.heap.size, 2, none⟩ = some (.int .u64 (y.toNat : Int)) := by rw [blk_cell hx]; rfl
  have X := fun k => shr_and x.toNat k x.toNat_lt
  have Y := fun k => shr_and y.toNat k y.toNat_lt
  have x0 : Go.bits .and .u64 (x.toNat : Int) 65535 = ((x.toNat % 65536 : Nat) : Int) := and16 _ x.toNat_lt
  have y0 : Go.bits .and .u64 (y.toNat : Int) 65535 = ((y.toNat % 65536 : Nat) : Int) := and16 _ y.toNat_lt
  clear hx
  have hcase : i = 0 ∨ i = 1 ∨ i = 2 ∨ i = 3 ∨ i = 4 ∨ i = 5 ∨ i = 6 ∨ i = 7 := by omega
  rcases hcase with rfl | rfl | rfl | rfl | rfl | rfl | rfl | rfl
  all_goals
    go_enter Tryz.func71, Tryz.ntmps71
    go_wp2
    go_ret
    refine ⟨ret_u ?_, HB.out⟩
    first
      | exact X 281474976710656
      | exact X 4294967296
      | exact X 65536
      | exact X 1
      | exact Y 281474976710656
      | exact Y 4294967296
      | exact Y 65536
      | exact Y 1
      | (simp [grp]; trace_state; done)
theorem runS_le (z : Nat → Bool) : ∀ k, (runS z k).1 ≤ k ∧ (runS z k).2.1 ≤ k ∧ (runS z k).2.2 ≤ k := by
  intro k
  induction k with
  | zero => exact ⟨Nat.le_refl _, Nat.le_refl _, Nat.le_refl _⟩
  | succ k ih =>
    unfold runS
    generalize runS z k = q at *
    obtain ⟨n, p, m⟩ := q
    cases z k <;> simp only [Bool.false_eq_true, if_false, if_true] <;> split <;> refine ⟨?_, ?_, ?_⟩ <;> dsimp only at * <;> omega
theorem ret_run {a b c d : Int} (h : a = c) (k : b = d) : Ending.returned (.tuple #[.int .i64 a, .int .i64 b]) = .returned (.tuple #[.int .i64 c, .int .i64 d]) := by rw [h, k]
theorem zf_ne {a : Ad} {k : Nat} (h : zf a k = false) : ((grp a k : Int) != 0) = true := by
  unfold zf at h
  have : grp a k ≠ 0 := by simpa using h
  simp; exact this
theorem zf_eq {a : Ad} {k : Nat} (h : zf a k = true) : ((grp a k : Int) != 0) = false := by
  unfold zf at h
  have : grp a k = 0 := by simpa using h
  simp [this]
set_option maxHeartbeats 3200000 in
theorem run_any (a : Ad) (w : World) : Calls Tryz.prog 72 #[encA a] w fun e w' => e = .returned (.tuple #[.int .i64 ((run a).1 : Int), .int .i64 ((run a).2 : Int)]) ∧ Below w.heap.size w w' := by
  have HG := Lib.hid (fun (k : Nat) (hk : k < 8) (W : World) => group_any a k hk W)
  have HZ := Lib.hid (fun k => @zf_ne a k)
  have HY := Lib.hid (fun k => @zf_eq a k)
  have HR := Lib.hid (show run a = runR (zf a) from rfl)
  obtain ⟨z, hz⟩ : ∃ z, z = zf a := ⟨_, rfl⟩
  rw [← hz] at HZ HY HR
  obtain ⟨g, hg⟩ : ∃ g, g = grp a := ⟨_, rfl⟩
  rw [← hg] at HG HZ HY
  obtain ⟨rr, hrr⟩ : ∃ rr, rr = run a := ⟨_, rfl⟩
  rw [← hrr] at HR ⊢
  clear hz hg hrr
  obtain ⟨f, x, y⟩ := a
  have HB := Lib.hid (show Below w.heap.size w (w.alloc (boxA (f, x, y))) from (Below.refl _ _).alloc (Nat.le_refl _) _)
  have HX := Lib.hid (heap_alloc_new w (boxA (f, x, y)))
  have HSZ := Lib.hid (World.size_alloc w (boxA (f, x, y)))
  go_enter Tryz.func72, Tryz.ntmps72
  go_wp2_with fail
  go_loopw [2, 3, 4, 6] (fun v2 v3 v4 v6 W => ∃ k n p m : Nat, k ≤ 8 ∧ v6 = .int .i64 (k : Int) ∧ v4 = .int .i64 (n : Int) ∧ v2 = .int .i64 (p : Int) ∧ v3 = .int .i64 (m : Int) ∧ Hid (runS z k = (n, p, m)) ∧ W.heap[w.heap.size]? = some (boxA (f, x, y)) ∧ Below w.heap.size w W) (fun _ _ _ v6 _ => (8 - intOf v6).toNat)
  case atStart => exact ⟨0, 0, 0, 0, by omega, rfl, rfl, rfl, rfl, Lib.hid rfl, HX.out, HB.out⟩
  case round =>
    obtain ⟨k, n, p, m, hk, rfl, rfl, rfl, rfl, HS, hblk, hb⟩ := hrel
    have HK := Lib.hid hblk
    have HB2 := Lib.hid hb
    have hle := runS_le z k
    rw [HS.out] at hle
    have hn := hle.1
    have hp := hle.2.1
    have hm := hle.2.2
    have c0 : wr.cell? ⟨w.heap.size, 0, none⟩ = some (.int .u8 (f.toNat : Int)) := by rw [blk_cell hblk]; rfl
    have c1 : wr.cell? ⟨w.heap.size, 1, none⟩ = some (.int .u64 (x.toNat : Int)) := by rw [blk_cell hblk]; rfl
    have c2 : wr.cell? ⟨w.heap.size, 2, none⟩ = some (.int .u64 (y.toNat : Int)) := by rw [blk_cell hblk]; rfl
    have k1 : IntKind.i64.wrap ((n : Int) + 1) = ((n + 1 : Nat) : Int) := by rw [IntKind.wrap_i64]; omega
    have k2 : IntKind.i64.wrap ((k : Int) + 1) = ((k + 1 : Nat) : Int) := by rw [IntKind.wrap_i64]; omega
    have k3 : IntKind.i64.wrap (((k + 1 : Nat) : Int) - ((n + 1 : Nat) : Int)) = ((k + 1 - (n + 1) : Nat) : Int) := by rw [IntKind.wrap_i64]; omega
    clear hle hblk hb
    by_cases h8 : k < 8
    · have h8i : (k : Int) < 8 := by omega
      have HSucc := Lib.hid (show runS z (k + 1) = if m < (if z k then n + 1 else 0) then ((if z k then n + 1 else 0), k + 1 - (if z k then n + 1 else 0), (if z k then n + 1 else 0)) else ((if z k then n + 1 else 0), p, m) by
        conv => lhs; unfold runS
        rw [HS.out])
      have HC := Lib.hid (HG.out k h8)
      cases hzk : z k with
      | false =>
        have hne := HZ.out k hzk
        rw [hzk] at HSucc
        have HF := Lib.hid (show runS z (k + 1) = (0, p, m) by rw [HSucc.out]; simp)
        have hm0 : ¬ (m : Int) < 0 := by omega
        clear hzk
        go_wp2_with fail
        refine (HC.out _).mono ?_
        rintro e w1 ⟨rfl, hb⟩
        have HB3 := Lib.hid (below_step HB2.out hb HB2.out.size)
        have HK3 := Lib.hid (blk_kept hb HK.out)
        clear hb
        go_wp2_with fail
        go_roundw
        case rel => exact ⟨k + 1, 0, p, m, by omega, rfl, rfl, rfl, rfl, Lib.hid HF.out, HK3.out, HB3.out⟩
        case measure => simp [intOf]; omega
      | true =>
        have hne := HY.out k hzk
        rw [hzk] at HSucc
        by_cases hmn : m < n + 1
        · have hmi : (m : Int) < ((n + 1 : Nat) : Int) := by omega
          have HF := Lib.hid (show runS z (k + 1) = (n + 1, k + 1 - (n + 1), n + 1) by rw [HSucc.out]; simp [hmn])
          clear hzk
          go_wp2_with fail
          refine (HC.out _).mono ?_
          rintro e w1 ⟨rfl, hb⟩
          have HB3 := Lib.hid (below_step HB2.out hb HB2.out.size)
          have HK3 := Lib.hid (blk_kept hb HK.out)
          clear hb
          go_wp2_with fail
          go_roundw
          case rel => exact ⟨k + 1, n + 1, k + 1 - (n + 1), n + 1, by omega, rfl, rfl, by first | rfl | (congr 1; omega), rfl, Lib.hid HF.out, HK3.out, HB3.out⟩
          case measure => simp [intOf]; omega
        · have hmi : ¬ (m : Int) < ((n + 1 : Nat) : Int) := by omega
          have HF := Lib.hid (show runS z (k + 1) = (n + 1, p, m) by rw [HSucc.out]; simp [hmn])
          clear hzk
          go_wp2_with fail
          refine (HC.out _).mono ?_
          rintro e w1 ⟨rfl, hb⟩
          have HB3 := Lib.hid (below_step HB2.out hb HB2.out.size)
          have HK3 := Lib.hid (blk_kept hb HK.out)
          clear hb
          go_wp2_with fail
          go_roundw
          case rel => exact ⟨k + 1, n + 1, p, m, by omega, rfl, rfl, rfl, rfl, Lib.hid HF.out, HK3.out, HB3.out⟩
          case measure => simp [intOf]; omega
    · obtain rfl : k = 8 := by omega
      have HF := Lib.hid (show rr = if m < 2 then (8, 0) else (p, m) by
        rw [HR.out]; unfold runR; rw [HS.out])
      by_cases h2 : m < 2
      · have h2i : (m : Int) < 2 := by omega
        have HV := Lib.hid (show rr = (8, 0) by rw [HF.out, if_pos h2])
        go_wp2_with fail
        go_ret2
        exact ⟨by rw [HV.out]; rfl, HB2.out⟩
      · have h2i : ¬ (m : Int) < 2 := by omega
        have HV := Lib.hid (show rr = (p, m) by rw [HF.out, if_neg h2])
        go_wp2_with fail
        go_ret2
        exact ⟨by rw [HV.out]; rfl, HB2.out⟩
end Go.Proofs.Tryz.Tx

/- The text of an address, as the program writes it. -/
set_option linter.unusedVariables false
set_option linter.unusedSimpArgs false
set_option maxRecDepth 100000
namespace Go.Proofs.Tryz.Tx
open Go.RowKit Go.Cph Go.Cph.Tx
open Go.Cph.Ok (ofBs)
open Go.Cph.Px (Ad rightA bytesA)
open Go.Proofs.Tryz.Pfx (encA bcell)
theorem ofBs_size (l : Bs) : (ofBs l).size = l.length := by show l.toArray.size = _; simp
theorem itoa_any (c : UInt8) (w : World) (henv : Env w) : Calls Tryz.prog 51 #[.int .i64 (c.toNat : Int)] w fun e w' => e = .returned (.string (ofBs (digs 10 c.toNat))) ∧ Below w.heap.size w w' := by
  have hc := c.toNat_lt
  refine (Tryz.strconv_Itoa (c.toNat : Int) (by omega) (by omega) w henv.tab).mono ?_
  rintro e w' ⟨rfl, k, os, rfl⟩
  refine ⟨by rw [itoa_digs c.toNat hc]; rfl, ⟨rfl, rfl, rfl, ?_, fun b hb => ?_⟩⟩
  · show w.heap.size ≤ (w.heap ++ os).size
    rw [Array.size_append]; omega
  · show (w.heap ++ os)[b]? = w.heap[b]?
    rw [Array.getElem?_append_left hb]
abbrev strV (l : List Bs) : List Value := l.map fun x => Value.string (ofBs x)
theorem strV_one (l : List Bs) : ∀ u ∈ strV l, u.oneCell' = true := by
  intro u hu
  obtain ⟨b, -, rfl⟩ := List.mem_map.1 hu
  rfl
theorem infoS : (Tryz.prog.info? 9).map (fun i => (i.zero, i.size, i.bytes)) = some (some (.string ByteArray.empty), 1, 16) := by kernel_rfl
/-- Join of a part of an owned row of strings. -/
theorem lens_six (l : List Bs) (h : ∀ w ∈ l, w.length ≤ 6) : Lib.lens l ≤ 6 * l.length := by
  induction l with
  | nil => exact Nat.le_refl _
  | cons x r ih =>
    have h1 := h x (by simp)
    have h2 := ih (fun w hw => h w (by simp [hw]))
    unfold Lib.lens at h2 ⊢
    rw [List.map_cons, List.sum_cons, List.length_cons]; omega
theorem joinC_len (c : UInt8) (l : List Bs) (h : ∀ w ∈ l, w.length ≤ 6) : (joinC c l).length ≤ 7 * l.length := by
  rw [← join_joinC]
  cases l with
  | nil => exact Nat.zero_le _
  | cons x r =>
    rw [Lib.join_length]
    have := lens_six (x :: r) h
    simp only [List.length_cons, List.length_nil] at this ⊢
    omega
theorem join_any (ss : List Bs) (c : UInt8) (v : Value) (cap : Nat) (ao : Option Addr) (w : World) (hv : v = .slice ao ss.length cap) (hcap : ss.length ≤ cap) (hl : ss.length ≤ 16) (h6 : ∀ x ∈ ss, x.length ≤ 6)
    (hc : 0 < ss.length → ∃ b off, ao = some ⟨b, off, none⟩ ∧ ∀ j x, ss[j]? = some x → w.cell? ⟨b, off + j, none⟩ = some (.string (ofBs x))) :
    Calls Tryz.prog 69 #[v, .string ⟨#[c]⟩] w fun e w' => e = .returned (.string (ofBs (joinC c ss))) ∧ Below w.heap.size w w' := by
  subst hv
  rcases Nat.eq_zero_or_pos ss.length with h0 | h0
  · have : ss = [] := List.length_eq_zero_iff.1 h0
    subst this
    refine (Tryz.strings_Join_none ao cap ⟨#[c]⟩ w).mono ?_
    rintro e w' ⟨rfl, rfl⟩
    exact ⟨rfl, Below.refl _ _⟩
  · obtain ⟨b, off, rfl, hcell⟩ := hc h0
    have hm : (ss.map ofBs).map (·.data.toList) = ss := by rw [List.map_map]; exact List.map_id ss
    have hlen : (ss.map ofBs).length = ss.length := List.length_map ..
    have h7 := joinC_len c ss h6
    have hb : b < w.heap.size := by
      obtain ⟨x, hx⟩ : ∃ x, ss[0]? = some x := ⟨ss[0], List.getElem?_eq_getElem h0⟩
      exact World.block_lt_of_cell? w _ (hcell 0 x hx)
    have := Tryz.strings_Join b off cap (ss.map ofBs) ⟨#[c]⟩ w (fun j x hx => by
      rw [List.getElem?_map] at hx
      obtain ⟨y, hy, rfl⟩ := Option.map_eq_some_iff.1 hx
      exact hcell j y hy) hb (by rw [hlen]; omega) (by rw [hlen]; exact hcap) (by
      rw [hm, show (⟨#[c]⟩ : ByteArray).data.toList = [c] from rfl, join_joinC]; omega)
    rw [hm, hlen, show (⟨#[c]⟩ : ByteArray).data.toList = [c] from rfl, join_joinC] at this
    exact this
theorem owns_join {w : World} {base : Nat} {v : Value} {l : List Bs} (h : w.ownsRow base 9 1 v l.length (strV l)) (c : UInt8) (hl : l.length ≤ 16) (h6 : ∀ x ∈ l, x.length ≤ 6) :
    Calls Tryz.prog 69 #[v, .string ⟨#[c]⟩] w fun e w' => e = .returned (.string (ofBs (joinC c l))) ∧ Below w.heap.size w w' := by
  rcases Nat.eq_zero_or_pos l.length with h0 | h0
  · obtain ⟨ao, cap, rfl⟩ := owns_slice1 h
    have : l = [] := List.length_eq_zero_iff.1 h0
    subst this
    refine (Tryz.strings_Join_none ao cap ⟨#[c]⟩ w).mono ?_
    rintro e w' ⟨rfl, rfl⟩
    exact ⟨rfl, Below.refl _ _⟩
  · obtain ⟨g, cap, rfl, _, _, hn, hcell, _⟩ := owns_shape h h0
    refine join_any l c _ cap (some ⟨g, 0, none⟩) w rfl hn hl h6 fun _ => ⟨g, 0, rfl, fun j x hx => ?_⟩
    have hj : j < l.length := (List.getElem?_eq_some_iff.1 hx).1
    rw [Nat.zero_add, hcell j (by omega), List.getElem?_map, hx]; rfl
theorem slice_to (W0 : World) (g cap p : Nat) (h : p ≤ cap) : ∀ W, (Instr.sliceAt 102 (.slice (some ⟨g, 0, none⟩) 8 cap) none (some (.int .i64 (p : Int))) none).run Tryz.prog W = .ok (.slice (some ⟨g, 0, none⟩) p cap) W := by
  intro W
  have hel : Tryz.prog.underlying 102 = some (.slice (Tryz.prog.elem 102)) := by kernel_rfl
  rw [run_sliceAt_slice W 102 _ _ _ _ hel, run_slice_h W 102 _ 8 cap hel .i64 (p : Int) (by omega) (by omega)]
  have hsz : sizeOf (Tryz.prog.elem 102) = sizeOf 9 := by rfl
  rw [hsz]
  simp [go_sem, sliced, Addr.add]
theorem slice_from (g cap q : Nat) (h : q ≤ 8) : ∃ ao : Option Addr, (∀ W, (Instr.sliceAt 102 (.slice (some ⟨g, 0, none⟩) 8 cap) (some (.int .i64 (q : Int))) none none).run Tryz.prog W = .ok (.slice ao (8 - q) (cap - q)) W) ∧ (cap ≠ q → ao = some ⟨g, q, none⟩) := by
  refine ⟨if cap = q then some ⟨g, 0, none⟩ else some ⟨g, q, none⟩, fun W => ?_, fun h => by rw [if_neg h]⟩
  have hel : Tryz.prog.underlying 102 = some (.slice (Tryz.prog.elem 102)) := by kernel_rfl
  rw [run_sliceAt_slice W 102 _ _ _ _ hel, run_slice_l W 102 _ 8 cap hel .i64 (q : Int) (by omega) (by omega)]
  have hsz : sizeOf (Tryz.prog.elem 102) = sizeOf 9 := by rfl
  rw [hsz]
  by_cases hc : cap = q
  · simp [go_sem, sliced, Addr.add, hc]
  · simp [go_sem, sliced, Addr.add, hc]; omega
theorem ofBs_append (a b : Bs) : ofBs a ++ ofBs b = ofBs (a ++ b) := ByteArray.ext (Array.ext' (by rw [ByteArray.data_append, Array.toList_append]; show a.toArray.toList ++ b.toArray.toList = (a ++ b).toArray.toList; simp))
theorem cat_run (a b : Bs) (h : a.length + b.length ≤ 1000000000) : ∀ W, (Op.stringOp .add (ofBs a) (ofBs b)).run Tryz.prog W = .ok (.string (ofBs (a ++ b))) W := fun W => by
  rw [run_string_add_sum W (ofBs a) (ofBs b) (by rw [ofBs_size, ofBs_size]; omega), ofBs_append]
theorem row_kept1 {w w' : World} {base : Nat} {e : TypeId} {size : Nat} {v : Value} {n : Nat} {xs : List Value} (h : w.ownsRow base e size v n xs)
    (hk : ∀ k, v.ownBlock = some k → w'.heap[k]? = w.heap[k]?) : w'.ownsRow base e size v n xs := by
  obtain ⟨h1, h2⟩ := h
  refine ⟨h1, ?_⟩
  rcases h2 with h2 | ⟨g, cap, cur, rfl, h4, h5, r⟩
  · exact .inl h2
  · exact .inr ⟨g, cap, cur, rfl, h4, (hk g rfl).trans h5, r⟩
theorem words6_take (a : Ad) (k : Nat) (h : k < 8) : (words6 a).take (k + 1) = (words6 a).take k ++ [digs 16 (grp a k)] := by
  rw [List.take_succ_eq_append_getElem (by rw [words6_len]; exact h)]
  have := words6_at a k h
  rw [List.getElem?_eq_getElem (by rw [words6_len]; exact h)] at this
  rw [Option.some.inj this]; rfl
theorem words6_six (a : Ad) : ∀ x ∈ words6 a, x.length ≤ 6 := by
  intro x hx
  obtain ⟨i, _, rfl⟩ := List.mem_map.1 hx
  exact digs_len _ _
set_option maxHeartbeats 3200000 in
theorem text_any (a : Ad) (w : World) (henv : Env w) : Calls Tryz.prog 50 #[encA a] w fun e w' => e = .returned (.string (ofBs (textA a))) ∧ Below w.heap.size w w' := by
  obtain ⟨f, x, y⟩ := a
  have HB0 := Lib.hid (show Below w.heap.size w (w.alloc (boxA (f, x, y))) from (Below.refl _ _).alloc (Nat.le_refl _) _)
  have HX0 := Lib.hid (heap_alloc_new w (boxA (f, x, y)))
  have HSZ := Lib.hid (World.size_alloc w (boxA (f, x, y)))
  have hx := HX0.out
  have c0 : (w.alloc (boxA (f, x, y))).cell? ⟨w.heap.size, 0, none⟩ = some (.int .u8 (f.toNat : Int)) := by rw [blk_cell hx]; rfl
  have c1 : (w.alloc (boxA (f, x, y))).cell? ⟨w.heap.size, 1, none⟩ = some (.int .u64 (x.toNat : Int)) := by rw [blk_cell hx]; rfl
  have c2 : (w.alloc (boxA (f, x, y))).cell? ⟨w.heap.size, 2, none⟩ = some (.int .u64 (y.toNat : Int)) := by rw [blk_cell hx]; rfl
  have HE := Lib.hid henv
  have HBY := Lib.hid (fun W => Rows.abytes (f, x, y) W)
  have HBL := Lib.hid (show (bytesA (f, x, y)).length ≤ 16 from by unfold bytesA Px.sizeB; split; (rw [Px.bytesN_length]; split <;> omega); simp)
  have HTX := Lib.hid (show textA (f, x, y) = if rightA (f, x, y) = true then (if f = 6 then text6 (f, x, y) else joinC 46 ((bytesA (f, x, y)).map fun c => digs 10 c.toNat)) else [] from rfl)
  have HNR := Lib.hid (show rightA (f, x, y) = false → bytesA (f, x, y) = [] from fun h => by unfold bytesA; rw [h]; rfl)
  obtain ⟨bs, hbs⟩ : ∃ bs, bs = bytesA (f, x, y) := ⟨_, rfl⟩
  rw [← hbs] at HBY HBL HTX HNR
  clear hx henv hbs
  go_enter Tryz.func50, Tryz.ntmps50
  go_wp2_with fail
  refine (HBY.out _).mono ?_
  rintro e w1 ⟨rfl, hb⟩
  have HB1 := Lib.hid (below_step HB0.out hb HB0.out.size)
  have HX1 := Lib.hid (blk_kept hb HX0.out)
  obtain ⟨cap, cur, w2, hconv, hcap, hcs, hblk, hcur, hb2, hsz⟩ := conv_bytes (P := Tryz.prog) w1 9 63 5 (ofBs bs) Tryz.underlying9 Tryz.underlying63 Tryz.underlying5
  have HB2 := Lib.hid (below_step HB1.out hb2 HB1.out.size)
  have HX2 := Lib.hid (blk_kept hb2 HX1.out)
  have HCB := Lib.hid hblk
  have HL1 := Lib.hid (Nat.lt_of_lt_of_le (blk_lt HX1.out) hb2.size)
  have HLB := Lib.hid (blk_lt hblk)
  have HE2 := Lib.hid (HE.out.kept HB2.out)
  have hn := ofBs_size bs
  have HCU := Lib.hid (show ∀ (j : Nat) (h : j < bs.length), cur[j]? = some (.int .u8 ((bs[j]'h).toNat : Int)) from fun j h => by
    have := hcur j (by rw [hn]; exact h)
    rw [this]; rfl)
  clear hb hb2 hblk hcur c0 c1 c2 hcap hcs hsz
  rw [hn] at hconv
  clear hn
  obtain ⟨n, hn⟩ : ∃ n, n = bs.length := ⟨_, rfl⟩
  have HN := Lib.hid hn
  rw [← hn] at hconv HBL
  clear hn HBY
  go_wp2_with fail
  go_loopw [3, 13] (fun v3 v13 W => ∃ k : Nat, k ≤ n ∧ v13 = .int .i64 (k : Int) ∧ W.ownsRow w2.heap.size 9 1 v3 k (strV ((bs.take k).map fun c => digs 10 c.toNat)) ∧ Below w2.heap.size w2 W) (fun _ v13 _ => (n - intOf v13).toNat)
  case atStart => exact ⟨0, Nat.zero_le _, rfl, by simpa using World.ownsRow_nil _ _ _ _, Below.refl _ _⟩
  case round =>
    obtain ⟨k, hk, rfl, ho, hb⟩ := hrel
    have HO := Lib.hid ho
    have HB := Lib.hid hb
    have HEr := Lib.hid (HE2.out.kept hb)
    obtain ⟨oo, oc, hov⟩ := owns_slice1 ho
    subst hov
    clear ho hb
    by_cases hkn : k < n
    · have hki : (k : Int) < (n : Int) := by omega
      have hkb : k < bs.length := by rw [← HN.out]; exact hkn
      obtain ⟨c, hc⟩ : ∃ c, c = bs[k] := ⟨_, rfl⟩
      have hcell : wr.cell? ⟨w1.heap.size, k, none⟩ = some (.int .u8 (c.toNat : Int)) := by
        rw [HB.out.cell HLB.out, blk_cell HCB.out, HCU.out k hkb, hc]
      have HS := Lib.hid (show (bs.take (k + 1)).map (fun c => digs 10 c.toNat) = ((bs.take k).map fun c => digs 10 c.toNat) ++ [digs 10 c.toNat] from by
        rw [List.take_succ_eq_append_getElem hkb, List.map_append, ← hc]; rfl)
      have k1 : IntKind.i64.wrap ((k : Int) + 1) = ((k + 1 : Nat) : Int) := by have := HBL.out; rw [IntKind.wrap_i64]; omega
      have HL9 := Lib.hid (show k + 1 ≤ 1099511627776 by have := HBL.out; omega)
      clear hc hkb
      go_wp2_with fail
      refine (itoa_any c _ HEr.out).mono ?_
      rintro e w3 ⟨rfl, hb3⟩
      have HB3 := Lib.hid (below_step HB.out hb3 HB.out.size)
      have HO3 := Lib.hid (row_kept1 HO.out fun q hq => hb3.block q (HO.out.lt q hq).2)
      have HZ3 := Lib.hid HB3.out.size
      clear hb3
      go_wp2_with (at_builtin; refine wpList_append1 rfl (.tmp 17) (.tmp 21) 102 rfl w2.heap.size 9 _ 1 16 Tryz.underlying102 infoS rfl (by decide) _ k _ [.string (ofBs (digs 10 c.toNat))] rfl HO3.out _ 1 rfl rfl rfl (by simp [Value.oneCell']) HL9.out (by decide) HZ3.out w2.heap.size w2 HB3.out (Nat.le_refl _) ?_; intro v5 w5 ho5 hgr5 hb5 hsz5; have HO5 := Lib.hid ho5; have HB5 := Lib.hid hb5; clear ho5 hgr5 hb5 hsz5)
      go_roundw
      case rel => exact ⟨k + 1, by omega, rfl, by rw [HS.out]; simpa [strV] using HO5.out, HB5.out⟩
      case measure => simp [intOf]; omega
    · obtain rfl : k = n := by omega
      have HF := Lib.hid (show bs.take k = bs from List.take_of_length_le (by rw [HN.out]; exact Nat.le_refl _))
      have c0 : wr.cell? ⟨w.heap.size, 0, none⟩ = some (.int .u8 (f.toNat : Int)) := by rw [HB.out.cell HL1.out, blk_cell HX2.out]; rfl
      have c1 : wr.cell? ⟨w.heap.size, 1, none⟩ = some (.int .u64 (x.toNat : Int)) := by rw [HB.out.cell HL1.out, blk_cell HX2.out]; rfl
      have c2 : wr.cell? ⟨w.heap.size, 2, none⟩ = some (.int .u64 (y.toNat : Int)) := by rw [HB.out.cell HL1.out, blk_cell HX2.out]; rfl
      by_cases h6 : f = 6
      · have h6i : ((f.toNat : Int) != 6) = false := by rw [h6]; rfl
        obtain ⟨wA, hwA⟩ : ∃ wA, wA = wr := ⟨_, rfl⟩
        subst hwA
        have HV := Lib.hid (show textA (f, x, y) = text6 (f, x, y) from text_6 h6)
        clear h6
        have HBW := Lib.hid (below_step HB2.out HB.out HB2.out.size)
        have HLW := Lib.hid (Nat.lt_of_lt_of_le HL1.out HB.out.size)
        have HXW := Lib.hid (blk_below HB.out HX2.out HL1.out)
        clear HTX HNR HCU HCB HF
        go_wp2_with fail
        go_loopw [3, 29] (fun v3 v29 W => ∃ j : Nat, j ≤ 8 ∧ v29 = .int .i64 (j : Int) ∧ W.ownsRow wA.heap.size 9 1 v3 j (strV ((words6 (f, x, y)).take j)) ∧ Below wA.heap.size wA W) (fun _ v29 _ => (8 - intOf v29).toNat)
        case atStart => exact ⟨0, Nat.zero_le _, rfl, by simpa using World.ownsRow_nil _ _ _ _, Below.refl _ _⟩
        case round =>
          obtain ⟨j, hj, rfl, ho, hb⟩ := hrel
          have HO2 := Lib.hid ho
          have HBB := Lib.hid hb
          have HEq := Lib.hid (HEr.out.kept hb)
          obtain ⟨o2, oc2, hov⟩ := owns_slice1 ho
          subst hov
          clear ho hb c0 c1 c2
          have c0 : wr.cell? ⟨w.heap.size, 0, none⟩ = some (.int .u8 (f.toNat : Int)) := by rw [HBB.out.cell HLW.out, blk_cell HXW.out]; rfl
          have c1 : wr.cell? ⟨w.heap.size, 1, none⟩ = some (.int .u64 (x.toNat : Int)) := by rw [HBB.out.cell HLW.out, blk_cell HXW.out]; rfl
          have c2 : wr.cell? ⟨w.heap.size, 2, none⟩ = some (.int .u64 (y.toNat : Int)) := by rw [HBB.out.cell HLW.out, blk_cell HXW.out]; rfl
          by_cases h8 : j < 8
          · have h8i : (j : Int) < 8 := by omega
            have k2 : IntKind.i64.wrap ((j : Int) + 1) = ((j + 1 : Nat) : Int) := by rw [IntKind.wrap_i64]; omega
            have HS := Lib.hid (words6_take (f, x, y) j h8)
            have HG := Lib.hid (fun W => group_any (f, x, y) j h8 W)
            have HF := Lib.hid (fun W (he : Env W) => fmt16 (grp (f, x, y) j) (grp_lt _ _) W he)
            obtain ⟨g, hg⟩ : ∃ g, g = grp (f, x, y) j := ⟨_, rfl⟩
            rw [← hg] at HS HG HF
            clear hg
            go_wp2_with (first
              | (go_at_call 71; refine (HG.out _).mono ?_; rintro e w3 ⟨rfl, hb3⟩; have HB3 := Lib.hid (below_step HBB.out hb3 HBB.out.size); have HE3 := Lib.hid (HEq.out.kept hb3); have HO3 := Lib.hid (row_kept1 HO2.out fun q hq => hb3.block q (HO2.out.lt q hq).2); clear hb3)
              | (go_at_call 70; refine (HF.out _ HE3.out).mono ?_; rintro e w4 ⟨rfl, hb4⟩; have HB4 := Lib.hid (below_step HB3.out hb4 HB3.out.size); have HO4 := Lib.hid (row_kept1 HO3.out fun q hq => hb4.block q (HO3.out.lt q hq).2); have HZ4 := Lib.hid HB4.out.size; clear hb4)
              | (at_builtin; refine wpList_append1 rfl (.tmp 32) (.tmp 37) 102 rfl wA.heap.size 9 _ 1 16 Tryz.underlying102 infoS rfl (by decide) _ j _ [.string (ofBs (digs 16 g))] rfl HO4.out _ 1 rfl rfl rfl (by simp [Value.oneCell']) (by omega) (by decide) HZ4.out wA.heap.size wA HB4.out (Nat.le_refl _) ?_; intro v5 w5 ho5 hgr5 hb5 hsz5; have HO5 := Lib.hid ho5; have HB5 := Lib.hid hb5; clear ho5 hgr5 hb5 hsz5))
            go_roundw
            case rel => exact ⟨j + 1, by omega, rfl, by rw [HS.out]; simpa [strV] using HO5.out, HB5.out⟩
            case measure => simp [intOf]; omega
          · obtain rfl : j = 8 := by omega
            have HW6 := Lib.hid (show (words6 (f, x, y)).take 8 = words6 (f, x, y) from List.take_of_length_le (by rw [words6_len]; exact Nat.le_refl _))
            rw [HW6.out] at HO2
            have HR := Lib.hid (fun W => run_any (f, x, y) W)
            have HT0 := Lib.hid (text6_none (f, x, y))
            have HT1 := Lib.hid (text6_some (f, x, y))
            have HRL := Lib.hid (run_le (f, x, y))
            have HLN := Lib.hid (words6_len (f, x, y))
            have HSX := Lib.hid (words6_six (f, x, y))
            obtain ⟨ws, hws⟩ : ∃ ws, ws = words6 (f, x, y) := ⟨_, rfl⟩
            rw [← hws] at HO2 HT0 HT1 HLN HSX
            obtain ⟨p, m, hpm⟩ : ∃ p m, run (f, x, y) = (p, m) := ⟨_, _, rfl⟩
            rw [hpm] at HR HT0 HT1 HRL
            clear hws hpm HW6
            go_wp2_with fail
            refine (HR.out _).mono ?_
            rintro e w3 ⟨rfl, hb3⟩
            have HB3 := Lib.hid (below_step HBB.out hb3 HBB.out.size)
            have HO3 := Lib.hid (row_kept1 HO2.out fun q hq => hb3.block q (HO2.out.lt q hq).2)
            have HBT := Lib.hid (below_step HBW.out HB3.out HBW.out.size)
            clear hb3
            by_cases hm0 : m = 0
            · have HJ := Lib.hid (owns_join (l := ws) (by rw [HLN.out]; exact HO3.out) 58 (by rw [HLN.out]; omega) HSX.out)
              have HV2 := Lib.hid (show textA (f, x, y) = joinC 58 ws from HV.out.trans (HT0.out hm0))
              subst hm0
              go_wp2_with fail
              refine HJ.out.mono ?_
              rintro e w4 ⟨rfl, hb4⟩
              have HB4 := Lib.hid (below_step HBT.out hb4 HBT.out.size)
              clear hb4
              go_wp2_with fail
              go_ret
              exact ⟨ret_str (by rw [HV2.out]), HB4.out⟩
            · have HV2 := Lib.hid (show textA (f, x, y) = joinC 58 (ws.take p) ++ 58 :: 58 :: joinC 58 (ws.drop (p + m)) from HV.out.trans (HT1.out hm0))
              have hpm : p + m ≤ 8 := by have := HRL.out; omega
              have hmi : ¬ (m : Int) = 0 := by omega
              have k3 : IntKind.i64.wrap ((p : Int) + (m : Int)) = ((p + m : Nat) : Int) := by rw [IntKind.wrap_i64]; omega
              have k4 : ((p + m : Nat) : Int) ≤ 8 := by omega
              have k5 : (0 : Int) ≤ ((p + m : Nat) : Int) := by omega
              have k6 : (p : Int) ≤ 8 := by omega
              obtain ⟨g, cap2, hg, _, _, hcap2, hcell, _⟩ := owns_shape HO3.out (by omega)
              injection hg with hg1 hg2 hg3
              subst hg1
              subst hg3
              clear hg2 HRL hm0
              have HC3 := Lib.hid hcell
              have HLT := Lib.hid (World.block_lt_of_cell? w3 ⟨g, 0, none⟩ (by rw [hcell 0 (by omega), List.getElem?_map, List.getElem?_eq_getElem (by rw [HLN.out]; omega)]; rfl))
              obtain ⟨ao2, hao2⟩ : ∃ ao2 : Option Addr, ao2 = if oc2 = p + m then some ⟨g, 0, none⟩ else some ⟨g, p + m, none⟩ := ⟨_, rfl⟩
              have hao : oc2 ≠ p + m → ao2 = some ⟨g, p + m, none⟩ := fun h => by rw [hao2, if_neg h]
              have HJ1 : ∀ zz : Later w3.heap.size w3, Calls Tryz.prog 69 #[.slice (some ⟨g, 0, none⟩) p oc2, .string ⟨#[58]⟩] zz.val fun e w' => e = .returned (.string (ofBs (joinC 58 (ws.take p)))) ∧ Below zz.val.heap.size zz.val w' := fun zz => by
                have hl : (ws.take p).length = p := by rw [List.length_take, HLN.out]; omega
                refine join_any (ws.take p) 58 _ oc2 (some ⟨g, 0, none⟩) zz.val (by rw [hl]) (by rw [hl]; omega) (by rw [hl]; omega) (fun x hx => HSX.out x (List.mem_of_mem_take hx)) (fun _ => ⟨g, 0, rfl, fun j x' hx => ?_⟩)
                have hj : j < p := by have := (List.getElem?_eq_some_iff.1 hx).1; omega
                rw [Nat.zero_add, zz.prop.cell (p := ⟨g, j, none⟩) HLT.out, HC3.out j (by omega), List.getElem?_map]
                rw [List.getElem?_take, if_pos hj] at hx
                rw [hx]; rfl
              have HJ2 : ∀ zz : Later w3.heap.size w3, Calls Tryz.prog 69 #[.slice ao2 (8 - (p + m)) (oc2 - (p + m)), .string ⟨#[58]⟩] zz.val fun e w' => e = .returned (.string (ofBs (joinC 58 (ws.drop (p + m))))) ∧ Below zz.val.heap.size zz.val w' := fun zz => by
                have hl : (ws.drop (p + m)).length = 8 - (p + m) := by rw [List.length_drop, HLN.out]
                refine join_any (ws.drop (p + m)) 58 _ (oc2 - (p + m)) ao2 zz.val (by rw [hl]) (by rw [hl]; omega) (by rw [hl]; omega) (fun x hx => HSX.out x (List.mem_of_mem_drop hx)) (fun h0 => ⟨g, p + m, hao (by omega), fun j x' hx => ?_⟩)
                have hj : j < 8 - (p + m) := by have := (List.getElem?_eq_some_iff.1 hx).1; omega
                rw [zz.prop.cell (p := ⟨g, p + m + j, none⟩) HLT.out, HC3.out (p + m + j) (by omega), List.getElem?_map]
                rw [List.getElem?_drop] at hx
                rw [hx]; rfl
              have hA := joinC_len 58 (ws.take p) (fun x hx => HSX.out x (List.mem_of_mem_take hx))
              have hB := joinC_len 58 (ws.drop (p + m)) (fun x hx => HSX.out x (List.mem_of_mem_drop hx))
              have hA2 : (joinC 58 (ws.take p)).length ≤ 100 := by rw [List.length_take] at hA; omega
              have hB2 : (joinC 58 (ws.drop (p + m))).length ≤ 100 := by rw [List.length_drop] at hB; have := HLN.out; omega
              clear hA hB
              obtain ⟨A, hA⟩ : ∃ A, A = joinC 58 (ws.take p) := ⟨_, rfl⟩
              obtain ⟨B, hB⟩ : ∃ B, B = joinC 58 (ws.drop (p + m)) := ⟨_, rfl⟩
              rw [← hA] at HJ1 HV2 hA2
              rw [← hB] at HJ2 HV2 hB2
              have hk1 : ∀ W, (Op.stringOp .add (ofBs A) ⟨#[58, 58]⟩).run Tryz.prog W = .ok (.string (ofBs (A ++ [58, 58]))) W := cat_run A [58, 58] (by simp; omega)
              have hk2 := cat_run (A ++ [58, 58]) B (by simp; omega)
              rw [hao2] at HJ2
              have HJ1' := Lib.hid HJ1
              have HJ2' := Lib.hid HJ2
              have HV3 := Lib.hid (show textA (f, x, y) = A ++ [58, 58] ++ B from by rw [HV2.out]; simp)
              obtain ⟨AB, hAB⟩ : ∃ AB, AB = A ++ [58, 58] := ⟨_, rfl⟩
              rw [← hAB] at hk1 hk2 HV3
              obtain ⟨ABB, hABB⟩ : ∃ ABB, ABB = AB ++ B := ⟨_, rfl⟩
              rw [← hABB] at hk2 HV3
              clear hA hB hA2 hB2 HV2 hAB hABB
              clear HJ1 HJ2 hcell hao hao2
              go_wp2_with fail
              refine wp_region_later w3.heap.size (by kernel_rfl) (by kernel_rfl) ?_
              repeat (go_big_quiet_step ((go_at_call 69; first | with_reducible exact Later.calls (Nat.le_refl _) (HJ1'.out _) | with_reducible exact Later.calls (Nat.le_refl _) (HJ2'.out _))))
              refine wpQuiet_nil ?_
              rintro wq ⟨zz, rfl⟩
              have HZ := Lib.hid zz.prop
              generalize zz.val = wq at *
              have HBQ := Lib.hid (below_step HBT.out HZ.out HBT.out.size)
              go_wp2_with fail
              all_goals go_ret
              all_goals exact ⟨ret_str (by rw [HV3.out]), HBQ.out⟩
      · have h6i : ((f.toNat : Int) != 6) = true := by
          simp; intro e; apply h6; exact UInt8.toNat_inj.1 (by rw [show (6 : UInt8).toNat = 6 from rfl]; omega)
        have HJ := Lib.hid (owns_join (l := bs.map fun c => digs 10 c.toNat) (by have := HO.out; rw [HF.out] at this; rw [List.length_map, ← HN.out]; exact this) 46 (by rw [List.length_map, ← HN.out]; exact HBL.out) (by
          intro z hz
          obtain ⟨c, _, rfl⟩ := List.mem_map.1 hz
          exact digs_len _ _))
        have HV := Lib.hid (show textA (f, x, y) = joinC 46 (bs.map fun c => digs 10 c.toNat) from by
          rw [HTX.out]
          cases hr : rightA (f, x, y) with
          | true => rw [if_pos rfl, if_neg h6]
          | false => rw [HNR.out hr]; rfl)
        clear h6
        go_wp2_with fail
        refine HJ.out.mono ?_
        rintro e w3 ⟨rfl, hb3⟩
        have HB3 := Lib.hid (below_step (below_step HB2.out HB.out HB2.out.size) hb3 (Nat.le_trans HB2.out.size HB.out.size))
        clear hb3
        go_wp2_with fail
        go_ret
        exact ⟨ret_str (by rw [HV.out]), HB3.out⟩
end Go.Proofs.Tryz.Tx
