/- What the library reads: the tables and variables; FormatUint of base 16. -/
import Derived.Test.YtpikpfbpoihioaaDoorAt4
import Derived.Test.YtpikpfbpoihioaaDoorShelf
import Derived.Test.YtpikpfbpoihioaaDoorMC
import Derived.Lib.LaidTab
import Derived.Lib.SmallJoins
set_option linter.unusedVariables false
set_option linter.unusedSimpArgs false
set_option maxRecDepth 100000
namespace Go.Proofs.Tryd.Tx
open Go.RowKit Go.Cph Go.Cph.Tx
open Go.Cph.Ok (ofBs)
/-- What the library's variables hold. -/
structure Env (w : World) : Prop where
  len : ∃ m, w.cell? ⟨1, 0, none⟩ = some (.int .i64 m)
  tab : Lib.TabIs Tryd.prog w "internal/strconv.uint64pow10" .u64 Lib.pow10Tab
  tz : w.cell? ⟨3, 15, none⟩ = some (.int .u8 4)
  syn : ∃ t p, w.cell? ⟨4, 0, none⟩ = some (.iface t p)
  rng : ∃ t p, w.cell? ⟨5, 0, none⟩ = some (.iface t p)
theorem Env.kept {w w' : World} (h : Env w) (hb : Below w.heap.size w w') : Env w' :=
  ⟨by obtain ⟨m, hm⟩ := h.len; exact ⟨m, cell_kept hb hm⟩, Go.Joins.tab_stays (g := 0) (by kernel_rfl) h.tab hb (Nat.le_refl _), cell_kept hb h.tz,
    by obtain ⟨t, p, hm⟩ := h.syn; exact ⟨t, p, cell_kept hb hm⟩, by obtain ⟨t, p, hm⟩ := h.rng; exact ⟨t, p, cell_kept hb hm⟩⟩
theorem tz16 (w : World) (h : Env w) : Calls Tryd.prog 78 #[.int .u64 16] w fun e w' => e = .returned (.int .i64 4) ∧ w' = w := by
  have hc := h.tz
  have hz : IntKind.u64.wrap (Go.bits .and .u64 16 (IntKind.u64.wrap (-16)) * 285870213051353865) / 288230376151711744 = 15 := by rfl
  clear h
  go_enter Tryd.func78, Tryd.ntmps78
  go_wp2
  go_ret
  exact ⟨rfl, rfl⟩
theorem and15 (n : Nat) (h : n < 18446744073709551616) : Go.bits .and .u64 (n : Int) 15 = ((n % 16 : Nat) : Int) := by
  have := u64_and_nat n 15 h (by decide)
  refine this.trans ?_
  rw [show (15 : Nat) = 2 ^ 4 - 1 from rfl, Nat.and_two_pow_sub_one_eq_mod]
theorem cell_bytes {w : World} {b : Nat} {l : Bs} {E : TypeId} {fr : Nat × Nat} (h : w.heap[b]? = some (.cells (bytesV l) E fr)) (j : Nat) (hj : j < l.length) : w.cell? ⟨b, j, none⟩ = some (.int .u8 ((l.getD j 0).toNat : Int)) := by
  rw [blk_cell h, bytesV_at l j hj]
/-- The digits that the loop has laid: behind place i the row holds the number's last digits. -/
structure Laid (n i us : Nat) (l : Bs) : Prop where
  len : l.length = 65
  lt16 : us < 65536
  dg : digs 16 n = digs 16 us ++ l.drop (i + 1)
  cnt : (digs 16 us).length + 64 = (digs 16 n).length + i
  top : i ≤ 64
theorem Laid.low {n i us : Nat} {l : Bs} (h : Laid n i us l) : 59 ≤ i := by
  have h1 := h.cnt
  have h2 := digs_len 16 n
  have h3 := digs_ne 16 us
  have h4 : 0 < (digs 16 us).length := List.length_pos_iff.2 h3
  omega
theorem Laid.start (n : Nat) (h : n < 65536) : Laid n 64 n (List.replicate 65 0) := ⟨by simp, h, by simp, rfl, by omega⟩
theorem drop_set {l : Bs} {i : Nat} (c : UInt8) (h : i < l.length) : (l.set i c).drop i = c :: l.drop (i + 1) := by
  rw [List.drop_eq_getElem_cons (by simpa using h), List.getElem_set_self, List.drop_set_of_lt (by omega)]
theorem Laid.step {n q us : Nat} {l : Bs} (h : Laid n (q + 1) us l) (hu : 16 ≤ us) : Laid n q (us / 16) (l.set (q + 1) (dig (us % 16))) := by
  have h1 := digs_big 16 us (by omega) hu (by have := h.lt16; omega)
  have ht := h.top
  refine ⟨by rw [List.length_set]; exact h.len, by have := h.lt16; omega, ?_, ?_, by omega⟩
  · rw [drop_set _ (by rw [h.len]; omega), h.dg, h1, List.append_assoc]; rfl
  · have := h.cnt; rw [h1, List.length_append] at this; simp at this; omega
theorem Laid.last {n i us : Nat} {l : Bs} (h : Laid n i us l) (hu : us < 16) : (l.set i (dig us)).drop i = digs 16 n := by
  rw [drop_set _ (by rw [h.len]; have := h.top; omega), h.dg, digs_small 16 us hu]; rfl
abbrev DIGITS : ByteArray := ⟨#[48, 49, 50, 51, 52, 53, 54, 55, 56, 57, 97, 98, 99, 100, 101, 102, 103, 104, 105, 106, 107, 108, 109, 110, 111, 112, 113, 114, 115, 116, 117, 118, 119, 120, 121, 122]⟩
theorem digit_at : ∀ d, d < 16 → ∀ h : d < DIGITS.size, DIGITS[d]'h = dig d := by decide
set_option maxHeartbeats 3200000 in
theorem fmtBits (n : Nat) (hn : n < 65536) (w : World) (henv : Env w) :
    Calls Tryd.prog 68 #[.slice none 0 0, .int .u64 (n : Int), .int .i64 16, .bool false, .bool false] w fun e w' => e = .returned (.tuple #[.slice none 0 0, .string (ofBs (digs 16 n))]) ∧ Below w.heap.size w w' := by
  have HE := Lib.hid henv
  have HN := Lib.hid hn
  have hp : Go.bits .and .i64 16 15 = 0 := by rfl
  have HBX := Lib.hid (show ∀ o : Obj, Below w.heap.size w (w.alloc o) from fun o => (Below.refl _ _).alloc (Nat.le_refl _) _)
  have HEX := Lib.hid (show ∀ o : Obj, Env (w.alloc o) from fun o => henv.kept ((Below.refl _ _).alloc (Nat.le_refl _) _))
  clear henv hn
  go_enter Tryd.func68, Tryd.ntmps68
  go_wp2_with (first | (go_at_call 78; refine (tz16 _ (HEX.out _)).mono ?_; rintro e w1 ⟨rfl, rfl⟩) | go_in)
  go_loopw [1, 13] (fun v1 v13 W => ∃ (i us : Nat) (l : Bs), v1 = .int .u64 (us : Int) ∧ v13 = .int .i64 ((i : Int) + 1) ∧ W.heap[w.heap.size]? = some (.cells (bytesV l) 114 (0, 0)) ∧ Laid n i us l ∧ Below w.heap.size w W) (fun v1 _ _ => (intOf v1).toNat)
  case atStart => exact ⟨64, n, List.replicate 65 0, rfl, rfl, by rw [heap_alloc_new]; rfl, .start n HN.out, HBX.out _⟩
  case round =>
    obtain ⟨i, us, l, rfl, rfl, hblk, hl, hb⟩ := hrel
    have HL := Lib.hid hl
    have HB := Lib.hid hb
    have HK := Lib.hid hblk
    have hlo := hl.low
    have hto := hl.top
    have hw1 : IntKind.i64.wrap (i : Int) = (i : Int) := by rw [IntKind.wrap_i64]; omega
    have hi2 : (i : Int) < 65 := by omega
    have hi3 : (0 : Int) ≤ (i : Int) := by omega
    have hz := hl.lt16
    have hf : wr.frozen? ⟨w.heap.size, i, none⟩ = false := by rw [blk_frozen hblk]; rfl
    have hcl := cell_bytes hblk i (by rw [hl.len]; omega)
    by_cases hu : 16 ≤ us
    · have ha := and15 us (by omega)
      have HG := Lib.hid (digit_at (us % 16) (by omega))
      have hm0 : (0 : Int) ≤ ((us % 16 : Nat) : Int) := by omega
      have hm1 : ((us % 16 : Nat) : Int) < 36 := by omega
      have hu1 : (16 : Int) ≤ (us : Int) := by omega
      obtain ⟨q, rfl⟩ : ∃ q, i = q + 1 := ⟨i - 1, by omega⟩
      have HS := Lib.hid (hl.step hu)
      clear hl hb hblk
      go_wp2_with fail
      go_roundw
      case rel =>
        refine ⟨q, us / 16, l.set (q + 1) (dig (us % 16)), rfl, rfl, ?_, HS.out, ?_⟩
        · rw [HG.out _, blk_set HK.out, bytesV_set]
        · exact HB.out.setCell (Nat.le_refl _) _
      case measure => simp [intOf]; omega
    · have HG := Lib.hid (digit_at us (by omega))
      have hm0 : (0 : Int) ≤ (us : Int) := by omega
      have hm1 : (us : Int) < 36 := by omega
      have hu1 : ¬ (16 : Int) ≤ (us : Int) := by omega
      have HS := hl.last (by omega)
      have hm : (digs 16 n).length = 65 - i := by rw [← HS, List.length_drop, List.length_set, hl.len]
      have HSL := Lib.hid (fun W : World => show (Instr.sliceAt 114 (.pointer (some ⟨w.heap.size, 0, none⟩)) (some (.int .i64 (i : Int))) none none).run Tryd.prog W = .ok (.slice (some ⟨w.heap.size, i, none⟩) (digs 16 n).length (digs 16 n).length) W from by
        have hal : Tryd.prog.arrayLen 114 = 65 := by kernel_rfl
        rw [run_sliceAt_array_l W 114 ⟨w.heap.size, 0, none⟩ (by kernel_rfl) .i64 (i : Int) (by omega) (by rw [hal]; omega), hal, hm]
        have hsz : sizeOf (Tryd.prog.elem 114) = sizeOf 5 := by rfl
        rw [hsz]
        simp [go_sem, slicedAt, Addr.add, Nat.ne_of_gt (show i < 65 by omega)]; omega)
      have HCV := Lib.hid (fun (h : us < DIGITS.size) => show (convert 45 9 (.slice (some ⟨w.heap.size, i, none⟩) (digs 16 n).length (digs 16 n).length)).run Tryd.prog (wr.setCell ⟨w.heap.size, i, none⟩ (.int .u8 ((DIGITS[us]'h).toNat : Int))) = .ok (.string (ofBs (digs 16 n))) (wr.setCell ⟨w.heap.size, i, none⟩ (.int .u8 ((DIGITS[us]'h).toNat : Int))) from by
        rw [HG.out h]
        refine run_convert_bytes_back _ 45 9 5 ⟨w.heap.size, i, none⟩ _ (digs 16 n) Tryd.underlying45 Tryd.underlying5 Tryd.underlying9 fun j hj => ?_
        have hadd : (⟨w.heap.size, i, none⟩ : Addr).add j = ⟨w.heap.size, i + j, none⟩ := by unfold Addr.add; split <;> simp_all
        have hb2 := blk_set hblk i (.int .u8 ((dig us).toNat : Int))
        rw [bytesV_set] at hb2
        rw [hadd, cell_bytes hb2 (i + j) (by rw [List.length_set, hl.len]; omega)]
        have : (digs 16 n)[j]? = (l.set i (dig us))[i + j]? := by rw [← HS, List.getElem?_drop]
        rw [List.getElem?_eq_getElem hj] at this
        rw [List.getD_eq_getElem?_getD, ← this]; rfl)
      have hsl := HSL.out
      have hcv := HCV.out
      clear hl hb hblk HS hm
      obtain ⟨m, hmm⟩ : ∃ m, m = (digs 16 n).length := ⟨_, rfl⟩
      rw [← hmm] at hsl hcv
      clear hmm HSL HCV
      go_wp2_with fail
      go_ret2
      exact ⟨rfl, HB.out.setCell (Nat.le_refl _) _⟩
set_option maxHeartbeats 400000 in
theorem fmt16i (n : Nat) (hn : n < 65536) (w : World) (henv : Env w) :
    Calls Tryd.prog 55 #[.int .u64 (n : Int), .int .i64 16] w fun e w' => e = .returned (.string (ofBs (digs 16 n))) ∧ Below w.heap.size w w' := by
  have HC := Lib.hid (fmtBits n hn w henv)
  obtain ⟨s, hs⟩ : ∃ s, s = ofBs (digs 16 n) := ⟨_, rfl⟩
  rw [← hs] at HC ⊢
  clear hn henv hs
  go_enter Tryd.func55, Tryd.ntmps55
  go_wp2_with (go_at_call 68; refine HC.out.mono ?_; rintro e w1 ⟨rfl, hb⟩)
  go_ret
  exact ⟨rfl, hb⟩
theorem fmt16 (n : Nat) (hn : n < 65536) (w : World) (henv : Env w) :
    Calls Tryd.prog 35 #[.int .u64 (n : Int), .int .i64 16] w fun e w' => e = .returned (.string (ofBs (digs 16 n))) ∧ Below w.heap.size w w' := by
  have HC := Lib.hid (fmt16i n hn w henv)
  obtain ⟨s, hs⟩ : ∃ s, s = ofBs (digs 16 n) := ⟨_, rfl⟩
  rw [← hs] at HC ⊢
  clear hn henv hs
  go_enter Tryd.func35, Tryd.ntmps35
  go_wp2_with (go_at_call 55; refine HC.out.mono ?_; rintro e w1 ⟨rfl, hb⟩)
  go_ret
  exact ⟨rfl, hb⟩
end Go.Proofs.Tryd.Tx
