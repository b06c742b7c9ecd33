/- The document's addresses: of bytes. -/
import Derived.Test.YtbhnpndkdhhpfaaRb3
import Derived.RegionTactic
import Derived.ChangeAlike
set_option linter.unusedVariables false
set_option linter.unusedSimpArgs false
namespace Go.Proofs.Try.Pfx
open Go.RowKit Go.Cph Go.Cph.Px

structure FromStep (h lo : UInt64) (c : UInt8) (h' lo' : UInt64) (x1 x2 x3 : Nat) : Prop where
  e1 : IntKind.u64.wrap (256 * (h.toNat : Int)) = (x1 : Int)
  e2 : (lo.toNat : Int) / 72057594037927936 = (x2 : Int)
  e3 : IntKind.u64.wrap ((x1 : Int) + (x2 : Int)) = (h'.toNat : Int)
  e4 : IntKind.u64.wrap (256 * (lo.toNat : Int)) = (x3 : Int)
  e5 : IntKind.u64.wrap ((x3 : Int) + (c.toNat : Int)) = (lo'.toNat : Int)
  e6 : IntKind.u64.wrap (x2 : Int) = (x2 : Int)
  v : h'.toNat * 18446744073709551616 + lo'.toNat = 256 * (h.toNat * 18446744073709551616 + lo.toNat) + c.toNat
theorem from_step (h lo : UInt64) (c : UInt8) (hb : h.toNat < 72057594037927936) : ∃ (h' lo' : UInt64) (x1 x2 x3 : Nat), FromStep h lo c h' lo' x1 x2 x3 := by
  have h1 := lo.toNat_lt
  have h2 := c.toNat_lt
  obtain ⟨a, ha⟩ : ∃ a, a = h.toNat := ⟨_, rfl⟩
  obtain ⟨b, hb'⟩ : ∃ a, a = lo.toNat := ⟨_, rfl⟩
  obtain ⟨d, hd⟩ : ∃ a, a = c.toNat := ⟨_, rfl⟩
  obtain ⟨q, r, hq, hr, hr2⟩ : ∃ q r, b = 72057594037927936 * q + r ∧ r < 72057594037927936 ∧ q < 256 := ⟨b / 72057594037927936, b % 72057594037927936, by omega, by omega, by omega⟩
  have f1 : (UInt64.ofNat (256 * a + q)).toNat = 256 * a + q := by rw [UInt64.toNat_ofNat', Nat.mod_eq_of_lt (by omega)]
  have f2 : (UInt64.ofNat (256 * r + d)).toNat = 256 * r + d := by rw [UInt64.toNat_ofNat', Nat.mod_eq_of_lt (by omega)]
  refine ⟨UInt64.ofNat (256 * a + q), UInt64.ofNat (256 * r + d), 256 * a, q, 256 * r, ?_, ?_, ?_, ?_, ?_, ?_, ?_⟩
  · rw [← ha, IntWalk.u64_in _ (by omega)]; omega
  · rw [← hb']; omega
  · rw [f1, IntWalk.u64_in _ (by omega)]; omega
  · rw [← hb', IntKind.wrap_u64]; omega
  · rw [f2, ← hd, IntWalk.u64_in _ (by omega)]; omega
  · rw [IntWalk.u64_in _ (by omega)]
  · rw [f1, f2, ← ha, ← hb', ← hd]; omega
theorem val_take {l : List UInt8} {i : Nat} (h : i < l.length) : val (l.take (i + 1)) = 256 * val (l.take i) + l[i].toNat := by rw [List.take_succ_eq_append_getElem h, val_snoc]
theorem val_lt (l : List UInt8) : val l < 256 ^ l.length := by
  suffices k : ∀ r : List UInt8, val r.reverse < 256 ^ r.reverse.length by simpa using k l.reverse
  intro r
  induction r with
  | nil => simp [val]
  | cons b r ih =>
    rw [List.reverse_cons, val_snoc, List.length_append, List.length_singleton, Nat.pow_succ']
    have := b.toNat_lt
    omega
theorem bs_cells {w : World} {v : Value} {l : List UInt8} (h : BsAt w v l) (h0 : 0 < l.length) :
    ∃ b off cap, v = .slice (some ⟨b, off, none⟩) l.length cap ∧ ∀ i (hi : i < l.length), w.cell? ⟨b, off + i, none⟩ = some (.int .u8 (l[i].toNat : Int)) := by
  obtain ⟨b, off, cap, hv, hc⟩ := elems_shape encB_len h h0
  exact ⟨b, off, cap, hv, fun i hi => by have := hc i hi 0 (by omega); simpa using this⟩
theorem ofNum_num (f : UInt8) (h lo : UInt64) (n : Nat) (e : h.toNat * 18446744073709551616 + lo.toNat = n) : ofNum f n = (f, h, lo) := by
  have h1 := lo.toNat_lt
  have h2 := h.toNat_lt
  exact ad_ext rfl (by rw [num_ofNum _ _ (by omega)]; exact e.symm)

set_option maxRecDepth 100000 in
set_option maxHeartbeats 4000000 in
theorem from_ok (fam : UInt8) (v : Value) (l : List UInt8) (w : World) (h : BsAt w v l) (hok : fromOk fam l.length = true) :
    Calls Try.prog 75 #[.int .u8 (fam.toNat : Int), v] w fun e w' => e = .returned (.tuple #[encA (fromB fam l), .bool true]) ∧ Below w.heap.size w w' := by
  obtain ⟨ao, cap, hv⟩ := elems_slice h
  subst hv
  have HV := Lib.hid h
  clear h
  have hl16 : l.length ≤ 16 := by
    simp only [fromOk, Bool.or_eq_true, Bool.and_eq_true, beq_iff_eq] at hok
    omega
  have HF := Lib.hid (show ∀ h lo : UInt64, h.toNat * 18446744073709551616 + lo.toNat = val l → fromB fam l = (fam, h, lo) from fun h lo e => by unfold fromB; rw [if_pos hok]; exact ofNum_num fam h lo _ e)
  have HB0 := Lib.hid (show Below w.heap.size w ((w.alloc (.cells #[.int .u8 0, .int .u64 0, .int .u64 0] 34)).alloc (.cells #[.int .u8 (fam.toNat : Int), .int .u64 0, .int .u64 0] 34)) from ((Below.refl _ _).alloc (Nat.le_refl _) _).alloc (by simp) _)
  have h1 : ((w.alloc (.cells #[.int .u8 0, .int .u64 0, .int .u64 0] 34)).alloc (.cells #[.int .u8 (fam.toNat : Int), .int .u64 0, .int .u64 0] 34)).heap[w.heap.size]? = some (.cells #[.int .u8 0, .int .u64 0, .int .u64 0] 34 (0, 0)) := blk_alloc (heap_alloc_new _ _) _
  have h2 := heap_alloc_new (w.alloc (.cells #[.int .u8 0, .int .u64 0, .int .u64 0] 34)) (.cells #[.int .u8 (fam.toNat : Int), .int .u64 0, .int .u64 0] 34)
  rw [World.size_alloc] at h2
  have H1 := Lib.hid h1
  have H2 := Lib.hid h2
  clear h1 h2
  have hcase : (fam = 4 ∧ l.length = 4) ∨ (fam = 6 ∧ l.length = 16) := by simpa [fromOk] using hok
  clear hok
  rcases hcase with ⟨hf, hl⟩ | ⟨hf, hl⟩
  all_goals
    have HL := Lib.hid hl
    first
      | (have z4 : ((fam.toNat : Int) == 4) = true := int_u8_eq (c := 4) hf)
      | (have z4 : ((fam.toNat : Int) == 4) = false := int_u8_ne (c := 4) (by rw [hf]; decide); have z6 : ((fam.toNat : Int) == 6) = true := int_u8_eq (c := 6) hf)
    first
      | (have zl : ((l.length : Int) == 4) = true := by rw [hl]; rfl)
      | (have zl : ((l.length : Int) == 16) = true := by rw [hl]; rfl)
    clear hf hl
    go_enter Try.func75, Try.ntmps75
    go_wp2_with fail
    generalize ((w.alloc (.cells #[.int .u8 0, .int .u64 0, .int .u64 0] 34)).alloc (.cells #[.int .u8 (fam.toNat : Int), .int .u64 0, .int .u64 0] 34)) = w0 at *
    go_loopw [7] (fun v7 wr => ∃ i : Nat, i ≤ l.length ∧ v7 = .int .i64 i ∧ Below w.heap.size w wr ∧ wr.heap[w.heap.size]? = some (.cells #[.int .u8 0, .int .u64 0, .int .u64 0] 34 (0, 0)) ∧ ∃ h lo : UInt64, wr.heap[w.heap.size + 1]? = some (.cells #[.int .u8 (fam.toNat : Int), .int .u64 (h.toNat : Int), .int .u64 (lo.toNat : Int)] 34 (0, 0)) ∧ h.toNat * 18446744073709551616 + lo.toNat = val (l.take i)) (fun v7 _ => l.length - (intOf v7).toNat)
    case atStart => exact ⟨0, Nat.zero_le _, rfl, HB0.out, H1.out, 0, 0, H2.out, by simp [val]⟩
    case round =>
      obtain ⟨i, hi, rfl, hbel, hr1, h, lo, hr2, hval⟩ := hrel
      have HBE := Lib.hid hbel
      have HR1 := Lib.hid hr1
      have HR2 := Lib.hid hr2
      have HVL := Lib.hid hval
      clear hbel hr1 hr2 hval
      by_cases hlt : i < l.length
      · obtain ⟨b, off, cap', hve, hcs⟩ := bs_cells HV.out (by omega)
        cases hve
        have hci := hcs i hlt
        have hbl : b < w.heap.size := World.block_lt_of_cell? _ _ hci
        have q0 := cell_kept HBE.out hci
        obtain ⟨c, hc⟩ : ∃ c, c = l[i] := ⟨_, rfl⟩
        rw [← hc] at q0
        have hvt := val_take hlt
        rw [← hc, ← HVL.out] at hvt
        have hlt2 := val_lt (l.take (i + 1))
        have hle : (256 : Nat) ^ (l.take (i + 1)).length ≤ 256 ^ 16 := Nat.pow_le_pow_right (by decide) (by rw [List.length_take]; omega)
        have hh : h.toNat < 72057594037927936 := by
          have h3 : val (l.take (i + 1)) < 256 ^ 16 := Nat.lt_of_lt_of_le hlt2 hle
          rw [hvt] at h3
          have : (256 : Nat) ^ 16 = 340282366920938463463374607431768211456 := by decide
          omega
        obtain ⟨h', lo', x1, x2, x3, hs⟩ := from_step h lo c hh
        have HVN := Lib.hid (hs.v.trans hvt.symm)
        obtain ⟨e1, e2, e3, e4, e5, e6, -⟩ := hs
        have m1 : (i : Int) < (l.length : Int) := by omega
        have hne : ¬ b = w.heap.size + 1 := by omega
        have r1 : wr.cell? ⟨w.heap.size + 1, 1, none⟩ = some (.int .u64 (h.toNat : Int)) := by rw [blk_cell HR2.out]; rfl
        have r2 : wr.cell? ⟨w.heap.size + 1, 2, none⟩ = some (.int .u64 (lo.toNat : Int)) := by rw [blk_cell HR2.out]; rfl
        have f1 : wr.frozen? ⟨w.heap.size + 1, 1, none⟩ = false := by rw [blk_frozen HR2.out]; rfl
        have f2 : wr.frozen? ⟨w.heap.size + 1, 2, none⟩ = false := by rw [blk_frozen HR2.out]; rfl
        clear hcs hci hc hvt hlt2 hle hh
        go_wp2_with fail
        go_region
        have G2 := Lib.hid (show ((wr.setCell ⟨w.heap.size + 1, 1, none⟩ (.int .u64 (h'.toNat : Int))).setCell ⟨w.heap.size + 1, 2, none⟩ (.int .u64 (lo'.toNat : Int))).heap[w.heap.size + 1]? = some (.cells #[.int .u8 (fam.toNat : Int), .int .u64 (h'.toNat : Int), .int .u64 (lo'.toNat : Int)] 34 (0, 0)) from by have := blk_set (blk_set HR2.out 1 (.int .u64 (h'.toNat : Int))) 2 (.int .u64 (lo'.toNat : Int)); simpa using this)
        have G1 := Lib.hid (show ((wr.setCell ⟨w.heap.size + 1, 1, none⟩ (.int .u64 (h'.toNat : Int))).setCell ⟨w.heap.size + 1, 2, none⟩ (.int .u64 (lo'.toNat : Int))).heap[w.heap.size]? = _ from (blk_set_other (by simp)).trans ((blk_set_other (by simp)).trans HR1.out))
        have GB := Lib.hid ((HBE.out.setCell (p := ⟨w.heap.size + 1, 1, none⟩) (by simp) (.int .u64 (h'.toNat : Int))).setCell (p := ⟨w.heap.size + 1, 2, none⟩) (by simp) (.int .u64 (lo'.toNat : Int)))
        clear e1 e2 e3 e4 e5 e6 r1 r2 f1 f2 q0 hne
        go_wp2_with fail
        go_roundw
        case rel => exact ⟨i + 1, hlt, by go_num, GB.out.drew, G1.out, h', lo', G2.out, HVN.out⟩
        case measure => simp [intOf]; omega
      · obtain rfl : i = l.length := by omega
        have HN := Lib.hid (HF.out h lo (by have := HVL.out; rwa [List.take_length] at this))
        have r0 : wr.cell? ⟨w.heap.size + 1, 0, none⟩ = some (.int .u8 (fam.toNat : Int)) := by rw [blk_cell HR2.out]; rfl
        have r1 : wr.cell? ⟨w.heap.size + 1, 1, none⟩ = some (.int .u64 (h.toNat : Int)) := by rw [blk_cell HR2.out]; rfl
        have r2 : wr.cell? ⟨w.heap.size + 1, 2, none⟩ = some (.int .u64 (lo.toNat : Int)) := by rw [blk_cell HR2.out]; rfl
        have s0 : wr.cell? ⟨w.heap.size, 0, none⟩ = some (.int .u8 0) := by rw [blk_cell HR1.out]; rfl
        have s1 : wr.cell? ⟨w.heap.size, 1, none⟩ = some (.int .u64 0) := by rw [blk_cell HR1.out]; rfl
        have s2 : wr.cell? ⟨w.heap.size, 2, none⟩ = some (.int .u64 0) := by rw [blk_cell HR1.out]; rfl
        have f0 : wr.frozen? ⟨w.heap.size, 0, none⟩ = false := by rw [blk_frozen HR1.out]; rfl
        have f1 : wr.frozen? ⟨w.heap.size, 1, none⟩ = false := by rw [blk_frozen HR1.out]; rfl
        have f2 : wr.frozen? ⟨w.heap.size, 2, none⟩ = false := by rw [blk_frozen HR1.out]; rfl
        go_wp2_with fail
        refine bodyPost_ret (v := .tuple #[encA (fam, h, lo), .bool true]) (by simp [results, Try.results75, go_sem, s0, s1, s2]) rfl ⟨by rw [HN.out], ?_⟩
        exact ((HBE.out.setCell (p := ⟨w.heap.size, 0, none⟩) (Nat.le_refl _) _).setCell (p := ⟨w.heap.size, 1, none⟩) (Nat.le_refl _) _).setCell (p := ⟨w.heap.size, 2, none⟩) (Nat.le_refl _) _
end Go.Proofs.Try.Pfx
