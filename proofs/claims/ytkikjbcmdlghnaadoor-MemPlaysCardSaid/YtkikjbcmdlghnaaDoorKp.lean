/- mem.Place: an entry's place. -/
import Derived.Test.YtkikjbcmdlghnaaDoorOm5
import Derived.Test.YtkikjbcmdlghnaaDoorMe1
import Derived.Laws.DeepNot64
import Derived.Deep.RegionHeld3
set_option linter.unusedVariables false
set_option linter.unusedSimpArgs false
set_option maxRecDepth 100000
namespace Go.Proofs.Tryd.Skm
open Go.RowKit Go.Cph Go.Cph.Ok Go.Proofs.Tryd.Ok Go.Proofs.Tryd.Nu
abbrev MaxAt (m : Int) (w : World) : Prop := w.cell? ⟨0, 0, none⟩ = some (.int .i64 m)
theorem max_lt {m : Int} {w : World} (h : MaxAt m w) : 0 < w.heap.size := World.block_lt_of_cell? w ⟨0, 0, none⟩ h
theorem max_kept {m : Int} {B : Nat} {w w' : World} (h : MaxAt m w) (hb : Below B w w') (hB : 0 < B) : MaxAt m w' := (hb.cell (p := ⟨0, 0, none⟩) hB).trans h
theorem u64_not (n : UInt64) : bits .xor .u64 (if IntKind.u64.signed = true then -1 else IntKind.u64.max) (n.toNat : Int) = ((18446744073709551615 - n.toNat : Nat) : Int) := by
  have hn : n.toNat < 18446744073709551616 := n.toNat_lt
  show IntKind.u64.wrap ((BitVec.ofInt 64 (18446744073709551615 : Int) ^^^ BitVec.ofInt 64 (n.toNat : Int)).toNat : Int) = _
  have h1 : BitVec.ofInt 64 (18446744073709551615 : Int) = BitVec.allOnes 64 := by decide
  have h2 : (BitVec.ofInt 64 (n.toNat : Int)).toNat = n.toNat := by
    rw [BitVec.ofInt_natCast, BitVec.toNat_ofNat]; omega
  rw [h1, BitVec.allOnes_xor, BitVec.toNat_not, h2, IntKind.wrap_u64]
  omega
/-- The eight bytes, so many written. -/
def upto (N i : Nat) : Bs := (be 8 N).take i ++ List.replicate (8 - i) 0
theorem upto_len (N i : Nat) (h : i ≤ 8) : (upto N i).length = 8 := by
  unfold upto; rw [List.length_append, List.length_take, be_len, List.length_replicate]; omega
theorem be_at : ∀ (k N i : Nat) (h : i < k), (be k N)[i]'(by rw [be_len]; exact h) = UInt8.ofNat (N / 256 ^ (k - 1 - i))
  | 0, _, _, h => absurd h (by omega)
  | k + 1, N, 0, _ => by simp [be]
  | k + 1, N, i + 1, h => by
    simp only [be, List.getElem_cons_succ]
    rw [be_at k N i (by omega)]
    congr 3; omega
theorem upto_step (N i : Nat) (h : i < 8) : (upto N i).set i (UInt8.ofNat (N / 256 ^ (7 - i))) = upto N (i + 1) := by
  unfold upto
  have hl : ((be 8 N).take i).length = i := by rw [List.length_take, be_len]; omega
  have hb : i < (be 8 N).length := by rw [be_len]; exact h
  rw [List.set_append_right _ _ (by omega), hl, Nat.sub_self, List.take_succ_eq_append_getElem hb, be_at 8 N i h, show 8 - i = (8 - (i + 1)) + 1 by omega, List.replicate_succ, List.set_cons_zero, List.append_assoc]
  rfl
theorem upto_zero (N : Nat) : upto N 0 = [0, 0, 0, 0, 0, 0, 0, 0] := rfl
theorem upto_full (N : Nat) : upto N 8 = be 8 N := by
  unfold upto; rw [List.take_of_length_le (by rw [be_len]; exact Nat.le_refl _)]; simp
theorem bel_drew {w W : World} (h : Below w.heap.size w W) : Below w.heap.size w W.drew := h.drew
theorem bel_alloc {w W : World} (h : Below w.heap.size w W) (o : Obj) : Below w.heap.size w (W.alloc o) := h.alloc h.size o
theorem bel_set {w W : World} (h : Below w.heap.size w W) {p : Addr} (hp : w.heap.size ≤ p.block) (v : Value) : Below w.heap.size w (W.setCell p v) := h.setCell hp v
theorem list_eq {a b : ByteArray} (h : a.data.toList = b.data.toList) : a = b := ByteArray.ext (Array.ext' h)
theorem ba_size (s : ByteArray) : s.size = s.data.toList.length := rfl
theorem pts_one (w : World) (p : Pt) : PtsAt (w.alloc (boxP p)) (.slice (some ⟨w.heap.size, 0, none⟩) 1 1) [p] := by
  have h := box_cells (heap_alloc_new w (boxP p))
  refine ⟨⟨_, _, rfl, fun _ => ⟨w.heap.size, 0, rfl, fun j hj => ?_⟩⟩, rfl⟩
  have h3 : j = 0 ∨ j = 1 ∨ j = 2 := by simp at hj; omega
  rcases h3 with rfl | rfl | rfl
  · exact h.c0
  · exact h.c1
  · exact h.c2
theorem key_one (k : ByteArray) : key [⟨true, k, 0⟩] = Cph.Ok.bytes ⟨true, k, 0⟩ := List.append_nil _
theorem esc_size (k : ByteArray) : (Cph.Ok.bytes ⟨true, k, 0⟩).length ≤ 2 * k.size + 3 := by
  show (2 :: (esc k.data.toList ++ [0, 1])).length ≤ _
  have := (esc_len k.data.toList).2
  rw [List.length_cons, List.length_append, ← ba_size] at *
  simp; omega
set_option maxHeartbeats 3200000 in
theorem place_any (k : ByteArray) (n : UInt64) (m : Int) (w : World) (hk : k.size ≤ 1000000) (hm : MaxAt m w) :
    Calls Tryd.prog 8 #[.string k, .int .u64 (n.toNat : Int)] w fun e w' => e = .returned (.string (ofBs (place k.data.toList n.toNat))) ∧ Below w.heap.size w w' := by
  have hn : n.toNat < 18446744073709551616 := n.toNat_lt
  obtain ⟨N, hN⟩ : ∃ N, N = 18446744073709551615 - n.toNat := ⟨_, rfl⟩
  have hnot := u64_not n
  rw [← hN] at hnot
  have HP := Lib.hid (show place k.data.toList n.toNat = Cph.Ok.bytes ⟨true, k, 0⟩ ++ be 8 N from by unfold place; rw [← hN]; rfl)
  have HNL := Lib.hid (show N < 18446744073709551616 by omega)
  have HK := Lib.hid hk
  have HM := Lib.hid hm
  have HG := Lib.hid (heap_alloc_new w (.cells (bytesV (upto N 0)) 54))
  have HB0 := Lib.hid (show Below w.heap.size w (w.alloc (.cells (bytesV (upto N 0)) 54)) from (Below.refl _ _).alloc (Nat.le_refl _) _)
  clear hn hN hk hm
  go_enter Tryd.func8, Tryd.ntmps8
  go_wp2_with fail
  go_loopw [7] (fun vi W => ∃ i : Nat, i ≤ 8 ∧ vi = .int .i64 i ∧ W.heap[w.heap.size]? = some (.cells (bytesV (upto N i)) 54 (0, 0)) ∧ Below w.heap.size w W) (fun vi _ => 8 - (intOf vi).toNat)
  case atStart => exact ⟨0, by omega, rfl, HG.out, HB0.out⟩
  case round =>
    obtain ⟨i, hi, rfl, hg, hb⟩ := hrel
    have HG := Lib.hid hg
    have HB := Lib.hid hb
    by_cases hlt : i < 8
    · have k1 : (0 : Int) ≤ (i : Int) := by omega
      have k2 : (i : Int) < 8 := by omega
      have e1 : IntKind.i64.wrap (7 - (i : Int)) = ((7 - i : Nat) : Int) := by rw [IntKind.wrap_i64]; omega
      have e2 : IntKind.i64.wrap (8 * ((7 - i : Nat) : Int)) = ((8 * (7 - i) : Nat) : Int) := by rw [IntKind.wrap_i64]; omega
      have f0 : wr.frozen? ⟨w.heap.size, i, none⟩ = false := by rw [blk_frozen hg]; simp
      have c0 : wr.cell? ⟨w.heap.size, i, none⟩ = some (.int .u8 (((upto N i).getD i 0).toNat : Int)) := by rw [blk_cell hg]; exact bytesV_at _ _ (by rw [upto_len N i hi]; exact hlt)
      obtain ⟨old, hold⟩ : ∃ old, old = (upto N i).getD i 0 := ⟨_, rfl⟩
      rw [← hold] at c0
      obtain ⟨c, hc⟩ : ∃ c, c = UInt8.ofNat (N / 256 ^ (7 - i)) := ⟨_, rfl⟩
      have KX := byte_eq N (7 - i)
      rw [← hc] at KX
      have HS := Lib.hid (show (upto N i).set i c = upto N (i + 1) from by rw [hc]; exact upto_step N i hlt)
      clear hg hb hold hc
      go_wp2_with fail
      go_roundw
      case rel =>
        refine ⟨i + 1, by omega, by go_num, ?_, HB.out.setCell (p := ⟨w.heap.size, i, none⟩) (Nat.le_refl _) _⟩
        rw [← HS.out, ← bytesV_set]
        exact blk_set HG.out i _
      case measure => simp [intOf]; omega
    · obtain rfl : i = 8 := by omega
      rw [upto_full] at HG
      have HRUN := Lib.hid (show ∀ W, Below w.heap.size w W → W.heap[w.heap.size]? = some (.cells (bytesV (be 8 N)) 54 (0, 0)) → (convert TB TS (.slice (some ⟨w.heap.size, 0, none⟩) 8 8)).run Tryd.prog W = .ok (.string (ofBs (be 8 N))) W from fun W _ hg => by
        have h8 : (be 8 N).length = 8 := be_len 8 N
        have := run_string_of_bytes W TB TS T8 Tryd.underlying59 Tryd.underlying5 Tryd.underlying9 w.heap.size 8 (be 8 N) (fun j hj => by rw [blk_cell hg]; exact bytesV_at _ j hj)
        rw [h8] at this
        exact this)
      have HC := Lib.hid (show ∀ W, Below wr.heap.size wr W → (convert TB TS (.slice (some ⟨w.heap.size, 0, none⟩) 8 8)).run Tryd.prog W = .ok (.string (ofBs (be 8 N))) W from fun W hW => HRUN.out W (below_step HB.out hW HB.out.size) (blk_kept hW HG.out))
      obtain ⟨A, hA⟩ : ∃ A, A = ofBs (key [⟨true, k, 0⟩]) := ⟨_, rfl⟩
      have hAs : A.size ≤ 3000000 := by rw [hA, ofBs_size, key_one]; have := esc_size k; have := HK.out; omega
      have hAi : (A.size : Int) ≤ 3000000 := by omega
      obtain ⟨E, hE⟩ : ∃ E, E = ofBs (be 8 N) := ⟨_, rfl⟩
      have hEs : E.size = 8 := by rw [hE, ofBs_size, be_len]
      rw [← hE] at HC
      have hEi : (E.size : Int) = 8 := by omega
      have hAE : ¬ 9223372036854775807 < A.size + 8 := by omega
      have HF := Lib.hid (show A ++ E = ofBs (place k.data.toList n.toNat) from list_eq (by rw [cat_list, hA, hE, ofBs_list, ofBs_list, ofBs_list, HP.out, key_one]))
      have HKEY := Lib.hid (show ∀ (W : World), MaxAt m W → Calls Tryd.prog 23 #[.slice (some ⟨W.heap.size, 0, none⟩) 1 1] (W.alloc (boxP ⟨true, k, 0⟩)) fun e w' => e = .returned (.string A) ∧ Below (W.alloc (boxP ⟨true, k, 0⟩)).heap.size (W.alloc (boxP ⟨true, k, 0⟩)) w' from fun W hM => by
        rw [hA]
        exact key_any _ _ m _ (pts_one W _) (by simp) (by rw [key_one]; have := esc_size k; have := HK.out; omega) (max_kept hM ((Below.refl _ _).alloc (Nat.le_refl _) _) (max_lt hM)))
      have HMR := Lib.hid (show ∀ W, Below w.heap.size w W → MaxAt m W from fun W h => max_kept HM.out h (max_lt HM.out))
      have HS0 := Lib.hid (show Below wr.heap.size wr wr from Below.refl _ _)
      clear hg hb hlt hi hA hE
      go_wp2_with fail
      go_region_held3 (fun W => (convert TB TS (.slice (some ⟨w.heap.size, 0, none⟩) 8 8)).run Tryd.prog W = .ok (.string E) W)
        (((refine HC.out _ ?_); (repeat (first | exact HS0.out | exact HS1.out | exact HS2.out | refine bel_drew ?_ | refine bel_alloc ?_ _)); done))
        (first
          | (go_at_call 24; refine (str_any k _).mono ?_; rintro e w1 ⟨rfl, hb1⟩; have HS1 := Lib.hid (show Below wr.heap.size wr w1 from below_step HS0.out.drew hb1 HS0.out.size); clear hb1)
          | (go_at_call 23; refine (HKEY.out _ ?_).mono ?_; (exact HMR.out _ (below_step HB.out HS1.out HB.out.size)); rintro e w2 ⟨rfl, hb2⟩; have HS2 := Lib.hid (show Below wr.heap.size wr w2 from below_step (HS1.out.alloc HS1.out.size _) hb2 (HS1.out.alloc HS1.out.size _).size); clear hb2))
      all_goals
        go_wp2_with fail
        go_ret
        exact ⟨ret_str HF.out, below_step HB.out HS2.out HB.out.size⟩
end Go.Proofs.Tryd.Skm
