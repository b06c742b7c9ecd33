/- BloomKnown: the chapter's examples. -/
import Derived.Test.YtgpogkibldlgbaaPlain
import Derived.Test.YtgpogkibldlgbaaLaws
namespace Go.Proofs.Try
open Go.RowKit Go.Cph

theorem info9 : (Try.prog.info? 9).map (fun i => (i.zero, i.size, i.bytes)) = some (some (.string ⟨#[]⟩), 1, 16) := by kernel_rfl
theorem k_hash : hashI (⟨#[]⟩ : ByteArray).data.toList = 14695981039346656037 := by decide +kernel
theorem k_none : (⟨(makeL []).toArray⟩ : ByteArray) = k0 := by
  have : makeL [] = [0, 0, 0, 0, 0, 0, 0, 0] := by decide +kernel
  rw [this]; rfl
theorem k_may : mayB ⟨#[]⟩ kA = false := by decide +kernel
theorem k_size (n : Nat) : ((⟨(makeL (List.replicate n (⟨#[]⟩ : ByteArray))).toArray⟩ : ByteArray).size : Int) = (sizeF n : Nat) := by
  rw [size_mk, makeL_length, List.length_replicate]
theorem strs_empty (w : World) (n m cap : Nat) (hnm : n ≤ m) (t : TypeId) : StrsAt (w.alloc (.cells (List.replicate m (.string ⟨#[]⟩)).toArray t)) (.slice (some ⟨w.heap.size, 0, none⟩) n cap) (List.replicate n ⟨#[]⟩) := by
  refine ⟨_, cap, by rw [List.length_replicate], fun _ => ⟨_, _, rfl, fun j hj => ?_⟩⟩
  have hj' : j < m := by rw [List.length_replicate] at hj; omega
  rw [blk_cell (heap_alloc_new w _), Nat.zero_add]
  simp [hj']

set_option maxHeartbeats 1000000 in
theorem law_known (w : World) : Calls Try.prog 3 #[] w fun e w' => e = .returned (.bool true) ∧ Below w.heap.size w w' := by
  have hmk : (Instr.makeSlice 22 (.int .i64 100) (.int .i64 100)).run Try.prog w = _ := run_make_one w 22 9 _ 16 Try.underlying22 info9 rfl .i64 .i64 100 (by omega) (by omega)
  have hall := strs_empty w
  obtain ⟨w0, hw0⟩ : ∃ w0 : World, w0 = w.alloc (.cells (List.replicate 100 (.string ⟨#[]⟩)).toArray 9) := ⟨_, rfl⟩
  rw [← hw0] at hmk
  have h6 := Lib.hid (show StrsAt w0 (.slice (some ⟨w.heap.size, 0, none⟩) 6 100) _ by rw [hw0]; exact hall 6 100 100 (by omega) 9)
  have h7 := Lib.hid (show StrsAt w0 (.slice (some ⟨w.heap.size, 0, none⟩) 7 100) _ by rw [hw0]; exact hall 7 100 100 (by omega) 9)
  have h100 := Lib.hid (show StrsAt w0 (.slice (some ⟨w.heap.size, 0, none⟩) 100 100) _ by rw [hw0]; exact hall 100 100 100 (by omega) 9)
  have hB : Below w.heap.size w w0 := by rw [hw0]; exact (Below.refl _ _).alloc (Nat.le_refl _) _
  have hsz := hB.size
  clear hw0 hall
  go_enter Try.func3, Try.ntmps3
  go_wp2_with fail
  refine (bhash ⟨#[]⟩ _ (by decide)).mono ?_
  rw [k_hash]
  rintro e w1 ⟨rfl, hb⟩
  replace hB := below_step hB hb hsz
  replace hsz := hB.size
  replace h6 := Lib.hid (h6.out.kept hb)
  replace h7 := Lib.hid (h7.out.kept hb)
  replace h100 := Lib.hid (h100.out.kept hb)
  clear hb
  go_wp2_with fail
  refine (bmake _ [] _ ⟨none, 0, rfl, fun h => by simp at h⟩ (by simp) (by simp)).mono ?_
  rw [k_none]
  rintro e w2 ⟨rfl, hb⟩
  replace hB := below_step hB hb hsz
  replace hsz := hB.size
  replace h6 := Lib.hid (h6.out.kept hb)
  replace h7 := Lib.hid (h7.out.kept hb)
  replace h100 := Lib.hid (h100.out.kept hb)
  clear hb
  have h0 : k0.toList = [0, 0, 0, 0, 0, 0, 0, 0] := by rw [ByteArray.toList_eq]; rfl
  go_wp2_with fail
  refine (bmay ⟨#[]⟩ kA _ (by decide) (by decide)).mono ?_
  rw [k_may]
  rintro e w3 ⟨rfl, hb⟩
  replace hB := below_step hB hb hsz
  replace hsz := hB.size
  replace h6 := Lib.hid (h6.out.kept hb)
  replace h7 := Lib.hid (h7.out.kept hb)
  replace h100 := Lib.hid (h100.out.kept hb)
  clear hb h0
  go_wp2_with fail
  refine (bmake _ _ _ h6.out (by simp) (by simp; decide)).mono ?_
  have hs6 := k_size 6
  generalize (⟨(makeL (List.replicate 6 (⟨#[]⟩ : ByteArray))).toArray⟩ : ByteArray) = f6 at *
  rintro e w4 ⟨rfl, hb⟩
  replace hB := below_step hB hb hsz
  replace hsz := hB.size
  replace h7 := Lib.hid (h7.out.kept hb)
  replace h100 := Lib.hid (h100.out.kept hb)
  clear hb h6
  replace hs6 : (f6.size : Int) = 8 := hs6
  go_wp2_with fail
  refine (bmake _ _ _ h7.out (by simp) (by simp; decide)).mono ?_
  have hs7 := k_size 7
  generalize (⟨(makeL (List.replicate 7 (⟨#[]⟩ : ByteArray))).toArray⟩ : ByteArray) = f7 at *
  rintro e w5 ⟨rfl, hb⟩
  replace hB := below_step hB hb hsz
  replace hsz := hB.size
  replace h100 := Lib.hid (h100.out.kept hb)
  clear hb h7
  replace hs7 : (f7.size : Int) = 9 := hs7
  go_wp2_with fail
  refine (bmake _ _ _ h100.out (by simp) (by simp; decide)).mono ?_
  have hs100 := k_size 100
  generalize (⟨(makeL (List.replicate 100 (⟨#[]⟩ : ByteArray))).toArray⟩ : ByteArray) = f100 at *
  rintro e w6 ⟨rfl, hb⟩
  replace hB := below_step hB hb hsz
  replace hsz := hB.size
  clear hb h100
  replace hs100 : (f100.size : Int) = 125 := hs100
  go_wp2_with fail
  refine (awake _).mono ?_
  rintro e w7 ⟨rfl, hb⟩
  replace hB := below_step hB hb hsz
  clear hb
  go_wp2
  go_ret
  exact ⟨rfl, hB⟩
end Go.Proofs.Try
