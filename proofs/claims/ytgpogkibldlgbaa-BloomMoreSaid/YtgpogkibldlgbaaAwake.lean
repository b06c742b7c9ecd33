/- awake is true; Great tells when keys are many or long. -/
import Derived.Test.YtgpogkibldlgbaaMake
namespace Go.Proofs.Try
open Go.RowKit Go.Cph

def kA : ByteArray := ⟨#[97]⟩
def kB : ByteArray := ⟨#[98]⟩
def k0 : ByteArray := ⟨#[0, 0, 0, 0, 0, 0, 0, 0]⟩
def kF : ByteArray := ⟨#[255]⟩
def fAB : ByteArray := ⟨(makeL [kA, kB]).toArray⟩
theorem c_hash : hashI kA.data.toList = 12638187200555641996 := by decide +kernel
theorem c_size : fAB.size = 8 := by decide +kernel
theorem c_a : mayB fAB kA = true := by decide +kernel
theorem c_b : mayB fAB kB = true := by decide +kernel
theorem c_0 : mayB k0 kA = false := by decide +kernel
theorem c_f : mayB kF kA = true := by decide +kernel

theorem strs_two (w : World) (a b : ByteArray) (t : TypeId) : StrsAt (w.alloc (.cells #[.string a, .string b] t)) (.slice (some ⟨w.heap.size, 0, none⟩) 2 2) [a, b] := by
  refine ⟨_, _, rfl, fun _ => ⟨_, _, rfl, fun j hj => ?_⟩⟩
  rw [blk_cell (heap_alloc_new w _), Nat.zero_add]
  simp at hj
  rcases (show j = 0 ∨ j = 1 by omega) with rfl | rfl <;> rfl

set_option maxHeartbeats 1000000 in
theorem awake (w : World) : Calls Try.prog 12 #[] w fun e w' => e = .returned (.bool true) ∧ Below w.heap.size w w' := by
  have hs : (fAB.size : Int) = 8 := by rw [c_size]; rfl
  go_enter Try.func12, Try.ntmps12
  go_wp2_with fail
  refine (bmake _ [kA, kB] _ (strs_two w kA kB _) (by simp) (by simp [kA, kB, maxLen]; decide)).mono ?_
  rintro e w1 ⟨rfl, hb1⟩
  rw [show (⟨(makeL [kA, kB]).toArray⟩ : ByteArray) = fAB from rfl]
  have hB : Below w.heap.size w w1 := below_step ((Below.refl _ _).alloc (Nat.le_refl _) _) hb1 (by simp)
  clear hb1
  have hsz := hB.size
  go_wp2_with fail
  refine (bhash kA _ (by decide)).mono ?_
  rw [c_hash]
  rintro e w2 ⟨rfl, hb⟩
  replace hB := below_step hB hb hsz
  replace hsz := hB.size
  clear hb
  go_wp2_with fail
  refine (bmay fAB kA _ (by rw [c_size]; decide) (by decide)).mono ?_
  rw [c_a]
  rintro e w3 ⟨rfl, hb⟩
  replace hB := below_step hB hb hsz
  replace hsz := hB.size
  clear hb
  go_wp2_with fail
  refine (bmay fAB kB _ (by rw [c_size]; decide) (by decide)).mono ?_
  rw [c_b]
  rintro e w4 ⟨rfl, hb⟩
  replace hB := below_step hB hb hsz
  replace hsz := hB.size
  clear hb
  go_wp2_with fail
  refine (bmay k0 kA _ (by decide) (by decide)).mono ?_
  rw [c_0]
  rintro e w5 ⟨rfl, hb⟩
  replace hB := below_step hB hb hsz
  replace hsz := hB.size
  clear hb
  go_wp2_with fail
  refine (bmay kF kA _ (by decide) (by decide)).mono ?_
  rw [c_f]
  rintro e w6 ⟨rfl, hb⟩
  replace hB := below_step hB hb hsz
  clear hb
  go_wp2
  go_ret
  exact ⟨rfl, hB⟩

/-- Are keys more than statements go through? -/
def sizeTo (keys : List ByteArray) (k : Nat) : Nat := ((keys.take k).map (·.size)).foldl (· + ·) 0
def greatB (keys : List ByteArray) : Bool := decide (200 < keys.length) || keys.any (fun s => decide (8000 < s.size)) || decide (8000 < sizeTo keys keys.length)
theorem sizeTo_succ (keys : List ByteArray) (k : Nat) (hk : k < keys.length) : sizeTo keys (k + 1) = sizeTo keys k + keys[k].size := by
  unfold sizeTo
  rw [List.take_succ_eq_append_getElem hk, List.map_append, List.foldl_append]
  rfl
theorem great_no {keys : List ByteArray} (h : greatB keys = false) : keys.length ≤ 200 ∧ ∀ s ∈ keys, s.size ≤ 8000 := by
  simp only [greatB, Bool.or_eq_false_iff, decide_eq_false_iff_not, List.any_eq_false, decide_eq_true_eq] at h
  exact ⟨by omega, fun s hs => by have := h.1.2 s hs; omega⟩

set_option maxHeartbeats 1000000 in
theorem great (v : Value) (keys : List ByteArray) (w : World) (hv : StrsAt w v keys) (hn : keys.length ≤ maxLen) (hs : ∀ s ∈ keys, s.size ≤ maxLen) :
    Calls Try.prog 13 #[v] w fun e w' => e = .returned (.bool (greatB keys)) ∧ w = w' := by
  obtain ⟨ao, cap, rfl, hv⟩ := hv
  unfold maxLen at hn
  have HV := Lib.hid hv
  have HS := Lib.hid hs
  clear hv hs
  by_cases h200 : 200 < keys.length
  · have HG := Lib.hid (show greatB keys = true by simp [greatB, h200])
    go_enter Try.func13, Try.ntmps13
    go_wp2
    go_ret
    exact ⟨ret_bool HG.out.symm, rfl⟩
  · go_enter Try.func13, Try.ntmps13
    go_wp2
    go_loop [3, 4] (fun n i => ∃ k : Nat, k ≤ keys.length ∧ i = .int .i64 k ∧ n = .int .i64 (sizeTo keys k : Nat) ∧ sizeTo keys k ≤ 8000 * k ∧ Hid (∀ j (h : j < keys.length), j < k → keys[j].size ≤ 8000))
      (fun _ i => keys.length - (intOf i).toNat)
    case atStart => exact ⟨0, by omega, rfl, rfl, by simp [sizeTo], fun j _ h => by omega⟩
    case round =>
      obtain ⟨k, hk, rfl, rfl, hsum, hbef⟩ := hrel
      by_cases hlt : k < keys.length
      · obtain ⟨b, off, rfl, hc⟩ := HV.out (by omega)
        have hc' := hc k hlt
        have hkey := HS.out keys[k] (List.getElem_mem _)
        unfold maxLen at hkey
        have HT := Lib.hid (sizeTo_succ keys k hlt)
        clear hc
        obtain ⟨key, hkk⟩ : ∃ key, key = keys[k] := ⟨_, rfl⟩
        rw [← hkk] at hc' hkey
        have HK := Lib.hid hkk
        clear hkk
        generalize hq : sizeTo keys k = q at *
        have HQ := Lib.hid hq
        clear hq
        by_cases hbig : 8000 < key.size
        · have HG := Lib.hid (show greatB keys = true by
            simp only [greatB, Bool.or_eq_true, List.any_eq_true, decide_eq_true_eq]
            exact .inl (.inr ⟨keys[k], List.getElem_mem _, by rw [← HK.out]; exact hbig⟩))
          go_wp2
          go_ret
          exact ⟨ret_bool HG.out.symm, rfl⟩
        · go_wp2
          go_round
          case rel => exact ⟨k + 1, by omega, by go_num, by rw [HT.out, ← HK.out]; go_num, by rw [HT.out, ← HK.out]; omega, fun j h hj => by
            by_cases hjk : j = k
            · subst hjk; rw [← HK.out]; omega
            · exact hbef.out j h (by omega)⟩
          case measure => simp [intOf]; omega
      · have HG := Lib.hid (show greatB keys = decide (8000 < sizeTo keys k) by
          have h1 : keys.any (fun s => decide (8000 < s.size)) = false := by
            simp only [List.any_eq_false, decide_eq_true_eq]
            intro s hs
            obtain ⟨j, hj, rfl⟩ := List.getElem_of_mem hs
            have := hbef.out j hj (by omega)
            omega
          have hkk : k = keys.length := by omega
          simp [greatB, h200, h1, hkk])
        generalize sizeTo keys k = q at *
        by_cases hq : 8000 < q
        · go_wp2
          go_ret
          exact ⟨ret_bool (by rw [HG.out]; simp; omega), rfl⟩
        · go_wp2
          go_ret
          exact ⟨ret_bool (by rw [HG.out]; simp; omega), rfl⟩
end Go.Proofs.Try
