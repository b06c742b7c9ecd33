/- The document's rows: the address that a key's parts say. -/
import Derived.Test.YtmjjhnfdpiclfaaGreatDoorMV
set_option linter.unusedVariables false
set_option linter.unusedSimpArgs false
set_option maxRecDepth 100000
namespace Go.Proofs.Tryz.Rows
open Go.RowKit Go.Cph Go.Cph.Ok Go.Proofs.Tryz.Nu
open Go.Cph.Px (Ad Pf rightA bytesA rightP fromB fromOk)
open Go.Proofs.Tryz.Pfx (encA bcell BsAt)
abbrev boxZR : Obj := .cells #[.int .u8 0, .int .u64 0, .int .u64 0] 30 (0, 0)
set_option maxHeartbeats 800000 in
theorem rfrom_no (f : UInt8) (v : Value) (l : List UInt8) (w : World) (h : BsAt w v l) (hf : f = 4 ∨ f = 6) (hl : fromOk f l.length = false) :
    Calls Tryz.prog 62 #[.int .u8 (f.toNat : Int), v] w fun e w' => e = .returned (.tuple #[.agg #[.int .u8 0, .int .u64 0, .int .u64 0], .bool false]) ∧ Below w.heap.size w w' := by
  obtain ⟨ao, cap, rfl⟩ := elems_slice h
  obtain ⟨n, hn⟩ : ∃ n, n = l.length := ⟨_, rfl⟩
  rw [← hn] at hl ⊢
  have HB := Lib.hid (show Below w.heap.size w (w.alloc boxZR) from (Below.refl _ _).alloc (Nat.le_refl _) _)
  have hx := heap_alloc_new w boxZR
  have f0 : (w.alloc boxZR).frozen? ⟨w.heap.size, 0, none⟩ = false := by rw [blk_frozen hx]; rfl
  have f1 : (w.alloc boxZR).frozen? ⟨w.heap.size, 1, none⟩ = false := by rw [blk_frozen hx]; rfl
  have f2 : (w.alloc boxZR).frozen? ⟨w.heap.size, 2, none⟩ = false := by rw [blk_frozen hx]; rfl
  have c0 : (w.alloc boxZR).cell? ⟨w.heap.size, 0, none⟩ = some (.int .u8 0) := by rw [blk_cell hx]; rfl
  have c1 : (w.alloc boxZR).cell? ⟨w.heap.size, 1, none⟩ = some (.int .u64 0) := by rw [blk_cell hx]; rfl
  have c2 : (w.alloc boxZR).cell? ⟨w.heap.size, 2, none⟩ = some (.int .u64 0) := by rw [blk_cell hx]; rfl
  clear h hn hx
  rcases hf with rfl | rfl
  · have k : ((n : Int) == 4) = false := by
      refine beq_eq_false_iff_ne.2 fun e => ?_
      have : n = 4 := by omega
      subst this; exact absurd hl (by decide)
    clear hl
    go_enter Tryz.func62, Tryz.ntmps62
    go_wp2_with fail
    exact bodyPost_ret (v := .tuple #[.agg #[.int .u8 0, .int .u64 0, .int .u64 0], .bool false]) (by simp [results, Tryz.results62, go_sem, c0, c1, c2]) rfl ⟨rfl, by first | exact HB.out | exact below_set3 HB.out _ _ _⟩
  · have k : ((n : Int) == 16) = false := by
      refine beq_eq_false_iff_ne.2 fun e => ?_
      have : n = 16 := by omega
      subst this; exact absurd hl (by decide)
    clear hl
    go_enter Tryz.func62, Tryz.ntmps62
    go_wp2_with fail
    exact bodyPost_ret (v := .tuple #[.agg #[.int .u8 0, .int .u64 0, .int .u64 0], .bool false]) (by simp [results, Tryz.results62, go_sem, c0, c1, c2]) rfl ⟨rfl, by first | exact HB.out | exact below_set3 HB.out _ _ _⟩
theorem rfrom (f : UInt8) (v : Value) (l : List UInt8) (w : World) (h : BsAt w v l) (hf : f = 4 ∨ f = 6) :
    Calls Tryz.prog 62 #[.int .u8 (f.toNat : Int), v] w fun e w' => e = .returned (.tuple #[encA (fromB f l), .bool (fromOk f l.length)]) ∧ Below w.heap.size w w' := by
  cases hk : fromOk f l.length with
  | true => exact Pfx.from_ok f v l w h hk
  | false =>
    have e : fromB f l = Px.zeroA := by unfold fromB; rw [hk]; rfl
    rw [e]
    exact rfrom_no f v l w h hf hk
/-- '[]byte(s)' handed to FromBytes. -/
theorem rfrom_str (f : UInt8) (s : ByteArray) (hf : f = 4 ∨ f = 6) (w : World) : ∃ cap w1, (convert 9 63 (.string s)).run Tryz.prog w = .ok (.slice (some ⟨w.heap.size, 0, none⟩) s.size cap) w1 ∧ Below w.heap.size w w1 ∧
    Calls Tryz.prog 62 #[.int .u8 (f.toNat : Int), .slice (some ⟨w.heap.size, 0, none⟩) s.size cap] w1 fun e w' => e = .returned (.tuple #[encA (fromB f s.data.toList), .bool (fromOk f s.size)]) ∧ Below w1.heap.size w1 w' := by
  obtain ⟨cap, cur, w1, hconv, hcap, hcs, hblk, hcur, hb, hsz⟩ := conv_bytes (P := Tryz.prog) w 9 63 5 s Tryz.underlying9 Tryz.underlying63 Tryz.underlying5
  refine ⟨cap, w1, hconv, hb, rfrom f _ s.data.toList w1 ?_ hf⟩
  refine ⟨⟨_, _, rfl, fun h0 => ⟨w.heap.size, 0, rfl, fun j hj => ?_⟩⟩, by rw [flat_length Pfx.encB_len]⟩
  have hj' : j < s.data.toList.length := by omega
  have hj2 : j < s.size := hj'
  rw [Nat.zero_add, blk_cell hblk, hcur j hj2]
  have := flat_at Pfx.encB_len s.data.toList j hj' 0 (by decide)
  rw [Nat.mul_one, Nat.add_zero] at this
  rw [this]; rfl
theorem rfrom_str4 (s : ByteArray) (w : World) : ∃ cap w1, (convert 9 63 (.string s)).run Tryz.prog w = .ok (.slice (some ⟨w.heap.size, 0, none⟩) s.size cap) w1 ∧ Below w.heap.size w w1 ∧
    Calls Tryz.prog 62 #[.int .u8 4, .slice (some ⟨w.heap.size, 0, none⟩) s.size cap] w1 fun e w' => e = .returned (.tuple #[encA (fromB 4 s.data.toList), .bool (fromOk 4 s.size)]) ∧ Below w1.heap.size w1 w' := rfrom_str 4 s (by decide) w
theorem rfrom_str6 (s : ByteArray) (w : World) : ∃ cap w1, (convert 9 63 (.string s)).run Tryz.prog w = .ok (.slice (some ⟨w.heap.size, 0, none⟩) s.size cap) w1 ∧ Below w.heap.size w w1 ∧
    Calls Tryz.prog 62 #[.int .u8 6, .slice (some ⟨w.heap.size, 0, none⟩) s.size cap] w1 fun e w' => e = .returned (.tuple #[encA (fromB 6 s.data.toList), .bool (fromOk 6 s.size)]) ∧ Below w1.heap.size w1 w' := rfrom_str 6 s (by decide) w
end Go.Proofs.Tryz.Rows
