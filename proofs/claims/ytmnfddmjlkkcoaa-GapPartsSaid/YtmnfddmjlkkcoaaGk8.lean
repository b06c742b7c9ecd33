/- Rows of addresses: how they lie in memory. -/
import Derived.Test.YtmnfddmjlkkcoaaGw3
import Derived.Laws.OwnMore
set_option linter.unusedVariables false
set_option linter.unusedSimpArgs false
namespace Go.Proofs.Try.Gp
open Go.RowKit Go.Cph Go.Cph.Px Go.Cph.Gp Go.Cph.So
open Pfx (encA)

abbrev TAd : TypeId := 25
abbrev TAs : TypeId := 55
abbrev encD (a : Ad) : List Value := [.int .u8 (a.1.toNat : Int), .int .u64 (a.2.1.toNat : Int), .int .u64 (a.2.2.toNat : Int)]
theorem encD_len (a : Ad) : (encD a).length = 3 := rfl
theorem encD_one {l : List Ad} : ∀ u ∈ l.flatMap encD, u.oneCell' = true := by
  intro u hu
  rw [List.mem_flatMap] at hu
  obtain ⟨p, _, hu⟩ := hu
  simp only [encD, List.mem_cons, List.not_mem_nil, or_false] at hu
  rcases hu with rfl | rfl | rfl <;> rfl
theorem infoAd : (Try.prog.info? TAd).map (fun i => (i.zero, i.size, i.bytes)) = some (some (.agg #[.int .u8 0, .int .u64 0, .int .u64 0]), 3, 24) := by kernel_rfl
abbrev AdsAt (w : World) (v : Value) (l : List Ad) : Prop := Elems encD 3 w v l
theorem ads_cells {w : World} {v : Value} {l : List Ad} (h : AdsAt w v l) (h0 : 0 < l.length) :
    ∃ b off cap, v = .slice (some ⟨b, off, none⟩) l.length cap ∧ ∀ i (hi : i < l.length), CA w b (off + i * 3) l[i] := by
  obtain ⟨b, off, cap, hv, hc⟩ := elems_shape encD_len h h0
  exact ⟨b, off, cap, hv, fun i hi => ⟨hc i hi 0 (by omega), hc i hi 1 (by omega), hc i hi 2 (by omega)⟩⟩
/-- A row of addresses, laid at once. -/
theorem ads_lit (w : World) (l : List Ad) (base : Nat) (hb : base ≤ w.heap.size) (hl : l.length ≤ 1000) :
    (w.alloc (.cells (l.flatMap encD).toArray TAd)).ownsRow base TAd 3 (.slice (some ⟨w.heap.size, 0, none⟩) l.length l.length) l.length (l.flatMap encD) := by
  have hs : (l.flatMap encD).length = l.length * 3 := flat_length encD_len l
  refine ⟨hs, .inr ⟨w.heap.size, l.length, (l.flatMap encD).toArray, rfl, hb, heap_alloc_new w _, Nat.le_refl _, by unfold maxLen; omega, by simpa using hs, ?_⟩⟩
  rw [← hs]
  show (l.flatMap encD).take (l.flatMap encD).length = _
  exact List.take_length
theorem ads_seg (w : World) (l : List Ad) : AdsAt (w.alloc (.cells (l.flatMap encD).toArray TAd)) (.slice (some ⟨w.heap.size, 0, none⟩) l.length l.length) l := by
  refine ⟨⟨_, _, rfl, fun _ => ⟨w.heap.size, 0, rfl, fun j _ => ?_⟩⟩, flat_length encD_len l⟩
  rw [Nat.zero_add, blk_cell (heap_alloc_new w _)]
  simp
end Go.Proofs.Try.Gp
