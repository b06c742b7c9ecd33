/- A skip list: ahead, seek, has, and what stands on them. -/
import Derived.Test.YtkikjbcmdlghnaaDoorKb
import Derived.Test.YtkikjbcmdlghnaaDoorSkO
open Go.RowKit Go.Cph Go.Cph.Skip Go.Cph.Skm
set_option linter.unusedVariables false
set_option linter.unusedSimpArgs false
namespace Go.Proofs.Tryd.Skm

theorem next {p : Nat} {nx : Nat → Nat → Nat} {nodes : List (Nd Et)} {v : Value} (n l : Nat) (w : World) (h : IsAt w p nx nodes v) (hon : On nodes l n) (hl : l < 12) :
    Calls Tryd.prog 40 #[ptr p, .int .i64 n, .int .i64 l] w fun e w' => e = .returned (.int .i64 (nx n l)) ∧ w = w' := by
  rcases hon with rfl | ⟨i, hi, rfl, hli⟩
  · exact next0 l w h hl
  · exact next1 i l w h hi hli

/-- Twelve numbers in a row. -/
def lastCells (f : Nat → Nat) : Array Value := ((List.range 12).map fun l => Value.int .i64 (f l)).toArray
theorem lastCells_size (f : Nat → Nat) : (lastCells f).size = 12 := by simp [lastCells]
theorem lastCells_at (f : Nat → Nat) (l : Nat) (h : l < 12) : (lastCells f)[l]? = some (.int .i64 (f l)) := by simp [lastCells, h]
theorem lastCells_set (f : Nat → Nat) (l to : Nat) (h : l < 12) : (lastCells f).setIfInBounds l (.int .i64 to) = lastCells (fun k => if k = l then to else f k) := by
  apply Array.ext'
  simp only [lastCells, List.setIfInBounds_toArray]
  apply List.ext_getElem?
  intro i
  rw [List.getElem?_set]
  by_cases hil : l = i
  · subst hil; simp [h]
  · rw [if_neg hil]
    by_cases hi : i < 12
    · simp [hi, Ne.symm hil]
    · simp [hi]
theorem lastCells_zero : lastCells (fun _ => 0) = #[.int .i64 0, .int .i64 0, .int .i64 0, .int .i64 0, .int .i64 0, .int .i64 0, .int .i64 0, .int .i64 0, .int .i64 0, .int .i64 0, .int .i64 0, .int .i64 0] := by
  simp [lastCells, List.range_succ]

set_option maxHeartbeats 1000000 in
theorem ahead {p : Nat} {nx : Nat → Nat → Nat} {nodes : List (Nd Et)} {v : Value} (key : ByteArray) (w : World) (h : IsAt w p nx nodes v) (hln : Linked nodes nx) :
    Calls Tryd.prog 39 #[ptr p, .string key] w fun e w' => (∃ last, e = .returned (.agg (lastCells last)) ∧ ∀ l, l < 12 → Prv nodes l key (last l)) ∧ Below w.heap.size w w' := by
  have H := Lib.hid h
  have HL := Lib.hid hln
  have hm := h.len
  unfold maxLen at hm
  clear h hln
  go_enter Tryd.func39, Tryd.ntmps39
  go_wp2_with fail
  go_loopw [5, 6] (fun a i wr => ∃ (k n : Nat) (f : Nat → Nat), k ≤ 12 ∧ i = .int .i64 ((k : Int) - 1) ∧ a = .int .i64 n ∧ wr.heap[w.heap.size]? = some (.cells (lastCells f) 65 (0, 0)) ∧ Below w.heap.size w wr ∧
      On nodes (k - 1) n ∧ under (keyNo nodes n) key = true ∧ ∀ l, k ≤ l → l < 12 → Prv nodes l key (f l))
    (fun _ i _ => ((intOf i) + 1).toNat)
  case atStart => exact ⟨12, 0, fun _ => 0, by omega, rfl, rfl, by rw [lastCells_zero]; exact heap_alloc_new _ _, (Below.refl _ _).alloc (Nat.le_refl _) _, .inl rfl, rfl, fun l h1 h2 => by omega⟩
  case round =>
    obtain ⟨k, n, f, hk, rfl, rfl, hblk, hbel, hon, hun, hpr⟩ := hrel
    cases k with
    | zero =>
      have HB := Lib.hid hblk
      have HP := Lib.hid hpr
      clear hblk hpr
      go_wp2_with (first | (refine wpList_load_row rfl 65 (.tmp 4) rfl w.heap.size rfl 65 (lastCells f) (0, 0) _ HB.out Tryd.underlying65 rfl (by rw [lastCells_size]; kernel_rfl) ?_) | (refine wpList_store_row rfl 65 (.tmp 4) (.tmp 35) rfl w.heap.size (lastCells f) rfl rfl 65 (lastCells f) HB.out (by rw [lastCells_size]; kernel_rfl) (by rw [lastCells_size]) (by simp [lastCells, Value.oneCell']) ?_))
      refine bodyPost_ret (v := .agg (lastCells f)) (results_cell_row Tryd.results39 _ _ w.heap.size 65 (lastCells f) (0, 0) _ rfl (setRow_heap _ _ _ _ _ _ HB.out) Tryd.underlying65 rfl (by rw [lastCells_size]; kernel_rfl)) rfl ⟨⟨f, rfl, fun l hl => HP.out l (by omega) hl⟩, below_row hbel (Nat.le_refl _) _⟩
    | succ l =>
      rw [show (((l + 1 : Nat) : Int) - 1) = (l : Int) by omega]
      have HW := Lib.hid (H.out.kept hbel)
      have HB := Lib.hid hblk
      have HP := Lib.hid hpr
      clear hblk hpr
      go_wp2_with fail
      obtain ⟨wo, rfl⟩ : ∃ wo : World, wo = wr := ⟨_, rfl⟩
      go_loop [5] (fun a => ∃ m : Nat, a = .int .i64 m ∧ On nodes l m ∧ under (keyNo nodes m) key = true) (fun a => Skip.left nodes (intOf a).toNat)
      case atStart => exact ⟨n, rfl, hon, hun⟩
      case round =>
        obtain ⟨m, rfl, hom, hum⟩ := hrel
        have hnx := HL.out.links l m (by omega) hom
        have hcall := next m l wo HW.out hom (by omega)
        have HN := Lib.hid hnx
        have HO := Lib.hid hom
        have HU := Lib.hid hum
        clear hnx hom hum
        have hst : ∀ (hstop : nx m l = 0 ∨ ∃ i, ∃ h : i < nodes.length, nx m l = i + 1 ∧ klt nodes[i].key key = false), True := fun _ => trivial
        have hc : wo.cell? ⟨w.heap.size, l, none⟩ = some (.int .i64 (f l)) := by rw [blk_cell HB.out]; exact lastCells_at f l (by omega)
        have hz : wo.frozen? ⟨w.heap.size, l, none⟩ = false := by rw [blk_frozen HB.out]; simp
        have hfin : (∀ (hp : Prv nodes l key m), True) := fun _ => trivial
        rcases hnx' : nx m l with _ | i
        · rw [hnx'] at hcall
          have HNX := Lib.hid hnx'
          clear hnx' hfin hst
          go_wp2_with (go_at_call 40; refine hcall.mono ?_; rintro e w1 ⟨rfl, rfl⟩)
          go_roundw
          case rel =>
            refine ⟨l, m, fun k => if k = l then m else f k, by omega, by go_num, rfl, ?_, hbel.setCell (Nat.le_refl _) _, ?_, HU.out, ?_⟩
            · rw [← lastCells_set f l m (by omega)]; exact blk_set HB.out _ _
            · cases l with
              | zero => exact HO.out
              | succ l => exact HO.out.down
            · intro l' h1 h2
              by_cases he : l' = l
              · subst he
                simp only [if_pos]
                exact prev_of_next HO.out HU.out HN.out (.inl HNX.out)
              · simp only [if_neg he]
                exact HP.out l' (by omega) h2
          case measure => simp [intOf]
        · rw [hnx'] at hcall
          have hon' := HN.out.on
          rw [hnx'] at hon'
          obtain ⟨i', hi, he, hli⟩ := hon'.resolve_left (by omega)
          obtain rfl : i = i' := by omega
          have hcr := HW.out.rowCell
          obtain ⟨g, cap, hv, hcap⟩ := HW.out.shape (by omega)
          rw [hv] at hcr
          have hck : wo.cell? ⟨g, i * 6, none⟩ = some (.string nodes[i].key) := by have := HW.out; rw [hv] at this; exact this.nodeCell i hi 0 (by omega)
          have e2 : wrap64 (i : Int) = i := by unfold wrap64; omega
          have HNX := Lib.hid hnx'
          have HI := Lib.hid hli
          have HE := Lib.hid hon'
          clear hnx' hfin hst hv he hli hon'
          by_cases hk : klt nodes[i].key key = true
          · have hkk : Op.bytesLess nodes[i].key.toList key.toList = true := hk
            have HK := Lib.hid hk
            obtain ⟨kk, hkn⟩ : ∃ kk, kk = nodes[i].key := ⟨_, rfl⟩
            rw [← hkn] at hck hkk
            have HKN := Lib.hid hkn
            clear hkn hk
            go_wp2_with (go_at_call 40; refine hcall.mono ?_; rintro e w1 ⟨rfl, rfl⟩)
            go_round
            case rel =>
              refine ⟨i + 1, rfl, HE.out, ?_⟩
              rw [keyNo_succ nodes i hi]
              exact HK.out
            case measure =>
              simp only [intOf, Int.toNat_natCast]
              have := left_lt HN.out (by rw [HNX.out]; omega)
              rw [HNX.out] at this
              exact this
          · have hk : klt nodes[i].key key = false := by simpa using hk
            have hkk : Op.bytesLess nodes[i].key.toList key.toList = false := hk
            have HK := Lib.hid (prev_of_next HO.out HU.out HN.out (.inr ⟨i, hi, HNX.out, hk⟩))
            obtain ⟨kk, hkn⟩ : ∃ kk, kk = nodes[i].key := ⟨_, rfl⟩
            rw [← hkn] at hck hkk
            clear hkn hk
            go_wp2_with (go_at_call 40; refine hcall.mono ?_; rintro e w1 ⟨rfl, rfl⟩)
            go_roundw
            case rel =>
              refine ⟨l, m, fun k => if k = l then m else f k, by omega, by go_num, rfl, ?_, hbel.setCell (Nat.le_refl _) _, ?_, HU.out, ?_⟩
              · rw [← lastCells_set f l m (by omega)]; exact blk_set HB.out _ _
              · cases l with
                | zero => exact HO.out
                | succ l => exact HO.out.down
              · intro l' h1 h2
                by_cases he : l' = l
                · subst he
                  simp only [if_pos]
                  exact HK.out
                · simp only [if_neg he]
                  exact HP.out l' (by omega) h2
            case measure => simp [intOf]
end Go.Proofs.Tryd.Skm
