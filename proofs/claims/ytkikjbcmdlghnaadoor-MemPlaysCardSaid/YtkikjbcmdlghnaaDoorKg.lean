/- A skip list of entries: New, and Set of a key that is not there. -/
import Derived.Test.YtkikjbcmdlghnaaDoorKd
import Derived.Test.YtkikjbcmdlghnaaDoorKq
import Derived.Deep.RegionHeld3
import Derived.Deep.RegionLaw
import Derived.Deep.AppendLies
import Derived.StillTailTactics
open Go.RowKit Go.Cph Go.Cph.Skip Go.Cph.Skm
set_option linter.unusedVariables false
set_option linter.unusedSimpArgs false
namespace Go.Proofs.Tryd.Skm

def ndBytes : Nat := 88
theorem cNew (w : World) :
    Calls Tryd.prog 25 #[] w fun e w' => e = .returned (ptr w.heap.size) ∧ IsAt w' w.heap.size (fun _ _ => 0) [] (.slice none 0 0) ∧ Below w.heap.size w w' := by
  go_enter Tryd.func25, Tryd.ntmps25
  go_wp2_with fail
  go_ret
  refine ⟨rfl, ⟨?_, World.ownsRow_nil _ _ _ _, fun i hi => absurd hi (by simp), fun i j hi => absurd hi (by simp)⟩, (Below.refl _ _).alloc (Nat.le_refl _) _⟩
  rw [show headCells (fun _ _ => 0) (.slice none 0 0) = #[.int .i64 0, .int .i64 0, .int .i64 0, .int .i64 0, .int .i64 0, .int .i64 0, .int .i64 0, .int .i64 0, .int .i64 0, .int .i64 0, .int .i64 0, .int .i64 0, .slice none 0 0] by simp [headCells, List.range_succ]]
  exact heap_alloc_new _ _
theorem linkedNil : Linked ([] : List (Nd Et)) (fun _ _ => 0) :=
  ⟨fun l n _ _ => .inl ⟨rfl, by simp⟩, by simp, fun i j hi => absurd hi (by simp)⟩

theorem wpList_max {P : Program} {ops : Array Oper} {rest : List Oper} {o : Oper} {a : Act} {w : World} {Q : Exit → Act → World → Prop} (hg : o.guard = none) (s : Operand) (c : Int) (t : TypeId)
    (ho : o.op = .call { callee := .builtin .max, args := #[s, .const (.int .i64 c)], argTypes := #[t, t] }) (x z : Int) (hs : a.eval s = .int .i64 x) (hz : max x c = z)
    (h : wpList P ops Q rest (a.put o.dst (.int .i64 z)) w) : wpList P ops Q (o :: rest) a w := by
  refine wpList_plain hg fun K hK => ?_
  have e : (if c > x then c else x) = z := by rw [← hz]; omega
  have hc : a.eval (.const (.int .i64 c)) = .int .i64 c := rfl
  unfold Oper.wp
  simp [execOp, ho, resolve, invoke, builtin, hs, hc, Builtin.max_, Builtin.max2, Result.andThen, Oper.upon, e]
  exact hK _ _ h
theorem wpList_min {P : Program} {ops : Array Oper} {rest : List Oper} {o : Oper} {a : Act} {w : World} {Q : Exit → Act → World → Prop} (hg : o.guard = none) (s : Operand) (c : Int) (t : TypeId)
    (ho : o.op = .call { callee := .builtin .min, args := #[s, .const (.int .i64 c)], argTypes := #[t, t] }) (x z : Int) (hs : a.eval s = .int .i64 x) (hz : min x c = z)
    (h : wpList P ops Q rest (a.put o.dst (.int .i64 z)) w) : wpList P ops Q (o :: rest) a w := by
  refine wpList_plain hg fun K hK => ?_
  have e : (if c < x then c else x) = z := by rw [← hz]; omega
  have hc : a.eval (.const (.int .i64 c)) = .int .i64 c := rfl
  unfold Oper.wp
  simp [execOp, ho, resolve, invoke, builtin, hs, hc, Builtin.min_, Builtin.min2, Result.andThen, Oper.upon, e]
  exact hK _ _ h

theorem link {p : Nat} {nx : Nat → Nat → Nat} {nodes : List (Nd Et)} {v : Value} (n l tt : Nat) (w : World) (h : IsAt w p nx nodes v) (hon : On nodes l n) (hl : l < 12) :
    Calls Tryd.prog 41 #[ptr p, .int .i64 n, .int .i64 l, .int .i64 tt] w fun e w' => (∃ u, e = .returned u) ∧ IsAt w' p (put nx n l tt) nodes v ∧
      ∃ a u, w' = w.setCell a u ∧ (a.block = p ∨ ∃ y ∈ nodes, y.tb = a.block) := by
  rcases hon with rfl | ⟨i, hi, rfl, hli⟩
  · refine (link0 l tt w h hl).mono ?_
    rintro e w' ⟨he, rfl⟩
    exact ⟨he, h.link0 (by decide) (by decide) l tt hl, _, _, rfl, .inl rfl⟩
  · refine (link1 i l tt w h hi hli).mono ?_
    rintro e w' ⟨he, rfl⟩
    exact ⟨he, h.link1 (by decide) (by decide) i hi l tt hli, _, _, rfl, .inr ⟨_, List.getElem_mem hi, rfl⟩⟩
theorem infoNd : (Tryd.prog.info? TN).map (fun i => (i.zero, i.size, i.bytes)) = some (some (.agg #[.string ByteArray.empty, .string ByteArray.empty, .string ByteArray.empty, .int .u64 0, .bool false, .slice none 0 0]), 6, ndBytes) := by kernel_rfl
theorem infoInt : (Tryd.prog.info? 3).map (fun i => (i.zero, i.size, i.bytes)) = some (some (.int .i64 0), 1, 8) := by kernel_rfl
/-- How high a tower becomes. -/
def clampH (height : Int) : Nat := (min (max height 1) 12).toNat
/-- What Set leaves, of a key that was not there. -/
def SetPost (p : Nat) (nodes : List (Nd Et)) (v : Value) (key : ByteArray) (x : Et) (w : World) (e : Ending) (w' : World) : Prop :=
  ∃ nx' nd v', e = .returned (.bool true) ∧ IsAt w' p nx' (nodes ++ [nd]) v' ∧ Linked (nodes ++ [nd]) nx' ∧ nd.key = key ∧ nd.val = x ∧ Touched (foot p v nodes) w w' ∧ (∀ k, foot p v' (nodes ++ [nd]) k → foot p v nodes k ∨ w.heap.size ≤ k)

set_option maxRecDepth 100000 in
set_option maxHeartbeats 1000000 in
theorem cSet {p : Nat} {nx : Nat → Nat → Nat} {nodes : List (Nd Et)} {v : Value} (key : ByteArray) (x : Et) (height : Int) (w : World) (h : IsAt w p nx nodes v) (hln : Linked nodes nx) (hlen : nodes.length ≤ 1000000) (hnew : ∀ y ∈ nodes, y.key ≠ key) :
    Calls Tryd.prog 28 #[ptr p, .string key, encV x, .int .i64 height] w (SetPost p nodes v key x w) := by
  have HBA := Lib.hid (show Below w.heap.size w (w.alloc (boxE x)) from (Below.refl _ _).alloc (Nat.le_refl _) _)
  have HGX := Lib.hid (heap_alloc_new w (boxE x))
  have HSZ := Lib.hid (World.size_alloc w (boxE x))
  have H := Lib.hid h
  have HL := Lib.hid hln
  clear h hln
  go_enter Tryd.func28, Tryd.ntmps28
  go_wp2_with fail
  refine (has key _ (H.out.kept HBA.out) HL.out).mono ?_
  rintro e w1 ⟨⟨n, rfl, hs⟩, hb⟩
  have HB := Lib.hid (below_step HBA.out hb HBA.out.size)
  have HW := Lib.hid (H.out.kept HB.out)
  have HG1 := Lib.hid (blk_kept hb HGX.out)
  have hz1 : w.heap.size < w1.heap.size := by have := hb.size; rw [HSZ.out] at this; omega
  clear hb
  rcases hs with ⟨rfl, hs⟩ | ⟨i, hi, rfl, hk⟩
  · have HS := Lib.hid hs
    clear hs
    go_wp2_with fail
    refine (ahead key w1 HW.out HL.out).mono ?_
    rintro e w2 ⟨⟨last, rfl, hp⟩, hb⟩
    have HW2 := Lib.hid (HW.out.kept hb)
    have HB2 := Lib.hid (below_step HB.out hb HB.out.size)
    have HP := Lib.hid hp
    have HG2 := Lib.hid (blk_kept hb HG1.out)
    have hz2 : w.heap.size < w2.heap.size := Nat.lt_of_lt_of_le hz1 hb.size
    have hz3 : w.heap.size ≠ w2.heap.size := by omega
    have HG3 := Lib.hid (show ((w2.alloc (.cells #[.int .i64 0, .int .i64 0, .int .i64 0, .int .i64 0, .int .i64 0, .int .i64 0, .int .i64 0, .int .i64 0, .int .i64 0, .int .i64 0, .int .i64 0, .int .i64 0] 65)).setRow w2.heap.size (lastCells last)).heap[w.heap.size]? = some (boxE x) from (setRow_other _ _ _ _ hz3).trans (blk_alloc HG2.out _))
    have L0 := (boxE_cells HG3.out).c0
    have L1 := (boxE_cells HG3.out).c1
    have L2 := (boxE_cells HG3.out).c2
    have L3 := (boxE_cells HG3.out).c3
    clear hb hp
    obtain ⟨hh, hhe⟩ : ∃ hh : Nat, hh = clampH height := ⟨_, rfl⟩
    have HH := Lib.hid hhe
    have hh1 : 1 ≤ hh ∧ hh ≤ 12 := by rw [hhe]; unfold clampH; omega
    obtain ⟨z1, hz1⟩ : ∃ z1, z1 = max height 1 := ⟨_, rfl⟩
    have hz2 : min z1 12 = (hh : Int) := by rw [hhe, hz1]; unfold clampH; omega
    have HZ1 := Lib.hid hz1
    have HZ2 := Lib.hid hz2
    clear hhe hz1 hz2
    go_wp2_with (first | (refine wpList_store_row rfl 65 (.tmp 10) (.tmp 32) rfl w2.heap.size (lastCells last) rfl rfl 65 _ (heap_alloc_new _ _) (by rw [lastCells_size]; kernel_rfl) (by rw [lastCells_size]; rfl) (by simp [lastCells, Value.oneCell']) ?_) | (with_reducible refine wpList_max rfl (.tmp 36) 1 3 rfl height z1 rfl HZ1.out.symm ?_) | (with_reducible refine wpList_min rfl (.tmp 37) 12 3 rfl z1 hh rfl HZ2.out ?_))
    clear L0 L1 L2 L3
    obtain ⟨b, hbe⟩ : ∃ b, b = w2.heap.size := ⟨_, rfl⟩
    have f1 : (((w2.alloc (.cells #[.int .i64 0, .int .i64 0, .int .i64 0, .int .i64 0, .int .i64 0, .int .i64 0, .int .i64 0, .int .i64 0, .int .i64 0, .int .i64 0, .int .i64 0, .int .i64 0] 65)).setRow b (lastCells last)).alloc (.cells #[.string key, .string x.1, .string x.2.1, .int .u64 (x.2.2.1.toNat : Int), .bool x.2.2.2, .slice none 0 0] TN)).heap[b]? = some (.cells (lastCells last) 65 (0, 0)) := by
      refine blk_alloc ?_ _
      rw [hbe]
      exact setRow_heap _ _ _ _ _ _ (heap_alloc_new _ _)
    have f0 : ((w2.alloc (.cells #[.int .i64 0, .int .i64 0, .int .i64 0, .int .i64 0, .int .i64 0, .int .i64 0, .int .i64 0, .int .i64 0, .int .i64 0, .int .i64 0, .int .i64 0, .int .i64 0] 65)).setRow b (lastCells last)).heap.size = b + 1 := by simp [hbe]
    have f2 : (((w2.alloc (.cells #[.int .i64 0, .int .i64 0, .int .i64 0, .int .i64 0, .int .i64 0, .int .i64 0, .int .i64 0, .int .i64 0, .int .i64 0, .int .i64 0, .int .i64 0, .int .i64 0] 65)).setRow b (lastCells last)).alloc (.cells #[.string key, .string x.1, .string x.2.1, .int .u64 (x.2.2.1.toNat : Int), .bool x.2.2.2, .slice none 0 0] TN)).heap[b + 1]? = some (.cells #[.string key, .string x.1, .string x.2.1, .int .u64 (x.2.2.1.toNat : Int), .bool x.2.2.2, .slice none 0 0] TN (0, 0)) := by
      rw [← f0]; exact heap_alloc_new _ _
    have f3 : Below w.heap.size w (((w2.alloc (.cells #[.int .i64 0, .int .i64 0, .int .i64 0, .int .i64 0, .int .i64 0, .int .i64 0, .int .i64 0, .int .i64 0, .int .i64 0, .int .i64 0, .int .i64 0, .int .i64 0] 65)).setRow b (lastCells last)).alloc (.cells #[.string key, .string x.1, .string x.2.1, .int .u64 (x.2.2.1.toNat : Int), .bool x.2.2.2, .slice none 0 0] TN)) :=
      (below_row (HB2.out.alloc HB2.out.size _) (by have := HB2.out.size; omega) _).alloc (by rw [f0]; have := HB2.out.size; omega) _
    have f4 : (((w2.alloc (.cells #[.int .i64 0, .int .i64 0, .int .i64 0, .int .i64 0, .int .i64 0, .int .i64 0, .int .i64 0, .int .i64 0, .int .i64 0, .int .i64 0, .int .i64 0, .int .i64 0] 65)).setRow b (lastCells last)).alloc (.cells #[.string key, .string x.1, .string x.2.1, .int .u64 (x.2.2.1.toNat : Int), .bool x.2.2.2, .slice none 0 0] TN)).heap.size = b + 2 := by
      show (Array.push _ _).size = _
      rw [Array.size_push, f0]
    rw [← hbe]
    have hbw : w.heap.size ≤ b := by have := HB2.out.size; omega
    clear f0 hbe
    generalize (((w2.alloc (.cells #[.int .i64 0, .int .i64 0, .int .i64 0, .int .i64 0, .int .i64 0, .int .i64 0, .int .i64 0, .int .i64 0, .int .i64 0, .int .i64 0, .int .i64 0, .int .i64 0] 65)).setRow b (lastCells last)).alloc (.cells #[.string key, .string x.1, .string x.2.1, .int .u64 (x.2.2.1.toNat : Int), .bool x.2.2.2, .slice none 0 0] TN)) = W3 at *
    have F1 := Lib.hid f1
    have F2 := Lib.hid f2
    have F3 := Lib.hid f3
    have F4 := Lib.hid f4
    clear f1 f2 f3 f4 HW2 HB2 HW HB HG1 HG2 HG3 HGX HBA HSZ hz1 hz2 hz3
    go_loopw [39] (fun i wr => ∃ (k : Nat) (u : Value), k ≤ hh ∧ i = .int .i64 k ∧ wr.ownsRow (b + 2) 3 1 u k ((List.range k).map fun l => .int .i64 (nx (last l) l)) ∧
        wr.heap[b]? = some (.cells (lastCells last) 65 (0, 0)) ∧ wr.heap[b + 1]? = some (.cells #[.string key, .string x.1, .string x.2.1, .int .u64 (x.2.2.1.toNat : Int), .bool x.2.2.2, u] TN (0, 0)) ∧ Below w.heap.size w wr ∧ b + 2 ≤ wr.heap.size)
      (fun i _ => hh - (intOf i).toNat)
    case atStart => exact ⟨0, _, by omega, rfl, World.ownsRow_nil _ _ _ _, F1.out, F2.out, F3.out, by rw [F4.out]; omega⟩
    case round =>
      obtain ⟨k, u, hk, rfl, hown, hb1, hb2, hbel, hsz⟩ := hrel
      by_cases hlt : k < hh
      · obtain ⟨i0, hi0, hz0, hz1, hz2⟩ := info_parts infoInt
        have c1 : wr.cell? ⟨b + 1, 5, none⟩ = some u := by rw [blk_cell hb2]; rfl
        have c2 : wr.cell? ⟨b, k, none⟩ = some (.int .i64 (last k)) := by rw [blk_cell hb1]; exact lastCells_at last k (by omega)
        have c3 : wr.frozen? ⟨b + 1, 5, none⟩ = false := by rw [blk_frozen hb2]; rfl
        have d1 : (wr.alloc (.cells #[.int .i64 (nx (last k) k)] 3)).drew.cell? ⟨b + 1, 5, none⟩ = some u := (blk_cell (blk_alloc hb2 _) 5).trans rfl
        have n1 : u.ownBlock ≠ some (b + 1) := fun e => by have := (hown.lt _ e).1; omega
        have n2 : u.ownBlock ≠ some b := fun e => by have := (hown.lt _ e).1; omega
        have k0 : (0 : Int) ≤ (k : Int) := by omega
        have k1 : (k : Int) < 12 := by omega
        have HO := Lib.hid hown
        have H1 := Lib.hid hb1
        have H2 := Lib.hid hb2
        have HBEL := Lib.hid hbel
        have hcall := fun W (hW : Below w.heap.size w W) => next (last k) k W (H.out.kept hW) (HP.out k (by omega)).on (by omega)
        clear hown hb1 hb2 hbel
        go_wp2_with fail
        go_region_law
          (first
            | (refine step_append_lies _ (by rfl) _ _ _ (by rfl) (b + 2) 3 i0 _ 1 8 Tryd.underlying87 hi0 hz0 hz1 hz2 rfl (by omega) u k _ (by rfl) ((HO.out.alloc _).drew)
                ⟨wr.heap.size, 0, none⟩ 1 1 [.int .i64 (nx (last k) k)] (by rfl) (by rfl) (World.news_of_block (cs := #[.int .i64 (nx (last k) k)]) (t := 3) (fr := (0, 0)) (heap_alloc_new wr _)) (by simp [Value.oneCell'])
                (by omega) (by unfold maxLen; omega) (by omega) (by simp; omega) (wr.heap.size + 1) (by simp) ?_; intro gg cap w4 hown1 hgrow hat hlt4; have c4 : w4.cell? ⟨b + 1, 5, none⟩ = some u := (hgrow.cell_far ⟨b + 1, 5, none⟩ (by simp; omega) (Ne.symm n1)).trans ((blk_cell (blk_alloc H2.out _) 5).trans rfl); have c5 : w4.frozen? ⟨b + 1, 5, none⟩ = false := (hgrow.frozen_far ⟨b + 1, 5, none⟩ (by simp; omega) (Ne.symm n1)).trans ((blk_frozen (blk_alloc H2.out _) 5).trans rfl))
            | (go_simp; go_at_call 40; refine (hcall _ HBEL.out.drew).mono ?_; rintro e w4 ⟨rfl, rfl⟩))
        all_goals
          have g1 : w4.heap[b]? = some (.cells (lastCells last) 65 (0, 0)) := (hgrow.block b (by simp; omega) (Ne.symm n2)).trans (blk_alloc H1.out _)
          have g2 : w4.heap[b + 1]? = some (.cells #[.string key, .string x.1, .string x.2.1, .int .u64 (x.2.2.1.toNat : Int), .bool x.2.2.2, u] TN (0, 0)) := (hgrow.block (b + 1) (by simp; omega) (Ne.symm n1)).trans (blk_alloc H2.out _)
          have g3 : Below w.heap.size w w4 := ((HBEL.out.alloc HBEL.out.size _).drew).grown hgrow (by have := HBEL.out.size; simp; omega) (fun j e => by have := (HO.out.lt j e).1; omega)
          have g4 : b + 2 ≤ w4.heap.size := Nat.le_trans (by simp; omega) hgrow.size
          have g5 : gg ≠ b + 1 := fun e => by have := (hown1.lt gg rfl).1; omega
          have G1 := Lib.hid g1
          have G2 := Lib.hid g2
          have G3 := Lib.hid g3
          have G4 := Lib.hid g4
          have G6 := Lib.hid hown1
          clear g1 g2 g3 g4 hown1 hgrow hat hlt4 c4 c5 d1
          go_wp2_with fail
          go_roundw
          case rel =>
            refine ⟨k + 1, _, by omega, by go_num, ?_, ?_, blk_set G2.out 5 _, G3.out.setCell (by simp; omega) _, by simpa [World.setCell] using G4.out⟩
            · rw [List.range_succ, List.map_append]
              exact ownsRow_setCell_other G6.out (by simp only [Value.ownBlock, ne_eq, Option.some.injEq]; exact g5) _
            · rw [blk_set_other (by simp)]; exact G1.out
          case measure => simp [intOf]; omega
      · obtain rfl : k = hh := by omega
        obtain ⟨i0, hi0, hz0, hz1, hz2⟩ := info_parts infoNd
        have hat := H.out.kept hbel
        obtain ⟨tb, tc, rfl, htb, htlt, _⟩ := owns_shape hown (by omega)
        have hown2 := hat.row
        have hvp : v.ownBlock ≠ some p := hat.p_ne_row (by decide)
        have cP : wr.cell? ⟨p, 12, none⟩ = some v := hat.rowCell
        have fP : wr.frozen? ⟨p, 12, none⟩ = false := hat.free 12
        have s0 : wr.cell? ⟨b + 1, 0, none⟩ = some (.string key) := by rw [blk_cell hb2]; rfl
        have s1 : wr.cell? ⟨b + 1, 1, none⟩ = some (.string x.1) := by rw [blk_cell hb2]; rfl
        have s2 : wr.cell? ⟨b + 1, 2, none⟩ = some (.string x.2.1) := by rw [blk_cell hb2]; rfl
        have s3 : wr.cell? ⟨b + 1, 3, none⟩ = some (.int .u64 (x.2.2.1.toNat : Int)) := by rw [blk_cell hb2]; rfl
        have s4 : wr.cell? ⟨b + 1, 4, none⟩ = some (.bool x.2.2.2) := by rw [blk_cell hb2]; rfl
        have s5 : wr.cell? ⟨b + 1, 5, none⟩ = some (.slice (some ⟨tb, 0, none⟩) k tc) := by rw [blk_cell hb2]; rfl
        have hpl : p < wr.heap.size := blk_lt hat.head
        have d1 : (wr.alloc (.cells #[.string key, .string x.1, .string x.2.1, .int .u64 (x.2.2.1.toNat : Int), .bool x.2.2.2, .slice (some ⟨tb, 0, none⟩) k tc] TN)).drew.cell? ⟨p, 12, none⟩ = some v := (blk_cell (blk_alloc hat.head _) 12).trans (headCells_v nx v)
        have HAT := Lib.hid hat
        have HO := Lib.hid hown
        have HO2 := Lib.hid hown2
        have H1 := Lib.hid hb1
        have H2 := Lib.hid hb2
        have HBEL := Lib.hid hbel
        have HVP := Lib.hid hvp
        clear hat hown hown2 hb1 hb2 hbel hvp hlt
        go_wp2_with fail
        go_region_law
          (refine step_append_lies _ (by rfl) _ _ _ (by rfl) 0 TN i0 _ 6 ndBytes Tryd.underlying66 hi0 hz0 hz1 hz2 rfl (by omega) v nodes.length _ (by rfl) ((HO2.out.alloc _).drew)
                ⟨wr.heap.size, 0, none⟩ 1 1 [.string key, .string x.1, .string x.2.1, .int .u64 (x.2.2.1.toNat : Int), .bool x.2.2.2, .slice (some ⟨tb, 0, none⟩) k tc] (by rfl) (by rfl) (World.news_of_block (cs := #[.string key, .string x.1, .string x.2.1, .int .u64 (x.2.2.1.toNat : Int), .bool x.2.2.2, .slice (some ⟨tb, 0, none⟩) k tc]) (t := TN) (fr := (0, 0)) (heap_alloc_new wr _)) (by simp [Value.oneCell'])
                (by omega) (by unfold maxLen; omega) (by unfold ndBytes; omega) (by simp) (wr.heap.size + 1) (by simp) ?_; intro gg cap w4 hown1 hgrow hat' hlt4; have c4 : w4.cell? ⟨p, 12, none⟩ = some v := (hgrow.cell_far ⟨p, 12, none⟩ (by simp; omega) (Ne.symm HVP.out)).trans d1; have c5 : w4.frozen? ⟨p, 12, none⟩ = false := (hgrow.frozen_far ⟨p, 12, none⟩ (by simp; omega) (Ne.symm HVP.out)).trans ((blk_frozen (blk_alloc HAT.out.head _) 12).trans (by simp)))
        all_goals
          have hvlt : ∀ j, v.ownBlock = some j → j < w.heap.size := fun j e => H.out.foot_lt (.inr (.inl e))
          have hpw : p < w.heap.size := H.out.foot_lt (.inl rfl)
          have hkeep : ∀ j, j < wr.heap.size → v.ownBlock ≠ some j → w4.heap[j]? = wr.heap[j]? := fun j hj hne => (hgrow.block j (by simp; omega) (Ne.symm hne)).trans (Below.heap_alloc _ _ _ hj)
          have hto : w4.ownsRow (b + 2) 3 1 (Nd.tower (⟨key, x, k, tb, tc⟩ : Nd Et)) k (towerCells (nxNew nx last nodes.length 0) (nodes.length + 1) k) := by
            have e : towerCells (nxNew nx last nodes.length 0) (nodes.length + 1) k = (List.range k).map fun l => .int .i64 (nx (last l) l) := by simp [towerCells, nxNew]
            rw [e]
            exact row_kept HO.out fun j e => by
              have : j = tb := by simpa [Nd.tower, Value.ownBlock] using e.symm
              subst this
              exact hkeep _ htlt fun e' => by have := hvlt _ e'; omega
          have hpush := HAT.out.push (by decide) (by decide) (by decide) (nx' := nxNew nx last nodes.length 0) (nd := ⟨key, x, k, tb, tc⟩) (v' := .slice (some ⟨gg, 0, none⟩) (nodes.length + 1) cap) (B := b + 2)
            (fun j hj => by have := H.out.foot_lt hj; omega) (fun n l hn => by unfold nxNew; rw [if_neg (by omega), if_neg (by omega)]) hto hkeep hown1
          have e1 : (w4.setCell ⟨p, 12, none⟩ (.slice (some ⟨gg, 0, none⟩) (nodes.length + 1) cap)).heap[b]? = some (.cells (lastCells last) 65 (0, 0)) := by
            rw [blk_set_other (by simp; omega), hkeep b (by omega) fun e' => by have := hvlt _ e'; omega]; exact H1.out
          have e2 : (w4.setCell ⟨p, 12, none⟩ (.slice (some ⟨gg, 0, none⟩) (nodes.length + 1) cap)).cell? ⟨b + 1, 5, none⟩ = some (.slice (some ⟨tb, 0, none⟩) k tc) := by
            have : (w4.setCell ⟨p, 12, none⟩ (.slice (some ⟨gg, 0, none⟩) (nodes.length + 1) cap)).heap[b + 1]? = some (.cells #[.string key, .string x.1, .string x.2.1, .int .u64 (x.2.2.1.toNat : Int), .bool x.2.2.2, .slice (some ⟨tb, 0, none⟩) k tc] TN (0, 0)) := by
              rw [blk_set_other (by simp; omega), hkeep (b + 1) (by omega) fun e' => by have := hvlt _ e'; omega]; exact H2.out
            rw [blk_cell this]; rfl
          have e3 : Touched (foot p v nodes) w (w4.setCell ⟨p, 12, none⟩ (.slice (some ⟨gg, 0, none⟩) (nodes.length + 1) cap)) :=
            ((((Touched.of_below HBEL.out).alloc _).drew).grown hgrow (fun j e _ => .inr (.inl e))).setCell (fun _ => .inl rfl) _
          have e4 : ∀ j, foot p (.slice (some ⟨gg, 0, none⟩) (nodes.length + 1) cap) (nodes ++ [(⟨key, x, k, tb, tc⟩ : Nd Et)]) j → foot p v nodes j ∨ w.heap.size ≤ j := by
            rintro j (hj | hj | ⟨y, hy, rfl⟩)
            · exact .inl (.inl hj)
            · have : gg = j := by simpa [Value.ownBlock] using hj
              subst this
              rcases hat' with h | h
              · exact .inl (.inr (.inl h))
              · exact .inr (by omega)
            · rcases List.mem_append.1 hy with hy | hy
              · exact .inl (.inr (.inr ⟨y, hy, rfl⟩))
              · obtain rfl := List.mem_singleton.1 hy
                exact .inr (by show w.heap.size ≤ tb; omega)
          generalize w4.setCell ⟨p, 12, none⟩ (.slice (some ⟨gg, 0, none⟩) (nodes.length + 1) cap) = w5 at *
          have E1 := Lib.hid e1
          have E3 := Lib.hid e3
          have E4 := Lib.hid e4
          have HPUSH := Lib.hid hpush
          have HTB := Lib.hid htb
          clear e1 e3 e4 hpush hto hkeep hvlt hown1 hgrow hat' hlt4 c4 c5 d1 s0 s1 s2 s3 s4 s5 cP fP HO HO2 H1 H2 HBEL HVP HAT hpl htlt htb
          go_wp2_with fail
          obtain ⟨wo, rfl⟩ : ∃ wo : World, wo = wr := ⟨_, rfl⟩
          go_loopw [67] (fun i wi => ∃ j : Nat, j ≤ k ∧ i = .int .i64 j ∧ IsAt wi p (nxNew nx last nodes.length j) (nodes ++ [(⟨key, x, k, tb, tc⟩ : Nd Et)]) (.slice (some ⟨gg, 0, none⟩) (nodes.length + 1) cap) ∧
              wi.heap[b]? = some (.cells (lastCells last) 65 (0, 0)) ∧ Touched (foot p v nodes) w wi)
            (fun i _ => k - (intOf i).toNat)
          case atStart => exact ⟨0, by omega, rfl, HPUSH.out, E1.out, E3.out⟩
          case round =>
            obtain ⟨j, hj, rfl, hat, hb1, htch⟩ := hrel
            by_cases hlt : j < k
            · have c1 : wr.cell? ⟨b, j, none⟩ = some (.int .i64 (last j)) := by rw [blk_cell hb1]; exact lastCells_at last j (by omega)
              have c2 : wr.cell? ⟨p, 12, none⟩ = some (.slice (some ⟨gg, 0, none⟩) (nodes.length + 1) cap) := hat.rowCell
              have k0 : (0 : Int) ≤ (j : Int) := by omega
              have k1 : (j : Int) < 12 := by omega
              have hlast := (HP.out j (by omega)).on
              have hle : last j ≠ nodes.length + 1 := by rcases hlast with h | ⟨i, hi, h, _⟩ <;> omega
              have hon : On (nodes ++ [(⟨key, x, k, tb, tc⟩ : Nd Et)]) j (last j) := by
                rcases hlast with h | ⟨i, hi, h, hl⟩
                · exact .inl h
                · exact .inr ⟨i, by simp; omega, h, by rw [List.getElem_append_left hi]; exact hl⟩
              have hcall := link (last j) j (nodes.length + 1) wr.drew (hat.kept (Below.refl _ _).drew) hon (by omega)
              have HB := Lib.hid hb1
              have HT := Lib.hid htch
              have HLE := Lib.hid hle
              clear hat hb1 htch hlast hon hle
              go_wp2_with fail
              go_still_tail 10, (by kernel_rfl)
              change wpList _ _ _ _ _ wr.drew
              go_wp2_with (go_at_call 41; refine hcall.mono ?_; rintro e w6 ⟨⟨u, rfl⟩, hat6, a6, u6, rfl, ha6⟩)
              have HAT6 := Lib.hid hat6
              have HA6 := Lib.hid ha6
              clear hat6 ha6 hcall c1 c2
              go_wp2_with fail
              go_roundw
              case rel =>
                refine ⟨j + 1, by omega, by go_num, by rw [← nxNew_step nx last nodes.length j HLE.out]; exact HAT6.out, ?_, HT.out.drew.setCell (fun hlt => ?_) u6⟩
                · refine (blk_set_other ?_).trans HB.out
                  rcases HA6.out with h | ⟨y, hy, h⟩
                  · omega
                  · rcases List.mem_append.1 hy with hy | hy
                    · have := H.out.foot_lt (.inr (.inr ⟨y, hy, rfl⟩)); omega
                    · obtain rfl := List.mem_singleton.1 hy
                      have h : tb = a6.block := h
                      have := HTB.out
                      omega
                · rcases HA6.out with h | ⟨y, hy, h⟩
                  · exact .inl h
                  · rcases List.mem_append.1 hy with hy | hy
                    · exact .inr (.inr ⟨y, hy, h⟩)
                    · obtain rfl := List.mem_singleton.1 hy
                      have h : tb = a6.block := h
                      have := HTB.out
                      omega
              case measure => simp [intOf]; omega
            · obtain rfl : j = k := by omega
              have HAT := Lib.hid hat
              have HT := Lib.hid htch
              clear hat hb1 htch hlt
              go_wp2_with fail
              go_ret
              exact ⟨_, _, _, rfl, HAT.out, HL.out.insert (x := ⟨key, x, j, tb, tc⟩) HP.out HS.out hh1, rfl, rfl, HT.out, E4.out⟩
  · exact absurd hk (hnew _ (List.getElem_mem hi))
end Go.Proofs.Tryd.Skm
