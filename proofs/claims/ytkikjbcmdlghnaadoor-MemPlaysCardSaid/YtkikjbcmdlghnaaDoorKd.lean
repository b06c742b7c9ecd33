/- A skip list: seek, has, Seek, After, Get, Len. -/
import Derived.Test.YtkikjbcmdlghnaaDoorKc
import Derived.Deep.DeepCutAuto
open Go.RowKit Go.Cph Go.Cph.Skip Go.Cph.Skm
set_option linter.unusedVariables false
set_option linter.unusedSimpArgs false
namespace Go.Proofs.Tryd.Skm

theorem lastCells_eq (f : Nat → Nat) : lastCells f = #[.int .i64 (f 0), .int .i64 (f 1), .int .i64 (f 2), .int .i64 (f 3), .int .i64 (f 4), .int .i64 (f 5), .int .i64 (f 6), .int .i64 (f 7), .int .i64 (f 8), .int .i64 (f 9), .int .i64 (f 10), .int .i64 (f 11)] := by
  simp [lastCells, List.range_succ]

theorem idx0 (x0 x1 x2 x3 x4 x5 x6 x7 x8 x9 x10 x11 : Value) (w : World) : (Instr.index 65 (.agg #[x0, x1, x2, x3, x4, x5, x6, x7, x8, x9, x10, x11]) (.int .i64 0)).run Tryd.prog w = .ok x0 w := by kernel_rfl

theorem seekNil (key : ByteArray) (w : World) :
    Calls Tryd.prog 42 #[.pointer none, .string key] w fun e w' => e = .returned (.int .i64 0) ∧ w = w' := by
  go_enter Tryd.func42, Tryd.ntmps42
  go_wp2_with fail
  go_ret
  exact ⟨rfl, rfl⟩

theorem seek {p : Nat} {nx : Nat → Nat → Nat} {nodes : List (Nd Et)} {v : Value} (key : ByteArray) (w : World) (h : IsAt w p nx nodes v) (hln : Linked nodes nx) :
    Calls Tryd.prog 42 #[ptr p, .string key] w fun e w' => (∃ n : Nat, e = .returned (.int .i64 n) ∧ Seek nodes key n) ∧ Below w.heap.size w w' := by
  have H := Lib.hid h
  have HL := Lib.hid hln
  clear h hln
  go_enter Tryd.func42, Tryd.ntmps42
  go_wp2_with fail
  refine (ahead key w H.out HL.out).mono ?_
  rintro e w1 ⟨⟨last, rfl, hp⟩, hb⟩
  rw [lastCells_eq]
  have hidx := idx0 (.int .i64 (last 0)) (.int .i64 (last 1)) (.int .i64 (last 2)) (.int .i64 (last 3)) (.int .i64 (last 4)) (.int .i64 (last 5)) (.int .i64 (last 6)) (.int .i64 (last 7)) (.int .i64 (last 8)) (.int .i64 (last 9)) (.int .i64 (last 10)) (.int .i64 (last 11)) w1
  have HP := Lib.hid hp
  have HB := Lib.hid hb
  clear hp hb
  go_wp2_with fail
  have hnx : Calls Tryd.prog 40 #[ptr p, .int .i64 (last 0), .int .i64 0] w1 _ := next (last 0) 0 w1 (H.out.kept HB.out) (HP.out 0 (by omega)).on (by omega)
  refine hnx.mono ?_
  rintro e w2 ⟨rfl, rfl⟩
  go_wp2_with fail
  go_ret
  exact ⟨⟨_, rfl, seek_of_prev HL.out (HP.out 0 (by omega)) (HL.out.links 0 _ (by omega) (HP.out 0 (by omega)).on)⟩, HB.out⟩

/-- n is the node of a key (0: none). -/
def Has (nodes : List (Nd Et)) (key : ByteArray) (n : Nat) : Prop :=
  (n = 0 ∧ ∀ y ∈ nodes, y.key ≠ key) ∨ (∃ i, ∃ h : i < nodes.length, n = i + 1 ∧ nodes[i].key = key)

theorem hasNil (key : ByteArray) (w : World) :
    Calls Tryd.prog 38 #[.pointer none, .string key] w fun e w' => e = .returned (.int .i64 0) ∧ w = w' := by
  go_enter Tryd.func38, Tryd.ntmps38
  go_wp2_with (go_at_call 42; refine (seekNil key w).mono ?_; rintro e w1 ⟨rfl, rfl⟩)
  go_ret
  exact ⟨rfl, rfl⟩

theorem has {p : Nat} {nx : Nat → Nat → Nat} {nodes : List (Nd Et)} {v : Value} (key : ByteArray) (w : World) (h : IsAt w p nx nodes v) (hln : Linked nodes nx) :
    Calls Tryd.prog 38 #[ptr p, .string key] w fun e w' => (∃ n : Nat, e = .returned (.int .i64 n) ∧ Has nodes key n) ∧ Below w.heap.size w w' := by
  have H := Lib.hid h
  have HL := Lib.hid hln
  have hm := h.len
  unfold maxLen at hm
  clear h hln
  go_enter Tryd.func38, Tryd.ntmps38
  go_wp2_with fail
  refine (seek key w H.out HL.out).mono ?_
  rintro e w1 ⟨⟨n, rfl, hs⟩, hb⟩
  have HW := Lib.hid (H.out.kept hb)
  have HB := Lib.hid hb
  clear hb
  rcases hs with ⟨rfl, hs⟩ | ⟨i, hi, rfl, hk, hs⟩
  · have HS := Lib.hid hs
    clear hs
    go_wp2_with fail
    go_ret
    exact ⟨⟨0, rfl, .inl ⟨rfl, fun y hy he => by have := HS.out y hy; rw [he, klt_irrefl] at this; exact absurd this (by simp)⟩⟩, HB.out⟩
  · have HS := Lib.hid hs
    have HK := Lib.hid hk
    have hcr := HW.out.rowCell
    obtain ⟨g, cap, hv, hcap⟩ := HW.out.shape (by omega)
    rw [hv] at hcr
    have hck : w1.cell? ⟨g, i * 6, none⟩ = some (.string nodes[i].key) := by have := HW.out; rw [hv] at this; exact this.nodeCell i hi 0 (by omega)
    have e2 : wrap64 (i : Int) = i := by unfold wrap64; omega
    clear hs hk hv
    by_cases he : nodes[i].key = key
    · rw [he] at hck
      have HE := Lib.hid he
      clear he
      have hbe : (key.toList == key.toList) = true := by simp
      go_wp2_with fail
      go_ret
      exact ⟨⟨i + 1, rfl, .inr ⟨i, hi, rfl, HE.out⟩⟩, HB.out⟩
    · have hbe : (nodes[i].key.toList == key.toList) = false := by rw [beq_toList]; simp [he]
      have HE := Lib.hid he
      clear he
      obtain ⟨kk, hkn⟩ : ∃ kk, kk = nodes[i].key := ⟨_, rfl⟩
      rw [← hkn] at hck hbe
      clear hkn
      go_wp2_with fail
      go_ret
      refine ⟨⟨0, rfl, .inl ⟨rfl, fun y hy hy' => ?_⟩⟩, HB.out⟩
      have h1 := HS.out y hy (by rw [hy', klt_irrefl])
      rw [hy'] at h1
      exact HE.out (klt_total HK.out h1)

/-- What a node tells. -/
def Tells (nodes : List (Nd Et)) (n : Nat) (k : ByteArray) (x : Et) (ok : Bool) : Prop :=
  (n = 0 ∧ k = ⟨#[]⟩ ∧ x = zeroV ∧ ok = false) ∨ (∃ i, ∃ h : i < nodes.length, n = i + 1 ∧ k = nodes[i].key ∧ x = nodes[i].val ∧ ok = true)
theorem told {p : Nat} {nx : Nat → Nat → Nat} {nodes : List (Nd Et)} {v : Value} (n : Nat) (w : World) (h : IsAt w p nx nodes v) (hn : n = 0 ∨ ∃ i, ∃ h : i < nodes.length, n = i + 1) :
    Calls Tryd.prog 37 #[ptr p, .int .i64 n] w fun e w' => (∃ k x ok, e = .returned (.tuple #[.string k, encV x, .bool ok]) ∧ Tells nodes n k x ok) ∧ Below w.heap.size w w' := by
  rcases hn with rfl | ⟨i, hi, rfl⟩
  · exact (told0 w).mono fun e w' ⟨he, hw⟩ => ⟨⟨_, _, _, he, .inl ⟨rfl, rfl, rfl, rfl⟩⟩, hw⟩
  · exact (told1 i w h hi).mono fun e w' ⟨he, hw⟩ => ⟨⟨_, _, _, he, .inr ⟨i, hi, rfl, rfl, rfl, rfl⟩⟩, hw⟩
theorem seek_num {nodes : List (Nd Et)} {key : ByteArray} {n : Nat} (h : Seek nodes key n) : n = 0 ∨ ∃ i, ∃ h : i < nodes.length, n = i + 1 := by
  rcases h with ⟨h, _⟩ | ⟨i, hi, h, _⟩
  · exact .inl h
  · exact .inr ⟨i, hi, h⟩
theorem has_num {nodes : List (Nd Et)} {key : ByteArray} {n : Nat} (h : Has nodes key n) : n = 0 ∨ ∃ i, ∃ h : i < nodes.length, n = i + 1 := by
  rcases h with ⟨h, _⟩ | ⟨i, hi, h, _⟩
  · exact .inl h
  · exact .inr ⟨i, hi, h⟩

abbrev boxE (e : Et) : Obj := .cells #[.string e.1, .string e.2.1, .int .u64 (e.2.2.1.toNat : Int), .bool e.2.2.2] 34 (0, 0)
/-- An entry's cells. -/
structure CellsE (w : World) (b o : Nat) (p : Et) : Prop where
  c0 : w.cell? ⟨b, o, none⟩ = some (.string p.1)
  c1 : w.cell? ⟨b, o + 1, none⟩ = some (.string p.2.1)
  c2 : w.cell? ⟨b, o + 2, none⟩ = some (.int .u64 (p.2.2.1.toNat : Int))
  c3 : w.cell? ⟨b, o + 3, none⟩ = some (.bool p.2.2.2)
theorem boxE_cells {w : World} {b : Nat} {p : Et} {E : TypeId} {fr : Nat × Nat} (h : w.heap[b]? = some (.cells #[.string p.1, .string p.2.1, .int .u64 (p.2.2.1.toNat : Int), .bool p.2.2.2] E fr)) : CellsE w b 0 p :=
  ⟨by rw [blk_cell h]; rfl, by rw [blk_cell h]; rfl, by rw [blk_cell h]; rfl, by rw [blk_cell h]; rfl⟩
/-- An entry stored. -/
abbrev setE (W : World) (g o : Nat) (a : Et) : World := (((W.setCell ⟨g, o, none⟩ (.string a.1)).setCell ⟨g, o + 1, none⟩ (.string a.2.1)).setCell ⟨g, o + 2, none⟩ (.int .u64 (a.2.2.1.toNat : Int))).setCell ⟨g, o + 3, none⟩ (.bool a.2.2.2)
theorem put_boxE {W : World} {g : Nat} {b : Et} (h : W.heap[g]? = some (boxE b)) (a : Et) : ((((W.setCell ⟨g, 0, none⟩ (.string a.1)).setCell ⟨g, 1, none⟩ (.string a.2.1)).setCell ⟨g, 2, none⟩ (.int .u64 (a.2.2.1.toNat : Int))).setCell ⟨g, 3, none⟩ (.bool a.2.2.2)).heap[g]? = some (boxE a) := blk_set (blk_set (blk_set (blk_set h 0 _) 1 _) 2 _) 3 _
theorem put_belowE {B : Nat} {w W : World} {g : Nat} (h : Below B w W) (hg : B ≤ g) (a : Et) : Below B w ((((W.setCell ⟨g, 0, none⟩ (.string a.1)).setCell ⟨g, 1, none⟩ (.string a.2.1)).setCell ⟨g, 2, none⟩ (.int .u64 (a.2.2.1.toNat : Int))).setCell ⟨g, 3, none⟩ (.bool a.2.2.2)) :=
  (((h.setCell (p := ⟨g, 0, none⟩) hg _).setCell (p := ⟨g, 1, none⟩) hg _).setCell (p := ⟨g, 2, none⟩) hg _).setCell (p := ⟨g, 3, none⟩) hg _
theorem put_szE {W : World} {g : Nat} {a : Et} : ((((W.setCell ⟨g, 0, none⟩ (.string a.1)).setCell ⟨g, 1, none⟩ (.string a.2.1)).setCell ⟨g, 2, none⟩ (.int .u64 (a.2.2.1.toNat : Int))).setCell ⟨g, 3, none⟩ (.bool a.2.2.2)).heap.size = W.heap.size := by simp [World.setCell]
theorem cSeek {p : Nat} {nx : Nat → Nat → Nat} {nodes : List (Nd Et)} {v : Value} (key : ByteArray) (w : World) (h : IsAt w p nx nodes v) (hln : Linked nodes nx) :
    Calls Tryd.prog 29 #[ptr p, .string key] w fun e w' => (∃ n k x ok, e = .returned (.tuple #[.string k, encV x, .bool ok]) ∧ Seek nodes key n ∧ Tells nodes n k x ok) ∧ Below w.heap.size w w' := by
  have HBA := Lib.hid (show Below w.heap.size w (w.alloc (boxE zeroV)) from (Below.refl _ _).alloc (Nat.le_refl _) _)
  have HG := Lib.hid (heap_alloc_new w (boxE zeroV))
  have H := Lib.hid (h.kept HBA.out)
  have HL := Lib.hid hln
  clear h hln
  go_enter Tryd.func29, Tryd.ntmps29
  go_wp2_with fail
  refine (seek key _ H.out HL.out).mono ?_
  rintro e w1 ⟨⟨n, rfl, hs⟩, hb⟩
  have HS := Lib.hid hs
  have HB := Lib.hid (below_step HBA.out hb HBA.out.size)
  have H1 := Lib.hid (H.out.kept hb)
  have HG1 := Lib.hid (blk_kept hb HG.out)
  clear hs hb
  go_wp2_with fail
  refine (told n w1 H1.out (seek_num HS.out)).mono ?_
  rintro e w2 ⟨⟨k, x, ok, rfl, ht⟩, hb⟩
  have HT := Lib.hid ht
  have HB2 := Lib.hid (below_step HB.out hb HB.out.size)
  have HG2 := Lib.hid (blk_kept hb HG1.out)
  clear ht hb
  have f0 : ∀ j, w2.frozen? ⟨w.heap.size, j, none⟩ = false := fun j => by rw [blk_frozen HG2.out]; simp
  have c0 : w2.cell? ⟨w.heap.size, 0, none⟩ = some (.string ⟨#[]⟩) := (boxE_cells HG2.out).c0
  have c1 : w2.cell? ⟨w.heap.size, 1, none⟩ = some (.string ⟨#[]⟩) := (boxE_cells HG2.out).c1
  have c2 : w2.cell? ⟨w.heap.size, 2, none⟩ = some (.int .u64 0) := (boxE_cells HG2.out).c2
  have c3 : w2.cell? ⟨w.heap.size, 3, none⟩ = some (.bool false) := (boxE_cells HG2.out).c3
  go_wp2_with fail
  have HQ := Lib.hid (put_boxE HG2.out x)
  have HBQ := Lib.hid (put_belowE HB2.out (Nat.le_refl _) x)
  clear c0 c1 c2 c3 f0
  generalize (((w2.setCell ⟨w.heap.size, 0, none⟩ (.string x.1)).setCell ⟨w.heap.size, 1, none⟩ (.string x.2.1)).setCell ⟨w.heap.size, 2, none⟩ (.int .u64 (x.2.2.1.toNat : Int))).setCell ⟨w.heap.size, 3, none⟩ (.bool x.2.2.2) = w9 at *
  have c0 : w9.cell? ⟨w.heap.size, 0, none⟩ = some (.string x.1) := (boxE_cells HQ.out).c0
  have c1 : w9.cell? ⟨w.heap.size, 1, none⟩ = some (.string x.2.1) := (boxE_cells HQ.out).c1
  have c2 : w9.cell? ⟨w.heap.size, 2, none⟩ = some (.int .u64 (x.2.2.1.toNat : Int)) := (boxE_cells HQ.out).c2
  have c3 : w9.cell? ⟨w.heap.size, 3, none⟩ = some (.bool x.2.2.2) := (boxE_cells HQ.out).c3
  exact bodyPost_ret (v := .tuple #[.string k, encV x, .bool ok]) (by simp [results, Tryd.results29, go_sem, c0, c1, c2, c3]) rfl ⟨⟨n, k, x, ok, rfl, HS.out, HT.out⟩, HBQ.out⟩
theorem cGet {p : Nat} {nx : Nat → Nat → Nat} {nodes : List (Nd Et)} {v : Value} (key : ByteArray) (w : World) (h : IsAt w p nx nodes v) (hln : Linked nodes nx) :
    Calls Tryd.prog 27 #[ptr p, .string key] w fun e w' => (∃ n k x ok, e = .returned (.tuple #[encV x, .bool ok]) ∧ Has nodes key n ∧ Tells nodes n k x ok) ∧ Below w.heap.size w w' := by
  have HBA := Lib.hid (show Below w.heap.size w (w.alloc (boxE zeroV)) from (Below.refl _ _).alloc (Nat.le_refl _) _)
  have HG := Lib.hid (heap_alloc_new w (boxE zeroV))
  have H := Lib.hid (h.kept HBA.out)
  have HSZ := Lib.hid (World.size_alloc w (boxE zeroV))
  have HL := Lib.hid hln
  clear h hln
  go_enter Tryd.func27, Tryd.ntmps27
  go_wp2_with fail
  refine (has key _ H.out HL.out).mono ?_
  rintro e w1 ⟨⟨n, rfl, hs⟩, hb⟩
  have HS := Lib.hid hs
  have HB := Lib.hid (below_step HBA.out hb HBA.out.size)
  have H1 := Lib.hid (H.out.kept hb)
  have HG1 := Lib.hid (blk_kept hb HG.out)
  have hz1 : w.heap.size < w1.heap.size := by have := hb.size; rw [HSZ.out] at this; omega
  clear hs hb
  go_wp2_with fail
  refine (told n w1 H1.out (has_num HS.out)).mono ?_
  rintro e w2 ⟨⟨k, x, ok, rfl, ht⟩, hb⟩
  have HT := Lib.hid ht
  have hz2 : w.heap.size < w2.heap.size := Nat.lt_of_lt_of_le hz1 hb.size
  have HB2 := Lib.hid (below_step HB.out hb HB.out.size)
  have HG2 := Lib.hid (blk_kept hb HG1.out)
  have hz2b : w.heap.size ≤ w2.heap.size := by omega
  have HN2 := Lib.hid (heap_alloc_new w2 (boxE zeroV))
  clear ht hb
  have d0 : (w2.alloc (boxE zeroV)).cell? ⟨w2.heap.size, 0, none⟩ = some (.string ⟨#[]⟩) := (boxE_cells HN2.out).c0
  have d1 : (w2.alloc (boxE zeroV)).cell? ⟨w2.heap.size, 1, none⟩ = some (.string ⟨#[]⟩) := (boxE_cells HN2.out).c1
  have d2 : (w2.alloc (boxE zeroV)).cell? ⟨w2.heap.size, 2, none⟩ = some (.int .u64 0) := (boxE_cells HN2.out).c2
  have d3 : (w2.alloc (boxE zeroV)).cell? ⟨w2.heap.size, 3, none⟩ = some (.bool false) := (boxE_cells HN2.out).c3
  have f1 : ∀ j, (w2.alloc (boxE zeroV)).frozen? ⟨w2.heap.size, j, none⟩ = false := fun j => by rw [blk_frozen HN2.out]; simp
  go_upto_region 2 with (fail)
  have HQ := Lib.hid (heap_alloc_new w2 (boxE x))
  have HG3 := Lib.hid (blk_alloc HG2.out (boxE x))
  have HB3 := Lib.hid (Below.alloc HB2.out hz2b (boxE x))
  clear d0 d1 d2 d3 f1
  generalize w2.alloc (boxE x) = w3 at *
  have d0 : w3.cell? ⟨w2.heap.size, 0, none⟩ = some (.string x.1) := (boxE_cells HQ.out).c0
  have d1 : w3.cell? ⟨w2.heap.size, 1, none⟩ = some (.string x.2.1) := (boxE_cells HQ.out).c1
  have d2 : w3.cell? ⟨w2.heap.size, 2, none⟩ = some (.int .u64 (x.2.2.1.toNat : Int)) := (boxE_cells HQ.out).c2
  have d3 : w3.cell? ⟨w2.heap.size, 3, none⟩ = some (.bool x.2.2.2) := (boxE_cells HQ.out).c3
  have f1 : ∀ j, w3.frozen? ⟨w.heap.size, j, none⟩ = false := fun j => by rw [blk_frozen HG3.out]; simp
  have c0 : w3.cell? ⟨w.heap.size, 0, none⟩ = some (.string ⟨#[]⟩) := (boxE_cells HG3.out).c0
  have c1 : w3.cell? ⟨w.heap.size, 1, none⟩ = some (.string ⟨#[]⟩) := (boxE_cells HG3.out).c1
  have c2 : w3.cell? ⟨w.heap.size, 2, none⟩ = some (.int .u64 0) := (boxE_cells HG3.out).c2
  have c3 : w3.cell? ⟨w.heap.size, 3, none⟩ = some (.bool false) := (boxE_cells HG3.out).c3
  go_wp2_with fail
  have HQ4 := Lib.hid (put_boxE HG3.out x)
  have HB4 := Lib.hid (put_belowE HB3.out (Nat.le_refl _) x)
  clear d0 d1 d2 d3 c0 c1 c2 c3 f1
  generalize (((w3.setCell ⟨w.heap.size, 0, none⟩ (.string x.1)).setCell ⟨w.heap.size, 1, none⟩ (.string x.2.1)).setCell ⟨w.heap.size, 2, none⟩ (.int .u64 (x.2.2.1.toNat : Int))).setCell ⟨w.heap.size, 3, none⟩ (.bool x.2.2.2) = w9 at *
  have c0 : w9.cell? ⟨w.heap.size, 0, none⟩ = some (.string x.1) := (boxE_cells HQ4.out).c0
  have c1 : w9.cell? ⟨w.heap.size, 1, none⟩ = some (.string x.2.1) := (boxE_cells HQ4.out).c1
  have c2 : w9.cell? ⟨w.heap.size, 2, none⟩ = some (.int .u64 (x.2.2.1.toNat : Int)) := (boxE_cells HQ4.out).c2
  have c3 : w9.cell? ⟨w.heap.size, 3, none⟩ = some (.bool x.2.2.2) := (boxE_cells HQ4.out).c3
  exact bodyPost_ret (v := .tuple #[encV x, .bool ok]) (by simp [results, Tryd.results27, go_sem, c0, c1, c2, c3]) rfl ⟨⟨n, k, x, ok, rfl, HS.out, HT.out⟩, HB4.out⟩
theorem cLen {p : Nat} {nx : Nat → Nat → Nat} {nodes : List (Nd Et)} {v : Value} (w : World) (h : IsAt w p nx nodes v) :
    Calls Tryd.prog 18 #[ptr p] w fun e w' => e = .returned (.int .i64 nodes.length) ∧ w = w' := by
  have hcr := h.rowCell
  obtain ⟨ao, cap, rfl⟩ := h.slice
  clear h
  go_enter Tryd.func18, Tryd.ntmps18
  go_wp2_with fail
  go_ret
  exact ⟨rfl, rfl⟩
theorem cLenNil (w : World) :
    Calls Tryd.prog 18 #[.pointer none] w fun e w' => e = .returned (.int .i64 0) ∧ w = w' := by
  go_enter Tryd.func18, Tryd.ntmps18
  go_wp2_with fail
  go_ret
  exact ⟨rfl, rfl⟩
end Go.Proofs.Tryd.Skm
