/- The laws of mem: == of entries, Same, Great, unlike. -/
import Derived.Test.YtkikjbcmdlghnaaDoorKw
import Derived.Laws.StructEq
import Derived.Deep.DeepCutAuto
set_option linter.unusedVariables false
set_option linter.unusedSimpArgs false
set_option maxRecDepth 100000
namespace Go.Proofs.Tryd.Skm
open Go.RowKit Go.Cph Go.Cph.Skip Go.Cph.Skm Go.Cph.Ok Go.Proofs.Tryd.Ok
theorem ent_eq (x y : Et) : decide (x = y) = ((x.1.toList == y.1.toList) && ((x.2.1.toList == y.2.1.toList) && (((x.2.2.1.toNat : Int) == (y.2.2.1.toNat : Int)) && (x.2.2.2 == y.2.2.2)))) := by
  obtain ⟨a, b, c, d⟩ := x
  obtain ⟨a', b', c', d'⟩ := y
  rw [Bool.eq_iff_iff]
  simp only [beq_toList, Bool.and_eq_true, decide_eq_true_eq, beq_iff_eq, Prod.mk.injEq]
  refine and_congr_right fun _ => and_congr_right fun _ => and_congr_left fun _ => ?_
  rw [← UInt64.toNat_inj]; omega
theorem run_neqE (x y : Et) (w : World) : (binOp .neq TE (encV x) (encV y)).run Tryd.prog w = .ok (.bool (!decide (x = y))) w := by
  rw [ent_eq]
  cases b0 : (x.1.toList == y.1.toList) <;> cases b1 : (x.2.1.toList == y.2.1.toList) <;> cases b2 : ((x.2.2.1.toNat : Int) == (y.2.2.1.toNat : Int)) <;> cases b3 : (x.2.2.2 == y.2.2.2) <;> go_simp
theorem run_eqlE (x y : Et) (w : World) : (binOp .eql TE (encV x) (encV y)).run Tryd.prog w = .ok (.bool (decide (x = y))) w := by
  rw [ent_eq]
  cases b0 : (x.1.toList == y.1.toList) <;> cases b1 : (x.2.1.toList == y.2.1.toList) <;> cases b2 : ((x.2.2.1.toNat : Int) == (y.2.2.1.toNat : Int)) <;> cases b3 : (x.2.2.2 == y.2.2.2) <;> go_simp

set_option maxRecDepth 100000 in
set_option maxHeartbeats 4000000 in
theorem same_any (va vb : Value) (a b : List Et) (w : World) (ha : EntsAt w va a) (hb : EntsAt w vb b) (hna : a.length ≤ 1000000) (hnb : b.length ≤ 1000000) :
    Calls Tryd.prog 19 #[va, vb] w fun e w' => e = .returned (.bool (decide (a = b))) ∧ Below w.heap.size w w' := by
  obtain ⟨ao, ac, hv⟩ := elems_slice ha
  subst hv
  obtain ⟨bo, bc, hv⟩ := elems_slice hb
  subst hv
  have HA := Lib.hid ha
  have HB := Lib.hid hb
  clear ha hb
  by_cases hl : a.length = b.length
  · have HL := Lib.hid hl
    obtain ⟨n, hn⟩ : ∃ n, n = a.length := ⟨_, rfl⟩
    have hn2 : n = b.length := hn.trans hl
    have HNA := Lib.hid hn
    have HNB := Lib.hid hn2
    rw [← hn] at hna HA ⊢
    rw [← hn2] at HB ⊢
    clear hl hn hn2 hnb
    go_enter Tryd.func19, Tryd.ntmps19
    go_wp2_with fail
    go_loopw [5] (fun vi wr => ∃ i : Nat, i ≤ n ∧ vi = .int .i64 i ∧ a.take i = b.take i ∧ Below w.heap.size w wr) (fun vi _ => n - (intOf vi).toNat)
    case atStart => exact ⟨0, Nat.zero_le _, rfl, rfl, Below.refl _ _⟩
    case round =>
      obtain ⟨i, hi, rfl, heq, hbel⟩ := hrel
      have HE := Lib.hid heq
      have HBE := Lib.hid hbel
      by_cases hlt : i < n
      · have hia : i < a.length := by rw [← HNA.out]; exact hlt
        have hib : i < b.length := by rw [← HNB.out]; exact hlt
        have hA := HA.out
        have hB := HB.out
        rw [HNA.out] at hA
        rw [HNB.out] at hB
        obtain ⟨ab, ao', ac', hve, hcs⟩ := elems_shape encE_len hA (by omega)
        injection hve with h1 _ h3
        subst h1
        obtain ⟨bb, bo', bc', hve, hcs2⟩ := elems_shape encE_len hB (by omega)
        injection hve with h1 _ h4
        subst h1
        obtain ⟨x, hx⟩ : ∃ x, x = a[i] := ⟨_, rfl⟩
        obtain ⟨y, hy⟩ : ∃ x, x = b[i] := ⟨_, rfl⟩
        have HX := Lib.hid (show ∃ (h1 : i < a.length) (h2 : i < b.length), a[i] = x ∧ b[i] = y from ⟨hia, hib, hx.symm, hy.symm⟩)
        have d0 : wr.cell? ⟨ab, ao' + i * 4, none⟩ = some (.string x.1) := by have h := hcs i hia 0 (by omega); rw [← hx] at h; exact (hbel.cell (World.block_lt_of_cell? _ _ h)).trans h
        have f0 : wr.cell? ⟨bb, bo' + i * 4, none⟩ = some (.string y.1) := by have h := hcs2 i hib 0 (by omega); rw [← hy] at h; exact (hbel.cell (World.block_lt_of_cell? _ _ h)).trans h
        have d1 : wr.cell? ⟨ab, ao' + i * 4 + 1, none⟩ = some (.string x.2.1) := by have h := hcs i hia 1 (by omega); rw [← hx] at h; exact (hbel.cell (World.block_lt_of_cell? _ _ h)).trans h
        have f1 : wr.cell? ⟨bb, bo' + i * 4 + 1, none⟩ = some (.string y.2.1) := by have h := hcs2 i hib 1 (by omega); rw [← hy] at h; exact (hbel.cell (World.block_lt_of_cell? _ _ h)).trans h
        have d2 : wr.cell? ⟨ab, ao' + i * 4 + 2, none⟩ = some (.int .u64 (x.2.2.1.toNat : Int)) := by have h := hcs i hia 2 (by omega); rw [← hx] at h; exact (hbel.cell (World.block_lt_of_cell? _ _ h)).trans h
        have f2 : wr.cell? ⟨bb, bo' + i * 4 + 2, none⟩ = some (.int .u64 (y.2.2.1.toNat : Int)) := by have h := hcs2 i hib 2 (by omega); rw [← hy] at h; exact (hbel.cell (World.block_lt_of_cell? _ _ h)).trans h
        have d3 : wr.cell? ⟨ab, ao' + i * 4 + 3, none⟩ = some (.bool x.2.2.2) := by have h := hcs i hia 3 (by omega); rw [← hx] at h; exact (hbel.cell (World.block_lt_of_cell? _ _ h)).trans h
        have f3 : wr.cell? ⟨bb, bo' + i * 4 + 3, none⟩ = some (.bool y.2.2.2) := by have h := hcs2 i hib 3 (by omega); rw [← hy] at h; exact (hbel.cell (World.block_lt_of_cell? _ _ h)).trans h
        have k1 : (0 : Int) ≤ (i : Int) := by omega
        have k2 : (i : Int) < (n : Int) := by omega
        have hne := fun W => run_neqE x y W
        have HNE := Lib.hid hne
        clear hcs hcs2 hA hB heq hbel hx hy hia hib hne h3 h4
        by_cases hxy : x = y
        · have e1 : (!decide (x = y)) = false := by simp [hxy]
          have HEQ := Lib.hid hxy
          have hne := HNE.out
          rw [e1] at hne
          clear hxy e1
          go_wp2_with fail
          go_quiet (fail)
          clear hne d0 f0 d1 f1 d2 f2 d3 f3
          have HB2 := Lib.hid (below_step HBE.out (show Below wr.heap.size wr (wr.drewN nq) from ⟨rfl, rfl, rfl, Nat.le_refl _, fun _ _ => rfl⟩) HBE.out.size)
          generalize wr.drewN nq = wq at *
          go_wp2_with fail
          go_roundw
          case rel =>
            refine ⟨i + 1, hlt, by go_num, ?_, HB2.out⟩
            obtain ⟨h1, h2, h3, h4⟩ := HX.out
            rw [List.take_succ_eq_append_getElem h1, List.take_succ_eq_append_getElem h2, HE.out, h3, h4, HEQ.out]
          case measure => simp [intOf]; omega
        · have e1 : (!decide (x = y)) = true := by simp [hxy]
          have HF := Lib.hid (show decide (a = b) = false by
            rw [decide_eq_false_iff_not]; rintro rfl
            obtain ⟨h1, h2, h3, h4⟩ := HX.out
            exact hxy (h3.symm.trans h4))
          have hne := HNE.out
          rw [e1] at hne
          clear hxy e1
          go_wp2_with fail
          go_quiet (fail)
          clear hne d0 f0 d1 f1 d2 f2 d3 f3
          have HB2 := Lib.hid (below_step HBE.out (show Below wr.heap.size wr (wr.drewN nq) from ⟨rfl, rfl, rfl, Nat.le_refl _, fun _ _ => rfl⟩) HBE.out.size)
          generalize wr.drewN nq = wq at *
          go_wp2_with fail
          go_ret
          exact ⟨ret_bool HF.out.symm, HB2.out⟩
      · have HT := Lib.hid (show decide (a = b) = true by
          rw [decide_eq_true_eq]
          have := heq
          rwa [List.take_of_length_le (by have := HNA.out; omega), List.take_of_length_le (by have := HNB.out; omega)] at this)
        clear heq hbel
        go_wp2_with fail
        go_ret
        exact ⟨ret_bool HT.out.symm, HBE.out⟩
  · have k0 : ((a.length : Int) != (b.length : Int)) = true := by simp; omega
    have HF := Lib.hid (show decide (a = b) = false by rw [decide_eq_false_iff_not]; rintro rfl; exact hl rfl)
    clear hl
    go_enter Tryd.func19, Tryd.ntmps19
    go_wp2_with fail
    go_ret
    exact ⟨ret_bool HF.out.symm, Below.refl _ _⟩

/-! ### puts -/
abbrev Pu := Et × Int
abbrev TU : TypeId := 36
abbrev TUs : TypeId := 26
abbrev encU (p : Pu) : List Value := [.string p.1.1, .string p.1.2.1, .int .u64 (p.1.2.2.1.toNat : Int), .bool p.1.2.2.2, .int .i64 p.2]
abbrev PutsAt (w : World) (v : Value) (l : List Pu) : Prop := Elems encU 5 w v l
theorem encU_len (p : Pu) : (encU p).length = 5 := rfl
theorem encU_one (p : Pu) : ∀ u ∈ encU p, u.oneCell' = true := by
  intro u hu
  simp only [encU, List.mem_cons, List.not_mem_nil, or_false] at hu
  rcases hu with rfl | rfl | rfl | rfl | rfl <;> rfl
theorem infoU : (Tryd.prog.info? TU).map (fun i => (i.zero, i.size, i.bytes)) = some (some (.agg #[.string ByteArray.empty, .string ByteArray.empty, .int .u64 0, .bool false, .int .i64 0]), 5, 56) := by kernel_rfl
structure CellsU (w : World) (b o : Nat) (p : Pu) : Prop where
  c0 : w.cell? ⟨b, o, none⟩ = some (.string p.1.1)
  c1 : w.cell? ⟨b, o + 1, none⟩ = some (.string p.1.2.1)
  c2 : w.cell? ⟨b, o + 2, none⟩ = some (.int .u64 (p.1.2.2.1.toNat : Int))
  c3 : w.cell? ⟨b, o + 3, none⟩ = some (.bool p.1.2.2.2)
  c4 : w.cell? ⟨b, o + 4, none⟩ = some (.int .i64 p.2)
theorem CellsU.kept {w w' : World} {b o : Nat} {p : Pu} (h : CellsU w b o p) (hb : Below w.heap.size w w') : CellsU w' b o p := ⟨Go.Cph.cell_kept hb h.c0, Go.Cph.cell_kept hb h.c1, Go.Cph.cell_kept hb h.c2, Go.Cph.cell_kept hb h.c3, Go.Cph.cell_kept hb h.c4⟩
theorem puts_cells {w : World} {v : Value} {l : List Pu} (h : PutsAt w v l) (h0 : 0 < l.length) :
    ∃ b off cap, v = .slice (some ⟨b, off, none⟩) l.length cap ∧ ∀ i (hi : i < l.length), CellsU w b (off + i * 5) l[i] := by
  obtain ⟨b, off, cap, hv, hc⟩ := elems_shape encU_len h h0
  exact ⟨b, off, cap, hv, fun i hi => ⟨hc i hi 0 (by omega), hc i hi 1 (by omega), hc i hi 2 (by omega), hc i hi 3 (by omega), hc i hi 4 (by omega)⟩⟩
/-- Puts that statements go through. -/
structure Small (l : List Pu) : Prop where
  num : l.length ≤ 100
  each : ∀ p ∈ l, p.1.1.size ≤ 20000 ∧ p.1.2.1.size ≤ 20000
def GreatPost (l : List Pu) (w : World) (e : Ending) (w' : World) : Prop := ∃ r : Bool, e = .returned (.bool r) ∧ (r = false → Small l) ∧ Below w.heap.size w w'
set_option maxHeartbeats 3200000 in
theorem pgreat_any (v : Value) (l : List Pu) (w : World) (h : PutsAt w v l) (hl : l.length ≤ 9223372036854775807) :
    Calls Tryd.prog 9 #[v] w (GreatPost l w) := by
  obtain ⟨ao, cap, rfl⟩ := elems_slice h
  have H := Lib.hid h
  clear h
  by_cases hg : 100 < l.length
  · have k1 : (100 : Int) < (l.length : Int) := by omega
    clear hg
    go_enter Tryd.func9, Tryd.ntmps9
    go_wp2_with fail
    go_ret
    exact ⟨true, rfl, (fun h => by cases h), Below.refl _ _⟩
  · have k1 : ¬ (100 : Int) < (l.length : Int) := by omega
    have HL := Lib.hid (show l.length ≤ 100 by omega)
    clear hg hl
    go_enter Tryd.func9, Tryd.ntmps9
    go_wp2_with fail
    clear k1
    go_loopw [3, 4] (fun vn vi W => ∃ (i n : Nat), i ≤ l.length ∧ vi = .int .i64 i ∧ vn = .int .i64 n ∧ n ≤ 40000 * i ∧ (∀ j (h : j < l.length), j < i → l[j].1.1.size ≤ 20000 ∧ l[j].1.2.1.size ≤ 20000) ∧ Below w.heap.size w W) (fun _ vi _ => l.length - (intOf vi).toNat)
    case atStart => exact ⟨0, 0, Nat.zero_le _, rfl, rfl, Nat.zero_le _, fun j h hj => by omega, Below.refl _ _⟩
    case round =>
      obtain ⟨i, n, hi, rfl, rfl, hnb, hall, hbel⟩ := hrel
      have HALL := Lib.hid hall
      have HBE := Lib.hid hbel
      by_cases hlt : i < l.length
      · obtain ⟨b, off, cap', hve, hcs⟩ := puts_cells (H.out.kept ((Below.refl _ _) : Below w.heap.size w w)) (by omega)
        injection hve with hx1 hx2 hx3
        subst hx1
        clear hx2 hx3
        obtain ⟨p, hp⟩ : ∃ p, p = l[i]'hlt := ⟨_, rfl⟩
        have hcw := hcs i hlt
        rw [← hp] at hcw
        have d0 : wr.cell? ⟨b, off + i * 5, none⟩ = some (.string p.1.1) := (hbel.cell (World.block_lt_of_cell? _ _ hcw.c0)).trans hcw.c0
        have d1 : wr.cell? ⟨b, off + i * 5 + 1, none⟩ = some (.string p.1.2.1) := (hbel.cell (World.block_lt_of_cell? _ _ hcw.c1)).trans hcw.c1
        have HP := Lib.hid hp
        have HNB := Lib.hid hnb
        have q1 : (0 : Int) ≤ (i : Int) := by omega
        have q2 : (i : Int) < (l.length : Int) := by omega
        have q3 : (n : Int) ≤ 4000000 := by have := HL.out; omega
        have q4 : IntKind.i64.wrap ((i : Int) + 1) = (i : Int) + 1 := by rw [IntKind.wrap_i64]; have := HL.out; omega
        by_cases h1 : 20000 < p.1.1.size
        · have j1 : (20000 : Int) < (p.1.1.size : Int) := by omega
          clear hcs hcw hp hnb hall hbel h1
          go_wp2_with fail
          go_ret
          exact ⟨true, rfl, (fun h => by cases h), HBE.out⟩
        · have j1 : ¬ (20000 : Int) < (p.1.1.size : Int) := by omega
          by_cases h2 : 20000 < p.1.2.1.size
          · have j2 : (20000 : Int) < (p.1.2.1.size : Int) := by omega
            clear hcs hcw hp hnb hall hbel h1 h2
            go_wp2_with fail
            go_ret
            exact ⟨true, rfl, (fun h => by cases h), HBE.out⟩
          · have j2 : ¬ (20000 : Int) < (p.1.2.1.size : Int) := by omega
            have HS := Lib.hid (show p.1.1.size ≤ 20000 ∧ p.1.2.1.size ≤ 20000 from by omega)
            have s1 : IntKind.i64.wrap ((n : Int) + (p.1.1.size : Int)) = ((n + p.1.1.size : Nat) : Int) := by rw [IntKind.wrap_i64]; omega
            have s2 : IntKind.i64.wrap (((n + p.1.1.size : Nat) : Int) + (p.1.2.1.size : Int)) = ((n + p.1.1.size + p.1.2.1.size : Nat) : Int) := by rw [IntKind.wrap_i64]; omega
            clear hcs hcw hp hnb hall hbel h1 h2
            go_wp2_with fail
            go_quiet (fail)
            clear s1 s2 d0 d1
            have HB2 := Lib.hid (below_step HBE.out (show Below wr.heap.size wr (wr.drewN nq) from ⟨rfl, rfl, rfl, Nat.le_refl _, fun _ _ => rfl⟩) HBE.out.size)
            generalize wr.drewN nq = wq at *
            go_wp2_with fail
            go_roundw
            case rel =>
              refine ⟨i + 1, n + p.1.1.size + p.1.2.1.size, hlt, by go_num, rfl, by have := HNB.out; have := HS.out; omega, fun j h hj => ?_, HB2.out⟩
              by_cases e : j = i
              · subst e; rw [← HP.out]; exact HS.out
              · exact HALL.out j h (by omega)
            case measure => simp [intOf]; omega
      · have HF := Lib.hid (show Small l from ⟨HL.out, fun p hp => by obtain ⟨j, hj, rfl⟩ := List.getElem_of_mem hp; exact hall j hj (by omega)⟩)
        have hq2 : ¬ (i : Int) < (l.length : Int) := by omega
        clear hnb hall hbel
        by_cases h3 : 20000 < n
        · have j3 : (20000 : Int) < (n : Int) := by omega
          clear h3
          go_wp2_with fail
          go_ret
          exact ⟨_, rfl, fun _ => HF.out, HBE.out⟩
        · have j3 : ¬ (20000 : Int) < (n : Int) := by omega
          clear h3
          go_wp2_with fail
          go_ret
          exact ⟨_, rfl, fun _ => HF.out, HBE.out⟩
/-! ### unlike -/
def bad (p : Pu) : Bool := p.1.2.2.2 && !decide (p.1.2.1.size = 0)
def sameU (p q : Pu) : Bool := decide (q.1.1 = p.1.1) && decide (q.1.2.2.1 = p.1.2.2.1)
def stepU (out : List Pu) (p : Pu) : List Pu := if (bad p || out.any (sameU p)) = true then out else out ++ [p]
def unlikeL (l : List Pu) : List Pu := l.foldl stepU []
theorem unlikeL_take (l : List Pu) {i : Nat} (h : i < l.length) : unlikeL (l.take (i + 1)) = stepU (unlikeL (l.take i)) l[i] := by
  unfold unlikeL
  rw [List.take_succ_eq_append_getElem h, List.foldl_append]; rfl
theorem unlikeL_le (l : List Pu) : (unlikeL l).length ≤ l.length := by
  have h : ∀ i, i ≤ l.length → (unlikeL (l.take i)).length ≤ i := by
    intro i
    induction i with
    | zero => intro _; exact Nat.le_refl _
    | succ i ih =>
      intro hi
      rw [unlikeL_take l hi]
      have := ih (by omega)
      unfold stepU
      split
      · omega
      · rw [List.length_append]; simp; omega
  have := h l.length (Nat.le_refl _)
  rw [List.take_of_length_le (Nat.le_refl _)] at this
  exact this
theorem any_take (p : Pu) (out : List Pu) {k : Nat} (h : k < out.length) : (out.take (k + 1)).any (sameU p) = ((out.take k).any (sameU p) || sameU p out[k]) := by
  rw [List.take_succ_eq_append_getElem h, List.any_append]; simp
end Go.Proofs.Tryd.Skm
