/- Spans: how they lie in memory; Right, Has, their order, whether two touch. -/
import Derived.Test.YtmnfddmjlkkcoaaProg
import Derived.Test.YtmnfddmjlkkcoaaLib
import Derived.Test.YtmnfddmjlkkcoaaSeg
import Derived.Test.YtmnfddmjlkkcoaaSo3
import Derived.Test.YtmnfddmjlkkcoaaGp1
import Derived.Test.YtmnfddmjlkkcoaaGa0
import Derived.StillTailTactics
set_option linter.unusedVariables false
set_option linter.unusedSimpArgs false
namespace Go.Proofs.Try.Gp
open Go.RowKit Go.Cph Go.Cph.Px Go.Cph.Gp Go.Cph.So
open Go.Proofs.Try.Pfx (encA)

abbrev TE : TypeId := 38
abbrev TS : TypeId := 28
abbrev encC (e : Sp) : List Value := [.int .u8 (e.1.1.toNat : Int), .int .u64 (e.1.2.1.toNat : Int), .int .u64 (e.1.2.2.toNat : Int), .int .u8 (e.2.1.toNat : Int), .int .u64 (e.2.2.1.toNat : Int), .int .u64 (e.2.2.2.toNat : Int)]
abbrev encP (e : Sp) : Value := .agg #[.int .u8 (e.1.1.toNat : Int), .int .u64 (e.1.2.1.toNat : Int), .int .u64 (e.1.2.2.toNat : Int), .int .u8 (e.2.1.toNat : Int), .int .u64 (e.2.2.1.toNat : Int), .int .u64 (e.2.2.2.toNat : Int)]
abbrev SpsAt (w : World) (v : Value) (l : List Sp) : Prop := Elems encC 6 w v l
theorem encC_len (e : Sp) : (encC e).length = 6 := rfl
theorem encC_one {l : List Sp} : ∀ u ∈ l.flatMap encC, u.oneCell' = true := by
  intro u hu
  rw [List.mem_flatMap] at hu
  obtain ⟨p, _, hu⟩ := hu
  simp only [encC, List.mem_cons, List.not_mem_nil, or_false] at hu
  rcases hu with rfl | rfl | rfl | rfl | rfl | rfl <;> rfl
theorem encC_one1 (p : Sp) : ∀ u ∈ encC p, u.oneCell' = true := by
  intro u hu
  simp only [encC, List.mem_cons, List.not_mem_nil, or_false] at hu
  rcases hu with rfl | rfl | rfl | rfl | rfl | rfl <;> rfl
theorem infoE : (Try.prog.info? TE).map (fun i => (i.zero, i.size, i.bytes)) = some (some (.agg #[.int .u8 0, .int .u64 0, .int .u64 0, .int .u8 0, .int .u64 0, .int .u64 0]), 6, 48) := by kernel_rfl
/-- A span's cells. -/
structure CellsOf (w : World) (b o : Nat) (p : Sp) : Prop where
  c0 : w.cell? ⟨b, o, none⟩ = some (.int .u8 (p.1.1.toNat : Int))
  c1 : w.cell? ⟨b, o + 1, none⟩ = some (.int .u64 (p.1.2.1.toNat : Int))
  c2 : w.cell? ⟨b, o + 2, none⟩ = some (.int .u64 (p.1.2.2.toNat : Int))
  c3 : w.cell? ⟨b, o + 3, none⟩ = some (.int .u8 (p.2.1.toNat : Int))
  c4 : w.cell? ⟨b, o + 4, none⟩ = some (.int .u64 (p.2.2.1.toNat : Int))
  c5 : w.cell? ⟨b, o + 5, none⟩ = some (.int .u64 (p.2.2.2.toNat : Int))
theorem CellsOf.kept {w w' : World} {b o : Nat} {p : Sp} (h : CellsOf w b o p) (hb : Below w.heap.size w w') : CellsOf w' b o p := ⟨cell_kept hb h.c0, cell_kept hb h.c1, cell_kept hb h.c2, cell_kept hb h.c3, cell_kept hb h.c4, cell_kept hb h.c5⟩
theorem sps_cells {w : World} {v : Value} {l : List Sp} (h : SpsAt w v l) (h0 : 0 < l.length) :
    ∃ b off cap, v = .slice (some ⟨b, off, none⟩) l.length cap ∧ ∀ i (hi : i < l.length), CellsOf w b (off + i * 6) l[i] := by
  obtain ⟨b, off, cap, hv, hc⟩ := elems_shape encC_len h h0
  exact ⟨b, off, cap, hv, fun i hi => ⟨hc i hi 0 (by omega), hc i hi 1 (by omega), hc i hi 2 (by omega), hc i hi 3 (by omega), hc i hi 4 (by omega), hc i hi 5 (by omega)⟩⟩
abbrev boxS (s : Sp) : Obj := .cells #[.int .u8 (s.1.1.toNat : Int), .int .u64 (s.1.2.1.toNat : Int), .int .u64 (s.1.2.2.toNat : Int), .int .u8 (s.2.1.toNat : Int), .int .u64 (s.2.2.1.toNat : Int), .int .u64 (s.2.2.2.toNat : Int)] TE (0, 0)
theorem box_cells {w : World} {b : Nat} {p : Sp} (h : w.heap[b]? = some (boxS p)) : CellsOf w b 0 p :=
  ⟨by rw [blk_cell h]; rfl, by rw [blk_cell h]; rfl, by rw [blk_cell h]; rfl, by rw [blk_cell h]; rfl, by rw [blk_cell h]; rfl, by rw [blk_cell h]; rfl⟩

/-! ### the order -/
def ltS (a b : Sp) : Bool := lessA a.1 b.1
def cmpR (a b : Sp) : Int := if lessA a.1 b.1 then -1 else if lessA b.1 a.1 then 1 else 0
theorem cmpR_neg (a b : Sp) : cmpR a b < 0 ↔ ltS a b = true := by
  unfold cmpR ltS
  cases lessA a.1 b.1 <;> cases lessA b.1 a.1 <;> simp
theorem weakS : Weak ltS := by
  refine ⟨fun {a b} h => ?_, fun {a b c} h1 h2 => ?_⟩
  · unfold ltS at *
    rw [nless]; have := less_rank.1 h; omega
  · unfold ltS at *
    rw [nless] at *; omega
def touchC (a b : Sp) : Bool := a.1.1 == b.1.1 && (!(nextA a.2).2 || !lessA (nextA a.2).1 b.1)
theorem touchC_eq {a b : Sp} (ha : rightS a = true) (hb : rightS b = true) : touchC a b = touchS a b := by
  have h1 := rightS_iff.1 ha
  have h2 := rightS_iff.1 hb
  have hn := next_is a.2
  unfold touchC touchS
  generalize nextA a.2 = nx at *
  cases hf : a.1.1 == b.1.1
  · rw [Bool.false_and, Bool.false_and]
  · rw [beq_iff_eq] at hf
    rw [Bool.true_and, Bool.true_and]
    cases hk : nx.2
    · have := hn.2 h1.2.1 hk b.1 h2.1 (by rw [← hf, h1.2.2.1])
      generalize rank b.1 = rb at *
      generalize rank a.2 = ra at *
      simp; omega
    · have h3 := (hn.1 hk).2.2.2
      rw [Bool.eq_iff_iff]
      simp only [Bool.not_true, Bool.false_or, Bool.not_eq_true', nless, decide_eq_true_eq]
      rw [h3]

set_option maxRecDepth 100000 in
set_option maxHeartbeats 4000000 in
theorem rising_any (a b : Sp) (w : World) : Calls Try.prog 36 #[encP a, encP b] w fun e w' => e = .returned (.int .i64 (cmpR a b)) ∧ Below w.heap.size w w' := by
  have HL := Lib.hid (fun W => Pfx.less a.1 b.1 W)
  have HM := Lib.hid (fun W => Pfx.less b.1 a.1 W)
  have HC := Lib.hid (show cmpR a b = if lessA a.1 b.1 then -1 else if lessA b.1 a.1 then 1 else 0 from rfl)
  have hbx : Below w.heap.size w ((w.alloc (boxS a)).alloc (boxS b)) := ((Below.refl _ _).alloc (Nat.le_refl _) _).alloc (by simp) _
  have HBX := Lib.hid hbx
  have HG0 := Lib.hid (show ((w.alloc (boxS a)).alloc (boxS b)).heap[w.heap.size]? = some (boxS a) from blk_alloc (heap_alloc_new _ _) _)
  have hg1 := heap_alloc_new (w.alloc (boxS a)) (boxS b)
  rw [World.size_alloc] at hg1
  have HG1 := Lib.hid hg1
  generalize cmpR a b = r at *
  generalize lessA a.1 b.1 = x at *
  generalize lessA b.1 a.1 = y at *
  clear hbx hg1
  go_enter Try.func36, Try.ntmps36
  go_wp2_with fail
  refine (HL.out _).mono ?_
  rintro e w1 ⟨rfl, hb⟩
  have HB := Lib.hid (below_step HBX.out hb HBX.out.size)
  have C0 := Lib.hid (box_cells (blk_kept hb HG0.out))
  have C1 := Lib.hid (box_cells (blk_kept hb HG1.out))
  clear hb
  cases x
  · have d0 := C0.out.c0
    have d1 := C0.out.c1
    have d2 := C0.out.c2
    have f0 := C1.out.c0
    have f1 := C1.out.c1
    have f2 := C1.out.c2
    go_wp2_with fail
    refine (HM.out _).mono ?_
    rintro e w2 ⟨rfl, hb⟩
    have HB2 := Lib.hid (below_step HB.out hb HB.out.size)
    clear hb
    cases y
    · go_wp2_with fail
      go_ret
      exact ⟨ret_int HC.out.symm, HB2.out⟩
    · go_wp2_with fail
      go_ret
      exact ⟨ret_int HC.out.symm, HB2.out⟩
  · go_wp2_with fail
    go_ret
    exact ⟨ret_int HC.out.symm, HB.out⟩

set_option maxRecDepth 100000 in
set_option maxHeartbeats 4000000 in
theorem right_sp (s : Sp) (w : World) : Calls Try.prog 20 #[encP s] w fun e w' => e = .returned (.bool (rightS s)) ∧ Below w.heap.size w w' := by
  have H1 := Lib.hid (fun W => Pfx.right s.1 W)
  have H2 := Lib.hid (fun W => Pfx.right s.2 W)
  have H3 := Lib.hid (fun W => Pfx.less s.2 s.1 W)
  have HR := Lib.hid (show rightS s = (rightA s.1 && (rightA s.2 && (s.1.1 == s.2.1 && !lessA s.2 s.1))) from rfl)
  have HBX := Lib.hid (show Below w.heap.size w (w.alloc (boxS s)) from (Below.refl _ _).alloc (Nat.le_refl _) _)
  have HG := Lib.hid (heap_alloc_new w (boxS s))
  have heq := Pfx.u8_eq s.1.1 s.2.1
  generalize rightS s = r at *
  generalize rightA s.1 = x at *
  generalize rightA s.2 = y at *
  generalize (s.1.1 == s.2.1) = q at *
  generalize lessA s.2 s.1 = z at *
  go_enter Try.func20, Try.ntmps20
  go_wp2_with fail
  refine (H1.out _).mono ?_
  rintro e w1 ⟨rfl, hb⟩
  have HB1 := Lib.hid (below_step HBX.out hb HBX.out.size)
  have C1 := Lib.hid (box_cells (blk_kept hb HG.out))
  clear hb
  cases x
  · go_wp2_with fail
    go_ret
    exact ⟨ret_bool HR.out.symm, HB1.out⟩
  · have d3 := C1.out.c3
    have d4 := C1.out.c4
    have d5 := C1.out.c5
    go_wp2_with fail
    clear d3 d4 d5
    refine (H2.out _).mono ?_
    rintro e w2 ⟨rfl, hb⟩
    have HB2 := Lib.hid (below_step HB1.out hb HB1.out.size)
    have C2 := Lib.hid (C1.out.kept hb)
    clear hb
    cases y
    · go_wp2_with fail
      go_ret
      exact ⟨ret_bool HR.out.symm, HB2.out⟩
    · have d0 := C2.out.c0
      have d1 := C2.out.c1
      have d2 := C2.out.c2
      have d3 := C2.out.c3
      have d4 := C2.out.c4
      have d5 := C2.out.c5
      cases q
      · go_wp2_with fail
        go_ret
        exact ⟨ret_bool HR.out.symm, HB2.out⟩
      · go_wp2_with fail
        refine (H3.out _).mono ?_
        rintro e w3 ⟨rfl, hb⟩
        have HB3 := Lib.hid (below_step HB2.out hb HB2.out.size)
        clear hb
        cases z
        · go_wp2_with fail
          go_ret
          exact ⟨ret_bool HR.out.symm, HB3.out⟩
        · go_wp2_with fail
          go_ret
          exact ⟨ret_bool HR.out.symm, HB3.out⟩

set_option maxRecDepth 100000 in
set_option maxHeartbeats 4000000 in
theorem has_any (s : Sp) (a : Ad) (w : World) : Calls Try.prog 24 #[encP s, encA a] w fun e w' => e = .returned (.bool (hasS s a)) ∧ Below w.heap.size w w' := by
  have H1 := Lib.hid (fun W => right_sp s W)
  have H2 := Lib.hid (fun W => Pfx.right a W)
  have H3 := Lib.hid (fun W => Pfx.less a s.1 W)
  have H4 := Lib.hid (fun W => Pfx.less s.2 a W)
  have HR := Lib.hid (show hasS s a = (rightS s && (rightA a && (a.1 == s.1.1 && (!lessA a s.1 && !lessA s.2 a)))) from rfl)
  have HBX := Lib.hid (show Below w.heap.size w ((w.alloc (boxS s)).alloc (boxA a)) from ((Below.refl _ _).alloc (Nat.le_refl _) _).alloc (by simp) _)
  have HG0 := Lib.hid (show ((w.alloc (boxS s)).alloc (boxA a)).heap[w.heap.size]? = some (boxS s) from blk_alloc (heap_alloc_new _ _) _)
  have hg1 := heap_alloc_new (w.alloc (boxS s)) (boxA a)
  rw [World.size_alloc] at hg1
  have HG1 := Lib.hid hg1
  have heq := Pfx.u8_eq a.1 s.1.1
  generalize hasS s a = r at *
  generalize rightS s = x at *
  generalize rightA a = y at *
  generalize (a.1 == s.1.1) = q at *
  generalize lessA a s.1 = z at *
  generalize lessA s.2 a = u at *
  clear hg1
  go_enter Try.func24, Try.ntmps24
  go_wp2_with fail
  refine (H1.out _).mono ?_
  rintro e w1 ⟨rfl, hb⟩
  have HB1 := Lib.hid (below_step HBX.out hb HBX.out.size)
  have C1 := Lib.hid (box_cells (blk_kept hb HG0.out))
  have D1 := Lib.hid (box_ca (blk_kept hb HG1.out))
  clear hb
  cases x
  · go_wp2_with fail
    go_ret
    exact ⟨ret_bool HR.out.symm, HB1.out⟩
  · have f0 := D1.out.c0
    have f1 := D1.out.c1
    have f2 := D1.out.c2
    go_wp2_with fail
    clear f0 f1 f2
    refine (H2.out _).mono ?_
    rintro e w2 ⟨rfl, hb⟩
    have HB2 := Lib.hid (below_step HB1.out hb HB1.out.size)
    have C2 := Lib.hid (C1.out.kept hb)
    have D2 := Lib.hid (D1.out.kept hb)
    clear hb
    cases y
    · go_wp2_with fail
      go_ret
      exact ⟨ret_bool HR.out.symm, HB2.out⟩
    · have d0 := C2.out.c0
      have d1 := C2.out.c1
      have d2 := C2.out.c2
      have f0 := D2.out.c0
      have f1 := D2.out.c1
      have f2 := D2.out.c2
      cases q
      · go_wp2_with fail
        go_ret
        exact ⟨ret_bool HR.out.symm, HB2.out⟩
      · go_wp2_with fail
        clear d0 d1 d2 f0 f1 f2
        refine (H3.out _).mono ?_
        rintro e w3 ⟨rfl, hb⟩
        have HB3 := Lib.hid (below_step HB2.out hb HB2.out.size)
        have C3 := Lib.hid (C2.out.kept hb)
        have D3 := Lib.hid (D2.out.kept hb)
        clear hb
        cases z
        · have d3 := C3.out.c3
          have d4 := C3.out.c4
          have d5 := C3.out.c5
          have f0 := D3.out.c0
          have f1 := D3.out.c1
          have f2 := D3.out.c2
          go_wp2_with fail
          refine (H4.out _).mono ?_
          rintro e w4 ⟨rfl, hb⟩
          have HB4 := Lib.hid (below_step HB3.out hb HB3.out.size)
          clear hb
          cases u
          · go_wp2_with fail
            go_ret
            exact ⟨ret_bool HR.out.symm, HB4.out⟩
          · go_wp2_with fail
            go_ret
            exact ⟨ret_bool HR.out.symm, HB4.out⟩
        · go_wp2_with fail
          go_ret
          exact ⟨ret_bool HR.out.symm, HB3.out⟩

set_option maxRecDepth 100000 in
set_option maxHeartbeats 4000000 in
theorem touches_any (a b : Sp) (w : World) : Calls Try.prog 37 #[encP a, encP b] w fun e w' => e = .returned (.bool (touchC a b)) ∧ Below w.heap.size w w' := by
  obtain ⟨nx, ok⟩ : ∃ r : Ad × Bool, r = nextA a.2 := ⟨_, rfl⟩
  obtain ⟨y, yk⟩ := nx
  have H1 := Lib.hid (fun W => next_any a.2 W)
  rw [← ok] at H1
  have H2 := Lib.hid (fun W => Pfx.less y b.1 W)
  have HR := Lib.hid (show touchC a b = (a.1.1 == b.1.1 && (!yk || !lessA y b.1)) by unfold touchC; rw [← ok])
  have HBX := Lib.hid (show Below w.heap.size w ((w.alloc (boxS a)).alloc (boxS b)) from ((Below.refl _ _).alloc (Nat.le_refl _) _).alloc (by simp) _)
  have HG0 := Lib.hid (show ((w.alloc (boxS a)).alloc (boxS b)).heap[w.heap.size]? = some (boxS a) from blk_alloc (heap_alloc_new _ _) _)
  have hg1 := heap_alloc_new (w.alloc (boxS a)) (boxS b)
  rw [World.size_alloc] at hg1
  have HG1 := Lib.hid hg1
  have heq := Pfx.u8_eq a.1.1 b.1.1
  generalize touchC a b = r at *
  generalize (a.1.1 == b.1.1) = q at *
  generalize lessA y b.1 = z at *
  clear hg1 ok
  cases q
  · go_enter Try.func37, Try.ntmps37
    go_wp2_with fail
    go_ret
    exact ⟨ret_bool HR.out.symm, HBX.out⟩
  · go_enter Try.func37, Try.ntmps37
    go_wp2_with fail
    refine (H1.out _).mono ?_
    rintro e w1 ⟨rfl, hb⟩
    have HB1 := Lib.hid (below_step HBX.out hb HBX.out.size)
    have C1 := Lib.hid (box_cells (blk_kept hb HG1.out))
    have HBN := Lib.hid (HB1.out.alloc HB1.out.size (boxA y))
    have C2 := Lib.hid (C1.out.kept (show Below w1.heap.size w1 (w1.alloc (boxA y)) from (Below.refl _ _).alloc (Nat.le_refl _) _))
    clear hb
    cases yk
    · go_wp2_with fail
      go_ret
      exact ⟨ret_bool HR.out.symm, HBN.out⟩
    · have d0 := C2.out.c0
      have d1 := C2.out.c1
      have d2 := C2.out.c2
      go_wp2_with fail
      refine (H2.out _).mono ?_
      rintro e w2 ⟨rfl, hb⟩
      have HB2 := Lib.hid (below_step HBN.out hb HBN.out.size)
      clear hb
      cases z
      · go_wp2_with fail
        go_ret
        exact ⟨ret_bool HR.out.symm, HB2.out⟩
      · go_wp2_with fail
        go_ret
        exact ⟨ret_bool HR.out.symm, HB2.out⟩

set_option maxRecDepth 100000 in
set_option maxHeartbeats 4000000 in
theorem wrong_any (s : Sp) (w : World) : Calls Try.prog 34 #[encP s] w fun e w' => e = .returned (.bool (!rightS s)) ∧ Below w.heap.size w w' := by
  have H1 := Lib.hid (fun W => right_sp s W)
  have HBX := Lib.hid (show Below w.heap.size w (w.alloc (boxS s)) from (Below.refl _ _).alloc (Nat.le_refl _) _)
  generalize rightS s = r at *
  go_enter Try.func34, Try.ntmps34
  go_wp2_with fail
  refine (H1.out _).mono ?_
  rintro e w1 ⟨rfl, hb⟩
  have HB1 := Lib.hid (below_step HBX.out hb HBX.out.size)
  clear hb
  go_wp2_with fail
  go_ret
  exact ⟨rfl, HB1.out⟩
end Go.Proofs.Try.Gp
