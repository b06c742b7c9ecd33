/- The document's addresses and spans: right, Less, last, Next, back, Right, Has. -/
import Derived.Test.YtmnfddmjlkkcoaaGa1
import Derived.Test.YtmnfddmjlkkcoaaGp3
set_option linter.unusedVariables false
set_option linter.unusedSimpArgs false
namespace Go.Proofs.Try.Gp
open Go.RowKit Go.Cph Go.Cph.Px Go.Cph.Gp Go.Cph.So
open Pfx (encA)
abbrev TEr : TypeId := 48
abbrev TSr : TypeId := 29
abbrev boxAr (a : Ad) : Obj := .cells #[.int .u8 (a.1.toNat : Int), .int .u64 (a.2.1.toNat : Int), .int .u64 (a.2.2.toNat : Int)] 36 (0, 0)
abbrev boxSr (s : Sp) : Obj := .cells #[.int .u8 (s.1.1.toNat : Int), .int .u64 (s.1.2.1.toNat : Int), .int .u64 (s.1.2.2.toNat : Int), .int .u8 (s.2.1.toNat : Int), .int .u64 (s.2.2.1.toNat : Int), .int .u64 (s.2.2.2.toNat : Int)] TEr (0, 0)
theorem box_caR {w : World} {b : Nat} {a : Ad} (h : w.heap[b]? = some (boxAr a)) : CA w b 0 a :=
  ⟨by rw [blk_cell h]; rfl, by rw [blk_cell h]; rfl, by rw [blk_cell h]; rfl⟩
theorem box_cellsR {w : World} {b : Nat} {p : Sp} (h : w.heap[b]? = some (boxSr p)) : CellsOf w b 0 p :=
  ⟨by rw [blk_cell h]; rfl, by rw [blk_cell h]; rfl, by rw [blk_cell h]; rfl, by rw [blk_cell h]; rfl, by rw [blk_cell h]; rfl, by rw [blk_cell h]; rfl⟩
theorem infoR : (Try.prog.info? TEr).map (fun i => (i.zero, i.size, i.bytes)) = some (some (.agg #[.int .u8 0, .int .u64 0, .int .u64 0, .int .u8 0, .int .u64 0, .int .u64 0]), 6, 48) := by kernel_rfl
theorem rbox_n0 {w : World} {b : Nat} {a : Ad} (h : w.heap[b]? = some (boxAr a)) : w.cell? ⟨b, 0, none⟩ = some (.int .u8 (a.1.toNat : Int)) := by rw [blk_cell h]; rfl
theorem rbox_n1 {w : World} {b : Nat} {a : Ad} (h : w.heap[b]? = some (boxAr a)) : w.cell? ⟨b, 1, none⟩ = some (.int .u64 (a.2.1.toNat : Int)) := by rw [blk_cell h]; rfl
theorem rbox_n2 {w : World} {b : Nat} {a : Ad} (h : w.heap[b]? = some (boxAr a)) : w.cell? ⟨b, 2, none⟩ = some (.int .u64 (a.2.2.toNat : Int)) := by rw [blk_cell h]; rfl
theorem rbox_s0 {w : World} {b : Nat} {a : Sp} (h : w.heap[b]? = some (boxSr a)) : w.cell? ⟨b, 0, none⟩ = some (.int .u8 (a.1.1.toNat : Int)) := by rw [blk_cell h]; rfl
theorem rbox_s1 {w : World} {b : Nat} {a : Sp} (h : w.heap[b]? = some (boxSr a)) : w.cell? ⟨b, 1, none⟩ = some (.int .u64 (a.1.2.1.toNat : Int)) := by rw [blk_cell h]; rfl
theorem rbox_s2 {w : World} {b : Nat} {a : Sp} (h : w.heap[b]? = some (boxSr a)) : w.cell? ⟨b, 2, none⟩ = some (.int .u64 (a.1.2.2.toNat : Int)) := by rw [blk_cell h]; rfl
theorem rbox_s3 {w : World} {b : Nat} {a : Sp} (h : w.heap[b]? = some (boxSr a)) : w.cell? ⟨b, 3, none⟩ = some (.int .u8 (a.2.1.toNat : Int)) := by rw [blk_cell h]; rfl
theorem rbox_s4 {w : World} {b : Nat} {a : Sp} (h : w.heap[b]? = some (boxSr a)) : w.cell? ⟨b, 4, none⟩ = some (.int .u64 (a.2.2.1.toNat : Int)) := by rw [blk_cell h]; rfl
theorem rbox_s5 {w : World} {b : Nat} {a : Sp} (h : w.heap[b]? = some (boxSr a)) : w.cell? ⟨b, 5, none⟩ = some (.int .u64 (a.2.2.2.toNat : Int)) := by rw [blk_cell h]; rfl
theorem put_boxR {W : World} {g : Nat} {b : Ad} (h : W.heap[g]? = some (boxAr b)) (a : Ad) : (putA W g 0 a).heap[g]? = some (boxAr a) := blk_set (blk_set (blk_set h 0 _) 1 _) 2 _

set_option maxRecDepth 100000 in
set_option maxHeartbeats 4000000 in
theorem rright (a : Ad) (w : World) : Calls Try.prog 46 #[encA a] w fun e w' => e = .returned (.bool (rightA a)) ∧ Below w.heap.size w w' := by
  obtain ⟨f, hi, lo⟩ := a
  have HB := Lib.hid (show Below w.heap.size w (w.alloc (boxAr (f, hi, lo))) from (Below.refl _ _).alloc (Nat.le_refl _) _)
  have h6 : ((f.toNat : Int) == 6) = (f == 6) := Pfx.u8_eq f 6
  have h4 : ((f.toNat : Int) == 4) = (f == 4) := Pfx.u8_eq f 4
  have hh : ((hi.toNat : Int) == 0) = (hi == 0) := Pfx.u64_eq hi 0
  have HV := Lib.hid (show rightA (f, hi, lo) = (f == 6 || (f == 4 && (hi == 0 && decide (lo.toNat < 4294967296)))) by
    unfold rightA; simp only; rw [show decide (lo.toNat ≤ 4294967295) = decide (lo.toNat < 4294967296) from decide_eq_decide.2 Nat.lt_succ_iff.symm])
  generalize rightA (f, hi, lo) = r at *
  generalize (f == 6) = x at *
  generalize (f == 4) = y at *
  generalize (hi == 0) = z at *
  have hl : decide ((lo.toNat : Int) < 4294967296) = decide (lo.toNat < 4294967296) := decide_eq_decide.2 (by omega)
  generalize decide (lo.toNat < 4294967296) = u at *
  cases x
  · cases y
    · go_enter Try.func46, Try.ntmps46
      go_wp2_with fail
      go_ret
      exact ⟨ret_bool HV.out.symm, HB.out⟩
    · cases z
      · go_enter Try.func46, Try.ntmps46
        go_wp2_with fail
        go_ret
        exact ⟨ret_bool HV.out.symm, HB.out⟩
      · cases u
        · go_enter Try.func46, Try.ntmps46
          go_wp2_with fail
          go_ret
          exact ⟨ret_bool HV.out.symm, HB.out⟩
        · go_enter Try.func46, Try.ntmps46
          go_wp2_with fail
          go_ret
          exact ⟨ret_bool HV.out.symm, HB.out⟩
  · go_enter Try.func46, Try.ntmps46
    go_wp2_with fail
    go_ret
    exact ⟨ret_bool HV.out.symm, HB.out⟩
theorem less_fam {f g : UInt8} (x y u v : UInt64) (h : f ≠ g) : lessA (f, x, y) (g, u, v) = decide (f.toNat < g.toNat) := by
  rw [Bool.eq_iff_iff, decide_eq_true_eq]; simp [lessA, h]
theorem less_hi {f : UInt8} {x u : UInt64} (y v : UInt64) (h : x ≠ u) : lessA (f, x, y) (f, u, v) = decide (x.toNat < u.toNat) := by
  rw [Bool.eq_iff_iff, decide_eq_true_eq]; simp [lessA, h]
theorem less_lo {f : UInt8} {x : UInt64} (y v : UInt64) : lessA (f, x, y) (f, x, v) = decide (y.toNat < v.toNat) := by
  rw [Bool.eq_iff_iff, decide_eq_true_eq]; simp [lessA]
theorem neq_of {x y : Int} {b : Bool} (h : (x == y) = b) : (x != y) = !b := by simp [bne, h]

set_option maxRecDepth 100000 in
set_option maxHeartbeats 4000000 in
theorem rless (a b : Ad) (w : World) : Calls Try.prog 45 #[encA a, encA b] w fun e w' => e = .returned (.bool (lessA a b)) ∧ Below w.heap.size w w' := by
  obtain ⟨f, x, y⟩ := a
  obtain ⟨g, u, v⟩ := b
  have HB := Lib.hid (show Below w.heap.size w ((w.alloc (boxAr (f, x, y))).alloc (boxAr (g, u, v))) from ((Below.refl _ _).alloc (Nat.le_refl _) _).alloc (by simp) _)
  by_cases hf : f = g
  · subst hf
    have z1 := neq_of (Pfx.u8_eq f f)
    rw [show (f == f) = true by simp] at z1
    rcases Nat.lt_trichotomy x.toNat u.toNat with hx | hx | hx
    · have HV := Lib.hid ((less_hi (f := f) y v (show x ≠ u from fun e => by rw [e] at hx; exact absurd hx (Nat.lt_irrefl _))).trans (show decide (x.toNat < u.toNat) = true from decide_eq_true hx))
      have hi : (x.toNat : Int) < (u.toNat : Int) := by omega
      go_enter Try.func45, Try.ntmps45
      go_wp2_with fail
      go_ret
      exact ⟨ret_bool HV.out.symm, HB.out⟩
    · obtain rfl : x = u := UInt64.toNat_inj.1 hx
      have HV := Lib.hid (less_lo (f := f) (x := x) y v)
      have hn : ¬ (x.toNat : Int) < (x.toNat : Int) := by omega
      clear hx
      go_enter Try.func45, Try.ntmps45
      go_wp2_with fail
      go_ret
      exact ⟨ret_bool HV.out.symm, HB.out⟩
    · have hne : x ≠ u := fun e => by rw [e] at hx; exact absurd hx (Nat.lt_irrefl _)
      have HV := Lib.hid ((less_hi (f := f) y v hne).trans (show decide (x.toNat < u.toNat) = false from decide_eq_false (by omega)))
      have hn : ¬ (x.toNat : Int) < (u.toNat : Int) := by omega
      have hn2 : ¬ x.toNat < u.toNat := by omega
      have z := Pfx.u64_eq x u
      rw [show (x == u) = false by simpa using hne] at z
      clear hx hne
      go_enter Try.func45, Try.ntmps45
      go_wp2_with fail
      go_ret
      exact ⟨ret_bool HV.out.symm, HB.out⟩
  · have HV := Lib.hid (less_fam x y u v hf)
    have z := neq_of (Pfx.u8_eq f g)
    rw [show (f == g) = false by simpa using hf] at z
    simp only [Bool.not_false] at z
    clear hf
    go_enter Try.func45, Try.ntmps45
    go_wp2_with fail
    go_ret
    exact ⟨ret_bool HV.out.symm, HB.out⟩
set_option maxRecDepth 100000 in
set_option maxHeartbeats 4000000 in
theorem rright_sp (s : Sp) (w : World) : Calls Try.prog 23 #[encP s] w fun e w' => e = .returned (.bool (rightS s)) ∧ Below w.heap.size w w' := by
  have H1 := Lib.hid (fun W => rright s.1 W)
  have H2 := Lib.hid (fun W => rright s.2 W)
  have H3 := Lib.hid (fun W => rless s.2 s.1 W)
  have HR := Lib.hid (show rightS s = (rightA s.1 && (rightA s.2 && (s.1.1 == s.2.1 && !lessA s.2 s.1))) from rfl)
  have HBX := Lib.hid (show Below w.heap.size w (w.alloc (boxSr s)) from (Below.refl _ _).alloc (Nat.le_refl _) _)
  have HG := Lib.hid (heap_alloc_new w (boxSr s))
  have heq := Pfx.u8_eq s.1.1 s.2.1
  generalize rightS s = r at *
  generalize rightA s.1 = x at *
  generalize rightA s.2 = y at *
  generalize (s.1.1 == s.2.1) = q at *
  generalize lessA s.2 s.1 = z at *
  go_enter Try.func23, Try.ntmps23
  go_wp2_with fail
  refine (H1.out _).mono ?_
  rintro e w1 ⟨rfl, hb⟩
  have HB1 := Lib.hid (below_step HBX.out hb HBX.out.size)
  have C1 := Lib.hid (box_cellsR (blk_kept hb HG.out))
  clear hb
  cases x
  · go_wp2_with fail
    go_ret
    exact ⟨ret_bool HR.out.symm, HB1.out⟩
  · have d3 := C1.out.c3
    have d4 := C1.out.c4
    have d5 := C1.out.c5
    go_wp2_with fail
    clear d3 d4 d5
    refine (H2.out _).mono ?_
    rintro e w2 ⟨rfl, hb⟩
    have HB2 := Lib.hid (below_step HB1.out hb HB1.out.size)
    have C2 := Lib.hid (C1.out.kept hb)
    clear hb
    cases y
    · go_wp2_with fail
      go_ret
      exact ⟨ret_bool HR.out.symm, HB2.out⟩
    · have d0 := C2.out.c0
      have d1 := C2.out.c1
      have d2 := C2.out.c2
      have d3 := C2.out.c3
      have d4 := C2.out.c4
      have d5 := C2.out.c5
      cases q
      · go_wp2_with fail
        go_ret
        exact ⟨ret_bool HR.out.symm, HB2.out⟩
      · go_wp2_with fail
        refine (H3.out _).mono ?_
        rintro e w3 ⟨rfl, hb⟩
        have HB3 := Lib.hid (below_step HB2.out hb HB2.out.size)
        clear hb
        cases z
        · go_wp2_with fail
          go_ret
          exact ⟨ret_bool HR.out.symm, HB3.out⟩
        · go_wp2_with fail
          go_ret
          exact ⟨ret_bool HR.out.symm, HB3.out⟩

set_option maxRecDepth 100000 in
set_option maxHeartbeats 4000000 in
theorem rhas_any (s : Sp) (a : Ad) (w : World) : Calls Try.prog 25 #[encP s, encA a] w fun e w' => e = .returned (.bool (hasS s a)) ∧ Below w.heap.size w w' := by
  have H1 := Lib.hid (fun W => rright_sp s W)
  have H2 := Lib.hid (fun W => rright a W)
  have H3 := Lib.hid (fun W => rless a s.1 W)
  have H4 := Lib.hid (fun W => rless s.2 a W)
  have HR := Lib.hid (show hasS s a = (rightS s && (rightA a && (a.1 == s.1.1 && (!lessA a s.1 && !lessA s.2 a)))) from rfl)
  have HBX := Lib.hid (show Below w.heap.size w ((w.alloc (boxSr s)).alloc (boxAr a)) from ((Below.refl _ _).alloc (Nat.le_refl _) _).alloc (by simp) _)
  have HG0 := Lib.hid (show ((w.alloc (boxSr s)).alloc (boxAr a)).heap[w.heap.size]? = some (boxSr s) from blk_alloc (heap_alloc_new _ _) _)
  have hg1 := heap_alloc_new (w.alloc (boxSr s)) (boxAr a)
  rw [World.size_alloc] at hg1
  have HG1 := Lib.hid hg1
  have heq := Pfx.u8_eq a.1 s.1.1
  generalize hasS s a = r at *
  generalize rightS s = x at *
  generalize rightA a = y at *
  generalize (a.1 == s.1.1) = q at *
  generalize lessA a s.1 = z at *
  generalize lessA s.2 a = u at *
  clear hg1
  go_enter Try.func25, Try.ntmps25
  go_wp2_with fail
  refine (H1.out _).mono ?_
  rintro e w1 ⟨rfl, hb⟩
  have HB1 := Lib.hid (below_step HBX.out hb HBX.out.size)
  have C1 := Lib.hid (box_cellsR (blk_kept hb HG0.out))
  have D1 := Lib.hid (box_caR (blk_kept hb HG1.out))
  clear hb
  cases x
  · go_wp2_with fail
    go_ret
    exact ⟨ret_bool HR.out.symm, HB1.out⟩
  · have f0 := D1.out.c0
    have f1 := D1.out.c1
    have f2 := D1.out.c2
    go_wp2_with fail
    clear f0 f1 f2
    refine (H2.out _).mono ?_
    rintro e w2 ⟨rfl, hb⟩
    have HB2 := Lib.hid (below_step HB1.out hb HB1.out.size)
    have C2 := Lib.hid (C1.out.kept hb)
    have D2 := Lib.hid (D1.out.kept hb)
    clear hb
    cases y
    · go_wp2_with fail
      go_ret
      exact ⟨ret_bool HR.out.symm, HB2.out⟩
    · have d0 := C2.out.c0
      have d1 := C2.out.c1
      have d2 := C2.out.c2
      have f0 := D2.out.c0
      have f1 := D2.out.c1
      have f2 := D2.out.c2
      cases q
      · go_wp2_with fail
        go_ret
        exact ⟨ret_bool HR.out.symm, HB2.out⟩
      · go_wp2_with fail
        clear d0 d1 d2 f0 f1 f2
        refine (H3.out _).mono ?_
        rintro e w3 ⟨rfl, hb⟩
        have HB3 := Lib.hid (below_step HB2.out hb HB2.out.size)
        have C3 := Lib.hid (C2.out.kept hb)
        have D3 := Lib.hid (D2.out.kept hb)
        clear hb
        cases z
        · have d3 := C3.out.c3
          have d4 := C3.out.c4
          have d5 := C3.out.c5
          have f0 := D3.out.c0
          have f1 := D3.out.c1
          have f2 := D3.out.c2
          go_wp2_with fail
          refine (H4.out _).mono ?_
          rintro e w4 ⟨rfl, hb⟩
          have HB4 := Lib.hid (below_step HB3.out hb HB3.out.size)
          clear hb
          cases u
          · go_wp2_with fail
            go_ret
            exact ⟨ret_bool HR.out.symm, HB4.out⟩
          · go_wp2_with fail
            go_ret
            exact ⟨ret_bool HR.out.symm, HB4.out⟩
        · go_wp2_with fail
          go_ret
          exact ⟨ret_bool HR.out.symm, HB3.out⟩


set_option maxRecDepth 100000 in
set_option maxHeartbeats 4000000 in
theorem rlast (a : Ad) (w : World) : Calls Try.prog 42 #[encA a] w fun e w' => e = .returned (.bool (lastD a)) ∧ Below w.heap.size w w' := by
  obtain ⟨f, hi, lo⟩ := a
  have HB := Lib.hid (show Below w.heap.size w (w.alloc (boxAr (f, hi, lo))) from (Below.refl _ _).alloc (Nat.le_refl _) _)
  have h4 : ((f.toNat : Int) == 4) = (f == 4) := Pfx.u8_eq f 4
  have hl : ((lo.toNat : Int) == 4294967295) = (lo == 4294967295) := Pfx.u64_eq lo 4294967295
  have hm : ((lo.toNat : Int) == 18446744073709551615) = (lo == MX) := Pfx.u64_eq lo MX
  have hh : ((hi.toNat : Int) == 18446744073709551615) = (hi == MX) := Pfx.u64_eq hi MX
  have HV := Lib.hid (show lastD (f, hi, lo) = if f == 4 then lo == 4294967295 else (hi == MX && lo == MX) from rfl)
  generalize lastD (f, hi, lo) = r at *
  generalize (f == 4) = x at *
  generalize (lo == 4294967295) = y at *
  generalize (lo == MX) = z at *
  generalize (hi == MX) = u at *
  cases x
  · cases u
    · go_enter Try.func42, Try.ntmps42
      go_wp2_with fail
      go_ret
      exact ⟨ret_bool HV.out.symm, HB.out⟩
    · go_enter Try.func42, Try.ntmps42
      go_wp2_with fail
      go_ret
      exact ⟨ret_bool HV.out.symm, HB.out⟩
  · go_enter Try.func42, Try.ntmps42
    go_wp2_with fail
    go_ret
    exact ⟨ret_bool HV.out.symm, HB.out⟩
theorem add1 (x : UInt64) : IntKind.u64.wrap ((x.toNat : Int) + 1) = ((x + 1).toNat : Int) := by
  have e : (x.toNat : Int) + 1 = ((x.toNat + 1 : Nat) : Int) := by omega
  rw [e, u64_wrap_nat, UInt64.toNat_add]; rfl
theorem add1m (x : UInt64) : ((x.toNat : Int) + 1) % 18446744073709551616 = ((x + 1).toNat : Int) := by
  rw [← add1, IntKind.wrap_u64]
theorem sub1 (x : UInt64) : IntKind.u64.wrap ((x.toNat : Int) - 1) = ((x - 1).toNat : Int) := by
  rw [IntKind.wrap_u64, UInt64.toNat_sub]
  have e : (1 : UInt64).toNat = 1 := rfl
  have := x.toNat_lt
  rw [e]; omega

set_option maxRecDepth 100000 in
set_option maxHeartbeats 4000000 in
theorem rnext (a : Ad) (w : World) : Calls Try.prog 43 #[encA a] w fun e w' => e = .returned (encA (nextD a)) ∧ Below w.heap.size w w' := by
  obtain ⟨f, hi, lo⟩ := a
  have HBX := Lib.hid (show Below w.heap.size w ((w.alloc (boxAr (f, hi, lo))).alloc (boxAr zeroA)) from ((Below.refl _ _).alloc (Nat.le_refl _) _).alloc (by simp) _)
  have hg1 := heap_alloc_new (w.alloc (boxAr (f, hi, lo))) (boxAr zeroA)
  rw [World.size_alloc] at hg1
  have HG1 := Lib.hid hg1
  clear hg1
  have hc : ((lo.toNat : Int) == 18446744073709551615) = (lo == MX) := Pfx.u64_eq lo MX
  have k1 := add1 hi
  have k2 := add1 lo
  have HV0 := Lib.hid (show nextD (f, hi, lo) = if lo == MX then ((f, hi + 1, 0) : Ad) else ((f, hi, lo + 1) : Ad) from rfl)
  generalize nextD (f, hi, lo) = r at *
  generalize hi + 1 = h1 at *
  generalize lo + 1 = l1 at *
  generalize hx : (lo == MX) = x at *
  cases x
  · have HV := Lib.hid (show r = ((f, hi, l1) : Ad) from HV0.out)
    clear HV0 hx
    go_enter Try.func43, Try.ntmps43
    go_wp2_with fail
    have hq := heap_alloc_new (w.alloc (boxAr (f, hi, lo))) (.cells #[.int .u8 (f.toNat : Int), .int .u64 (hi.toNat : Int), .int .u64 (l1.toNat : Int)] 36)
    rw [World.size_alloc] at hq
    have HBQ := Lib.hid (show Below w.heap.size w ((w.alloc (boxAr (f, hi, lo))).alloc (.cells #[.int .u8 (f.toNat : Int), .int .u64 (hi.toNat : Int), .int .u64 (l1.toNat : Int)] 36)) from ((Below.refl _ _).alloc (Nat.le_refl _) _).alloc (by simp) _)
    generalize ((w.alloc (boxAr (f, hi, lo))).alloc (.cells #[.int .u8 (f.toNat : Int), .int .u64 (hi.toNat : Int), .int .u64 (l1.toNat : Int)] 36)) = w9 at *
    have c0 : w9.cell? ⟨w.heap.size + 1, 0, none⟩ = some (.int .u8 (f.toNat : Int)) := by rw [blk_cell hq]; rfl
    have c1 : w9.cell? ⟨w.heap.size + 1, 1, none⟩ = some (.int .u64 (hi.toNat : Int)) := by rw [blk_cell hq]; rfl
    have c2 : w9.cell? ⟨w.heap.size + 1, 2, none⟩ = some (.int .u64 (l1.toNat : Int)) := by rw [blk_cell hq]; rfl
    exact bodyPost_ret (v := .agg #[.int .u8 (f.toNat : Int), .int .u64 (hi.toNat : Int), .int .u64 (l1.toNat : Int)]) (by simp [results, Try.results43, go_sem, c0, c1, c2]) rfl ⟨by first | (rw [HV.out]; done) | (rw [HV.out]; rfl), HBQ.out⟩
  · have HV := Lib.hid (show r = ((f, h1, 0) : Ad) from HV0.out)
    clear HV0 hx
    go_enter Try.func43, Try.ntmps43
    go_wp2_with fail
    have hq := heap_alloc_new (w.alloc (boxAr (f, hi, lo))) (.cells #[.int .u8 (f.toNat : Int), .int .u64 (h1.toNat : Int), .int .u64 0] 36)
    rw [World.size_alloc] at hq
    have HBQ := Lib.hid (show Below w.heap.size w ((w.alloc (boxAr (f, hi, lo))).alloc (.cells #[.int .u8 (f.toNat : Int), .int .u64 (h1.toNat : Int), .int .u64 0] 36)) from ((Below.refl _ _).alloc (Nat.le_refl _) _).alloc (by simp) _)
    generalize ((w.alloc (boxAr (f, hi, lo))).alloc (.cells #[.int .u8 (f.toNat : Int), .int .u64 (h1.toNat : Int), .int .u64 0] 36)) = w9 at *
    have c0 : w9.cell? ⟨w.heap.size + 1, 0, none⟩ = some (.int .u8 (f.toNat : Int)) := by rw [blk_cell hq]; rfl
    have c1 : w9.cell? ⟨w.heap.size + 1, 1, none⟩ = some (.int .u64 (h1.toNat : Int)) := by rw [blk_cell hq]; rfl
    have c2 : w9.cell? ⟨w.heap.size + 1, 2, none⟩ = some (.int .u64 0) := by rw [blk_cell hq]; rfl
    exact bodyPost_ret (v := .agg #[.int .u8 (f.toNat : Int), .int .u64 (h1.toNat : Int), .int .u64 0]) (by simp [results, Try.results43, go_sem, c0, c1, c2]) rfl ⟨by first | (rw [HV.out]; done) | (rw [HV.out]; rfl), HBQ.out⟩

set_option maxRecDepth 100000 in
set_option maxHeartbeats 4000000 in
theorem rback (a : Ad) (w : World) : Calls Try.prog 54 #[encA a] w fun e w' => e = .returned (encA (backD a)) ∧ Below w.heap.size w w' := by
  obtain ⟨f, hi, lo⟩ := a
  have HBX := Lib.hid (show Below w.heap.size w ((w.alloc (boxAr (f, hi, lo))).alloc (boxAr zeroA)) from ((Below.refl _ _).alloc (Nat.le_refl _) _).alloc (by simp) _)
  have hg1 := heap_alloc_new (w.alloc (boxAr (f, hi, lo))) (boxAr zeroA)
  rw [World.size_alloc] at hg1
  have HG1 := Lib.hid hg1
  clear hg1
  have hc : ((lo.toNat : Int) == 0) = (lo == 0) := Pfx.u64_eq lo 0
  have k1 := sub1 hi
  have k2 := sub1 lo
  have HV0 := Lib.hid (show backD (f, hi, lo) = if lo == 0 then ((f, hi - 1, MX) : Ad) else ((f, hi, lo - 1) : Ad) from rfl)
  generalize backD (f, hi, lo) = r at *
  generalize hi - 1 = h1 at *
  generalize lo - 1 = l1 at *
  generalize hx : (lo == 0) = x at *
  cases x
  · have HV := Lib.hid (show r = ((f, hi, l1) : Ad) from HV0.out)
    clear HV0 hx
    go_enter Try.func54, Try.ntmps54
    go_wp2_with fail
    have hq := heap_alloc_new (w.alloc (boxAr (f, hi, lo))) (.cells #[.int .u8 (f.toNat : Int), .int .u64 (hi.toNat : Int), .int .u64 (l1.toNat : Int)] 36)
    rw [World.size_alloc] at hq
    have HBQ := Lib.hid (show Below w.heap.size w ((w.alloc (boxAr (f, hi, lo))).alloc (.cells #[.int .u8 (f.toNat : Int), .int .u64 (hi.toNat : Int), .int .u64 (l1.toNat : Int)] 36)) from ((Below.refl _ _).alloc (Nat.le_refl _) _).alloc (by simp) _)
    generalize ((w.alloc (boxAr (f, hi, lo))).alloc (.cells #[.int .u8 (f.toNat : Int), .int .u64 (hi.toNat : Int), .int .u64 (l1.toNat : Int)] 36)) = w9 at *
    have c0 : w9.cell? ⟨w.heap.size + 1, 0, none⟩ = some (.int .u8 (f.toNat : Int)) := by rw [blk_cell hq]; rfl
    have c1 : w9.cell? ⟨w.heap.size + 1, 1, none⟩ = some (.int .u64 (hi.toNat : Int)) := by rw [blk_cell hq]; rfl
    have c2 : w9.cell? ⟨w.heap.size + 1, 2, none⟩ = some (.int .u64 (l1.toNat : Int)) := by rw [blk_cell hq]; rfl
    exact bodyPost_ret (v := .agg #[.int .u8 (f.toNat : Int), .int .u64 (hi.toNat : Int), .int .u64 (l1.toNat : Int)]) (by simp [results, Try.results54, go_sem, c0, c1, c2]) rfl ⟨by first | (rw [HV.out]; done) | (rw [HV.out]; rfl), HBQ.out⟩
  · have HV := Lib.hid (show r = ((f, h1, MX) : Ad) from HV0.out)
    clear HV0 hx
    go_enter Try.func54, Try.ntmps54
    go_wp2_with fail
    have hq := heap_alloc_new (w.alloc (boxAr (f, hi, lo))) (.cells #[.int .u8 (f.toNat : Int), .int .u64 (h1.toNat : Int), .int .u64 18446744073709551615] 36)
    rw [World.size_alloc] at hq
    have HBQ := Lib.hid (show Below w.heap.size w ((w.alloc (boxAr (f, hi, lo))).alloc (.cells #[.int .u8 (f.toNat : Int), .int .u64 (h1.toNat : Int), .int .u64 18446744073709551615] 36)) from ((Below.refl _ _).alloc (Nat.le_refl _) _).alloc (by simp) _)
    generalize ((w.alloc (boxAr (f, hi, lo))).alloc (.cells #[.int .u8 (f.toNat : Int), .int .u64 (h1.toNat : Int), .int .u64 18446744073709551615] 36)) = w9 at *
    have c0 : w9.cell? ⟨w.heap.size + 1, 0, none⟩ = some (.int .u8 (f.toNat : Int)) := by rw [blk_cell hq]; rfl
    have c1 : w9.cell? ⟨w.heap.size + 1, 1, none⟩ = some (.int .u64 (h1.toNat : Int)) := by rw [blk_cell hq]; rfl
    have c2 : w9.cell? ⟨w.heap.size + 1, 2, none⟩ = some (.int .u64 18446744073709551615) := by rw [blk_cell hq]; rfl
    exact bodyPost_ret (v := .agg #[.int .u8 (f.toNat : Int), .int .u64 (h1.toNat : Int), .int .u64 18446744073709551615]) (by simp [results, Try.results54, go_sem, c0, c1, c2]) rfl ⟨by first | (rw [HV.out]; done) | (rw [HV.out]; rfl), HBQ.out⟩
end Go.Proofs.Try.Gp
