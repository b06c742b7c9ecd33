/- The document's order, its address of a program's one, its addresses held against each other; its FromBytes of any family. -/
import Derived.Test.YtpikpfbpoihioaaDoorAa3
import Derived.Test.YtpikpfbpoihioaaDoorAz2
set_option linter.unusedVariables false
set_option linter.unusedSimpArgs false
set_option maxRecDepth 100000
namespace Go.Proofs.Tryd.Tx
open Go.RowKit Go.Cph Go.Cph.Tx
open Go.Cph.Ok (ofBs)
open Go.Cph.Px (Ad rightA bytesA zeroA lessA fromB fromOk)
open Go.Proofs.Tryd.Pfx
open Go.Proofs.Tryd.Rows (boxZR below_set3 rfrom)
theorem less_fam {f g : UInt8} (x y u v : UInt64) (h : f ≠ g) : lessA (f, x, y) (g, u, v) = decide (f.toNat < g.toNat) := by
  rw [Bool.eq_iff_iff, decide_eq_true_eq]; simp [lessA, h]
theorem less_hi {f : UInt8} {x u : UInt64} (y v : UInt64) (h : x ≠ u) : lessA (f, x, y) (f, u, v) = decide (x.toNat < u.toNat) := by
  rw [Bool.eq_iff_iff, decide_eq_true_eq]; simp [lessA, h]
theorem less_lo {f : UInt8} {x : UInt64} (y v : UInt64) : lessA (f, x, y) (f, x, v) = decide (y.toNat < v.toNat) := by
  rw [Bool.eq_iff_iff, decide_eq_true_eq]; simp [lessA]
theorem neq_of {x y : Int} {b : Bool} (h : (x == y) = b) : (x != y) = !b := by simp [bne, h]
set_option maxHeartbeats 1000000 in
theorem rless (a b : Ad) (w : World) : Calls Tryd.prog 23 #[encA a, encA b] w fun e w' => e = .returned (.bool (lessA a b)) ∧ Below w.heap.size w w' := by
  obtain ⟨f, x, y⟩ := a
  obtain ⟨g, u, v⟩ := b
  have hb : Below w.heap.size w ((w.alloc (.cells #[.int .u8 (f.toNat : Int), .int .u64 (x.toNat : Int), .int .u64 (y.toNat : Int)] 39)).alloc (.cells #[.int .u8 (g.toNat : Int), .int .u64 (u.toNat : Int), .int .u64 (v.toNat : Int)] 39)) := ((Below.refl _ _).alloc (Nat.le_refl _) _).alloc (by simp) _
  have HB := Lib.hid hb
  clear hb
  by_cases hf : f = g
  · subst hf
    by_cases hx : x = u
    · subst hx
      have HV := Lib.hid (less_lo (f := f) (x := x) y v)
      go_enter Tryd.func23, Tryd.ntmps23
      go_wp2_with fail
      go_ret
      exact ⟨ret_bool HV.out.symm, HB.out⟩
    · have HV := Lib.hid (less_hi (f := f) y v hx)
      have z := neq_of (u64_eq x u)
      rw [show (x == u) = false by simpa using hx] at z
      simp only [Bool.not_false] at z
      clear hx
      go_enter Tryd.func23, Tryd.ntmps23
      go_wp2_with fail
      go_ret
      exact ⟨ret_bool HV.out.symm, HB.out⟩
  · have HV := Lib.hid (less_fam x y u v hf)
    have z := neq_of (u8_eq f g)
    rw [show (f == g) = false by simpa using hf] at z
    simp only [Bool.not_false] at z
    clear hf
    go_enter Tryd.func23, Tryd.ntmps23
    go_wp2_with fail
    go_ret
    exact ⟨ret_bool HV.out.symm, HB.out⟩
set_option maxHeartbeats 4000000 in
theorem given19 (a : Ad) (w : World) : Calls Tryd.prog 20 #[encA a] w fun e w' => e = .returned (encA a) ∧ Below w.heap.size w w' := by
  have hb0 : Below w.heap.size w ((w.alloc (.cells #[.int .u8 (a.1.toNat : Int), .int .u64 (a.2.1.toNat : Int), .int .u64 (a.2.2.toNat : Int)] 24)).alloc (.cells #[.int .u8 0, .int .u64 0, .int .u64 0] 39)) := (((Below.refl _ _).alloc (Nat.le_refl _) _).alloc (by simp) _)
  have h1 : ((w.alloc (.cells #[.int .u8 (a.1.toNat : Int), .int .u64 (a.2.1.toNat : Int), .int .u64 (a.2.2.toNat : Int)] 24)).alloc (.cells #[.int .u8 0, .int .u64 0, .int .u64 0] 39)).heap[w.heap.size]? = some (.cells #[.int .u8 (a.1.toNat : Int), .int .u64 (a.2.1.toNat : Int), .int .u64 (a.2.2.toNat : Int)] 24 (0, 0)) := (blk_alloc (heap_alloc_new w (.cells #[.int .u8 (a.1.toNat : Int), .int .u64 (a.2.1.toNat : Int), .int .u64 (a.2.2.toNat : Int)] 24)) _)
  have h2 : ((w.alloc (.cells #[.int .u8 (a.1.toNat : Int), .int .u64 (a.2.1.toNat : Int), .int .u64 (a.2.2.toNat : Int)] 24)).alloc (.cells #[.int .u8 0, .int .u64 0, .int .u64 0] 39)).heap[w.heap.size + 1]? = some (.cells #[.int .u8 0, .int .u64 0, .int .u64 0] 39 (0, 0)) := by have h := (heap_alloc_new (w.alloc (.cells #[.int .u8 (a.1.toNat : Int), .int .u64 (a.2.1.toNat : Int), .int .u64 (a.2.2.toNat : Int)] 24)) (.cells #[.int .u8 0, .int .u64 0, .int .u64 0] 39)); simpa [World.size_alloc] using h
  have H1 := Lib.hid h1
  have H2 := Lib.hid h2
  have HB0 := Lib.hid hb0
  clear hb0 h1 h2
  have a0 : ((w.alloc (.cells #[.int .u8 (a.1.toNat : Int), .int .u64 (a.2.1.toNat : Int), .int .u64 (a.2.2.toNat : Int)] 24)).alloc (.cells #[.int .u8 0, .int .u64 0, .int .u64 0] 39)).cell? ⟨w.heap.size, 0, none⟩ = some (.int .u8 (a.1.toNat : Int)) := (by rw [blk_cell H1.out]; rfl)
  have a1 : ((w.alloc (.cells #[.int .u8 (a.1.toNat : Int), .int .u64 (a.2.1.toNat : Int), .int .u64 (a.2.2.toNat : Int)] 24)).alloc (.cells #[.int .u8 0, .int .u64 0, .int .u64 0] 39)).cell? ⟨w.heap.size, 1, none⟩ = some (.int .u64 (a.2.1.toNat : Int)) := (by rw [blk_cell H1.out]; rfl)
  have a2 : ((w.alloc (.cells #[.int .u8 (a.1.toNat : Int), .int .u64 (a.2.1.toNat : Int), .int .u64 (a.2.2.toNat : Int)] 24)).alloc (.cells #[.int .u8 0, .int .u64 0, .int .u64 0] 39)).cell? ⟨w.heap.size, 2, none⟩ = some (.int .u64 (a.2.2.toNat : Int)) := (by rw [blk_cell H1.out]; rfl)
  have s0 : ((w.alloc (.cells #[.int .u8 (a.1.toNat : Int), .int .u64 (a.2.1.toNat : Int), .int .u64 (a.2.2.toNat : Int)] 24)).alloc (.cells #[.int .u8 0, .int .u64 0, .int .u64 0] 39)).cell? ⟨w.heap.size + 1, 0, none⟩ = some (.int .u8 0) := (by rw [blk_cell H2.out]; rfl)
  have s1 : ((w.alloc (.cells #[.int .u8 (a.1.toNat : Int), .int .u64 (a.2.1.toNat : Int), .int .u64 (a.2.2.toNat : Int)] 24)).alloc (.cells #[.int .u8 0, .int .u64 0, .int .u64 0] 39)).cell? ⟨w.heap.size + 1, 1, none⟩ = some (.int .u64 0) := (by rw [blk_cell H2.out]; rfl)
  have s2 : ((w.alloc (.cells #[.int .u8 (a.1.toNat : Int), .int .u64 (a.2.1.toNat : Int), .int .u64 (a.2.2.toNat : Int)] 24)).alloc (.cells #[.int .u8 0, .int .u64 0, .int .u64 0] 39)).cell? ⟨w.heap.size + 1, 2, none⟩ = some (.int .u64 0) := (by rw [blk_cell H2.out]; rfl)
  have f0 : ((w.alloc (.cells #[.int .u8 (a.1.toNat : Int), .int .u64 (a.2.1.toNat : Int), .int .u64 (a.2.2.toNat : Int)] 24)).alloc (.cells #[.int .u8 0, .int .u64 0, .int .u64 0] 39)).frozen? ⟨w.heap.size + 1, 0, none⟩ = false := (by rw [blk_frozen H2.out]; rfl)
  have f1 : ((w.alloc (.cells #[.int .u8 (a.1.toNat : Int), .int .u64 (a.2.1.toNat : Int), .int .u64 (a.2.2.toNat : Int)] 24)).alloc (.cells #[.int .u8 0, .int .u64 0, .int .u64 0] 39)).frozen? ⟨w.heap.size + 1, 1, none⟩ = false := (by rw [blk_frozen H2.out]; rfl)
  have f2 : ((w.alloc (.cells #[.int .u8 (a.1.toNat : Int), .int .u64 (a.2.1.toNat : Int), .int .u64 (a.2.2.toNat : Int)] 24)).alloc (.cells #[.int .u8 0, .int .u64 0, .int .u64 0] 39)).frozen? ⟨w.heap.size + 1, 2, none⟩ = false := (by rw [blk_frozen H2.out]; rfl)
  go_enter Tryd.func20, Tryd.ntmps20
  go_wp2_with fail
  refine bodyPost_ret (v := encA a) (by simp [results, Tryd.results20, go_sem]) rfl ⟨rfl, ?_⟩
  exact ((Below.refl _ _).alloc (Nat.le_refl _) _).alloc (by simp) _

theorem run_eqlR (p q : Ad) (w : World) : (binOp .eql 39 (encA p) (encA q)).run Tryd.prog w = .ok (.bool ((p == q))) w := by
  rw [ad_bool]
  cases b0 : ((p.1.toNat : Int) == q.1.toNat) <;> cases b1 : ((p.2.1.toNat : Int) == q.2.1.toNat) <;> cases b2 : ((p.2.2.toNat : Int) == q.2.2.toNat) <;> go_simp
theorem run_neqR (p q : Ad) (w : World) : (binOp .neq 39 (encA p) (encA q)).run Tryd.prog w = .ok (.bool (!(p == q))) w := by
  rw [ad_bool]
  cases b0 : ((p.1.toNat : Int) == q.1.toNat) <;> cases b1 : ((p.2.1.toNat : Int) == q.2.1.toNat) <;> cases b2 : ((p.2.2.toNat : Int) == q.2.2.toNat) <;> go_simp
set_option maxHeartbeats 800000 in
theorem rfrom_other (f : UInt8) (v : Value) (l : List UInt8) (w : World) (h : BsAt w v l) (h4 : f ≠ 4) (h6 : f ≠ 6) :
    Calls Tryd.prog 27 #[.int .u8 (f.toNat : Int), v] w fun e w' => e = .returned (.tuple #[.agg #[.int .u8 0, .int .u64 0, .int .u64 0], .bool false]) ∧ Below w.heap.size w w' := by
  obtain ⟨ao, cap, rfl⟩ := elems_slice h
  obtain ⟨n, hn⟩ : ∃ n, n = l.length := ⟨_, rfl⟩
  rw [← hn]
  have HB := Lib.hid (show Below w.heap.size w (w.alloc boxZR) from (Below.refl _ _).alloc (Nat.le_refl _) _)
  have hx := heap_alloc_new w boxZR
  have f0 : (w.alloc boxZR).frozen? ⟨w.heap.size, 0, none⟩ = false := by rw [blk_frozen hx]; rfl
  have f1 : (w.alloc boxZR).frozen? ⟨w.heap.size, 1, none⟩ = false := by rw [blk_frozen hx]; rfl
  have f2 : (w.alloc boxZR).frozen? ⟨w.heap.size, 2, none⟩ = false := by rw [blk_frozen hx]; rfl
  have c0 : (w.alloc boxZR).cell? ⟨w.heap.size, 0, none⟩ = some (.int .u8 0) := by rw [blk_cell hx]; rfl
  have c1 : (w.alloc boxZR).cell? ⟨w.heap.size, 1, none⟩ = some (.int .u64 0) := by rw [blk_cell hx]; rfl
  have c2 : (w.alloc boxZR).cell? ⟨w.heap.size, 2, none⟩ = some (.int .u64 0) := by rw [blk_cell hx]; rfl
  have z4 : ((f.toNat : Int) == 4) = false := by rw [show ((f.toNat : Int) == 4) = (f == 4) from Pfx.u8_eq f 4]; simpa using h4
  have z6 : ((f.toNat : Int) == 6) = false := by rw [show ((f.toNat : Int) == 6) = (f == 6) from Pfx.u8_eq f 6]; simpa using h6
  clear h4 h6 hx hn h
  go_enter Tryd.func27, Tryd.ntmps27
  go_wp2_with fail
  exact bodyPost_ret (v := .tuple #[.agg #[.int .u8 0, .int .u64 0, .int .u64 0], .bool false]) (by simp [results, Tryd.results27, go_sem, c0, c1, c2]) rfl ⟨rfl, by first | exact HB.out | exact below_set3 HB.out _ _ _⟩
theorem rfrom_any (f : UInt8) (v : Value) (l : List UInt8) (w : World) (h : BsAt w v l) :
    Calls Tryd.prog 27 #[.int .u8 (f.toNat : Int), v] w fun e w' => e = .returned (.tuple #[encA (fromB f l), .bool (fromOk f l.length)]) ∧ Below w.heap.size w w' := by
  by_cases h4 : f = 4
  · exact rfrom f v l w h (.inl h4)
  by_cases h6 : f = 6
  · exact rfrom f v l w h (.inr h6)
  have hk : fromOk f l.length = false := by unfold fromOk; simp [h4, h6]
  have e : fromB f l = zeroA := by unfold fromB; rw [hk]; rfl
  rw [e, hk]
  exact rfrom_other f v l w h h4 h6
end Go.Proofs.Tryd.Tx
