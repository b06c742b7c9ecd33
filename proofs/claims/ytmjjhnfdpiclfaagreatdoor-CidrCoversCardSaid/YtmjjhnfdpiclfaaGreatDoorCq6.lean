/- cidr: the laws' own helpers: v4, p4, awake; == of prefixes. -/
import Derived.Test.YtmjjhnfdpiclfaaGreatDoorCq3
import Derived.Test.YtmjjhnfdpiclfaaGreatDoorCq5
set_option linter.unusedVariables false
set_option linter.unusedSimpArgs false
set_option maxRecDepth 100000
namespace Go.Proofs.Tryz.Cd
open Go.RowKit Go.Cph Go.Cph.Tx Go.Cph.Px Go.Cph.Cv Go.Proofs.Tryz.Tx Go.Proofs.Tryz.Pfx
open Go.Cph.Ok (ofBs)
open Go.Proofs.Tryz.Rows (boxZ)
theorem run_eqlC (p q : Pf) (w : World) : (binOp .eql 26 (encP p) (encP q)).run Tryz.prog w = .ok (.bool (p == q)) w := by
  have hb : (p == q) = ((p.1.1.toNat : Int) == q.1.1.toNat && ((p.1.2.1.toNat : Int) == q.1.2.1.toNat && ((p.1.2.2.toNat : Int) == q.1.2.2.toNat && (p.2 == q.2)))) := by
    rw [Bool.eq_iff_iff, pf_eq]
    simp only [Bool.and_eq_true, beq_iff_eq]
  rw [hb]
  cases b0 : ((p.1.1.toNat : Int) == q.1.1.toNat) <;> cases b1 : ((p.1.2.1.toNat : Int) == q.1.2.1.toNat) <;> cases b2 : ((p.1.2.2.toNat : Int) == q.1.2.2.toNat) <;> cases b3 : (p.2 == q.2) <;> go_simp
theorem run_neqC (p q : Pf) (w : World) : (binOp .neq 26 (encP p) (encP q)).run Tryz.prog w = .ok (.bool (!(p == q))) w := by
  have hb : (p == q) = ((p.1.1.toNat : Int) == q.1.1.toNat && ((p.1.2.1.toNat : Int) == q.1.2.1.toNat && ((p.1.2.2.toNat : Int) == q.1.2.2.toNat && (p.2 == q.2)))) := by
    rw [Bool.eq_iff_iff, pf_eq]
    simp only [Bool.and_eq_true, beq_iff_eq]
  rw [hb]
  cases b0 : ((p.1.1.toNat : Int) == q.1.1.toNat) <;> cases b1 : ((p.1.2.1.toNat : Int) == q.1.2.1.toNat) <;> cases b2 : ((p.1.2.2.toNat : Int) == q.1.2.2.toNat) <;> cases b3 : (p.2 == q.2) <;> go_simp
set_option maxHeartbeats 1000000 in
theorem v4_any (n : UInt64) (w : World) : Calls Tryz.prog 40 #[.int .u64 (n.toNat : Int)] w fun e w' => e = .returned (encA (4, 0, n)) ∧ Below w.heap.size w w' := by
  have HXz1 := Lib.hid (heap_alloc_new w boxZ)
  have HW1 := Lib.hid (show Below w.heap.size w (w.alloc boxZ) from (Below.refl _ _).alloc (Nat.le_refl _) _)
  obtain ⟨z0, z1, z2⟩ := boxZA_at HXz1.out
  obtain ⟨zf0, zf1, zf2⟩ := boxZA_free HXz1.out
  go_enter Tryz.func40, Tryz.ntmps40
  go_wp2_with fail
  exact bodyPost_ret (v := .agg #[.int .u8 4, .int .u64 0, .int .u64 (n.toNat : Int)]) (by simp [results, Tryz.results40, go_sem, z0, z1, z2]) rfl ⟨rfl, by first | exact (Below.refl _ _).alloc (Nat.le_refl _) _ | exact set3 HW1.out (Nat.le_refl _) _ _ _⟩
theorem v4_at (A : Ad) (n : UInt64) (z : Int) (h : (n.toNat : Int) = z) (hA : A = (4, 0, n)) (w : World) : Calls Tryz.prog 40 #[.int .u64 z] w fun e w' => e = .returned (encA A) ∧ Below w.heap.size w w' := by
  rw [← h, hA]; exact v4_any n w
set_option maxHeartbeats 1000000 in
theorem p4_any (n : UInt64) (b : Int) (w : World) : Calls Tryz.prog 41 #[.int .u64 (n.toNat : Int), .int .i64 b] w fun e w' => e = .returned (encP ((4, 0, n), b)) ∧ Below w.heap.size w w' := by
  have HV := Lib.hid (fun W => show Calls Tryz.prog 40 #[.int .u64 (n.toNat : Int)] W fun e w' => e = .returned (.agg #[.int .u8 4, .int .u64 0, .int .u64 (n.toNat : Int)]) ∧ Below W.heap.size W w' from v4_any n W)
  have HXz1 := Lib.hid (heap_alloc_new w boxPZ)
  have HW1 := Lib.hid (show Below w.heap.size w (w.alloc boxPZ) from (Below.refl _ _).alloc (Nat.le_refl _) _)
  go_enter Tryz.func41, Tryz.ntmps41
  go_wp2_with fail
  refine (HV.out _).mono ?_
  rintro e v2 ⟨rfl, hb⟩
  have HXz3 := Lib.hid (blk_kept hb HXz1.out)
  have HW3 := Lib.hid (below_step HW1.out hb HW1.out.size)
  clear hb
  obtain ⟨z0, z1, z2, z3⟩ := boxPZ_at HXz3.out
  obtain ⟨zf0, zf1, zf2, zf3⟩ := boxPZ_free HXz3.out
  go_wp2_with fail
  exact bodyPost_ret (v := .agg #[.int .u8 4, .int .u64 0, .int .u64 (n.toNat : Int), .int .i64 b]) (by simp [results, Tryz.results41, go_sem, z0, z1, z2, z3]) rfl ⟨rfl, set4 HW3.out (Nat.le_refl _) _ _ _ _⟩
theorem p4_at (P : Pf) (n : UInt64) (b z : Int) (h : (n.toNat : Int) = z) (hP : P = ((4, 0, n), b)) (w : World) : Calls Tryz.prog 41 #[.int .u64 z, .int .i64 b] w fun e w' => e = .returned (encP P) ∧ Below w.heap.size w w' := by
  rw [← h, hP]; exact p4_any n b w
/-- Parse of a text whose prefix is known. -/
theorem pparse_is {s : Bs} {p : Pf} (hs : s.length ≤ 1000000) (hp : rightP p = true) (ht : textP p = s) (w : World) (henv : Env w) : Calls Tryz.prog 9 #[.string (ofBs s)] w fun e w' => e = .returned (.tuple #[encP p, .int .i64 0]) ∧ Below w.heap.size w w' := by
  refine (pparse_any s hs w henv).mono ?_
  rintro e w' ⟨r, hr, rfl, hb⟩
  rw [(hr p).2 ⟨hp, ht⟩]
  exact ⟨rfl, hb⟩
/-- The examples of awake. -/
abbrev PA : Pf := ((4, 0, 167772160), 8)
abbrev PB : Pf := ((4, 0, 167837696), 16)
abbrev SB : Bs := [49, 48, 46, 49, 46, 48, 46, 48, 47, 49, 54]
abbrev SA : Bs := [49, 48, 46, 48, 46, 48, 46, 48, 47, 56]
abbrev LC : List Pf := [((4, 0, 167772161), 32), ((4, 0, 167772162), 31), ((4, 0, 167772164), 31), ((4, 0, 167772166), 32)]
theorem aw_cut : cutP (4, 0, 167838211) 8 = PA ∧ cutE (4, 0, 167838211) 8 = 0 := by decide +kernel
theorem aw_parse : rightP PB = true ∧ textP PB = SB := by decide +kernel
theorem aw_with : within PB PA = true ∧ within PA PB = false ∧ meets PA PB = true := by decide +kernel
theorem aw_last : lastR PA = (4, 0, 184549375) := by decide +kernel
theorem aw_text : textP PA = SA := by decide +kernel
theorem aw_cover : coverP (4, 0, 167772161) (4, 0, 167772166) = LC := by decide +kernel
end Go.Proofs.Tryz.Cd
