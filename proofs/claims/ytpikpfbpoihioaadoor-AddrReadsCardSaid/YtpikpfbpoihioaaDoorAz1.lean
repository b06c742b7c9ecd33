/- The laws of addresses: addresses held against each other; what awake tells. -/
import Derived.Test.YtpikpfbpoihioaaDoorAu7
import Derived.Test.YtpikpfbpoihioaaDoorAa2
set_option linter.unusedVariables false
set_option linter.unusedSimpArgs false
set_option maxRecDepth 100000
namespace Go.Proofs.Tryd.Tx
open Go.RowKit Go.Cph Go.Cph.Tx
open Go.Cph.Ok (ofBs)
open Go.Cph.Px (Ad rightA bytesA zeroA lessA)
open Go.Proofs.Tryd.Pfx (encA bcell ad_eq)
open Go.Proofs.Tryd.Rows (boxZ below_set3)
open Go.Proofs.Tryd.Gp (nextA backA NearPost)
theorem ad_bool (p q : Ad) : (p == q) = (((p.1.toNat : Int) == q.1.toNat) && (((p.2.1.toNat : Int) == q.2.1.toNat) && ((p.2.2.toNat : Int) == q.2.2.toNat))) := by
  rw [Bool.eq_iff_iff, ad_eq]
  simp only [Bool.and_eq_true, beq_iff_eq]
theorem run_eqlA (p q : Ad) (w : World) : (binOp .eql 24 (encA p) (encA q)).run Tryd.prog w = .ok (.bool ((p == q))) w := by
  rw [ad_bool]
  cases b0 : ((p.1.toNat : Int) == q.1.toNat) <;> cases b1 : ((p.2.1.toNat : Int) == q.2.1.toNat) <;> cases b2 : ((p.2.2.toNat : Int) == q.2.2.toNat) <;> go_simp
theorem run_neqA (p q : Ad) (w : World) : (binOp .neq 24 (encA p) (encA q)).run Tryd.prog w = .ok (.bool (!(p == q))) w := by
  rw [ad_bool]
  cases b0 : ((p.1.toNat : Int) == q.1.toNat) <;> cases b1 : ((p.2.1.toNat : Int) == q.2.1.toNat) <;> cases b2 : ((p.2.2.toNat : Int) == q.2.2.toNat) <;> go_simp
theorem v4_any (n : UInt64) (w : World) : Calls Tryd.prog 13 #[.int .u64 (n.toNat : Int)] w fun e w' => e = .returned (encA (4, 0, n)) ∧ Below w.heap.size w w' := by
  have HB := Lib.hid (show Below w.heap.size w (w.alloc boxZ) from (Below.refl _ _).alloc (Nat.le_refl _) _)
  have hx := heap_alloc_new w boxZ
  have c0 : (w.alloc boxZ).cell? ⟨w.heap.size, 0, none⟩ = some (.int .u8 0) := by rw [blk_cell hx]; rfl
  have c1 : (w.alloc boxZ).cell? ⟨w.heap.size, 1, none⟩ = some (.int .u64 0) := by rw [blk_cell hx]; rfl
  have c2 : (w.alloc boxZ).cell? ⟨w.heap.size, 2, none⟩ = some (.int .u64 0) := by rw [blk_cell hx]; rfl
  have f0 : (w.alloc boxZ).frozen? ⟨w.heap.size, 0, none⟩ = false := by rw [blk_frozen hx]; rfl
  have f1 : (w.alloc boxZ).frozen? ⟨w.heap.size, 1, none⟩ = false := by rw [blk_frozen hx]; rfl
  have f2 : (w.alloc boxZ).frozen? ⟨w.heap.size, 2, none⟩ = false := by rw [blk_frozen hx]; rfl
  clear hx
  go_enter Tryd.func13, Tryd.ntmps13
  go_wp2_with fail
  exact bodyPost_ret (v := .agg #[.int .u8 4, .int .u64 0, .int .u64 (n.toNat : Int)]) (by simp [results, Tryd.results13, go_sem, c0, c1, c2]) rfl ⟨rfl, by first | exact (Below.refl _ _).alloc (Nat.le_refl _) _ | exact below_set3 HB.out _ _ _⟩
theorem v6_any (m n : UInt64) (w : World) : Calls Tryd.prog 14 #[.int .u64 (m.toNat : Int), .int .u64 (n.toNat : Int)] w fun e w' => e = .returned (encA (6, m, n)) ∧ Below w.heap.size w w' := by
  have HB := Lib.hid (show Below w.heap.size w (w.alloc boxZ) from (Below.refl _ _).alloc (Nat.le_refl _) _)
  have hx := heap_alloc_new w boxZ
  have c0 : (w.alloc boxZ).cell? ⟨w.heap.size, 0, none⟩ = some (.int .u8 0) := by rw [blk_cell hx]; rfl
  have c1 : (w.alloc boxZ).cell? ⟨w.heap.size, 1, none⟩ = some (.int .u64 0) := by rw [blk_cell hx]; rfl
  have c2 : (w.alloc boxZ).cell? ⟨w.heap.size, 2, none⟩ = some (.int .u64 0) := by rw [blk_cell hx]; rfl
  have f0 : (w.alloc boxZ).frozen? ⟨w.heap.size, 0, none⟩ = false := by rw [blk_frozen hx]; rfl
  have f1 : (w.alloc boxZ).frozen? ⟨w.heap.size, 1, none⟩ = false := by rw [blk_frozen hx]; rfl
  have f2 : (w.alloc boxZ).frozen? ⟨w.heap.size, 2, none⟩ = false := by rw [blk_frozen hx]; rfl
  clear hx
  go_enter Tryd.func14, Tryd.ntmps14
  go_wp2_with fail
  exact bodyPost_ret (v := .agg #[.int .u8 6, .int .u64 (m.toNat : Int), .int .u64 (n.toNat : Int)]) (by simp [results, Tryd.results14, go_sem, c0, c1, c2]) rfl ⟨rfl, by first | exact (Below.refl _ _).alloc (Nat.le_refl _) _ | exact below_set3 HB.out _ _ _⟩
abbrev A1 : Ad := (4, 0, 0xc0000201)
abbrev A2 : Ad := (6, 0x20010db800000000, 0x0001000000000001)
abbrev S1 : Bs := [49, 57, 50, 46, 48, 46, 50, 46, 49]
abbrev S2 : Bs := [50, 48, 48, 49, 58, 100, 98, 56, 58, 58, 49, 58, 48, 58, 48, 58, 49]
theorem text1 : textA A1 = S1 := by decide +kernel
theorem text2 : textA A2 = S2 := by decide +kernel
theorem parse1 : progParse S1 = some A1 := (prog_iff _ _).2 ⟨by decide, text1⟩
theorem parse2 : progParse S2 = some A2 := (prog_iff _ _).2 ⟨by decide, text2⟩
theorem next255 : nextA (4, 0, 255) = ((4, 0, 256), true) := by decide +kernel
set_option maxHeartbeats 6400000 in
theorem awake_any (w : World) (henv : Env w) : Calls Tryd.prog 11 #[] w fun e w' => e = .returned (.bool true) ∧ Below w.heap.size w w' := by
  have HE := Lib.hid henv
  have HP1 := Lib.hid (fun W (he : Env W) => show Calls Tryd.prog 16 #[.string ⟨#[49, 57, 50, 46, 48, 46, 50, 46, 49]⟩] W fun e w' => e = .returned (.tuple #[.agg #[.int .u8 4, .int .u64 0, .int .u64 3221225985], .int .i64 0]) ∧ Below W.heap.size W w' from by
    have := parse_any S1 (by decide) W he
    rw [parse1] at this
    exact this)
  have HP2 := Lib.hid (fun W (he : Env W) => show Calls Tryd.prog 16 #[.string ⟨#[50, 48, 48, 49, 58, 100, 98, 56, 58, 58, 49, 58, 48, 58, 48, 58, 49]⟩] W fun e w' => e = .returned (.tuple #[.agg #[.int .u8 6, .int .u64 2306139568115548160, .int .u64 281474976710657], .int .i64 0]) ∧ Below W.heap.size W w' from by
    have := parse_any S2 (by decide) W he
    rw [parse2] at this
    exact this)
  have HV := Lib.hid (fun W => show Calls Tryd.prog 13 #[.int .u64 255] W fun e w' => e = .returned (.agg #[.int .u8 4, .int .u64 0, .int .u64 255]) ∧ Below W.heap.size W w' from v4_any 255 W)
  have HNX := Lib.hid (fun W => show Calls Tryd.prog 17 #[.agg #[.int .u8 4, .int .u64 0, .int .u64 255]] W fun e w' => e = .returned (.tuple #[.agg #[.int .u8 4, .int .u64 0, .int .u64 256], .bool true]) ∧ Below W.heap.size W w' from by
    have := Gp.next_any (4, 0, 255) W
    unfold NearPost at this
    rw [next255] at this
    exact this)
  clear henv
  go_enter Tryd.func11, Tryd.ntmps11
  go_wp2_with fail
  refine (HP1.out _ HE.out).mono ?_
  rintro e w1 ⟨rfl, hb1⟩
  have HB1 := Lib.hid (show Below w.heap.size w (w1.alloc (.cells #[.int .u8 4, .int .u64 0, .int .u64 3221225985] 24 (0, 0))) from hb1.alloc hb1.size _)
  have HX1 := Lib.hid (heap_alloc_new w1 (.cells #[.int .u8 4, .int .u64 0, .int .u64 3221225985] 24 (0, 0)))
  have HE1 := Lib.hid (HE.out.kept HB1.out)
  clear hb1
  go_wp2_with fail
  refine (HP2.out _ HE1.out).mono ?_
  rintro e w2 ⟨rfl, hb2⟩
  have hb2' := below_step HB1.out hb2 HB1.out.size
  have HB2 := Lib.hid (show Below w.heap.size w (w2.alloc (.cells #[.int .u8 6, .int .u64 2306139568115548160, .int .u64 281474976710657] 24 (0, 0))) from hb2'.alloc hb2'.size _)
  have HX2 := Lib.hid (blk_alloc (blk_kept hb2 HX1.out) (.cells #[.int .u8 6, .int .u64 2306139568115548160, .int .u64 281474976710657] 24 (0, 0)))
  have HY2 := Lib.hid (heap_alloc_new w2 (.cells #[.int .u8 6, .int .u64 2306139568115548160, .int .u64 281474976710657] 24 (0, 0)))
  clear hb2 hb2'
  obtain ⟨g1, hg1⟩ : ∃ g1, g1 = w1.heap.size := ⟨_, rfl⟩
  rw [← hg1] at HX2 ⊢
  clear hg1 HX1 HB1 HE1
  go_wp2_with fail
  refine (HV.out _).mono ?_
  rintro e w3 ⟨rfl, hb3⟩
  have HB3 := Lib.hid (below_step HB2.out hb3 HB2.out.size)
  have HX3 := Lib.hid (blk_kept hb3 HX2.out)
  have HY3 := Lib.hid (blk_kept hb3 HY2.out)
  clear hb3
  obtain ⟨g2, hg2⟩ : ∃ g2, g2 = w2.heap.size := ⟨_, rfl⟩
  rw [← hg2] at HY3 ⊢
  clear hg2 HX2 HY2 HB2
  go_wp2_with fail
  refine (HNX.out _).mono ?_
  rintro e w4 ⟨rfl, hb4⟩
  have hb4' := below_step HB3.out hb4 HB3.out.size
  have HB4 := Lib.hid (show Below w.heap.size w (w4.alloc (.cells #[.int .u8 4, .int .u64 0, .int .u64 256] 24 (0, 0))) from hb4'.alloc hb4'.size _)
  have HX4 := Lib.hid (blk_alloc (blk_kept hb4 HX3.out) (.cells #[.int .u8 4, .int .u64 0, .int .u64 256] 24 (0, 0)))
  have HY4 := Lib.hid (blk_alloc (blk_kept hb4 HY3.out) (.cells #[.int .u8 4, .int .u64 0, .int .u64 256] 24 (0, 0)))
  have HZ4 := Lib.hid (heap_alloc_new w4 (.cells #[.int .u8 4, .int .u64 0, .int .u64 256] 24 (0, 0)))
  clear hb4 hb4'
  go_wp2_with fail
  obtain ⟨g3, hg3⟩ : ∃ g3, g3 = w4.heap.size := ⟨_, rfl⟩
  rw [← hg3] at HZ4 ⊢
  clear hg3 HX3 HY3 HB3
  have HE4 := Lib.hid (HE.out.kept HB4.out)
  obtain ⟨w5, hw5⟩ : ∃ w5, w5 = w4.alloc (.cells #[.int .u8 4, .int .u64 0, .int .u64 256] 24 (0, 0)) := ⟨_, rfl⟩
  rw [← hw5] at HB4 HX4 HY4 HZ4 HE4 ⊢
  clear hw5
  have x0 : ∀ zz : Later w5.heap.size w5, zz.val.cell? ⟨g1, 0, none⟩ = some (.int .u8 4) := fun zz => by rw [blk_cell (blk_kept zz.prop HX4.out)]; rfl
  have x1 : ∀ zz : Later w5.heap.size w5, zz.val.cell? ⟨g1, 1, none⟩ = some (.int .u64 0) := fun zz => by rw [blk_cell (blk_kept zz.prop HX4.out)]; rfl
  have x2 : ∀ zz : Later w5.heap.size w5, zz.val.cell? ⟨g1, 2, none⟩ = some (.int .u64 3221225985) := fun zz => by rw [blk_cell (blk_kept zz.prop HX4.out)]; rfl
  have y0 : ∀ zz : Later w5.heap.size w5, zz.val.cell? ⟨g2, 0, none⟩ = some (.int .u8 6) := fun zz => by rw [blk_cell (blk_kept zz.prop HY4.out)]; rfl
  have y1 : ∀ zz : Later w5.heap.size w5, zz.val.cell? ⟨g2, 1, none⟩ = some (.int .u64 2306139568115548160) := fun zz => by rw [blk_cell (blk_kept zz.prop HY4.out)]; rfl
  have y2 : ∀ zz : Later w5.heap.size w5, zz.val.cell? ⟨g2, 2, none⟩ = some (.int .u64 281474976710657) := fun zz => by rw [blk_cell (blk_kept zz.prop HY4.out)]; rfl
  have z0 : ∀ zz : Later w5.heap.size w5, zz.val.cell? ⟨g3, 0, none⟩ = some (.int .u8 4) := fun zz => by rw [blk_cell (blk_kept zz.prop HZ4.out)]; rfl
  have z1 : ∀ zz : Later w5.heap.size w5, zz.val.cell? ⟨g3, 1, none⟩ = some (.int .u64 0) := fun zz => by rw [blk_cell (blk_kept zz.prop HZ4.out)]; rfl
  have z2 : ∀ zz : Later w5.heap.size w5, zz.val.cell? ⟨g3, 2, none⟩ = some (.int .u64 256) := fun zz => by rw [blk_cell (blk_kept zz.prop HZ4.out)]; rfl
  have K1 := Lib.hid (fun W => show Calls Tryd.prog 13 #[.int .u64 3221225985] W fun e w' => e = .returned (.agg #[.int .u8 4, .int .u64 0, .int .u64 3221225985]) ∧ Below W.heap.size W w' from v4_any 3221225985 W)
  have K2 := Lib.hid (fun W => show Calls Tryd.prog 13 #[.int .u64 256] W fun e w' => e = .returned (.agg #[.int .u8 4, .int .u64 0, .int .u64 256]) ∧ Below W.heap.size W w' from v4_any 256 W)
  have K3 := Lib.hid (fun W => show Calls Tryd.prog 14 #[.int .u64 2306139568115548160, .int .u64 281474976710657] W fun e w' => e = .returned (.agg #[.int .u8 6, .int .u64 2306139568115548160, .int .u64 281474976710657]) ∧ Below W.heap.size W w' from v6_any 2306139568115548160 281474976710657 W)
  have K4 := Lib.hid (fun zz : Later w5.heap.size w5 => show Calls Tryd.prog 15 #[.agg #[.int .u8 6, .int .u64 2306139568115548160, .int .u64 281474976710657]] zz.val fun e w' => e = .returned (.string ⟨#[50, 48, 48, 49, 58, 100, 98, 56, 58, 58, 49, 58, 48, 58, 48, 58, 49]⟩) ∧ Below zz.val.heap.size zz.val w' from by
    have := text_any A2 zz.val (HE4.out.kept zz.prop)
    rw [text2] at this
    exact this)
  have K5 := Lib.hid (fun W => show Calls Tryd.prog 9 #[.agg #[.int .u8 4, .int .u64 0, .int .u64 3221225985], .agg #[.int .u8 6, .int .u64 2306139568115548160, .int .u64 281474976710657]] W fun e w' => e = .returned (.bool true) ∧ Below W.heap.size W w' from Pfx.less A1 A2 W)
  have K6 := Lib.hid (fun W => show Calls Tryd.prog 12 #[.agg #[.int .u8 4, .int .u64 0, .int .u64 3221225985]] W fun e w' => e = .returned (.string ⟨#[192, 0, 2, 1]⟩) ∧ Below W.heap.size W w' from by
    have := Rows.abytes A1 W
    rw [show bytesA A1 = [192, 0, 2, 1] by decide +kernel] at this
    exact this)
  refine wp_region_later w5.heap.size (by kernel_rfl) (by kernel_rfl) ?_
  repeat (go_big_quiet_step (first
    | (go_at_call 13; first | with_reducible exact Later.calls (Nat.le_refl _) (K1.out _) | with_reducible exact Later.calls (Nat.le_refl _) (K2.out _))
    | (go_at_call 14; exact Later.calls (Nat.le_refl _) (K3.out _))
    | (go_at_call 15; exact Later.calls (Nat.le_refl _) (K4.out _))
    | (go_at_call 9; exact Later.calls (Nat.le_refl _) (K5.out _))
    | (go_at_call 12; exact Later.calls (Nat.le_refl _) (K6.out _))))
  refine wpQuiet_nil ?_
  rintro wq ⟨zz, rfl⟩
  have HZ := Lib.hid zz.prop
  clear x0 x1 x2 y0 y1 y2 z0 z1 z2 K4
  generalize zz.val = wq at *
  have HBQ := Lib.hid (below_step HB4.out HZ.out HB4.out.size)
  go_wp2_with fail
  go_ret
  exact ⟨rfl, HBQ.out⟩
end Go.Proofs.Tryd.Tx
