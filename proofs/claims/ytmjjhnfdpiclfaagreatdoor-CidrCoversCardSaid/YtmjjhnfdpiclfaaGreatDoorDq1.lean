/- The document's prefixes: boxes; Cut, Meets, digits, Text. -/
import Derived.Test.YtmjjhnfdpiclfaaGreatDoorCq7
import Derived.Test.YtmjjhnfdpiclfaaGreatDoorCp6
import Derived.Test.YtmjjhnfdpiclfaaGreatDoorQd
import Derived.Test.YtmjjhnfdpiclfaaGreatDoorAa3
set_option linter.unusedVariables false
set_option linter.unusedSimpArgs false
set_option maxRecDepth 100000
namespace Go.Proofs.Tryz.Cd
open Go.RowKit Go.Cph Go.Cph.Tx Go.Cph.Px Go.Cph.Cv Go.Proofs.Tryz.Tx Go.Proofs.Tryz.Pfx
open Go.Cph.Ok (ofBs)
open Go.Proofs.Tryz.Rows (boxZ boxZR)
abbrev boxRA (a : Ad) : Obj := .cells #[.int .u8 (a.1.toNat : Int), .int .u64 (a.2.1.toNat : Int), .int .u64 (a.2.2.toNat : Int)] 30 (0, 0)
abbrev boxRP (p : Pf) : Obj := .cells #[.int .u8 (p.1.1.toNat : Int), .int .u64 (p.1.2.1.toNat : Int), .int .u64 (p.1.2.2.toNat : Int), .int .i64 p.2] 32 (0, 0)
abbrev boxZRP : Obj := .cells #[.int .u8 0, .int .u64 0, .int .u64 0, .int .i64 0] 32 (0, 0)
theorem boxRA_at {W : World} {g : Nat} {f : UInt8} {x y : UInt64} (h : W.heap[g]? = some (boxRA (f, x, y))) : W.cell? ⟨g, 0, none⟩ = some (.int .u8 (f.toNat : Int)) ∧ W.cell? ⟨g, 1, none⟩ = some (.int .u64 (x.toNat : Int)) ∧ W.cell? ⟨g, 2, none⟩ = some (.int .u64 (y.toNat : Int)) := ⟨(by rw [blk_cell h]; rfl), (by rw [blk_cell h]; rfl), (by rw [blk_cell h]; rfl)⟩
theorem later_boxRA {W : World} {g : Nat} {f : UInt8} {x y : UInt64} (h : W.heap[g]? = some (boxRA (f, x, y))) : (∀ zz : Later W.heap.size W, zz.val.cell? ⟨g, 0, none⟩ = some (.int .u8 (f.toNat : Int))) ∧ (∀ zz : Later W.heap.size W, zz.val.cell? ⟨g, 1, none⟩ = some (.int .u64 (x.toNat : Int))) ∧ (∀ zz : Later W.heap.size W, zz.val.cell? ⟨g, 2, none⟩ = some (.int .u64 (y.toNat : Int))) := ⟨(fun zz => by rw [blk_cell (blk_kept zz.prop h)]; rfl), (fun zz => by rw [blk_cell (blk_kept zz.prop h)]; rfl), (fun zz => by rw [blk_cell (blk_kept zz.prop h)]; rfl)⟩
theorem boxRA_free {W : World} {g : Nat} {f : UInt8} {x y : UInt64} (h : W.heap[g]? = some (boxRA (f, x, y))) : W.frozen? ⟨g, 0, none⟩ = false ∧ W.frozen? ⟨g, 1, none⟩ = false ∧ W.frozen? ⟨g, 2, none⟩ = false := ⟨(by rw [blk_frozen h]; rfl), (by rw [blk_frozen h]; rfl), (by rw [blk_frozen h]; rfl)⟩
theorem boxRP_at {W : World} {g : Nat} {f : UInt8} {x y : UInt64} {b : Int} (h : W.heap[g]? = some (boxRP ((f, x, y), b))) : W.cell? ⟨g, 0, none⟩ = some (.int .u8 (f.toNat : Int)) ∧ W.cell? ⟨g, 1, none⟩ = some (.int .u64 (x.toNat : Int)) ∧ W.cell? ⟨g, 2, none⟩ = some (.int .u64 (y.toNat : Int)) ∧ W.cell? ⟨g, 3, none⟩ = some (.int .i64 b) := ⟨(by rw [blk_cell h]; rfl), (by rw [blk_cell h]; rfl), (by rw [blk_cell h]; rfl), (by rw [blk_cell h]; rfl)⟩
theorem later_boxRP {W : World} {g : Nat} {f : UInt8} {x y : UInt64} {b : Int} (h : W.heap[g]? = some (boxRP ((f, x, y), b))) : (∀ zz : Later W.heap.size W, zz.val.cell? ⟨g, 0, none⟩ = some (.int .u8 (f.toNat : Int))) ∧ (∀ zz : Later W.heap.size W, zz.val.cell? ⟨g, 1, none⟩ = some (.int .u64 (x.toNat : Int))) ∧ (∀ zz : Later W.heap.size W, zz.val.cell? ⟨g, 2, none⟩ = some (.int .u64 (y.toNat : Int))) ∧ (∀ zz : Later W.heap.size W, zz.val.cell? ⟨g, 3, none⟩ = some (.int .i64 b)) := ⟨(fun zz => by rw [blk_cell (blk_kept zz.prop h)]; rfl), (fun zz => by rw [blk_cell (blk_kept zz.prop h)]; rfl), (fun zz => by rw [blk_cell (blk_kept zz.prop h)]; rfl), (fun zz => by rw [blk_cell (blk_kept zz.prop h)]; rfl)⟩
theorem boxRP_free {W : World} {g : Nat} {f : UInt8} {x y : UInt64} {b : Int} (h : W.heap[g]? = some (boxRP ((f, x, y), b))) : W.frozen? ⟨g, 0, none⟩ = false ∧ W.frozen? ⟨g, 1, none⟩ = false ∧ W.frozen? ⟨g, 2, none⟩ = false ∧ W.frozen? ⟨g, 3, none⟩ = false := ⟨(by rw [blk_frozen h]; rfl), (by rw [blk_frozen h]; rfl), (by rw [blk_frozen h]; rfl), (by rw [blk_frozen h]; rfl)⟩
theorem boxZRA_at {W : World} {g : Nat} (h : W.heap[g]? = some boxZR) : W.cell? ⟨g, 0, none⟩ = some (.int .u8 0) ∧ W.cell? ⟨g, 1, none⟩ = some (.int .u64 0) ∧ W.cell? ⟨g, 2, none⟩ = some (.int .u64 0) := ⟨(by rw [blk_cell h]; rfl), (by rw [blk_cell h]; rfl), (by rw [blk_cell h]; rfl)⟩
theorem later_boxZRA {W : World} {g : Nat} (h : W.heap[g]? = some boxZR) : (∀ zz : Later W.heap.size W, zz.val.cell? ⟨g, 0, none⟩ = some (.int .u8 0)) ∧ (∀ zz : Later W.heap.size W, zz.val.cell? ⟨g, 1, none⟩ = some (.int .u64 0)) ∧ (∀ zz : Later W.heap.size W, zz.val.cell? ⟨g, 2, none⟩ = some (.int .u64 0)) := ⟨(fun zz => by rw [blk_cell (blk_kept zz.prop h)]; rfl), (fun zz => by rw [blk_cell (blk_kept zz.prop h)]; rfl), (fun zz => by rw [blk_cell (blk_kept zz.prop h)]; rfl)⟩
theorem boxZRA_free {W : World} {g : Nat} (h : W.heap[g]? = some boxZR) : W.frozen? ⟨g, 0, none⟩ = false ∧ W.frozen? ⟨g, 1, none⟩ = false ∧ W.frozen? ⟨g, 2, none⟩ = false := ⟨(by rw [blk_frozen h]; rfl), (by rw [blk_frozen h]; rfl), (by rw [blk_frozen h]; rfl)⟩
theorem boxZRP_at {W : World} {g : Nat} (h : W.heap[g]? = some boxZRP) : W.cell? ⟨g, 0, none⟩ = some (.int .u8 0) ∧ W.cell? ⟨g, 1, none⟩ = some (.int .u64 0) ∧ W.cell? ⟨g, 2, none⟩ = some (.int .u64 0) ∧ W.cell? ⟨g, 3, none⟩ = some (.int .i64 0) := ⟨(by rw [blk_cell h]; rfl), (by rw [blk_cell h]; rfl), (by rw [blk_cell h]; rfl), (by rw [blk_cell h]; rfl)⟩
theorem later_boxZRP {W : World} {g : Nat} (h : W.heap[g]? = some boxZRP) : (∀ zz : Later W.heap.size W, zz.val.cell? ⟨g, 0, none⟩ = some (.int .u8 0)) ∧ (∀ zz : Later W.heap.size W, zz.val.cell? ⟨g, 1, none⟩ = some (.int .u64 0)) ∧ (∀ zz : Later W.heap.size W, zz.val.cell? ⟨g, 2, none⟩ = some (.int .u64 0)) ∧ (∀ zz : Later W.heap.size W, zz.val.cell? ⟨g, 3, none⟩ = some (.int .i64 0)) := ⟨(fun zz => by rw [blk_cell (blk_kept zz.prop h)]; rfl), (fun zz => by rw [blk_cell (blk_kept zz.prop h)]; rfl), (fun zz => by rw [blk_cell (blk_kept zz.prop h)]; rfl), (fun zz => by rw [blk_cell (blk_kept zz.prop h)]; rfl)⟩
theorem boxZRP_free {W : World} {g : Nat} (h : W.heap[g]? = some boxZRP) : W.frozen? ⟨g, 0, none⟩ = false ∧ W.frozen? ⟨g, 1, none⟩ = false ∧ W.frozen? ⟨g, 2, none⟩ = false ∧ W.frozen? ⟨g, 3, none⟩ = false := ⟨(by rw [blk_frozen h]; rfl), (by rw [blk_frozen h]; rfl), (by rw [blk_frozen h]; rfl), (by rw [blk_frozen h]; rfl)⟩
def CutC (n : Nat) (b : Int) (P : Prop) (Q : Prop) : Prop := ((((n : Int) == 0) = true ∧ P) ∨ (((n : Int) == 0) = false ∧ b < 0 ∧ P) ∨ (((n : Int) == 0) = false ∧ (¬ b < 0) ∧ b > (n : Int) ∧ P)) ∨ (((n : Int) == 0) = false ∧ (¬ b < 0) ∧ (¬ b > (n : Int)) ∧ Q)
theorem cut_split (a : Ad) (b : Int) {n : Nat} (hn : n = (rowA a).length) : CutC n b (cutP a b = zeroP ∧ cutE a b = 1) (rightA a = true ∧ b.toNat ≤ wid a ∧ (b.toNat : Int) = b ∧ cutP a b = (fillA a b.toNat 0, b) ∧ cutE a b = 0) := by
  unfold CutC
  have hP : fits a b = false → cutP a b = zeroP ∧ cutE a b = 1 := fun h => ⟨by unfold cutP; rw [h]; rfl, by unfold cutE; rw [h]; rfl⟩
  have hb : fits a b = true ↔ n ≠ 0 ∧ 0 ≤ b ∧ b ≤ (n : Int) := by rw [hn]; exact fits_row
  cases hf : fits a b with
  | false =>
    have hp := hP hf
    have hno : ¬ (n ≠ 0 ∧ 0 ≤ b ∧ b ≤ (n : Int)) := fun h => by rw [hb.2 h] at hf; cases hf
    left
    by_cases h0 : n = 0
    · exact .inl ⟨by simp [h0], hp⟩
    by_cases h1 : b < 0
    · exact .inr (.inl ⟨by simp [h0], h1, hp⟩)
    · exact .inr (.inr ⟨by simp [h0], h1, by omega, hp⟩)
  | true =>
    obtain ⟨h0, h1, h2⟩ := hb.1 hf
    have hr := (fits_iff.1 hf).1
    have hw : n = wid a := by rw [hn, row_length hr]
    have hk : (b.toNat : Int) = b := by omega
    have hc := cut_fill hr (k := b.toNat) (by omega)
    rw [hk] at hc
    exact .inr ⟨by simp [h0], by omega, by omega, hr, by omega, hk, hc.1, by unfold cutE; rw [hf]; rfl⟩
set_option maxHeartbeats 4000000 in
theorem rcut (a : Ad) (b : Int) (w : World) : Calls Tryz.prog 7 #[encA a, .int .i64 b] w fun e w' => e = .returned (.tuple #[encP (cutP a b), .int .i64 (cutE a b)]) ∧ Below w.heap.size w w' := by
  have HR := Lib.hid (fun W => rrow a W)
  obtain ⟨n, hn⟩ : ∃ n, n = (rowA a).length := ⟨_, rfl⟩
  have HN := Lib.hid hn
  have HF := Lib.hid (cut_split a b hn)
  unfold CutC at HF
  have HFI := Lib.hid (show rightA a = true → b.toNat ≤ wid a → (b.toNat : Int) = b → ∀ W, Calls Tryz.prog 34 #[encA a, .int .i64 b, .int .u8 0] W fun e w' => e = .returned (encA (fillA a b.toNat 0)) ∧ Below W.heap.size W w' from fun h1 h2 h3 W => by
    have := rfilled a b.toNat 0 W h1 h2
    rw [h3] at this
    exact this)
  obtain ⟨A, hA⟩ : ∃ A, A = fillA a b.toNat 0 := ⟨_, rfl⟩
  rw [← hA] at HFI HF
  clear hn hA
  have HNL := Lib.hid (show (rowA a).length ≤ 1000 from by
    by_cases h : rightA a = true
    · rw [row_length h]; unfold wid; split <;> omega
    · rw [row_none (bool_of h)]; simp)
  obtain ⟨C, hC⟩ : ∃ C, C = cutP a b := ⟨_, rfl⟩
  obtain ⟨ce, hce⟩ : ∃ C, C = cutE a b := ⟨_, rfl⟩
  rw [← hC, ← hce] at HF ⊢
  clear hC hce
  have HRA := Lib.hid HR.out
  obtain ⟨R, hR⟩ : ∃ R, R = rowA a := ⟨_, rfl⟩
  rw [← hR] at HN HNL HR HRA
  obtain ⟨ra, hra⟩ : ∃ r, r = rightA a := ⟨_, rfl⟩
  obtain ⟨wa, hwa⟩ : ∃ r, r = wid a := ⟨_, rfl⟩
  rw [← hra, ← hwa] at HF HFI
  clear hR HRA hra hwa
  obtain ⟨f, x, y⟩ := a
  obtain ⟨fA, xA, yA⟩ := A
  have HXa1 := Lib.hid (heap_alloc_new w (boxRA (f, x, y)))
  have HW1 := Lib.hid (show Below w.heap.size w (w.alloc (boxRA (f, x, y))) from (Below.refl _ _).alloc (Nat.le_refl _) _)
  have HXa2 := Lib.hid (blk_alloc HXa1.out boxZRP)
  have hxz := heap_alloc_new (w.alloc (boxRA (f, x, y))) boxZRP
  simp only [World.size_alloc] at hxz
  have HXz2 := Lib.hid hxz
  clear hxz
  have HW2 := Lib.hid (show Below w.heap.size w ((w.alloc (boxRA (f, x, y))).alloc boxZRP) from HW1.out.alloc HW1.out.size _)
  go_enter Tryz.func7, Tryz.ntmps7
  obtain ⟨a0, a1, a2⟩ := boxRA_at HXa2.out
  go_wp2_with fail
  refine (HR.out _).mono ?_
  rintro e w1 ⟨v, rfl, ho, hb⟩
  obtain ⟨ao, cap, rfl⟩ := owns_slice1 ho
  clear ho
  rw [← HN.out]
  clear a0 a1 a2
  have HXa3 := Lib.hid (blk_kept hb HXa2.out)
  have HXz3 := Lib.hid (blk_kept hb HXz2.out)
  have HW3 := Lib.hid (below_step HW2.out hb HW2.out.size)
  clear hb
  rcases HF.out with (⟨h1, h4⟩ | ⟨h1, h2, h4⟩ | ⟨h1, h2, h3, h4⟩) | ⟨h1, h2, h3, h4⟩
  · have HV := Lib.hid h4
    clear h4
    obtain ⟨z0, z1, z2, z3⟩ := boxZRP_at HXz3.out
    obtain ⟨zf0, zf1, zf2, zf3⟩ := boxZRP_free HXz3.out
    go_wp2_with fail
    exact bodyPost_ret (v := .tuple #[.agg #[.int .u8 0, .int .u64 0, .int .u64 0, .int .i64 0], .int .i64 1]) (by simp [results, Tryz.results7, go_sem, z0, z1, z2, z3]) rfl ⟨by rw [HV.out.1, HV.out.2]; rfl, set4 HW3.out (Nat.le_succ _) _ _ _ _⟩
  · have HV := Lib.hid h4
    clear h4
    obtain ⟨z0, z1, z2, z3⟩ := boxZRP_at HXz3.out
    obtain ⟨zf0, zf1, zf2, zf3⟩ := boxZRP_free HXz3.out
    go_wp2_with fail
    exact bodyPost_ret (v := .tuple #[.agg #[.int .u8 0, .int .u64 0, .int .u64 0, .int .i64 0], .int .i64 1]) (by simp [results, Tryz.results7, go_sem, z0, z1, z2, z3]) rfl ⟨by rw [HV.out.1, HV.out.2]; rfl, set4 HW3.out (Nat.le_succ _) _ _ _ _⟩
  · have HV := Lib.hid h4
    clear h4
    obtain ⟨z0, z1, z2, z3⟩ := boxZRP_at HXz3.out
    obtain ⟨zf0, zf1, zf2, zf3⟩ := boxZRP_free HXz3.out
    go_wp2_with fail
    exact bodyPost_ret (v := .tuple #[.agg #[.int .u8 0, .int .u64 0, .int .u64 0, .int .i64 0], .int .i64 1]) (by simp [results, Tryz.results7, go_sem, z0, z1, z2, z3]) rfl ⟨by rw [HV.out.1, HV.out.2]; rfl, set4 HW3.out (Nat.le_succ _) _ _ _ _⟩
  · have HV := Lib.hid h4.2.2.2
    have HG := Lib.hid (HFI.out h4.1 h4.2.1 h4.2.2.1)
    clear h4
    obtain ⟨a0, a1, a2⟩ := boxRA_at HXa3.out
    go_wp2_with fail
    refine (HG.out _).mono ?_
    rintro e v4 ⟨rfl, hb⟩
    clear a0 a1 a2
    have HXa5 := Lib.hid (blk_kept hb HXa3.out)
    have HXz5 := Lib.hid (blk_kept hb HXz3.out)
    have HW5 := Lib.hid (below_step HW3.out hb HW3.out.size)
    clear hb
    obtain ⟨z0, z1, z2, z3⟩ := boxZRP_at HXz5.out
    obtain ⟨zf0, zf1, zf2, zf3⟩ := boxZRP_free HXz5.out
    go_wp2_with fail
    exact bodyPost_ret (v := .tuple #[.agg #[.int .u8 (fA.toNat : Int), .int .u64 (xA.toNat : Int), .int .u64 (yA.toNat : Int), .int .i64 b], .int .i64 0]) (by simp [results, Tryz.results7, go_sem, z0, z1, z2, z3]) rfl ⟨by rw [HV.out.1, HV.out.2], set4 HW5.out (Nat.le_succ _) _ _ _ _⟩
def MeetC (rp rq h1 h2 h3 h4 m : Bool) : Prop := (rp = false ∧ m = false) ∨ (rp = true ∧ rq = false ∧ m = false) ∨ (rp = true ∧ rq = true ∧ h1 = true ∧ m = true) ∨ (rp = true ∧ rq = true ∧ h1 = false ∧ h2 = true ∧ m = true) ∨ (rp = true ∧ rq = true ∧ h1 = false ∧ h2 = false ∧ h3 = true ∧ m = true) ∨ (rp = true ∧ rq = true ∧ h1 = false ∧ h2 = false ∧ h3 = false ∧ m = h4)
theorem meet_cases {rp rq h1 h2 h3 h4 m : Bool} (h : m = (rp && (rq && (h1 || (h2 || (h3 || h4)))))) : MeetC rp rq h1 h2 h3 h4 m := by
  subst h
  unfold MeetC
  cases rp <;> cases rq <;> cases h1 <;> cases h2 <;> cases h3 <;> cases h4 <;> simp
set_option maxHeartbeats 8000000 in
theorem rmeets (p q : Pf) (w : World) : Calls Tryz.prog 30 #[encP p, encP q] w fun e w' => e = .returned (.bool (meets p q)) ∧ Below w.heap.size w w' := by
  have HR1 := Lib.hid (fun W => rrightP p W)
  have HR2 := Lib.hid (fun W => rrightP q W)
  have HL1 := Lib.hid (fun W => rlast p W)
  have HL2 := Lib.hid (fun W => rlast q W)
  have HH1 := Lib.hid (fun W => rhasP q p.1 W)
  have HH2 := Lib.hid (fun W => rhasP q (lastR p) W)
  have HH3 := Lib.hid (fun W => rhasP p q.1 W)
  have HH4 := Lib.hid (fun W => rhasP p (lastR q) W)
  have HF := Lib.hid (meet_cases (show meets p q = (rightP p && (rightP q && (hasP q p.1 || (hasP q (lastR p) || (hasP p q.1 || hasP p (lastR q)))))) from (meetsR_eq p q).symm))
  unfold MeetC at HF
  obtain ⟨lp, h_0⟩ : ∃ r, r = lastR p := ⟨_, rfl⟩
  rw [← h_0] at HL1 HH2 HF
  clear h_0
  obtain ⟨lq, h_1⟩ : ∃ r, r = lastR q := ⟨_, rfl⟩
  rw [← h_1] at HL2 HH4 HF
  clear h_1
  obtain ⟨m, h_2⟩ : ∃ r, r = meets p q := ⟨_, rfl⟩
  rw [← h_2] at HF ⊢
  clear h_2
  obtain ⟨rp, h_3⟩ : ∃ r, r = rightP p := ⟨_, rfl⟩
  rw [← h_3] at HR1 HF
  clear h_3
  obtain ⟨rq, h_4⟩ : ∃ r, r = rightP q := ⟨_, rfl⟩
  rw [← h_4] at HR2 HF
  clear h_4
  obtain ⟨h1, h_5⟩ : ∃ r, r = hasP q p.1 := ⟨_, rfl⟩
  rw [← h_5] at HH1 HF
  clear h_5
  obtain ⟨h2, h_6⟩ : ∃ r, r = hasP q lp := ⟨_, rfl⟩
  rw [← h_6] at HH2 HF
  clear h_6
  obtain ⟨h3, h_7⟩ : ∃ r, r = hasP p q.1 := ⟨_, rfl⟩
  rw [← h_7] at HH3 HF
  clear h_7
  obtain ⟨h4, h_8⟩ : ∃ r, r = hasP p lq := ⟨_, rfl⟩
  rw [← h_8] at HH4 HF
  clear h_8
  obtain ⟨⟨fp, xp, yp⟩, bp⟩ := p
  obtain ⟨⟨fq, xq, yq⟩, bq⟩ := q
  obtain ⟨fl, xl, yl⟩ := lp
  obtain ⟨fk, xk, yk⟩ := lq
  have HXp1 := Lib.hid (heap_alloc_new w (boxRP ((fp, xp, yp), bp)))
  have HW1 := Lib.hid (show Below w.heap.size w (w.alloc (boxRP ((fp, xp, yp), bp))) from (Below.refl _ _).alloc (Nat.le_refl _) _)
  have HXp2 := Lib.hid (blk_alloc HXp1.out (boxRP ((fq, xq, yq), bq)))
  have hxq := heap_alloc_new (w.alloc (boxRP ((fp, xp, yp), bp))) (boxRP ((fq, xq, yq), bq))
  simp only [World.size_alloc] at hxq
  have HXq2 := Lib.hid hxq
  clear hxq
  have HW2 := Lib.hid (show Below w.heap.size w ((w.alloc (boxRP ((fp, xp, yp), bp))).alloc (boxRP ((fq, xq, yq), bq))) from HW1.out.alloc HW1.out.size _)
  go_enter Tryz.func30, Tryz.ntmps30
  go_wp2_with fail
  obtain ⟨v3, hv3⟩ : ∃ v3, v3 = ((w.alloc (boxRP ((fp, xp, yp), bp))).alloc (boxRP ((fq, xq, yq), bq))) := ⟨_, rfl⟩
  rw [← hv3] at HXp2 HXq2 HW2 ⊢
  clear hv3
  rcases HF.out with ⟨rfl, rfl⟩ | ⟨rfl, rfl, rfl⟩ | ⟨rfl, rfl, rfl, rfl⟩ | ⟨rfl, rfl, rfl, rfl, rfl⟩ | ⟨rfl, rfl, rfl, rfl, rfl, rfl⟩ | ⟨rfl, rfl, rfl, rfl, rfl, rfl⟩
  · obtain ⟨p0, p1, p2, p3⟩ := later_boxRP HXp2.out
    obtain ⟨q0, q1, q2, q3⟩ := later_boxRP HXq2.out
    refine wp_region_later v3.heap.size (by kernel_rfl) (by kernel_rfl) ?_
    repeat (go_big_quiet_step (first | (go_at_call 22; first | with_reducible exact Later.calls (Nat.le_refl _) (HR1.out _) | with_reducible exact Later.calls (Nat.le_refl _) (HR2.out _)) | (go_at_call 18; first | with_reducible exact Later.calls (Nat.le_refl _) (HL1.out _) | with_reducible exact Later.calls (Nat.le_refl _) (HL2.out _)) | (go_at_call 24; first | with_reducible exact Later.calls (Nat.le_refl _) (HH1.out _) | with_reducible exact Later.calls (Nat.le_refl _) (HH2.out _) | with_reducible exact Later.calls (Nat.le_refl _) (HH3.out _) | with_reducible exact Later.calls (Nat.le_refl _) (HH4.out _))))
    refine wpQuiet_nil ?_
    rintro v4 ⟨zz, rfl⟩
    have hb := zz.prop
    have HZ0 := Lib.hid hb
    clear p0 p1 p2 p3 q0 q1 q2 q3
    generalize zz.val = v4 at *
    have HXp5 := Lib.hid (blk_kept hb HXp2.out)
    have HXq5 := Lib.hid (blk_kept hb HXq2.out)
    have HW5 := Lib.hid (below_step HW2.out hb HW2.out.size)
    clear hb
    go_wp2_with fail
    go_ret
    exact ⟨rfl, HW5.out⟩
  · obtain ⟨p0, p1, p2, p3⟩ := later_boxRP HXp2.out
    obtain ⟨q0, q1, q2, q3⟩ := later_boxRP HXq2.out
    refine wp_region_later v3.heap.size (by kernel_rfl) (by kernel_rfl) ?_
    repeat (go_big_quiet_step (first | (go_at_call 22; first | with_reducible exact Later.calls (Nat.le_refl _) (HR1.out _) | with_reducible exact Later.calls (Nat.le_refl _) (HR2.out _)) | (go_at_call 18; first | with_reducible exact Later.calls (Nat.le_refl _) (HL1.out _) | with_reducible exact Later.calls (Nat.le_refl _) (HL2.out _)) | (go_at_call 24; first | with_reducible exact Later.calls (Nat.le_refl _) (HH1.out _) | with_reducible exact Later.calls (Nat.le_refl _) (HH2.out _) | with_reducible exact Later.calls (Nat.le_refl _) (HH3.out _) | with_reducible exact Later.calls (Nat.le_refl _) (HH4.out _))))
    refine wpQuiet_nil ?_
    rintro v6 ⟨zz, rfl⟩
    have hb := zz.prop
    have HZ0 := Lib.hid hb
    clear p0 p1 p2 p3 q0 q1 q2 q3
    generalize zz.val = v6 at *
    have HXp7 := Lib.hid (blk_kept hb HXp2.out)
    have HXq7 := Lib.hid (blk_kept hb HXq2.out)
    have HW7 := Lib.hid (below_step HW2.out hb HW2.out.size)
    clear hb
    go_wp2_with fail
    go_ret
    exact ⟨rfl, HW7.out⟩
  · obtain ⟨p0, p1, p2, p3⟩ := later_boxRP HXp2.out
    obtain ⟨q0, q1, q2, q3⟩ := later_boxRP HXq2.out
    refine wp_region_later v3.heap.size (by kernel_rfl) (by kernel_rfl) ?_
    repeat (go_big_quiet_step (first | (go_at_call 22; first | with_reducible exact Later.calls (Nat.le_refl _) (HR1.out _) | with_reducible exact Later.calls (Nat.le_refl _) (HR2.out _)) | (go_at_call 18; first | with_reducible exact Later.calls (Nat.le_refl _) (HL1.out _) | with_reducible exact Later.calls (Nat.le_refl _) (HL2.out _)) | (go_at_call 24; first | with_reducible exact Later.calls (Nat.le_refl _) (HH1.out _) | with_reducible exact Later.calls (Nat.le_refl _) (HH2.out _) | with_reducible exact Later.calls (Nat.le_refl _) (HH3.out _) | with_reducible exact Later.calls (Nat.le_refl _) (HH4.out _))))
    refine wpQuiet_nil ?_
    rintro v8 ⟨zz, rfl⟩
    have hb := zz.prop
    have HZ0 := Lib.hid hb
    clear p0 p1 p2 p3 q0 q1 q2 q3
    generalize zz.val = v8 at *
    have HXp9 := Lib.hid (blk_kept hb HXp2.out)
    have HXq9 := Lib.hid (blk_kept hb HXq2.out)
    have HW9 := Lib.hid (below_step HW2.out hb HW2.out.size)
    clear hb
    go_wp2_with fail
    go_ret
    exact ⟨rfl, HW9.out⟩
  · obtain ⟨p0, p1, p2, p3⟩ := later_boxRP HXp2.out
    obtain ⟨q0, q1, q2, q3⟩ := later_boxRP HXq2.out
    refine wp_region_later v3.heap.size (by kernel_rfl) (by kernel_rfl) ?_
    repeat (go_big_quiet_step (first | (go_at_call 22; first | with_reducible exact Later.calls (Nat.le_refl _) (HR1.out _) | with_reducible exact Later.calls (Nat.le_refl _) (HR2.out _)) | (go_at_call 18; first | with_reducible exact Later.calls (Nat.le_refl _) (HL1.out _) | with_reducible exact Later.calls (Nat.le_refl _) (HL2.out _)) | (go_at_call 24; first | with_reducible exact Later.calls (Nat.le_refl _) (HH1.out _) | with_reducible exact Later.calls (Nat.le_refl _) (HH2.out _) | with_reducible exact Later.calls (Nat.le_refl _) (HH3.out _) | with_reducible exact Later.calls (Nat.le_refl _) (HH4.out _))))
    refine wpQuiet_nil ?_
    rintro v10 ⟨zz, rfl⟩
    have hb := zz.prop
    have HZ0 := Lib.hid hb
    clear p0 p1 p2 p3 q0 q1 q2 q3
    generalize zz.val = v10 at *
    have HXp11 := Lib.hid (blk_kept hb HXp2.out)
    have HXq11 := Lib.hid (blk_kept hb HXq2.out)
    have HW11 := Lib.hid (below_step HW2.out hb HW2.out.size)
    clear hb
    go_wp2_with fail
    go_ret
    exact ⟨rfl, HW11.out⟩
  · obtain ⟨p0, p1, p2, p3⟩ := later_boxRP HXp2.out
    obtain ⟨q0, q1, q2, q3⟩ := later_boxRP HXq2.out
    refine wp_region_later v3.heap.size (by kernel_rfl) (by kernel_rfl) ?_
    repeat (go_big_quiet_step (first | (go_at_call 22; first | with_reducible exact Later.calls (Nat.le_refl _) (HR1.out _) | with_reducible exact Later.calls (Nat.le_refl _) (HR2.out _)) | (go_at_call 18; first | with_reducible exact Later.calls (Nat.le_refl _) (HL1.out _) | with_reducible exact Later.calls (Nat.le_refl _) (HL2.out _)) | (go_at_call 24; first | with_reducible exact Later.calls (Nat.le_refl _) (HH1.out _) | with_reducible exact Later.calls (Nat.le_refl _) (HH2.out _) | with_reducible exact Later.calls (Nat.le_refl _) (HH3.out _) | with_reducible exact Later.calls (Nat.le_refl _) (HH4.out _))))
    refine wpQuiet_nil ?_
    rintro v12 ⟨zz, rfl⟩
    have hb := zz.prop
    have HZ0 := Lib.hid hb
    clear p0 p1 p2 p3 q0 q1 q2 q3
    generalize zz.val = v12 at *
    have HXp13 := Lib.hid (blk_kept hb HXp2.out)
    have HXq13 := Lib.hid (blk_kept hb HXq2.out)
    have HW13 := Lib.hid (below_step HW2.out hb HW2.out.size)
    clear hb
    go_wp2_with fail
    go_ret
    exact ⟨rfl, HW13.out⟩
  · obtain ⟨p0, p1, p2, p3⟩ := later_boxRP HXp2.out
    obtain ⟨q0, q1, q2, q3⟩ := later_boxRP HXq2.out
    refine wp_region_later v3.heap.size (by kernel_rfl) (by kernel_rfl) ?_
    repeat (go_big_quiet_step (first | (go_at_call 22; first | with_reducible exact Later.calls (Nat.le_refl _) (HR1.out _) | with_reducible exact Later.calls (Nat.le_refl _) (HR2.out _)) | (go_at_call 18; first | with_reducible exact Later.calls (Nat.le_refl _) (HL1.out _) | with_reducible exact Later.calls (Nat.le_refl _) (HL2.out _)) | (go_at_call 24; first | with_reducible exact Later.calls (Nat.le_refl _) (HH1.out _) | with_reducible exact Later.calls (Nat.le_refl _) (HH2.out _) | with_reducible exact Later.calls (Nat.le_refl _) (HH3.out _) | with_reducible exact Later.calls (Nat.le_refl _) (HH4.out _))))
    refine wpQuiet_nil ?_
    rintro v14 ⟨zz, rfl⟩
    have hb := zz.prop
    have HZ0 := Lib.hid hb
    clear p0 p1 p2 p3 q0 q1 q2 q3
    generalize zz.val = v14 at *
    have HXp15 := Lib.hid (blk_kept hb HXp2.out)
    have HXq15 := Lib.hid (blk_kept hb HXq2.out)
    have HW15 := Lib.hid (below_step HW2.out hb HW2.out.size)
    clear hb
    go_wp2_with fail
    go_ret
    exact ⟨rfl, HW15.out⟩
end Go.Proofs.Tryz.Cd
