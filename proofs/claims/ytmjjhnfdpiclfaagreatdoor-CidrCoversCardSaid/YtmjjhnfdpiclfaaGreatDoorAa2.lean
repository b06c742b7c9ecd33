/- The neighbours of an address: Next, Back. -/
import Derived.Test.YtmjjhnfdpiclfaaGreatDoorMC
import Derived.Laws.Externs
set_option linter.unusedVariables false
set_option linter.unusedSimpArgs false
namespace Go.Proofs.Tryz.Gp
open Go.RowKit Go.Cph Go.Cph.Px Go.Proofs.Tryz.Pfx

/-- A sum of two words and a carry: the word, and what is carried on. -/
def addW (x y c : UInt64) : UInt64 := x + y + c
def addC (x y c : UInt64) : UInt64 := if 18446744073709551616 ≤ x.toNat + y.toNat + c.toNat then 1 else 0
theorem addW_toNat (x y c : UInt64) : (addW x y c).toNat = (x.toNat + y.toNat + c.toNat) % 18446744073709551616 := by
  unfold addW
  rw [UInt64.toNat_add, UInt64.toNat_add, Nat.mod_add_mod]
theorem addC_toNat (x y c : UInt64) (hc : c.toNat ≤ 1) : (addC x y c).toNat = (x.toNat + y.toNat + c.toNat) / 18446744073709551616 := by
  have h1 := x.toNat_lt
  have h2 := y.toNat_lt
  unfold addC
  split
  · have e : (1 : UInt64).toNat = 1 := rfl
    rw [e]; omega
  · have e : (0 : UInt64).toNat = 0 := rfl
    rw [e]; omega
theorem addC_le (x y c : UInt64) : (addC x y c).toNat ≤ 1 := by unfold addC; split <;> decide
theorem run_carry (x y c : UInt64) (hc : c.toNat ≤ 1) (w : World) : (callFunc 88 #[.int .u64 (x.toNat : Int), .int .u64 (y.toNat : Int), .int .u64 (c.toNat : Int)]).run Tryz.prog w = .ok (.value (.tuple #[.int .u64 ((addW x y c).toNat : Int), .int .u64 ((addC x y c).toNat : Int)])) w := by
  rw [run_callFunc_extern (P := Tryz.prog) (f := 88) (e := add64Entry) Tryz.func88 (by kernel_rfl) (by kernel_rfl) (by kernel_rfl) (by kernel_rfl), run_add64 _ _ _ (by omega) (by omega) (by omega) (by omega)]
  simp only [Result.andThen]
  rw [addW_toNat, addC_toNat x y c hc]
  congr 5 <;> omega
def nearA (a : Ad) (low high carry : UInt64) : Ad × Bool :=
  let b : Ad := (a.1, addW a.2.1 high (addC a.2.2 low 0), addW a.2.2 low 0)
  if rightA a && (rightA b && addC a.2.1 high (addC a.2.2 low 0) == carry) then (b, true) else (zeroA, false)
abbrev encAB (r : Ad × Bool) : Value := .tuple #[encA r.1, .bool r.2]
def NearPost (r : Ad × Bool) (w : World) (e : Ending) (w' : World) : Prop := e = .returned (encAB r) ∧ Below w.heap.size w w'
/-! ### near -/
abbrev boxA (a : Ad) : Obj := .cells #[.int .u8 (a.1.toNat : Int), .int .u64 (a.2.1.toNat : Int), .int .u64 (a.2.2.toNat : Int)] 24 (0, 0)
structure CA (w : World) (b o : Nat) (a : Ad) : Prop where
  c0 : w.cell? ⟨b, o, none⟩ = some (.int .u8 (a.1.toNat : Int))
  c1 : w.cell? ⟨b, o + 1, none⟩ = some (.int .u64 (a.2.1.toNat : Int))
  c2 : w.cell? ⟨b, o + 2, none⟩ = some (.int .u64 (a.2.2.toNat : Int))
theorem CA.kept {w w' : World} {b o : Nat} {a : Ad} (h : CA w b o a) (hb : Below w.heap.size w w') : CA w' b o a := ⟨cell_kept hb h.c0, cell_kept hb h.c1, cell_kept hb h.c2⟩
theorem box_ca {w : World} {b : Nat} {a : Ad} (h : w.heap[b]? = some (boxA a)) : CA w b 0 a :=
  ⟨by rw [blk_cell h]; rfl, by rw [blk_cell h]; rfl, by rw [blk_cell h]; rfl⟩
abbrev putA (W : World) (g o : Nat) (a : Ad) : World := ((W.setCell ⟨g, o, none⟩ (.int .u8 (a.1.toNat : Int))).setCell ⟨g, o + 1, none⟩ (.int .u64 (a.2.1.toNat : Int))).setCell ⟨g, o + 2, none⟩ (.int .u64 (a.2.2.toNat : Int))
theorem put_box {W : World} {g : Nat} {b : Ad} (h : W.heap[g]? = some (boxA b)) (a : Ad) : (putA W g 0 a).heap[g]? = some (boxA a) := blk_set (blk_set (blk_set h 0 _) 1 _) 2 _
theorem put_below {B : Nat} {w W : World} {g o : Nat} (h : Below B w W) (hg : B ≤ g) (a : Ad) : Below B w (putA W g o a) :=
  ((h.setCell (p := ⟨g, o, none⟩) hg _).setCell (p := ⟨g, o + 1, none⟩) hg _).setCell (p := ⟨g, o + 2, none⟩) hg _
set_option maxRecDepth 100000 in
set_option maxHeartbeats 4000000 in
theorem near_any (a : Ad) (low high carry : UInt64) (w : World) : Calls Tryz.prog 67 #[encA a, .int .u64 (low.toNat : Int), .int .u64 (high.toNat : Int), .int .u64 (carry.toNat : Int)] w (NearPost (nearA a low high carry) w) := by
  have h1 := fun W => run_carry a.2.2 low 0 (by decide) W
  have h2 := fun W => run_carry a.2.1 high (addC a.2.2 low 0) (addC_le _ _ _) W
  obtain ⟨lo, hlo⟩ : ∃ x, x = addW a.2.2 low 0 := ⟨_, rfl⟩
  obtain ⟨k1, hc1⟩ : ∃ x, x = addC a.2.2 low 0 := ⟨_, rfl⟩
  rw [← hlo, ← hc1] at h1
  rw [← hc1] at h2
  obtain ⟨hi, hhi⟩ : ∃ x, x = addW a.2.1 high k1 := ⟨_, rfl⟩
  obtain ⟨k2, hc2⟩ : ∃ x, x = addC a.2.1 high k1 := ⟨_, rfl⟩
  rw [← hhi, ← hc2] at h2
  obtain ⟨r, hr⟩ : ∃ r, r = nearA a low high carry := ⟨_, rfl⟩
  rw [← hr]
  have HR := Lib.hid (show r = if rightA a && (rightA (a.1, hi, lo) && k2 == carry) then ((a.1, hi, lo), true) else (zeroA, false) by
    rw [hr]; unfold nearA; simp only; rw [← hlo, ← hc1, ← hhi, ← hc2])
  have e0 : ((0 : UInt64).toNat : Int) = 0 := rfl
  rw [e0] at h1
  have HRA := Lib.hid (fun W => Pfx.right a W)
  have HRB := Lib.hid (fun W => Pfx.right (a.1, hi, lo) W)
  obtain ⟨n, hn⟩ : ∃ n, n = w.heap.size := ⟨_, rfl⟩
  have hbx : Below w.heap.size w (((w.alloc (boxA a)).alloc (boxA zeroA)).alloc (boxA (a.1, hi, lo))) := (((Below.refl _ _).alloc (Nat.le_refl _) _).alloc (by simp) _).alloc (by simp; omega) _
  have g1 : (((w.alloc (boxA a)).alloc (boxA zeroA)).alloc (boxA (a.1, hi, lo))).heap[w.heap.size + 1]? = some (boxA zeroA) := by
    have := heap_alloc_new (w.alloc (boxA a)) (boxA zeroA)
    rw [World.size_alloc] at this
    exact blk_alloc this _
  have g2 : (((w.alloc (boxA a)).alloc (boxA zeroA)).alloc (boxA (a.1, hi, lo))).heap[w.heap.size + 1 + 1]? = some (boxA (a.1, hi, lo)) := by
    have := heap_alloc_new ((w.alloc (boxA a)).alloc (boxA zeroA)) (boxA (a.1, hi, lo))
    rwa [World.size_alloc, World.size_alloc] at this
  have HBX := Lib.hid hbx
  have HG1 := Lib.hid g1
  have HG2 := Lib.hid g2
  clear hlo hc1 hhi hc2 e0 hr hbx g1 g2
  go_enter Tryz.func67, Tryz.ntmps67
  go_wp2_with fail
  refine (HRA.out _).mono ?_
  rintro e w1 ⟨rfl, hb⟩
  clear h1 h2
  have HB := Lib.hid (below_step HBX.out hb HBX.out.size)
  have HR1 := Lib.hid (blk_kept hb HG1.out)
  have HR2 := Lib.hid (blk_kept hb HG2.out)
  clear hb HBX HG1 HG2 HRA
  have HN := Lib.hid hn
  rw [← hn] at HB HR1 HR2 ⊢
  clear hn
  cases hra : rightA a
  · have HV := Lib.hid (show r = (zeroA, false) by rw [HR.out, hra]; rfl)
    clear hra
    have f0 : ∀ j, w1.frozen? ⟨n + 1, j, none⟩ = false := fun j => by rw [blk_frozen HR1.out]; simp
    have c0 : w1.cell? ⟨n + 1, 0, none⟩ = some (.int .u8 0) := (box_ca HR1.out).c0
    have c1 : w1.cell? ⟨n + 1, 1, none⟩ = some (.int .u64 0) := (box_ca HR1.out).c1
    have c2 : w1.cell? ⟨n + 1, 2, none⟩ = some (.int .u64 0) := (box_ca HR1.out).c2
    go_wp2_with fail
    have HQ := Lib.hid (show (((w1.setCell ⟨n + 1, 0, none⟩ (.int .u8 0)).setCell ⟨n + 1, 1, none⟩ (.int .u64 0)).setCell ⟨n + 1, 2, none⟩ (.int .u64 0)).heap[n + 1]? = some (boxA zeroA) from put_box HR1.out zeroA)
    have HBQ := Lib.hid (show Below n w (((w1.setCell ⟨n + 1, 0, none⟩ (.int .u8 0)).setCell ⟨n + 1, 1, none⟩ (.int .u64 0)).setCell ⟨n + 1, 2, none⟩ (.int .u64 0)) from put_below (o := 0) HB.out (show n ≤ n + 1 by omega) zeroA)
    clear c0 c1 c2 f0
    generalize ((w1.setCell ⟨n + 1, 0, none⟩ (.int .u8 0)).setCell ⟨n + 1, 1, none⟩ (.int .u64 0)).setCell ⟨n + 1, 2, none⟩ (.int .u64 0) = w9 at *
    have c0 : w9.cell? ⟨n + 1, 0, none⟩ = some (.int .u8 0) := (box_ca HQ.out).c0
    have c1 : w9.cell? ⟨n + 1, 1, none⟩ = some (.int .u64 0) := (box_ca HQ.out).c1
    have c2 : w9.cell? ⟨n + 1, 2, none⟩ = some (.int .u64 0) := (box_ca HQ.out).c2
    exact bodyPost_ret (v := .tuple #[.agg #[.int .u8 0, .int .u64 0, .int .u64 0], .bool false]) (by simp [results, Tryz.results67, go_sem, c0, c1, c2]) rfl ⟨by first | (rw [HV.out]; done) | (rw [HV.out]; rfl), by rw [← HN.out]; exact HBQ.out⟩
  · have b0 := (box_ca HR2.out).c0
    have b1 := (box_ca HR2.out).c1
    have b2 := (box_ca HR2.out).c2
    go_wp2_with fail
    clear b0 b1 b2
    refine (HRB.out _).mono ?_
    rintro e w2 ⟨rfl, hb⟩
    have HB2 := Lib.hid (below_step HB.out hb (by have := HB.out.size; have := HN.out; omega))
    have HS1 := Lib.hid (blk_kept hb HR1.out)
    have HS2 := Lib.hid (blk_kept hb HR2.out)
    clear hb HB HR1 HR2 HRB
    have HB := HB2
    have HR1 := HS1
    have HR2 := HS2
    clear HB2 HS1 HS2
    cases hrb : rightA (a.1, hi, lo)
    · have HV := Lib.hid (show r = (zeroA, false) by rw [HR.out, hra, hrb]; rfl)
      clear hra hrb
      have f0 : ∀ j, w2.frozen? ⟨n + 1, j, none⟩ = false := fun j => by rw [blk_frozen HR1.out]; simp
      have c0 : w2.cell? ⟨n + 1, 0, none⟩ = some (.int .u8 0) := (box_ca HR1.out).c0
      have c1 : w2.cell? ⟨n + 1, 1, none⟩ = some (.int .u64 0) := (box_ca HR1.out).c1
      have c2 : w2.cell? ⟨n + 1, 2, none⟩ = some (.int .u64 0) := (box_ca HR1.out).c2
      go_wp2_with fail
      have HQ := Lib.hid (show (((w2.setCell ⟨n + 1, 0, none⟩ (.int .u8 0)).setCell ⟨n + 1, 1, none⟩ (.int .u64 0)).setCell ⟨n + 1, 2, none⟩ (.int .u64 0)).heap[n + 1]? = some (boxA zeroA) from put_box HR1.out zeroA)
      have HBQ := Lib.hid (show Below n w (((w2.setCell ⟨n + 1, 0, none⟩ (.int .u8 0)).setCell ⟨n + 1, 1, none⟩ (.int .u64 0)).setCell ⟨n + 1, 2, none⟩ (.int .u64 0)) from put_below (o := 0) HB.out (show n ≤ n + 1 by omega) zeroA)
      clear c0 c1 c2 f0
      generalize ((w2.setCell ⟨n + 1, 0, none⟩ (.int .u8 0)).setCell ⟨n + 1, 1, none⟩ (.int .u64 0)).setCell ⟨n + 1, 2, none⟩ (.int .u64 0) = w9 at *
      have c0 : w9.cell? ⟨n + 1, 0, none⟩ = some (.int .u8 0) := (box_ca HQ.out).c0
      have c1 : w9.cell? ⟨n + 1, 1, none⟩ = some (.int .u64 0) := (box_ca HQ.out).c1
      have c2 : w9.cell? ⟨n + 1, 2, none⟩ = some (.int .u64 0) := (box_ca HQ.out).c2
      exact bodyPost_ret (v := .tuple #[.agg #[.int .u8 0, .int .u64 0, .int .u64 0], .bool false]) (by simp [results, Tryz.results67, go_sem, c0, c1, c2]) rfl ⟨by first | (rw [HV.out]; done) | (rw [HV.out]; rfl), by rw [← HN.out]; exact HBQ.out⟩
    · by_cases hk : k2 = carry
      · have k5 : ((k2.toNat : Int) == (carry.toNat : Int)) = true := by rw [hk]; simp
        have HV := Lib.hid (show r = ((a.1, hi, lo), true) by rw [HR.out, hra, hrb, hk]; simp)
        clear hra hrb hk
        have f0 : ∀ j, w2.frozen? ⟨n + 1, j, none⟩ = false := fun j => by rw [blk_frozen HR1.out]; simp
        have c0 : w2.cell? ⟨n + 1, 0, none⟩ = some (.int .u8 0) := (box_ca HR1.out).c0
        have c1 : w2.cell? ⟨n + 1, 1, none⟩ = some (.int .u64 0) := (box_ca HR1.out).c1
        have c2 : w2.cell? ⟨n + 1, 2, none⟩ = some (.int .u64 0) := (box_ca HR1.out).c2
        have b0 := (box_ca HR2.out).c0
        have b1 := (box_ca HR2.out).c1
        have b2 := (box_ca HR2.out).c2
        go_wp2_with fail
        have HQ := Lib.hid (show (((w2.setCell ⟨n + 1, 0, none⟩ (.int .u8 (a.1.toNat : Int))).setCell ⟨n + 1, 1, none⟩ (.int .u64 (hi.toNat : Int))).setCell ⟨n + 1, 2, none⟩ (.int .u64 (lo.toNat : Int))).heap[n + 1]? = some (boxA (a.1, hi, lo)) from put_box HR1.out (a.1, hi, lo))
        have HBQ := Lib.hid (show Below n w (((w2.setCell ⟨n + 1, 0, none⟩ (.int .u8 (a.1.toNat : Int))).setCell ⟨n + 1, 1, none⟩ (.int .u64 (hi.toNat : Int))).setCell ⟨n + 1, 2, none⟩ (.int .u64 (lo.toNat : Int))) from put_below (o := 0) HB.out (show n ≤ n + 1 by omega) (a.1, hi, lo))
        clear c0 c1 c2 f0 b0 b1 b2
        generalize ((w2.setCell ⟨n + 1, 0, none⟩ (.int .u8 (a.1.toNat : Int))).setCell ⟨n + 1, 1, none⟩ (.int .u64 (hi.toNat : Int))).setCell ⟨n + 1, 2, none⟩ (.int .u64 (lo.toNat : Int)) = w9 at *
        have c0 : w9.cell? ⟨n + 1, 0, none⟩ = some (.int .u8 (a.1.toNat : Int)) := (box_ca HQ.out).c0
        have c1 : w9.cell? ⟨n + 1, 1, none⟩ = some (.int .u64 (hi.toNat : Int)) := (box_ca HQ.out).c1
        have c2 : w9.cell? ⟨n + 1, 2, none⟩ = some (.int .u64 (lo.toNat : Int)) := (box_ca HQ.out).c2
        exact bodyPost_ret (v := .tuple #[.agg #[.int .u8 (a.1.toNat : Int), .int .u64 (hi.toNat : Int), .int .u64 (lo.toNat : Int)], .bool true]) (by simp [results, Tryz.results67, go_sem, c0, c1, c2]) rfl ⟨by first | (rw [HV.out]; done) | (rw [HV.out]; rfl), by rw [← HN.out]; exact HBQ.out⟩
      · have k5 : ((k2.toNat : Int) == (carry.toNat : Int)) = false := by rw [u64_eq]; simpa using hk
        have HV := Lib.hid (show r = (zeroA, false) by rw [HR.out, hra, hrb]; simp [hk])
        clear hra hrb hk
        have f0 : ∀ j, w2.frozen? ⟨n + 1, j, none⟩ = false := fun j => by rw [blk_frozen HR1.out]; simp
        have c0 : w2.cell? ⟨n + 1, 0, none⟩ = some (.int .u8 0) := (box_ca HR1.out).c0
        have c1 : w2.cell? ⟨n + 1, 1, none⟩ = some (.int .u64 0) := (box_ca HR1.out).c1
        have c2 : w2.cell? ⟨n + 1, 2, none⟩ = some (.int .u64 0) := (box_ca HR1.out).c2
        go_wp2_with fail
        have HQ := Lib.hid (show (((w2.setCell ⟨n + 1, 0, none⟩ (.int .u8 0)).setCell ⟨n + 1, 1, none⟩ (.int .u64 0)).setCell ⟨n + 1, 2, none⟩ (.int .u64 0)).heap[n + 1]? = some (boxA zeroA) from put_box HR1.out zeroA)
        have HBQ := Lib.hid (show Below n w (((w2.setCell ⟨n + 1, 0, none⟩ (.int .u8 0)).setCell ⟨n + 1, 1, none⟩ (.int .u64 0)).setCell ⟨n + 1, 2, none⟩ (.int .u64 0)) from put_below (o := 0) HB.out (show n ≤ n + 1 by omega) zeroA)
        clear c0 c1 c2 f0
        generalize ((w2.setCell ⟨n + 1, 0, none⟩ (.int .u8 0)).setCell ⟨n + 1, 1, none⟩ (.int .u64 0)).setCell ⟨n + 1, 2, none⟩ (.int .u64 0) = w9 at *
        have c0 : w9.cell? ⟨n + 1, 0, none⟩ = some (.int .u8 0) := (box_ca HQ.out).c0
        have c1 : w9.cell? ⟨n + 1, 1, none⟩ = some (.int .u64 0) := (box_ca HQ.out).c1
        have c2 : w9.cell? ⟨n + 1, 2, none⟩ = some (.int .u64 0) := (box_ca HQ.out).c2
        exact bodyPost_ret (v := .tuple #[.agg #[.int .u8 0, .int .u64 0, .int .u64 0], .bool false]) (by simp [results, Tryz.results67, go_sem, c0, c1, c2]) rfl ⟨by first | (rw [HV.out]; done) | (rw [HV.out]; rfl), by rw [← HN.out]; exact HBQ.out⟩

def nextA (a : Ad) : Ad × Bool := nearA a 1 0 0
set_option maxRecDepth 100000 in
set_option maxHeartbeats 4000000 in
theorem next_any (a : Ad) (w : World) : Calls Tryz.prog 45 #[encA a] w (NearPost (nextA a) w) := by
  obtain ⟨n, hn⟩ : ∃ n, n = w.heap.size := ⟨_, rfl⟩
  have hbx : Below w.heap.size w ((w.alloc (boxA a)).alloc (boxA zeroA)) := ((Below.refl _ _).alloc (Nat.le_refl _) _).alloc (by simp) _
  have g1 : ((w.alloc (boxA a)).alloc (boxA zeroA)).heap[w.heap.size + 1]? = some (boxA zeroA) := by
    have := heap_alloc_new (w.alloc (boxA a)) (boxA zeroA)
    rwa [World.size_alloc] at this
  have HBX := Lib.hid hbx
  have HG1 := Lib.hid g1
  have HC := Lib.hid (show ∀ W, Calls Tryz.prog 67 #[encA a, .int .u64 ((1 : UInt64).toNat : Int), .int .u64 ((0 : UInt64).toNat : Int), .int .u64 ((0 : UInt64).toNat : Int)] W (NearPost (nextA a) W) from fun W => near_any a 1 0 0 W)
  generalize nextA a = r at *
  obtain ⟨b, ok⟩ := r
  clear hbx g1
  go_enter Tryz.func45, Tryz.ntmps45
  go_wp2_with fail
  refine (HC.out _).mono ?_
  rintro e w1 ⟨rfl, hb⟩
  have HB := Lib.hid (below_step HBX.out hb HBX.out.size)
  have HR1 := Lib.hid (blk_kept hb HG1.out)
  clear hb HBX HG1 HC
  have HN := Lib.hid hn
  rw [← hn] at HB HR1 ⊢
  clear hn
  have f0 : ∀ j, w1.frozen? ⟨n + 1, j, none⟩ = false := fun j => by rw [blk_frozen HR1.out]; simp
  have c0 : w1.cell? ⟨n + 1, 0, none⟩ = some (.int .u8 0) := (box_ca HR1.out).c0
  have c1 : w1.cell? ⟨n + 1, 1, none⟩ = some (.int .u64 0) := (box_ca HR1.out).c1
  have c2 : w1.cell? ⟨n + 1, 2, none⟩ = some (.int .u64 0) := (box_ca HR1.out).c2
  go_wp2_with fail
  have HQ := Lib.hid (show (((w1.setCell ⟨n + 1, 0, none⟩ (.int .u8 (b.1.toNat : Int))).setCell ⟨n + 1, 1, none⟩ (.int .u64 (b.2.1.toNat : Int))).setCell ⟨n + 1, 2, none⟩ (.int .u64 (b.2.2.toNat : Int))).heap[n + 1]? = some (boxA b) from put_box HR1.out b)
  have HBQ := Lib.hid (show Below n w (((w1.setCell ⟨n + 1, 0, none⟩ (.int .u8 (b.1.toNat : Int))).setCell ⟨n + 1, 1, none⟩ (.int .u64 (b.2.1.toNat : Int))).setCell ⟨n + 1, 2, none⟩ (.int .u64 (b.2.2.toNat : Int))) from put_below (o := 0) HB.out (show n ≤ n + 1 by omega) b)
  clear c0 c1 c2 f0
  generalize ((w1.setCell ⟨n + 1, 0, none⟩ (.int .u8 (b.1.toNat : Int))).setCell ⟨n + 1, 1, none⟩ (.int .u64 (b.2.1.toNat : Int))).setCell ⟨n + 1, 2, none⟩ (.int .u64 (b.2.2.toNat : Int)) = w9 at *
  have c0 : w9.cell? ⟨n + 1, 0, none⟩ = some (.int .u8 (b.1.toNat : Int)) := (box_ca HQ.out).c0
  have c1 : w9.cell? ⟨n + 1, 1, none⟩ = some (.int .u64 (b.2.1.toNat : Int)) := (box_ca HQ.out).c1
  have c2 : w9.cell? ⟨n + 1, 2, none⟩ = some (.int .u64 (b.2.2.toNat : Int)) := (box_ca HQ.out).c2
  exact bodyPost_ret (v := .tuple #[.agg #[.int .u8 (b.1.toNat : Int), .int .u64 (b.2.1.toNat : Int), .int .u64 (b.2.2.toNat : Int)], .bool ok]) (by simp [results, Tryz.results45, go_sem, c0, c1, c2]) rfl ⟨rfl, by rw [← HN.out]; exact HBQ.out⟩

def backA (a : Ad) : Ad × Bool := nearA a 18446744073709551615 18446744073709551615 1
theorem near_num (a : Ad) (low high carry : UInt64) : (addC a.2.1 high (addC a.2.2 low 0)).toNat * 340282366920938463463374607431768211456 + num (a.1, addW a.2.1 high (addC a.2.2 low 0), addW a.2.2 low 0) = num a + (high.toNat * 18446744073709551616 + low.toNat) := by
  have e0 : (0 : UInt64).toNat = 0 := rfl
  have h1 := addC_le a.2.2 low 0
  unfold num
  simp only
  rw [addC_toNat _ _ _ h1, addW_toNat, addW_toNat, addC_toNat a.2.2 low 0 (by decide), e0]
  have := a.2.1.toNat_lt
  have := a.2.2.toNat_lt
  have := high.toNat_lt
  have := low.toNat_lt
  omega
theorem rank_num (a : Ad) : rank a = a.1.toNat * 340282366920938463463374607431768211456 + num a := by unfold rank; have e : (2 : Nat) ^ 128 = 340282366920938463463374607431768211456 := by decide
                                                                                                       rw [e]
theorem near_up (B F M N c d : Nat) (hn : c * B + N = M + d) (hc : c = 0) : F + N = F + M + d := by subst hc; omega
theorem near_top (B F M N C c : Nat) (hn : c * B + N = M + 1) (hc : c = 1) (hC : C < B) : F + C ≤ F + M := by subst hc; omega
theorem near_down (B F M N c d : Nat) (hn : c * B + N = M + d) (hd : d + 1 = B) (hc : c = 1) : F + N + 1 = F + M := by subst hc; omega
theorem near_zero (B F M N C c d : Nat) (hn : c * B + N = M + d) (hd : d + 1 = B) (hN : N < B) (hc : c = 0) : F + M ≤ F + C := by subst hc; omega
theorem next_is (a : Ad) : ((nextA a).2 = true → rightA a = true ∧ rightA (nextA a).1 = true ∧ (nextA a).1.1 = a.1 ∧ rank (nextA a).1 = rank a + 1) ∧
    (rightA a = true → (nextA a).2 = false → ∀ c, rightA c = true → c.1 = a.1 → rank c ≤ rank a) := by
  have hn := near_num a 1 0 0
  have e0 : (0 : UInt64).toNat = 0 := rfl
  have e1 : (1 : UInt64).toNat = 1 := rfl
  rw [e0, e1, Nat.zero_mul, Nat.zero_add] at hn
  have hc := addC_le a.2.1 0 (addC a.2.2 1 0)
  unfold nextA nearA
  simp only
  generalize addW a.2.1 0 (addC a.2.2 1 0) = hi at *
  generalize addW a.2.2 1 0 = lo at *
  generalize addC a.2.1 0 (addC a.2.2 1 0) = c2 at *
  have hz : (c2 == 0) = true ↔ c2.toNat = 0 := by rw [beq_iff_eq, ← UInt64.toNat_inj, e0]
  by_cases h : (rightA a && (rightA (a.1, hi, lo) && c2 == 0)) = true
  · rw [if_pos h]
    simp only [Bool.and_eq_true, hz] at h
    refine ⟨fun _ => ⟨h.1, h.2.1, rfl, ?_⟩, fun _ hh => by cases hh⟩
    rw [rank_num, rank_num]
    exact near_up _ _ _ _ _ _ hn h.2.2
  · rw [if_neg h]
    refine ⟨fun hh => (by cases hh), fun ha _ c hcr hcf => ?_⟩
    rw [ha, Bool.true_and, Bool.and_eq_true, hz] at h
    rw [rank_num, rank_num, hcf]
    have hcl := num_lt c
    by_cases hk : c2.toNat = 0
    · have hnr : ¬ rightA (a.1, hi, lo) = true := fun h2 => h ⟨h2, hk⟩
      rw [rightA_iff] at hnr
      have h2 := rightA_iff.1 ha
      have h3 := rightA_iff.1 hcr
      rw [hcf] at h3
      simp only at hnr
      rw [hk, Nat.zero_mul, Nat.zero_add] at hn
      have ne6 : a.1 ≠ 6 := fun e => hnr (Or.inl e)
      have n4 := (h2.resolve_left ne6)
      have nc := (h3.resolve_left ne6)
      have n5 : ¬ num (a.1, hi, lo) < 4294967296 := fun e => hnr (Or.inr ⟨n4.1, e⟩)
      refine Nat.add_le_add_left ?_ _
      have := n4.2
      have := nc.2
      omega
    · exact near_top _ _ _ _ _ _ hn (by omega) hcl
theorem back_is (a : Ad) : ((backA a).2 = true → rightA a = true ∧ rightA (backA a).1 = true ∧ (backA a).1.1 = a.1 ∧ rank (backA a).1 + 1 = rank a) ∧
    (rightA a = true → (backA a).2 = false → ∀ c, rightA c = true → c.1 = a.1 → rank a ≤ rank c) := by
  obtain ⟨m, hm⟩ : ∃ m : UInt64, m = 18446744073709551615 := ⟨_, rfl⟩
  have em : m.toNat = 18446744073709551615 := by rw [hm]; rfl
  have hn := near_num a m m 1
  rw [em] at hn
  have e1 : (1 : UInt64).toNat = 1 := rfl
  unfold backA nearA
  simp only
  rw [← hm]
  have hc := addC_le a.2.1 m (addC a.2.2 m 0)
  generalize addW a.2.1 m (addC a.2.2 m 0) = hi at *
  generalize addW a.2.2 m 0 = lo at *
  generalize addC a.2.1 m (addC a.2.2 m 0) = c2 at *
  have hz : (c2 == 1) = true ↔ c2.toNat = 1 := by rw [beq_iff_eq, ← UInt64.toNat_inj, e1]
  have hd : 18446744073709551615 * 18446744073709551616 + 18446744073709551615 + 1 = 340282366920938463463374607431768211456 := by decide
  by_cases h : (rightA a && (rightA (a.1, hi, lo) && c2 == 1)) = true
  · rw [if_pos h]
    simp only [Bool.and_eq_true, hz] at h
    refine ⟨fun _ => ⟨h.1, h.2.1, rfl, ?_⟩, fun _ hh => by cases hh⟩
    rw [rank_num, rank_num]
    exact near_down _ _ _ _ _ _ hn hd h.2.2
  · rw [if_neg h]
    refine ⟨fun hh => (by cases hh), fun ha _ c hcr hcf => ?_⟩
    rw [ha, Bool.true_and, Bool.and_eq_true, hz] at h
    rw [rank_num, rank_num, hcf]
    have hb := num_lt (a.1, hi, lo)
    by_cases hk : c2.toNat = 1
    · have hnr : ¬ rightA (a.1, hi, lo) = true := fun h2 => h ⟨h2, hk⟩
      rw [rightA_iff] at hnr
      have h2 := rightA_iff.1 ha
      simp only at hnr
      have ne6 : a.1 ≠ 6 := fun e => hnr (Or.inl e)
      have n4 := (h2.resolve_left ne6)
      have n5 : ¬ num (a.1, hi, lo) < 4294967296 := fun e => hnr (Or.inr ⟨n4.1, e⟩)
      have h9 := near_down _ 0 _ _ _ _ hn hd hk
      have := n4.2
      exfalso
      omega
    · exact near_zero _ _ _ _ _ _ _ hn hd hb (by omega)
end Go.Proofs.Tryz.Gp
