/- The walk of VersionMoves. -/
import Derived.Test.YtkeaalacepjadaaDoorWd1
import Derived.Test.YtkeaalacepjadaaDoorVL
import Derived.Test.YtkeaalacepjadaaDoorVu3
set_option linter.unusedVariables false
set_option linter.unusedSimpArgs false
set_option maxRecDepth 100000
namespace Go.Proofs.Tryd.Vr
open Go.RowKit Go.Cph Go.Cph.Skip Go.Cph.So Go.Cph.Ve
open Go.Proofs.Tryd.Sq (row_kept1 grown_below grown_set encU encU_len TU TUs infoU)

def deepN (A : Nat → List Tb) (k : Nat) (f g : ByteArray) (d : Nat) : Nat := ((List.range d).map fun j => if k + 2 ≤ j then (overL (A j) f g).length else 0).sum
theorem deepN_succ (A : Nat → List Tb) (k : Nat) (f g : ByteArray) (d : Nat) : deepN A k f g (d + 1) = deepN A k f g d + (if k + 2 ≤ d then (overL (A d) f g).length else 0) := by
  unfold deepN
  rw [List.range_succ, List.map_append, List.sum_append]
  simp
theorem deepN_next (A : Nat → List Tb) (k : Nat) (f g : ByteArray) {d : Nat} (h : k + 2 ≤ d) : deepN A k f g (d + 1) = deepN A k f g d + (overL (A d) f g).length := by
  rw [deepN_succ, if_pos h]
theorem deepN_zero (A : Nat → List Tb) (k : Nat) (f g : ByteArray) : ∀ d, d ≤ k + 2 → deepN A k f g d = 0
  | 0, _ => rfl
  | d + 1, h => by rw [deepN_succ, deepN_zero A k f g d (by omega), if_neg (by omega)]
theorem deepN_start (A : Nat → List Tb) (k : Nat) (f g : ByteArray) : deepN A k f g (k + 2) = 0 := deepN_zero A k f g _ (Nat.le_refl _)
theorem deepN_le {A : Nat → List Tb} {k : Nat} {f g : ByteArray} (h : ∀ j, j < 4 → (A j).length ≤ 600) : ∀ {d : Nat}, d ≤ 4 → deepN A k f g d ≤ 10000 := by
  have key : ∀ d, d ≤ 4 → deepN A k f g d ≤ d * 600 := by
    intro d
    induction d with
    | zero => intro _; exact Nat.le_refl _
    | succ d ih =>
      intro hd
      rw [deepN_succ]
      have h1 := ih (by omega)
      have h2 := Nat.le_trans (over_le (A d) f g) (h d (by omega))
      split <;> omega
  intro d hd
  have := key d hd
  omega
theorem botTo_deep (A : Nat → List Tb) (k : Nat) (f g : ByteArray) : ∀ d, botTo A k f g d = decide (deepN A k f g d = 0)
  | 0 => rfl
  | d + 1 => by
    have e : botTo A k f g (d + 1) = (botTo A k f g d && (if k + 2 ≤ d then decide ((overL (A d) f g).length = 0) else true)) := by
      unfold botTo
      rw [List.range_succ, List.all_append]
      simp
    rw [e, botTo_deep A k f g d, deepN_succ]
    split
    · rw [Bool.eq_iff_iff]
      simp only [Bool.and_eq_true, decide_eq_true_eq]
      omega
    · simp
theorem bel_al9 {a w : World} (h : Below a.heap.size a w) (o : Obj) : Below a.heap.size a (w.alloc o) := h.alloc h.size o
theorem sum_le9 {ds : List Ed} {n : Nat} (h : ∀ d ∈ ds, d.1.length ≤ n) : sumA ds ≤ n * ds.length := by
  unfold sumA
  induction ds with
  | nil => simp
  | cons d ds ih =>
    have h1 := h d (by simp)
    have h2 := ih fun d hd => h d (by simp [hd])
    simp only [List.map_cons, List.sum_cons, List.length_cons]
    rw [Nat.mul_succ]
    omega
theorem made_len9 : ∀ (ds : List Ed) (s : List Tb × Nm), (madeD s ds).1.length ≤ s.1.length + sumA ds
  | [], s => Nat.le_add_right _ _
  | d :: ds, s => by
    have h := made_len9 ds (madeStep s d)
    have e : madeD s (d :: ds) = madeD (madeStep s d) ds := rfl
    have h2 : (madeStep s d).1.length ≤ s.1.length + d.1.length := by
      unfold madeStep
      split
      · exact doD_len s.1 s.2 d
      · exact Nat.le_add_right _ _
    have h3 : sumA (d :: ds) = d.1.length + sumA ds := by unfold sumA; rw [List.map_cons, List.sum_cons]
    rw [e, h3]
    omega

set_option maxHeartbeats 16000000 in
theorem moves_any (es : List Es) (ds : List Ed) (ao : Option Addr) (cap : Nat) (w : World) (hl : LimAt w) (hcap : ds.length ≤ cap) (hE : EdsAt w (.slice ao ds.length cap) es ds) :
    Calls Tryd.prog 5 #[.slice ao ds.length cap] w (fun e w' => e = .returned (.bool true) ∧ Below w.heap.size w w') := by
  have HE := Lib.hid hE
  have HLM := Lib.hid hl
  have HC := Lib.hid (great_any (.slice ao ds.length cap) (.slice none 0 0) es ds [] w hE ⟨_, _, rfl, fun h => absurd h (by simp)⟩ (by simp))
  clear hE hl hcap
  go_enter Tryd.func5, Tryd.ntmps5
  go_wp2_with fail
  refine HC.out.mono ?_
  rintro e w1 ⟨b, rfl, hb, rfl⟩
  have HG := Lib.hid hb
  clear HC hb
  cases b
  · obtain ⟨hl, hok, -⟩ := HG.out rfl
    have hs6 : sumA ds ≤ 600 := by
      have := sum_le9 (n := 30) (ds := ds) fun d hd => (hok d hd).1
      omega
    have HS6 := Lib.hid hs6
    have HC := Lib.hid (made_any _ es ds _ HE.out (by omega) (fun d hd => ⟨(hok d hd).1, by have := (hok d hd).2.1; omega⟩) (by omega))
    clear hl hok hs6 HG
    go_wp2_with fail
    refine HC.out.mono ?_
    rintro e w2 ⟨u, A, rfl, ho2, hrel, hnm, hb2⟩
    have HO2 := Lib.hid ho2
    have HB2 := Lib.hid hb2
    have hrel2 : Rel A (madeD ([], 0, 0, 1) ds).1 (u.log, u.seq, u.nxt) := by rw [hnm]; exact hrel
    have hml : (madeD ([], 0, 0, 1) ds).1.length ≤ 600 := by have := made_len9 ds ([], 0, 0, 1); have := HS6.out; simp only [List.length_nil] at *; omega
    have HAL := Lib.hid (lvs_lens hrel2.lvs hml)
    have HTA := Lib.hid (show (tabs A).length ≤ 2400 from by have := lvs_tabs hrel2.lvs (N := 600) hml; omega)
    have HRV := Lib.hid hrel2.rv
    clear ho2 hrel hnm hb2 hrel2 hml HC
    obtain ⟨x0, x1, x2, x3, ul, us, un⟩ := u
    obtain ⟨ua0, uc0, e0⟩ := owns_slice1 (HO2.out.own 0 (by omega))
    obtain ⟨ua1, uc1, e1⟩ := owns_slice1 (HO2.out.own 1 (by omega))
    obtain ⟨ua2, uc2, e2⟩ := owns_slice1 (HO2.out.own 2 (by omega))
    obtain ⟨ua3, uc3, e3⟩ := owns_slice1 (HO2.out.own 3 (by omega))
    dsimp only [Vn.lev] at e0 e1 e2 e3
    subst e0 e1 e2 e3
    have HB3 := Lib.hid (HB2.out.alloc HB2.out.size (boxV (⟨.slice ua0 (A 0).length uc0, .slice ua1 (A 1).length uc1, .slice ua2 (A 2).length uc2, .slice ua3 (A 3).length uc3, ul, us, un⟩ : Vn)))
    have HX3 := Lib.hid (heap_alloc_new w2 (boxV (⟨.slice ua0 (A 0).length uc0, .slice ua1 (A 1).length uc1, .slice ua2 (A 2).length uc2, .slice ua3 (A 3).length uc3, ul, us, un⟩ : Vn)))
    have HV3 := Lib.hid (VerOwn.at' (HO2.out.kept (below_of_alloc (boxV (⟨.slice ua0 (A 0).length uc0, .slice ua1 (A 1).length uc1, .slice ua2 (A 2).length uc2, .slice ua3 (A 3).length uc3, ul, us, un⟩ : Vn)))))
    have hx3 := HX3.out
    have c0 : (w2.alloc (boxV (⟨.slice ua0 (A 0).length uc0, .slice ua1 (A 1).length uc1, .slice ua2 (A 2).length uc2, .slice ua3 (A 3).length uc3, ul, us, un⟩ : Vn))).cell? ⟨w2.heap.size, 0, none⟩ = some (.slice ua0 (A 0).length uc0) := (blk_cell hx3 0).trans rfl
    have c1 : (w2.alloc (boxV (⟨.slice ua0 (A 0).length uc0, .slice ua1 (A 1).length uc1, .slice ua2 (A 2).length uc2, .slice ua3 (A 3).length uc3, ul, us, un⟩ : Vn))).cell? ⟨w2.heap.size, 1, none⟩ = some (.slice ua1 (A 1).length uc1) := (blk_cell hx3 1).trans rfl
    have c2 : (w2.alloc (boxV (⟨.slice ua0 (A 0).length uc0, .slice ua1 (A 1).length uc1, .slice ua2 (A 2).length uc2, .slice ua3 (A 3).length uc3, ul, us, un⟩ : Vn))).cell? ⟨w2.heap.size, 2, none⟩ = some (.slice ua2 (A 2).length uc2) := (blk_cell hx3 2).trans rfl
    have c3 : (w2.alloc (boxV (⟨.slice ua0 (A 0).length uc0, .slice ua1 (A 1).length uc1, .slice ua2 (A 2).length uc2, .slice ua3 (A 3).length uc3, ul, us, un⟩ : Vn))).cell? ⟨w2.heap.size, 3, none⟩ = some (.slice ua3 (A 3).length uc3) := (blk_cell hx3 3).trans rfl
    have c4 : (w2.alloc (boxV (⟨.slice ua0 (A 0).length uc0, .slice ua1 (A 1).length uc1, .slice ua2 (A 2).length uc2, .slice ua3 (A 3).length uc3, ul, us, un⟩ : Vn))).cell? ⟨w2.heap.size, 4, none⟩ = some (.int .u64 (ul.toNat : Int)) := (blk_cell hx3 4).trans rfl
    have c5 : (w2.alloc (boxV (⟨.slice ua0 (A 0).length uc0, .slice ua1 (A 1).length uc1, .slice ua2 (A 2).length uc2, .slice ua3 (A 3).length uc3, ul, us, un⟩ : Vn))).cell? ⟨w2.heap.size, 5, none⟩ = some (.int .u64 (us.toNat : Int)) := (blk_cell hx3 5).trans rfl
    have c6 : (w2.alloc (boxV (⟨.slice ua0 (A 0).length uc0, .slice ua1 (A 1).length uc1, .slice ua2 (A 2).length uc2, .slice ua3 (A 3).length uc3, ul, us, un⟩ : Vn))).cell? ⟨w2.heap.size, 6, none⟩ = some (.int .u64 (un.toNat : Int)) := (blk_cell hx3 6).trans rfl
    have HCL := Lib.hid (show ∀ W, Below (w2.alloc (boxV (⟨.slice ua0 (A 0).length uc0, .slice ua1 (A 1).length uc1, .slice ua2 (A 2).length uc2, .slice ua3 (A 3).length uc3, ul, us, un⟩ : Vn))).heap.size (w2.alloc (boxV (⟨.slice ua0 (A 0).length uc0, .slice ua1 (A 1).length uc1, .slice ua2 (A 2).length uc2, .slice ua3 (A 3).length uc3, ul, us, un⟩ : Vn))) W → W.cell? ⟨w2.heap.size, 0, none⟩ = some (.slice ua0 (A 0).length uc0) ∧ W.cell? ⟨w2.heap.size, 1, none⟩ = some (.slice ua1 (A 1).length uc1) ∧ W.cell? ⟨w2.heap.size, 2, none⟩ = some (.slice ua2 (A 2).length uc2) ∧ W.cell? ⟨w2.heap.size, 3, none⟩ = some (.slice ua3 (A 3).length uc3) ∧ W.cell? ⟨w2.heap.size, 4, none⟩ = some (.int .u64 (ul.toNat : Int)) ∧ W.cell? ⟨w2.heap.size, 5, none⟩ = some (.int .u64 (us.toNat : Int)) ∧ W.cell? ⟨w2.heap.size, 6, none⟩ = some (.int .u64 (un.toNat : Int)) from fun W hb => ⟨cell_kept hb c0, cell_kept hb c1, cell_kept hb c2, cell_kept hb c3, cell_kept hb c4, cell_kept hb c5, cell_kept hb c6⟩)
    have HPC := Lib.hid (pick_any (⟨.slice ua0 (A 0).length uc0, .slice ua1 (A 1).length uc1, .slice ua2 (A 2).length uc2, .slice ua3 (A 3).length uc3, ul, us, un⟩ : Vn) A (w2.alloc (boxV (⟨.slice ua0 (A 0).length uc0, .slice ua1 (A 1).length uc1, .slice ua2 (A 2).length uc2, .slice ua3 (A 3).length uc3, ul, us, un⟩ : Vn))) (HLM.out.kept HB3.out) HV3.out (by have := HTA.out; omega) (fun k hk => Nat.le_trans (HAL.out k hk) (by decide)))
    clear hx3
    go_wp2_with fail
    refine HPC.out.mono ?_
    rintro e wp ⟨pp, ok, rfl, hbp, hp1, hp2⟩
    have HBP := Lib.hid hbp
    cases hk : levK A with
    | none =>
      obtain ⟨rfl, rfl⟩ := hp2 hk
      rw [show encPn zPn = .agg #[.int .i64 0, .slice none 0 0, .slice none 0 0, .bool false] from rfl]
      have hl3 := levK_none.1 hk
      have l0 : (A 0).length ≤ 3 := hl3 0 (by omega)
      have l1 : (A 1).length ≤ 4 := hl3 1 (by omega)
      have l2 : (A 2).length ≤ 16 := hl3 2 (by omega)
      have k0 : ((A 0).length : Int) < 4 := by omega
      have k1 : ((A 1).length : Int) ≤ 4 := by omega
      have k2 : ((A 2).length : Int) ≤ 16 := by omega
      have HBQ := Lib.hid (below_step hbp (below_of_alloc (w := wp) boxPZ) hbp.size)
      have hxp := heap_alloc_new wp boxPZ
      have p1 : (wp.alloc boxPZ).cell? ⟨wp.heap.size, 1, none⟩ = some (.slice none 0 0) := (blk_cell hxp 1).trans rfl
      have p2 : (wp.alloc boxPZ).cell? ⟨wp.heap.size, 2, none⟩ = some (.slice none 0 0) := (blk_cell hxp 2).trans rfl
      clear hp1 hp2 hbp hk hl3 l0 l1 l2 c0 c1 c2 c3 c4 c5 c6 hxp
      obtain ⟨c0, c1, c2, c3, c4, c5, c6⟩ := HCL.out (wp.alloc boxPZ) HBQ.out
      have HWQ := Lib.hid (below_step HB3.out HBQ.out HB3.out.size)
      go_wp2_with fail
      refine (awake_any _).mono ?_
      rintro e w5 ⟨rfl, hb5⟩
      have HBZ := Lib.hid (below_step HWQ.out hb5 HWQ.out.size)
      clear hb5
      go_wp2_with fail
      go_ret
      exact ⟨rfl, HBZ.out⟩
    | some k =>
      have HK := Lib.hid hk
      obtain ⟨rfl, hlv, hbt, hri, hrb⟩ := hp1 k hk
      obtain ⟨plev, pinn, pbel, bt⟩ := pp
      dsimp only at hlv hbt hri hrb
      subst hlv
      obtain ⟨io, ic, hpi⟩ := elems_slice hri.at'
      obtain ⟨bo, bc, hpb⟩ := elems_slice hrb.at'
      subst hpi hpb
      obtain ⟨il, hil⟩ : ∃ n, n = (inK A plev).length := ⟨_, rfl⟩
      obtain ⟨bl, hbl⟩ : ∃ n, n = (belowK A plev).length := ⟨_, rfl⟩
      have HIL := Lib.hid hil
      have HBL := Lib.hid hbl
      rw [← hil] at hri ⊢
      rw [← hbl] at hrb ⊢
      obtain ⟨hk3, hkl, hkj⟩ := levK_lt hk
      have HK3 := Lib.hid hk3
      have HPA := Lib.hid (show 0 < (A plev).length from by omega)
      have HKJ := Lib.hid hkj
      have hib : il ≤ 600 ∧ bl ≤ 600 := by
        rw [hil, hbl]
        refine ⟨?_, Nat.le_trans (over_le _ _ _) (HAL.out (plev + 1) (by omega))⟩
        unfold inK
        split
        · exact HAL.out 0 (by omega)
        · rw [List.length_take]; have := HAL.out plev (by omega); omega
      have HIB := Lib.hid hib
      have HBT := Lib.hid hbt
      have HTI := Lib.hid (hri.at'.kept (below_of_alloc (w := wp) (boxPn ⟨plev, .slice io il ic, .slice bo bl bc, bt⟩)))
      have HTB := Lib.hid (hrb.at'.kept (below_of_alloc (w := wp) (boxPn ⟨plev, .slice io il ic, .slice bo bl bc, bt⟩)))
      have HXP := Lib.hid (heap_alloc_new wp (boxPn ⟨plev, .slice io il ic, .slice bo bl bc, bt⟩))
      have HBQ := Lib.hid (below_step hbp (below_of_alloc (w := wp) (boxPn ⟨plev, .slice io il ic, .slice bo bl bc, bt⟩)) hbp.size)
      have hxp := HXP.out
      have p0 : (wp.alloc (boxPn ⟨plev, .slice io il ic, .slice bo bl bc, bt⟩)).cell? ⟨wp.heap.size, 0, none⟩ = some (.int .i64 (plev : Int)) := (blk_cell hxp 0).trans rfl
      have p1 : (wp.alloc (boxPn ⟨plev, .slice io il ic, .slice bo bl bc, bt⟩)).cell? ⟨wp.heap.size, 1, none⟩ = some (.slice io il ic) := (blk_cell hxp 1).trans rfl
      have p2 : (wp.alloc (boxPn ⟨plev, .slice io il ic, .slice bo bl bc, bt⟩)).cell? ⟨wp.heap.size, 2, none⟩ = some (.slice bo bl bc) := (blk_cell hxp 2).trans rfl
      have p3 : (wp.alloc (boxPn ⟨plev, .slice io il ic, .slice bo bl bc, bt⟩)).cell? ⟨wp.heap.size, 3, none⟩ = some (.bool bt) := (blk_cell hxp 3).trans rfl
      have HPL := Lib.hid (show ∀ W, Below (wp.alloc (boxPn ⟨plev, .slice io il ic, .slice bo bl bc, bt⟩)).heap.size (wp.alloc (boxPn ⟨plev, .slice io il ic, .slice bo bl bc, bt⟩)) W → W.cell? ⟨wp.heap.size, 0, none⟩ = some (.int .i64 (plev : Int)) ∧ W.cell? ⟨wp.heap.size, 1, none⟩ = some (.slice io il ic) ∧ W.cell? ⟨wp.heap.size, 2, none⟩ = some (.slice bo bl bc) ∧ W.cell? ⟨wp.heap.size, 3, none⟩ = some (.bool bt) from fun W hb => ⟨cell_kept hb p0, cell_kept hb p1, cell_kept hb p2, cell_kept hb p3⟩)
      have HTT := Lib.hid (show plev = 0 → ∀ W, Below (wp.alloc (boxPn ⟨plev, .slice io il ic, .slice bo bl bc, bt⟩)).heap.size (wp.alloc (boxPn ⟨plev, .slice io il ic, .slice bo bl bc, bt⟩)) W → Calls Tryd.prog 22 #[.slice io il ic, .slice ua0 (A 0).length uc0] W (fun e w' => e = .returned (.bool true) ∧ Below W.heap.size W w') from fun h0 W hb => by
        have h2 : inK A plev = A 0 := by unfold inK; rw [if_pos h0]
        have h1 := tables14_any (.slice io il ic) (.slice ua0 (A 0).length uc0) (inK A plev) (A 0) W (HTI.out.kept hb) ((HV3.out.kept (below_step HBQ.out hb HBQ.out.size)).l0) (by have := HIB.out; have := HIL.out; omega) (by have := HAL.out 0 (by omega); omega)
        rwa [show decide (inK A plev = A 0) = true from by rw [h2]; simp] at h1)
      clear hp1 hp2 hbp hri hrb hbt hk hkl hkj hil hbl hxp c0 c1 c2 c3 c4 c5 c6 hib
      obtain ⟨c0, c1, c2, c3, c4, c5, c6⟩ := HCL.out (wp.alloc (boxPn ⟨plev, .slice io il ic, .slice bo bl bc, bt⟩)) HBQ.out
      have k1 : ¬ (plev : Int) < 0 := by omega
      have k2 : ¬ (2 : Int) < (plev : Int) := by omega
      go_upto_region 7 with fail
      go_cut [99] (fun vb W => vb = .bool false ∧ Hid (Below (wp.alloc (boxPn ⟨plev, .slice io il ic, .slice bo bl bc, bt⟩)).heap.size (wp.alloc (boxPn ⟨plev, .slice io il ic, .slice bo bl bc, bt⟩)) W))
      case first =>
        by_cases hk0 : plev = 0
        · have m0 : ((plev : Int) == 0) = true := by rw [hk0]; rfl
          have m1 : ¬ (0 : Int) < (plev : Int) := by omega
          have HT0 := Lib.hid (HTT.out hk0)
          clear hk0 hk3
          go_wp2_with fail
          refine (HT0.out _ (Below.refl _ _)).mono ?_
          rintro e wt ⟨rfl, hbt⟩
          have HBTT := Lib.hid hbt
          clear p0 p1 p2 p3 c0 c1 c2 c3 c4 c5 c6
          obtain ⟨p0, p1, p2, p3⟩ := HPL.out wt HBTT.out
          clear hbt
          go_wp2_with fail
          go_meet
          exact ⟨by first | rfl | (simp; omega), HBTT⟩
        · have m0 : ((plev : Int) == 0) = false := by rw [beq_eq_false_iff_ne]; omega
          have m1 : (0 : Int) < (plev : Int) := by omega
          have hi1 : il = 1 := by have := HPA.out; rw [HIL.out]; unfold inK; rw [if_neg hk0, List.length_take]; omega
          have m2 : ((il : Int) != 1) = false := by rw [hi1]; rfl
          have ha0 : (A 0).length ≤ 3 := HKJ.out 0 (by omega)
          have m3 : ¬ (4 : Int) ≤ ((A 0).length : Int) := by omega
          clear hk0 hk3 hi1 ha0
          go_wp2_with fail
          go_meet
          exact ⟨by first | rfl | (simp; omega), Lib.hid (Below.refl _ _)⟩
      case rest =>
        rename World => wq
        obtain ⟨rfl, HBW⟩ := hcut
        clear p0 p1 p2 p3 c0 c1 c2 c3 c4 c5 c6 HTT k1 k2
        have HBV := Lib.hid (below_step HBQ.out HBW.out HBQ.out.size)
        have HBX := Lib.hid (below_step HB3.out HBV.out HB3.out.size)
        obtain ⟨c0, c1, c2, c3, c4, c5, c6⟩ := HCL.out wq HBV.out
        obtain ⟨p0, p1, p2, p3⟩ := HPL.out wq HBW.out
        by_cases hbig : 1099511627726 < un.toNat
        · have m1 : (1099511627726 : Int) < (un.toNat : Int) := by omega
          clear hbig
          go_wp2_with fail
          refine (awake_any _).mono ?_
          rintro e w5 ⟨rfl, hb5⟩
          have HBZ := Lib.hid (below_step HBX.out hb5 HBX.out.size)
          clear hb5
          go_wp2_with fail
          go_ret
          exact ⟨rfl, HBZ.out⟩
        · have HUN := Lib.hid (show un.toNat ≤ 1099511627726 from by omega)
          have m1 : ¬ (1099511627726 : Int) < (un.toNat : Int) := by omega
          have HBC := Lib.hid (behind_any (⟨.slice ua0 (A 0).length uc0, .slice ua1 (A 1).length uc1, .slice ua2 (A 2).length uc2, .slice ua3 (A 3).length uc3, ul, us, un⟩ : Vn) A plev il bl io bo ic bc bt wq (HTI.out.kept HBW.out) HIL.out (HTB.out.kept HBW.out) HBL.out (by have := HIB.out; omega) HK3.out HUN.out)
          clear hbig
          go_wp2_with fail
          refine HBC.out.mono ?_
          rintro e we ⟨x, rfl, hxe, hbe⟩
          obtain ⟨xa, xd, xl, xq, xn⟩ := x
          obtain ⟨ta, tca, hta⟩ := elems_slice hxe.add
          obtain ⟨da, dca, hda⟩ := elems_slice hxe.drop
          rw [show (moveE A plev un us).1.length = 1 from rfl] at hta
          rw [show (moveE A plev un us).2.1.length = (bothK A plev).length from by show ((bothK A plev).map tN).length = _; rw [List.length_map]] at hda
          obtain ⟨nb, hnb⟩ : ∃ n, n = (bothK A plev).length := ⟨_, rfl⟩
          rw [← hnb] at hda
          dsimp only at hta hda
          subst hta hda
          have HNB := Lib.hid hnb
          have HNL := Lib.hid (show nb ≤ 1200 from by rw [hnb]; unfold bothK; rw [List.length_append, ← HIL.out, ← HBL.out]; have := HIB.out; omega)
          have HXE := Lib.hid hxe
          have HBE := Lib.hid (below_step HBV.out hbe HBV.out.size)
          have HBEX := Lib.hid (show Below wq.heap.size wq (we.alloc (boxE ⟨.slice ta 1 tca, .slice da nb dca, xl, xq, xn⟩)) from bel_al9 hbe (boxE ⟨.slice ta 1 tca, .slice da nb dca, xl, xq, xn⟩))
          have hbE := Lib.hid (bel_al9 HBE.out (boxE ⟨.slice ta 1 tca, .slice da nb dca, xl, xq, xn⟩))
          have HB8 := Lib.hid (bel_al9 hbE.out (boxE ⟨.slice ta 1 tca, .slice da nb dca, xl, xq, xn⟩))
          have HEE := Lib.hid (eds_one (alloc2_new we (boxE ⟨.slice ta 1 tca, .slice da nb dca, xl, xq, xn⟩) (boxE ⟨.slice ta 1 tca, .slice da nb dca, xl, xq, xn⟩)) (hxe.kept (bel2 (boxE ⟨.slice ta 1 tca, .slice da nb dca, xl, xq, xn⟩) (boxE ⟨.slice ta 1 tca, .slice da nb dca, xl, xq, xn⟩))))
          have HSL := Lib.hid (show (stayL A plev ++ [moveT A plev un us]).length ≤ 10000 from by
            have h1 := (move_do HRV.out HK3.out HPA.out HUN.out).2
            have := HTA.out
            rw [List.length_append]
            simp only [List.length_cons, List.length_nil]
            omega)
          obtain ⟨hmd, hml⟩ := move_do HRV.out HK3.out HPA.out HUN.out
          have HMD := Lib.hid hmd
          have HAP := Lib.hid (apply_any (⟨.slice ua0 (A 0).length uc0, .slice ua1 (A 1).length uc1, .slice ua2 (A 2).length uc2, .slice ua3 (A 3).length uc3, ul, us, un⟩ : Vn) A (tabs A) _ [(⟨.slice ta 1 tca, .slice da nb dca, xl, xq, xn⟩ : Es)] [moveE A plev un us] (0, stayL A plev ++ [moveT A plev un us], ul, us, un + 40) _ ((HV3.out.kept HB8.out)) (by have := HTA.out; omega) HEE.out (fun _ => ⟨rel_tabs (m := (ul, us, un)) HRV.out, by rw [edits_one]; exact HMD.out.symm⟩) (fun h => absurd HRV.out h) (by
            have h1 : sumA [moveE A plev un us] = 1 := rfl
            have := HTA.out
            omega) (fun d hd => by
            rw [List.mem_singleton] at hd
            rw [hd]
            show ((bothK A plev).map tN).length ≤ 100000
            rw [List.length_map, ← HNB.out]
            have := HNL.out
            omega) (by simp))
          have hex := heap_alloc_new we (boxE ⟨.slice ta 1 tca, .slice da nb dca, xl, xq, xn⟩)
          have e0 : (we.alloc (boxE ⟨.slice ta 1 tca, .slice da nb dca, xl, xq, xn⟩)).cell? ⟨we.heap.size, 0, none⟩ = some (.slice ta 1 tca) := (blk_cell hex 0).trans rfl
          have e1 : (we.alloc (boxE ⟨.slice ta 1 tca, .slice da nb dca, xl, xq, xn⟩)).cell? ⟨we.heap.size, 1, none⟩ = some (.slice da nb dca) := (blk_cell hex 1).trans rfl
          have e2 : (we.alloc (boxE ⟨.slice ta 1 tca, .slice da nb dca, xl, xq, xn⟩)).cell? ⟨we.heap.size, 2, none⟩ = some (.int .u64 (xl.toNat : Int)) := (blk_cell hex 2).trans rfl
          have e3 : (we.alloc (boxE ⟨.slice ta 1 tca, .slice da nb dca, xl, xq, xn⟩)).cell? ⟨we.heap.size, 3, none⟩ = some (.int .u64 (xq.toNat : Int)) := (blk_cell hex 3).trans rfl
          have e4 : (we.alloc (boxE ⟨.slice ta 1 tca, .slice da nb dca, xl, xq, xn⟩)).cell? ⟨we.heap.size, 4, none⟩ = some (.int .u64 (xn.toNat : Int)) := (blk_cell hex 4).trans rfl
          clear hxe hbe hnb hmd hml hex c0 c1 c2 c3 c4 c5 c6 p0 p1 p2 p3 m1
          obtain ⟨c0, c1, c2, c3, c4, c5, c6⟩ := HCL.out (we.alloc (boxE ⟨.slice ta 1 tca, .slice da nb dca, xl, xq, xn⟩)) hbE.out
          go_wp2_with fail
          refine HAP.out.mono ?_
          rintro e w6 ⟨v6, A6, rfl, ho6, hn6, hb6, hok6, -⟩
          have HR6 := Lib.hid (show Rel A6 (stayL A plev ++ [moveT A plev un us]) (ul, us, un + 40) from hok6 rfl)
          have HO6 := Lib.hid ho6
          have HN6 := Lib.hid hn6
          have HB6 := Lib.hid (below_step HB8.out hb6 HB8.out.size)
          have HE6 := Lib.hid (below_step (bel_al9 (Below.refl (we.alloc (boxE ⟨.slice ta 1 tca, .slice da nb dca, xl, xq, xn⟩)).heap.size (we.alloc (boxE ⟨.slice ta 1 tca, .slice da nb dca, xl, xq, xn⟩))) (boxE ⟨.slice ta 1 tca, .slice da nb dca, xl, xq, xn⟩)) hb6 (bel_al9 (Below.refl (we.alloc (boxE ⟨.slice ta 1 tca, .slice da nb dca, xl, xq, xn⟩)).heap.size (we.alloc (boxE ⟨.slice ta 1 tca, .slice da nb dca, xl, xq, xn⟩))) (boxE ⟨.slice ta 1 tca, .slice da nb dca, xl, xq, xn⟩)).size)
          clear HAP HEE ho6 hn6 hb6 hok6 c0 c1 c2 c3 c4 c5 c6 e0 e1 e2 e3 e4
          obtain ⟨x0, x1, x2, x3, yl, ys, yn⟩ := v6
          obtain ⟨ya0, yc0, e0⟩ := owns_slice1 (HO6.out.own 0 (by omega))
          obtain ⟨ya1, yc1, e1⟩ := owns_slice1 (HO6.out.own 1 (by omega))
          obtain ⟨ya2, yc2, e2⟩ := owns_slice1 (HO6.out.own 2 (by omega))
          obtain ⟨ya3, yc3, e3⟩ := owns_slice1 (HO6.out.own 3 (by omega))
          dsimp only [Vn.lev] at e0 e1 e2 e3
          subst e0 e1 e2 e3
          go_upto_region 13 with fail
          refine (show ∀ W, W = w6.alloc (boxV (⟨.slice ya0 (A6 0).length yc0, .slice ya1 (A6 1).length yc1, .slice ya2 (A6 2).length yc2, .slice ya3 (A6 3).length yc3, yl, ys, yn⟩ : Vn)) → Code.wp _ _ _ _ W from ?_) _ rfl
          intro wz hwz
          have hxw : wz.heap[w6.heap.size]? = some (boxV (⟨.slice ya0 (A6 0).length yc0, .slice ya1 (A6 1).length yc1, .slice ya2 (A6 2).length yc2, .slice ya3 (A6 3).length yc3, yl, ys, yn⟩ : Vn)) := by rw [hwz]; exact heap_alloc_new _ _
          have HZ6 := Lib.hid (show Below w6.heap.size w6 wz from by rw [hwz]; exact below_of_alloc _)
          have HBZ6 := Lib.hid (below_step HB6.out HZ6.out HB6.out.size)
          have HEZ := Lib.hid (below_step HE6.out HZ6.out HE6.out.size)
          have HYA := Lib.hid (HO6.out.at'.kept HZ6.out)
          have HXE2 := Lib.hid ((HXE.out.kept (below_of_alloc (boxE ⟨.slice ta 1 tca, .slice da nb dca, xl, xq, xn⟩))).kept HEZ.out)
          have y0 : wz.cell? ⟨w6.heap.size, 0, none⟩ = some (.slice ya0 (A6 0).length yc0) := (blk_cell hxw 0).trans rfl
          have y1 : wz.cell? ⟨w6.heap.size, 1, none⟩ = some (.slice ya1 (A6 1).length yc1) := (blk_cell hxw 1).trans rfl
          have y2 : wz.cell? ⟨w6.heap.size, 2, none⟩ = some (.slice ya2 (A6 2).length yc2) := (blk_cell hxw 2).trans rfl
          have y3 : wz.cell? ⟨w6.heap.size, 3, none⟩ = some (.slice ya3 (A6 3).length yc3) := (blk_cell hxw 3).trans rfl
          have y4 : wz.cell? ⟨w6.heap.size, 4, none⟩ = some (.int .u64 (yl.toNat : Int)) := (blk_cell hxw 4).trans rfl
          have y5 : wz.cell? ⟨w6.heap.size, 5, none⟩ = some (.int .u64 (ys.toNat : Int)) := (blk_cell hxw 5).trans rfl
          have y6 : wz.cell? ⟨w6.heap.size, 6, none⟩ = some (.int .u64 (yn.toNat : Int)) := (blk_cell hxw 6).trans rfl
          obtain ⟨c0, c1, c2, c3, c4, c5, c6⟩ := HCL.out wz HBZ6.out
          have hez := blk_kept HEZ.out (heap_alloc_new we (boxE ⟨.slice ta 1 tca, .slice da nb dca, xl, xq, xn⟩))
          have e0 : wz.cell? ⟨we.heap.size, 0, none⟩ = some (.slice ta 1 tca) := (blk_cell hez 0).trans rfl
          have HE0P := Lib.hid e0
          have e1 : wz.cell? ⟨we.heap.size, 1, none⟩ = some (.slice da nb dca) := (blk_cell hez 1).trans rfl
          have HEX2 := HEZ
          have HXP6 := Lib.hid (show wz.heap[wp.heap.size]? = some (boxPn ⟨plev, .slice io il ic, .slice bo bl bc, bt⟩) from blk_kept (below_step (below_step HBW.out HBEX.out HBW.out.size) HEX2.out (below_step HBW.out HBEX.out HBW.out.size).size) HXP.out)
          have HRI := Lib.hid (show ∀ W, Below wz.heap.size wz W → Calls Tryd.prog 24 #[encV (⟨.slice ya0 (A6 0).length yc0, .slice ya1 (A6 1).length yc1, .slice ya2 (A6 2).length yc2, .slice ya3 (A6 3).length yc3, yl, ys, yn⟩ : Vn)] W (fun e w' => e = .returned (.bool true) ∧ Below W.heap.size W w') from fun W hb => by
            refine (verRight_any (⟨.slice ya0 (A6 0).length yc0, .slice ya1 (A6 1).length yc1, .slice ya2 (A6 2).length yc2, .slice ya3 (A6 3).length yc3, yl, ys, yn⟩ : Vn) A6 W (HYA.out.kept hb) (Nat.le_trans (lvs_tabs HR6.out.lvs (N := 10000) HSL.out) (by decide))).mono ?_
            rintro e w' ⟨b, rfl, hb1, hb2⟩
            have hbt : b = true := hb1.2 (by
              have h1 := HR6.out.rv
              have h2 := HN6.out
              injection h2 with q1 q2
              injection q2 with q2 q3
              show RightV A6 yl ys yn
              rw [q1, q2, q3]; exact h1)
            subst hbt
            exact ⟨rfl, hb2⟩)
          have HTY := Lib.hid (show ∀ W, Below wz.heap.size wz W → Calls Tryd.prog 25 #[encV (⟨.slice ya0 (A6 0).length yc0, .slice ya1 (A6 1).length yc1, .slice ya2 (A6 2).length yc2, .slice ya3 (A6 3).length yc3, yl, ys, yn⟩ : Vn)] W (NewRow W (tabs A6)) from fun W hb => tablesN_any (⟨.slice ya0 (A6 0).length yc0, .slice ya1 (A6 1).length yc1, .slice ya2 (A6 2).length yc2, .slice ya3 (A6 3).length yc3, yl, ys, yn⟩ : Vn) A6 W (HYA.out.kept hb) (Nat.le_trans (lvs_tabs HR6.out.lvs (N := 10000) HSL.out) (by decide)))
          have HTV := Lib.hid (show ∀ W, Below wz.heap.size wz W → Calls Tryd.prog 25 #[encV (⟨.slice ua0 (A 0).length uc0, .slice ua1 (A 1).length uc1, .slice ua2 (A 2).length uc2, .slice ua3 (A 3).length uc3, ul, us, un⟩ : Vn)] W (NewRow W (tabs A)) from fun W hb => tablesN_any (⟨.slice ua0 (A 0).length uc0, .slice ua1 (A 1).length uc1, .slice ua2 (A 2).length uc2, .slice ua3 (A 3).length uc3, ul, us, un⟩ : Vn) A W (HV3.out.kept (below_step HBZ6.out hb HBZ6.out.size)) (by have := HTA.out; omega))
          obtain ⟨n1, hn1⟩ : ∃ n, n = (tabs A6).length := ⟨_, rfl⟩
          obtain ⟨n2, hn2⟩ : ∃ n, n = (tabs A).length := ⟨_, rfl⟩
          have HN1 := Lib.hid hn1
          have HN2 := Lib.hid hn2
          have hlen : n1 + nb = n2 + 1 := by rw [hn1, hn2, HNB.out]; exact move_len HRV.out HK3.out HPA.out HUN.out HR6.out
          have hn2l : n2 ≤ 2400 := by rw [hn2]; exact HTA.out
          have hnb2 : nb ≤ n2 := by have h1 := (move_do HRV.out HK3.out HPA.out HUN.out).2; rw [← HNB.out, ← hn2] at h1; omega
          have HLN := Lib.hid (show n1 ≤ 2401 from by omega)
          have r1 : IntKind.i64.wrap ((n2 : Int) - (nb : Int)) = ((n2 - nb : Nat) : Int) := by rw [IntKind.wrap_i64]; omega
          have r2 : IntKind.i64.wrap (((n2 - nb : Nat) : Int) + 1) = (n1 : Int) := by rw [IntKind.wrap_i64]; omega
          have HCZ := Lib.hid (show ∀ W, Below wz.heap.size wz W → W.cell? ⟨w6.heap.size, 0, none⟩ = some (.slice ya0 (A6 0).length yc0) ∧ W.cell? ⟨w6.heap.size, 1, none⟩ = some (.slice ya1 (A6 1).length yc1) ∧ W.cell? ⟨w6.heap.size, 2, none⟩ = some (.slice ya2 (A6 2).length yc2) ∧ W.cell? ⟨w6.heap.size, 3, none⟩ = some (.slice ya3 (A6 3).length yc3) ∧ W.cell? ⟨w6.heap.size, 4, none⟩ = some (.int .u64 (yl.toNat : Int)) ∧ W.cell? ⟨w6.heap.size, 5, none⟩ = some (.int .u64 (ys.toNat : Int)) ∧ W.cell? ⟨w6.heap.size, 6, none⟩ = some (.int .u64 (yn.toNat : Int)) ∧ W.cell? ⟨w2.heap.size, 0, none⟩ = some (.slice ua0 (A 0).length uc0) ∧ W.cell? ⟨w2.heap.size, 1, none⟩ = some (.slice ua1 (A 1).length uc1) ∧ W.cell? ⟨w2.heap.size, 2, none⟩ = some (.slice ua2 (A 2).length uc2) ∧ W.cell? ⟨w2.heap.size, 3, none⟩ = some (.slice ua3 (A 3).length uc3) ∧ W.cell? ⟨w2.heap.size, 4, none⟩ = some (.int .u64 (ul.toNat : Int)) ∧ W.cell? ⟨w2.heap.size, 5, none⟩ = some (.int .u64 (us.toNat : Int)) ∧ W.cell? ⟨w2.heap.size, 6, none⟩ = some (.int .u64 (un.toNat : Int)) ∧ W.cell? ⟨we.heap.size, 1, none⟩ = some (.slice da nb dca) from fun W hb => ⟨cell_kept hb y0, cell_kept hb y1, cell_kept hb y2, cell_kept hb y3, cell_kept hb y4, cell_kept hb y5, cell_kept hb y6, cell_kept hb c0, cell_kept hb c1, cell_kept hb c2, cell_kept hb c3, cell_kept hb c4, cell_kept hb c5, cell_kept hb c6, cell_kept hb e1⟩)
          clear hn1 hn2 hlen hn2l hnb2 hez hxw hwz
          go_cut [134] (fun vb W => vb = .bool false ∧ Hid (Below wz.heap.size wz W))
          case first =>
            go_region_held3 (fun W => W.cell? ⟨w6.heap.size, 0, none⟩ = some (.slice ya0 (A6 0).length yc0) ∧ W.cell? ⟨w6.heap.size, 1, none⟩ = some (.slice ya1 (A6 1).length yc1) ∧ W.cell? ⟨w6.heap.size, 2, none⟩ = some (.slice ya2 (A6 2).length yc2) ∧ W.cell? ⟨w6.heap.size, 3, none⟩ = some (.slice ya3 (A6 3).length yc3) ∧ W.cell? ⟨w6.heap.size, 4, none⟩ = some (.int .u64 (yl.toNat : Int)) ∧ W.cell? ⟨w6.heap.size, 5, none⟩ = some (.int .u64 (ys.toNat : Int)) ∧ W.cell? ⟨w6.heap.size, 6, none⟩ = some (.int .u64 (yn.toNat : Int)) ∧ W.cell? ⟨w2.heap.size, 0, none⟩ = some (.slice ua0 (A 0).length uc0) ∧ W.cell? ⟨w2.heap.size, 1, none⟩ = some (.slice ua1 (A 1).length uc1) ∧ W.cell? ⟨w2.heap.size, 2, none⟩ = some (.slice ua2 (A 2).length uc2) ∧ W.cell? ⟨w2.heap.size, 3, none⟩ = some (.slice ua3 (A 3).length uc3) ∧ W.cell? ⟨w2.heap.size, 4, none⟩ = some (.int .u64 (ul.toNat : Int)) ∧ W.cell? ⟨w2.heap.size, 5, none⟩ = some (.int .u64 (us.toNat : Int)) ∧ W.cell? ⟨w2.heap.size, 6, none⟩ = some (.int .u64 (un.toNat : Int)) ∧ W.cell? ⟨we.heap.size, 1, none⟩ = some (.slice da nb dca))
              (go_keep)
              (first
                | (go_at_call 24; refine (HRI.out _ (by first | exact (Below.refl _ _).drew | exact Below.refl _ _)).mono ?_; rintro eR wR ⟨rfl, hbR⟩; have HX1 := Lib.hid (show Below wz.heap.size wz wR from below_step (by first | exact (Below.refl _ _).drew | exact Below.refl _ _) hbR (Nat.le_refl _)); obtain ⟨y0, y1, y2, y3, y4, y5, y6, c0, c1, c2, c3, c4, c5, c6, e1⟩ := HCZ.out wR HX1.out; clear hbR)
                | (go_at_call 25; (with_reducible show Calls _ _ _ wR _); refine (HTY.out wR HX1.out).mono ?_; rintro eT wT ⟨vT, rfl, hoT, hbT⟩; obtain ⟨oT, cT, hvT⟩ := owns_slice1 hoT; subst hvT; rw [← HN1.out]; have HX2 := Lib.hid (below_step HX1.out hbT HX1.out.size); obtain ⟨y0, y1, y2, y3, y4, y5, y6, c0, c1, c2, c3, c4, c5, c6, e1⟩ := HCZ.out wT HX2.out; clear hoT hbT)
                | (go_at_call 25; (with_reducible show Calls _ _ _ wT _); refine (HTV.out wT HX2.out).mono ?_; rintro eU wU ⟨vU, rfl, hoU, hbU⟩; obtain ⟨oU, cU, hvU⟩ := owns_slice1 hoU; subst hvU; rw [← HN2.out]; have HX3 := Lib.hid (below_step HX2.out hbU HX2.out.size); obtain ⟨y0, y1, y2, y3, y4, y5, y6, c0, c1, c2, c3, c4, c5, c6, e1⟩ := HCZ.out wU HX3.out; clear hoU hbU)
                )
            all_goals (go_wp2_with fail; go_meet; exact ⟨by first | rfl | simp, HX3⟩)
          case rest =>
            rename World => wA
            obtain ⟨rfl, HBA⟩ := hcut
            clear y0 y1 y2 y3 y4 y5 y6 c0 c1 c2 c3 c4 c5 c6 e0 e1 r1 r2
            go_wp2_with fail
            go_loopw [9] (fun vi W => ∃ i : Nat, i ≤ nb ∧ vi = .int .i64 (i : Int) ∧ Hid (Below wz.heap.size wz W)) (fun vi _ => nb - (intOf vi).toNat)
            case atStart => exact ⟨0, Nat.zero_le _, rfl, HBA⟩
            case round =>
              obtain ⟨i, hi, rfl, HB⟩ := hrel
              obtain ⟨y0, y1, y2, y3, y4, y5, y6, c0, c1, c2, c3, c4, c5, c6, e1⟩ := HCZ.out wr HB.out
              by_cases hlt : i < nb
              · have HLT := Lib.hid hlt
                have hib : i < ((bothK A plev).map tN).length := by rw [List.length_map, ← HNB.out]; exact hlt
                have HIBB := Lib.hid hib
                obtain ⟨u, hu⟩ : ∃ u, u = ((bothK A plev).map tN)[i]'HIBB.out := ⟨_, rfl⟩
                have HU := Lib.hid hu
                have hdr : Elems encU 1 wz (.slice da nb dca) ((bothK A plev).map tN) := HXE2.out.drop
                obtain ⟨q1, q2, q3, hve, hcs⟩ := elems_shape encU_len hdr (by omega)
                injection hve with hx1 hx2 hx3
                subst hx1
                have HUC := Lib.hid (show wz.cell? ⟨q1, q2 + i, none⟩ = some (.int .u64 (u.toNat : Int)) from by rw [hu]; have := hcs i hib 0 (by omega); simpa using this)
                have j1 : (0 : Int) ≤ (i : Int) := by omega
                have j2 : (i : Int) < (nb : Int) := by omega
                have j3 : IntKind.i64.wrap ((i : Int) + 1) = (i : Int) + 1 := by have := HNL.out; rw [IntKind.wrap_i64]; omega
                clear hu hcs hx2 hx3 hdr hib hlt
                go_wp2_with fail
                refine (HTY.out wr HB.out).mono ?_
                rintro e wt ⟨vt, rfl, hot, hbt⟩
                obtain ⟨oT, cT, hvT⟩ := owns_slice1 hot
                subst hvT
                have HTT2 := Lib.hid (show TbsAt wt (.slice oT (tabs A6).length cT) (tabs A6) from Seg.of_owns hot)
                have HBT2 := Lib.hid (below_step HB.out hbt HB.out.size)
                rw [← HN1.out]
                clear hot hbt y0 y1 y2 y3 y4 y5 y6 c0 c1 c2 c3 c4 c5 c6 e1
                go_wp2_with fail
                go_loopw [11] (fun vk W => ∃ j : Nat, j ≤ n1 ∧ vk = .int .i64 (j : Int) ∧ Hid (Below wt.heap.size wt W)) (fun vk _ => n1 - (intOf vk).toNat)
                case atStart => exact ⟨0, Nat.zero_le _, rfl, Lib.hid (Below.refl _ _)⟩
                case round =>
                  obtain ⟨j, hj, rfl, HBJ⟩ := hrel
                  have HBZJ := Lib.hid (below_step HBT2.out HBJ.out HBT2.out.size)
                  by_cases hlj : j < n1
                  · have HLJ := Lib.hid (show j < (tabs A6).length from by rw [← HN1.out]; exact hlj)
                    have HLJ2 := Lib.hid hlj
                    obtain ⟨t, ht⟩ : ∃ t, t = (tabs A6)[j]'HLJ.out := ⟨_, rfl⟩
                    obtain ⟨zb, zof, zc, hve, hcs⟩ := tbs_cells (l := tabs A6) (Seg.kept HTT2.out HBJ.out) (by have := HLJ.out; omega)
                    injection hve with e1 e2 e3
                    subst e1
                    have hct := hcs j HLJ.out
                    rw [← ht] at hct
                    have d0 := hct.c0
                    have hne : ((t.1.toNat : Int) == (u.toNat : Int)) = false := by
                      rw [beq_eq_false_iff_ne]
                      intro e
                      have h1 : tN t = u := UInt64.toNat_inj.1 (by have e : (t.1.toNat : Int) = (u.toNat : Int) := e; show t.1.toNat = u.toNat; omega)
                      have hm : u ∈ (bothK A plev).map tN := by rw [HU.out]; exact List.getElem_mem _
                      obtain ⟨x, hx, ex⟩ := List.mem_map.1 hm
                      exact move_gone HRV.out HK3.out HR6.out (t := t) (by rw [ht]; exact List.getElem_mem _) hx (h1.trans ex.symm)
                    obtain ⟨-, -, -, -, -, -, -, -, -, -, -, -, -, -, e1⟩ := HCZ.out wr HBZJ.out
                    have uc := cell_kept HBZJ.out HUC.out
                    have j4 : (0 : Int) ≤ (j : Int) := by omega
                    have j5 : (j : Int) < (n1 : Int) := by omega
                    have j6 : IntKind.i64.wrap ((j : Int) + 1) = (j : Int) + 1 := by have := HLN.out; rw [IntKind.wrap_i64]; omega
                    clear ht hcs e2 e3 hct hlj hj
                    go_wp2_with fail
                    go_quiet (fail)
                    have HBN := Lib.hid (below_step HBJ.out (show Below wr.heap.size wr (wr.drewN nq) from ⟨rfl, rfl, rfl, Nat.le_refl _, fun _ _ => rfl⟩) HBJ.out.size)
                    clear d0 e1 uc hne
                    generalize wr.drewN nq = wq9 at *
                    go_wp2_with fail
                    go_roundw
                    case rel => exact ⟨j + 1, HLJ2.out, by first | rfl | (congr 1), HBN⟩
                    case measure => simp [intOf]; have := HLJ2.out; omega
                  · have hjl : n1 = j := by omega
                    subst hjl
                    have i1 : ¬ (n1 : Int) < (n1 : Int) := by omega
                    clear hlj hj
                    go_wp2_with fail
                    go_roundw
                    case rel => exact ⟨i + 1, HLT.out, by first | rfl | (congr 1), HBZJ⟩
                    case measure => simp [intOf]; have := HLT.out; omega
              · have hil : nb = i := by omega
                subst hil
                have i1 : ¬ (nb : Int) < (nb : Int) := by omega
                have p0 : wr.cell? ⟨wp.heap.size, 0, none⟩ = some (.int .i64 (plev : Int)) := (blk_cell (blk_kept HB.out HXP6.out) 0).trans rfl
                have j7 : IntKind.i64.wrap ((plev : Int) + 2) = ((plev + 2 : Nat) : Int) := by have := HK3.out; rw [IntKind.wrap_i64]; omega
                clear hlt hi y0 y1 y2 y3 y4 y5 y6 c0 c1 c2 c3 c4 c5 c6
                go_wp2_with fail
                obtain ⟨zb, zof, zc, hve, hcs⟩ := tbs_cells (l := [moveT A plev un us]) (show TbsAt wz (.slice ta 1 tca) [moveT A plev un us] from HXE2.out.add) (by simp)
                injection hve with q1 q2 q3
                subst q1
                have hcm := hcs 0 (by simp)
                simp only [Nat.zero_mul, Nat.add_zero, List.getElem_cons_zero] at hcm
                obtain ⟨fF, hfF⟩ : ∃ f, f = fstF (bothK A plev) := ⟨_, rfl⟩
                obtain ⟨gL, hgL⟩ : ∃ g, g = lstL (bothK A plev) := ⟨_, rfl⟩
                have HFF := Lib.hid hfF
                have HGL := Lib.hid hgL
                have HM4 := Lib.hid (show wz.cell? ⟨zb, zof + 4, none⟩ = some (.string fF) from by rw [hfF]; exact hcm.c4)
                have HM5 := Lib.hid (show wz.cell? ⟨zb, zof + 5, none⟩ = some (.string gL) from by rw [hgL]; exact hcm.c5)
                have HE0 := Lib.hid (show wz.cell? ⟨we.heap.size, 0, none⟩ = some (.slice (some ⟨zb, zof, none⟩) 1 tca) from HE0P.out)
                have HCD := Lib.hid (show ∀ W, Below wz.heap.size wz W → W.cell? ⟨w2.heap.size, 0, none⟩ = some (.slice ua0 (A 0).length uc0) ∧ W.cell? ⟨w2.heap.size, 1, none⟩ = some (.slice ua1 (A 1).length uc1) ∧ W.cell? ⟨w2.heap.size, 2, none⟩ = some (.slice ua2 (A 2).length uc2) ∧ W.cell? ⟨w2.heap.size, 3, none⟩ = some (.slice ua3 (A 3).length uc3) ∧ W.cell? ⟨w2.heap.size, 4, none⟩ = some (.int .u64 (ul.toNat : Int)) ∧ W.cell? ⟨w2.heap.size, 5, none⟩ = some (.int .u64 (us.toNat : Int)) ∧ W.cell? ⟨w2.heap.size, 6, none⟩ = some (.int .u64 (un.toNat : Int)) ∧ W.cell? ⟨we.heap.size, 0, none⟩ = some (.slice (some ⟨zb, zof, none⟩) 1 tca) ∧ W.cell? ⟨zb, zof + 4, none⟩ = some (.string fF) ∧ W.cell? ⟨zb, zof + 5, none⟩ = some (.string gL) from fun W hb => by
                  obtain ⟨-, -, -, -, -, -, -, c0, c1, c2, c3, c4, c5, c6, -⟩ := HCZ.out W hb
                  exact ⟨c0, c1, c2, c3, c4, c5, c6, cell_kept hb HE0.out, cell_kept hb HM4.out, cell_kept hb HM5.out⟩)
                have HOV := Lib.hid (show ∀ (W : World) (d : Nat), d < 4 → Below wz.heap.size wz W → Calls Tryd.prog 15 #[encV (⟨.slice ua0 (A 0).length uc0, .slice ua1 (A 1).length uc1, .slice ua2 (A 2).length uc2, .slice ua3 (A 3).length uc3, ul, us, un⟩ : Vn), .int .i64 (d : Int), .string fF, .string gL] W (NewRow W (overL (A d) fF gL)) from fun W d hd hb =>
                  over_any d (⟨.slice ua0 (A 0).length uc0, .slice ua1 (A 1).length uc1, .slice ua2 (A 2).length uc2, .slice ua3 (A 3).length uc3, ul, us, un⟩ : Vn) A fF gL W (HV3.out.kept (below_step HBZ6.out hb HBZ6.out.size)) hd (Nat.le_trans (HAL.out d hd) (by decide)))
                clear hcs q2 q3 hcm hfF hgL p0 i1
                go_loopw [12, 13] (fun vs vd W => ∃ d n : Nat, plev + 2 ≤ d ∧ d ≤ 4 ∧ vd = .int .i64 (d : Int) ∧ vs = .int .i64 (n : Int) ∧ Hid (n = deepN A plev fF gL d) ∧ Hid (Below wz.heap.size wz W)) (fun _ vd _ => 4 - (intOf vd).toNat)
                case atStart => exact ⟨plev + 2, 0, Nat.le_refl _, by have := HK3.out; omega, by first | rfl | trivial, rfl, Lib.hid (deepN_start _ _ _ _).symm, HB⟩
                case round =>
                  obtain ⟨d, n, hd1, hd, rfl, rfl, HN, HBD⟩ := hrel
                  by_cases hd4 : d < 4
                  · have HD4 := Lib.hid hd4
                    have HD1 := Lib.hid hd1
                    obtain ⟨ol, hol⟩ : ∃ m, m = (overL (A d) fF gL).length := ⟨_, rfl⟩
                    have HOL := Lib.hid hol
                    have hol2 : ol ≤ 600 := by rw [hol]; exact Nat.le_trans (over_le _ _ _) (HAL.out d hd4)
                    have hnn : n ≤ 10000 := by rw [HN.out]; exact deepN_le (fun k hk => HAL.out k hk) hd
                    have k6 : (d : Int) < 4 := by omega
                    have k7 : IntKind.i64.wrap ((d : Int) + 1) = (d : Int) + 1 := by rw [IntKind.wrap_i64]; omega
                    have k8 : IntKind.i64.wrap ((n : Int) + (ol : Int)) = ((n + ol : Nat) : Int) := by rw [IntKind.wrap_i64]; omega
                    have k9 : (0 : Int) < 1 := by omega
                    obtain ⟨c0, c1, c2, c3, c4, c5, c6, e0, e4, e5⟩ := HCD.out wr HBD.out
                    clear hol hol2 hnn hd4 hd1 hd
                    go_upto_region 28 with fail
                    refine wp_then_intro ?_
                    intro KK HKK
                    go_cut [12] (fun v W => v = .int .i64 ((n + ol : Nat) : Int) ∧ Hid (Below wz.heap.size wz W))
                    case first =>
                      clear HKK
                      go_region_held3 (fun W => W.cell? ⟨w2.heap.size, 0, none⟩ = some (.slice ua0 (A 0).length uc0) ∧ W.cell? ⟨w2.heap.size, 1, none⟩ = some (.slice ua1 (A 1).length uc1) ∧ W.cell? ⟨w2.heap.size, 2, none⟩ = some (.slice ua2 (A 2).length uc2) ∧ W.cell? ⟨w2.heap.size, 3, none⟩ = some (.slice ua3 (A 3).length uc3) ∧ W.cell? ⟨w2.heap.size, 4, none⟩ = some (.int .u64 (ul.toNat : Int)) ∧ W.cell? ⟨w2.heap.size, 5, none⟩ = some (.int .u64 (us.toNat : Int)) ∧ W.cell? ⟨w2.heap.size, 6, none⟩ = some (.int .u64 (un.toNat : Int)) ∧ W.cell? ⟨we.heap.size, 0, none⟩ = some (.slice (some ⟨zb, zof, none⟩) 1 tca) ∧ W.cell? ⟨zb, zof + 4, none⟩ = some (.string fF) ∧ W.cell? ⟨zb, zof + 5, none⟩ = some (.string gL))
                        (go_keep)
                        (first
                          | (go_at_call 15; refine (HOV.out _ d HD4.out (by first | exact HBD.out.drew | exact HBD.out)).mono ?_; rintro eV wV ⟨vV, rfl, hoV, hbV⟩; obtain ⟨oV, cV, hvV⟩ := owns_slice1 hoV; subst hvV; rw [← HOL.out]; have HX1 := Lib.hid (show Below wz.heap.size wz wV from below_step (by first | exact HBD.out.drew | exact HBD.out) hbV (by first | exact HBD.out.drew.size | exact HBD.out.size)); obtain ⟨c0, c1, c2, c3, c4, c5, c6, e0, e4, e5⟩ := HCD.out wV HX1.out; clear hoV hbV)
                          )
                      all_goals (go_wp2_with fail; go_meet; exact ⟨rfl, HX1⟩)
                    case rest =>
                      rename World => wB
                      obtain ⟨rfl, HBB⟩ := hcut
                      refine HKK _ _ ?_
                      clear HKK c0 c1 c2 c3 c4 c5 c6 e0 e4 e5 k8
                      go_wp2_with fail
                      go_roundw
                      case rel => exact ⟨d + 1, n + ol, by have := HD1.out; omega, HD4.out, by first | rfl | (congr 1), rfl, Lib.hid (by rw [deepN_next _ _ _ _ HD1.out, ← HN.out, HOL.out]), HBB⟩
                      case measure => simp [intOf]; have := HD4.out; omega
                  · have hd4' : d = 4 := by omega
                    subst hd4'
                    have k6 : ¬ (4 : Int) < 4 := by omega
                    have p3 : wr.cell? ⟨wp.heap.size, 3, none⟩ = some (.bool bt) := (blk_cell (blk_kept HBD.out HXP6.out) 3).trans rfl
                    have k7 : ((n : Int) == 0) = bt := by
                      rw [HBT.out]
                      unfold botK
                      rw [← HFF.out, ← HGL.out, botTo_deep, ← HN.out, Bool.eq_iff_iff, beq_iff_eq, decide_eq_true_eq]
                      omega
                    have HFIN := Lib.hid (below_step (below_step HB3.out HBZ6.out HB3.out.size) HBD.out (below_step HB3.out HBZ6.out HB3.out.size).size)
                    clear hd4 hd1 hd
                    cases bt
                    · skip
                      go_wp2_with fail
                      refine (awake_any _).mono ?_
                      rintro e wz9 ⟨rfl, hb9⟩
                      have HBZ := Lib.hid (below_step HFIN.out hb9 HFIN.out.size)
                      clear hb9
                      go_wp2_with fail
                      go_ret
                      exact ⟨rfl, HBZ.out⟩
                    · skip
                      go_wp2_with fail
                      refine (awake_any _).mono ?_
                      rintro e wz9 ⟨rfl, hb9⟩
                      have HBZ := Lib.hid (below_step HFIN.out hb9 HFIN.out.size)
                      clear hb9
                      go_wp2_with fail
                      go_ret
                      exact ⟨rfl, HBZ.out⟩
  · go_wp2_with fail
    refine (awake_any _).mono ?_
    rintro e w2 ⟨rfl, hb2⟩
    have HBZ := Lib.hid hb2
    clear hb2
    go_wp2_with fail
    go_ret
    exact ⟨rfl, HBZ.out⟩
end Go.Proofs.Tryd.Vr
