/- The document's lists of prefixes: one put in. -/
import Derived.Test.YtbhnpndkdhhpfaaRc2
import Derived.Test.YtbhnpndkdhhpfaaPsM
set_option linter.unusedVariables false
set_option linter.unusedSimpArgs false
namespace Go.Proofs.Try.Pfx
open Go.RowKit Go.Cph Go.Cph.Px

def RefPutPost (l : List Pf) (p : Pf) (w : World) (e : Ending) (w' : World) : Prop :=
  ∃ v', e = .returned (.tuple #[v', .int .i64 (putE l p : Nat)]) ∧ w'.ownsRow w.heap.size TR 4 v' (outP l p).length ((outP l p).flatMap encC) ∧ Below w.heap.size w w'
theorem seg_zero (w : World) (X : Option Addr) (Y : Nat) : Seg w 4 (.slice X 0 Y) 0 [] := ⟨⟨_, _, rfl, fun h => absurd h (by omega)⟩, by simp⟩
theorem filter_single (f : Pf → Bool) (q : Pf) : [q].filter f = if f q then [q] else [] := by cases h : f q <;> simp [h]
theorem filter_pos {l : List Pf} (h : Rises l) (p : Pf) : l.filter (fun q => before q p) = l.take (pos l p) := by
  have hp := h.place p
  conv => lhs; rw [← List.take_append_drop (pos l p) l]
  rw [List.filter_append]
  have e1 : (l.take (pos l p)).filter (fun q => before q p) = l.take (pos l p) := List.filter_eq_self.2 fun q hq => by
    obtain ⟨a, ha, rfl⟩ := List.getElem_of_mem hq
    rw [List.length_take] at ha
    rw [List.getElem_take]
    exact hp.lo a (by omega) (by omega)
  have e2 : (l.drop (pos l p)).filter (fun q => before q p) = [] := List.filter_eq_nil_iff.2 fun q hq => by
    obtain ⟨a, ha, rfl⟩ := List.getElem_of_mem hq
    rw [List.length_drop] at ha
    rw [List.getElem_drop]
    simp [hp.hi (pos l p + a) (by omega) (by omega)]
  rw [e1, e2, List.append_nil]
/-- What 's[m:]' is, as a list. -/
theorem seg_from {w : World} {l : List Pf} {ao : Option Addr} {cap : Nat} (h : PfsAt w (.slice ao l.length cap) l) (hc : l.length ≤ cap) (m : Nat) (hm : m ≤ l.length) :
    Seg w 4 (.slice (if cap = m then ao else ao.map (·.add (m * 4))) (l.length - m) (cap - m)) (l.length - m) ((l.drop m).flatMap encC) := by
  refine ⟨⟨_, _, rfl, fun h0 => ?_⟩, by rw [flat_length encC_len, List.length_drop]⟩
  obtain ⟨⟨ao', cap', hv, hcs⟩, hl⟩ := h
  cases hv
  obtain ⟨b, off, rfl, hcell⟩ := hcs (by omega)
  have hne : ¬ cap = m := by omega
  have hadd : (⟨b, off, none⟩ : Addr).add (m * 4) = ⟨b, off + m * 4, none⟩ := by unfold Addr.add; split <;> simp_all
  refine ⟨b, off + m * 4, by rw [if_neg hne]; simp [hadd], fun j hj => ?_⟩
  rw [← flat_drop encC_len, List.getElem?_drop, ← hcell (m * 4 + j) (by omega), Nat.add_assoc]

set_option maxRecDepth 100000 in
set_option maxHeartbeats 4000000 in
theorem put22 {base : Nat} (v : Value) (l : List Pf) (p : Pf) (w : World) (hown : w.ownsRow base TR 4 v l.length (l.flatMap encC)) (hn : l.length ≤ 900000) :
    Calls Try.prog 31 #[v, encP p] w (RefPutPost l p w) := by
  have HV := Lib.hid (show PfsAt w v l from Seg.of_owns hown)
  have hcap : ∃ ao cap, v = .slice ao l.length cap ∧ l.length ≤ cap := by
    obtain ⟨_, h2⟩ := hown
    rcases h2 with ⟨h2, h3⟩ | ⟨g, cap, cur, h2, _, _, h3, _⟩
    · exact ⟨none, 0, by rw [h2, h3], by omega⟩
    · exact ⟨_, _, h2, h3⟩
  obtain ⟨ao, cap, rfl, hcap⟩ := hcap
  have HRL := Lib.hid (fun w h => right22 (.slice ao l.length cap) l w h (by omega))
  have HRP := Lib.hid (fun w => rrightP p w)
  have HHS := Lib.hid (fun w h hr => has22 (.slice ao l.length cap) l p w h hr (by omega))
  obtain ⟨r, hr⟩ : ∃ r, r = rightL l := ⟨_, rfl⟩
  obtain ⟨rp, hrp⟩ : ∃ r, r = rightP p := ⟨_, rfl⟩
  rw [← hr] at HRL
  rw [← hrp] at HRP
  have HR := Lib.hid hr
  have HP := Lib.hid hrp
  clear hr hrp hown
  have hb0 : Below w.heap.size w (w.alloc (.cells #[.int .u8 (p.1.1.toNat : Int), .int .u64 (p.1.2.1.toNat : Int), .int .u64 (p.1.2.2.toNat : Int), .int .i64 p.2] 36)) := ((Below.refl _ _).alloc (Nat.le_refl _) _)
  have h1 : (w.alloc (.cells #[.int .u8 (p.1.1.toNat : Int), .int .u64 (p.1.2.1.toNat : Int), .int .u64 (p.1.2.2.toNat : Int), .int .i64 p.2] 36)).heap[w.heap.size]? = some (.cells #[.int .u8 (p.1.1.toNat : Int), .int .u64 (p.1.2.1.toNat : Int), .int .u64 (p.1.2.2.toNat : Int), .int .i64 p.2] 36 (0, 0)) := (heap_alloc_new w (.cells #[.int .u8 (p.1.1.toNat : Int), .int .u64 (p.1.2.1.toNat : Int), .int .u64 (p.1.2.2.toNat : Int), .int .i64 p.2] 36))
  have H1 := Lib.hid h1
  have HB0 := Lib.hid hb0
  clear hb0 h1
  have hcase : (r = false ∧ putE l p = 1) ∨ (r = true ∧ rp = false ∧ putE l p = 1) ∨ (r = true ∧ rp = true ∧ p ∈ l ∧ putE l p = 5) ∨ (r = true ∧ rp = true ∧ p ∉ l ∧ putE l p = 0) := by
    unfold putE
    rw [← HR.out, ← HP.out]
    cases r <;> cases rp <;> by_cases hm : p ∈ l <;> simp [hm]
  rcases hcase with ⟨rfl, he⟩ | ⟨rfl, rfl, he⟩ | ⟨rfl, rfl, hm, he⟩ | ⟨rfl, rfl, hm, he⟩
  · have HE := Lib.hid he
    clear he
    go_enter Try.func31, Try.ntmps31
    go_wp2_with fail
    generalize (w.alloc (.cells #[.int .u8 (p.1.1.toNat : Int), .int .u64 (p.1.2.1.toNat : Int), .int .u64 (p.1.2.2.toNat : Int), .int .i64 p.2] 36)) = w0 at *
    refine (HRL.out _ (HV.out.kept HB0.out)).mono ?_
    rintro e w1 ⟨rfl, hb⟩
    have HB1 := Lib.hid (below_step HB0.out hb HB0.out.size)
    have HG1 := Lib.hid (blk_kept hb H1.out)
    have HV1 := Lib.hid ((HV.out.kept HB0.out).kept hb)
    clear hb
    go_wp2_with fail
    go_ret2
    exact ⟨_, by rw [HE.out]; rfl, by unfold outP; rw [HE.out]; exact World.ownsRow_nil _ _ _ _, HB1.out⟩
  · have HE := Lib.hid he
    clear he
    go_enter Try.func31, Try.ntmps31
    go_wp2_with fail
    generalize (w.alloc (.cells #[.int .u8 (p.1.1.toNat : Int), .int .u64 (p.1.2.1.toNat : Int), .int .u64 (p.1.2.2.toNat : Int), .int .i64 p.2] 36)) = w0 at *
    refine (HRL.out _ (HV.out.kept HB0.out)).mono ?_
    rintro e w1 ⟨rfl, hb⟩
    have HB1 := Lib.hid (below_step HB0.out hb HB0.out.size)
    have HG1 := Lib.hid (blk_kept hb H1.out)
    have HV1 := Lib.hid ((HV.out.kept HB0.out).kept hb)
    clear hb
    have p0 : w1.cell? ⟨w.heap.size, 0, none⟩ = some (.int .u8 (p.1.1.toNat : Int)) := (by rw [blk_cell HG1.out]; rfl)
    have p1 : w1.cell? ⟨w.heap.size, 1, none⟩ = some (.int .u64 (p.1.2.1.toNat : Int)) := (by rw [blk_cell HG1.out]; rfl)
    have p2 : w1.cell? ⟨w.heap.size, 2, none⟩ = some (.int .u64 (p.1.2.2.toNat : Int)) := (by rw [blk_cell HG1.out]; rfl)
    have p3 : w1.cell? ⟨w.heap.size, 3, none⟩ = some (.int .i64 p.2) := (by rw [blk_cell HG1.out]; rfl)
    go_wp2_with fail
    refine (HRP.out _).mono ?_
    rintro e w2 ⟨rfl, hb⟩
    have HB2 := Lib.hid (below_step HB1.out hb HB1.out.size)
    have HG2 := Lib.hid (blk_kept hb HG1.out)
    have HV2 := Lib.hid (HV1.out.kept hb)
    clear hb p0 p1 p2 p3
    go_wp2_with fail
    go_ret2
    exact ⟨_, by rw [HE.out]; rfl, by unfold outP; rw [HE.out]; exact World.ownsRow_nil _ _ _ _, HB2.out⟩
  · have HE := Lib.hid he
    have hx : hasV l p = (pos l p : Int) := by unfold hasV; rw [if_pos hm]
    have HX := Lib.hid hx
    clear he hx hm
    go_enter Try.func31, Try.ntmps31
    go_wp2_with fail
    generalize (w.alloc (.cells #[.int .u8 (p.1.1.toNat : Int), .int .u64 (p.1.2.1.toNat : Int), .int .u64 (p.1.2.2.toNat : Int), .int .i64 p.2] 36)) = w0 at *
    refine (HRL.out _ (HV.out.kept HB0.out)).mono ?_
    rintro e w1 ⟨rfl, hb⟩
    have HB1 := Lib.hid (below_step HB0.out hb HB0.out.size)
    have HG1 := Lib.hid (blk_kept hb H1.out)
    have HV1 := Lib.hid ((HV.out.kept HB0.out).kept hb)
    clear hb
    have p0 : w1.cell? ⟨w.heap.size, 0, none⟩ = some (.int .u8 (p.1.1.toNat : Int)) := (by rw [blk_cell HG1.out]; rfl)
    have p1 : w1.cell? ⟨w.heap.size, 1, none⟩ = some (.int .u64 (p.1.2.1.toNat : Int)) := (by rw [blk_cell HG1.out]; rfl)
    have p2 : w1.cell? ⟨w.heap.size, 2, none⟩ = some (.int .u64 (p.1.2.2.toNat : Int)) := (by rw [blk_cell HG1.out]; rfl)
    have p3 : w1.cell? ⟨w.heap.size, 3, none⟩ = some (.int .i64 p.2) := (by rw [blk_cell HG1.out]; rfl)
    go_wp2_with fail
    refine (HRP.out _).mono ?_
    rintro e w2 ⟨rfl, hb⟩
    have HB2 := Lib.hid (below_step HB1.out hb HB1.out.size)
    have HG2 := Lib.hid (blk_kept hb HG1.out)
    have HV2 := Lib.hid (HV1.out.kept hb)
    clear hb p0 p1 p2 p3
    have p0 : w2.cell? ⟨w.heap.size, 0, none⟩ = some (.int .u8 (p.1.1.toNat : Int)) := (by rw [blk_cell HG2.out]; rfl)
    have p1 : w2.cell? ⟨w.heap.size, 1, none⟩ = some (.int .u64 (p.1.2.1.toNat : Int)) := (by rw [blk_cell HG2.out]; rfl)
    have p2 : w2.cell? ⟨w.heap.size, 2, none⟩ = some (.int .u64 (p.1.2.2.toNat : Int)) := (by rw [blk_cell HG2.out]; rfl)
    have p3 : w2.cell? ⟨w.heap.size, 3, none⟩ = some (.int .i64 p.2) := (by rw [blk_cell HG2.out]; rfl)
    go_wp2_with fail
    refine (HHS.out _ HV2.out (rightL_iff.1 HR.out.symm)).mono ?_
    rintro e w3 ⟨rfl, hb⟩
    have HB3 := Lib.hid (below_step HB2.out hb HB2.out.size)
    have HG3 := Lib.hid (blk_kept hb HG2.out)
    have HV3 := Lib.hid (HV2.out.kept hb)
    clear hb p0 p1 p2 p3
    rw [HX.out]
    go_wp2_with fail
    go_ret2
    exact ⟨_, by rw [HE.out]; rfl, by unfold outP; rw [HE.out]; exact World.ownsRow_nil _ _ _ _, HB3.out⟩
  · have HE := Lib.hid he
    have hx : hasV l p = -1 := by unfold hasV; rw [if_neg hm]
    have HX := Lib.hid hx
    clear he hx hm
    go_enter Try.func31, Try.ntmps31
    go_wp2_with fail
    generalize (w.alloc (.cells #[.int .u8 (p.1.1.toNat : Int), .int .u64 (p.1.2.1.toNat : Int), .int .u64 (p.1.2.2.toNat : Int), .int .i64 p.2] 36)) = w0 at *
    refine (HRL.out _ (HV.out.kept HB0.out)).mono ?_
    rintro e w1 ⟨rfl, hb⟩
    have HB1 := Lib.hid (below_step HB0.out hb HB0.out.size)
    have HG1 := Lib.hid (blk_kept hb H1.out)
    have HV1 := Lib.hid ((HV.out.kept HB0.out).kept hb)
    clear hb
    have p0 : w1.cell? ⟨w.heap.size, 0, none⟩ = some (.int .u8 (p.1.1.toNat : Int)) := (by rw [blk_cell HG1.out]; rfl)
    have p1 : w1.cell? ⟨w.heap.size, 1, none⟩ = some (.int .u64 (p.1.2.1.toNat : Int)) := (by rw [blk_cell HG1.out]; rfl)
    have p2 : w1.cell? ⟨w.heap.size, 2, none⟩ = some (.int .u64 (p.1.2.2.toNat : Int)) := (by rw [blk_cell HG1.out]; rfl)
    have p3 : w1.cell? ⟨w.heap.size, 3, none⟩ = some (.int .i64 p.2) := (by rw [blk_cell HG1.out]; rfl)
    go_wp2_with fail
    refine (HRP.out _).mono ?_
    rintro e w2 ⟨rfl, hb⟩
    have HB2 := Lib.hid (below_step HB1.out hb HB1.out.size)
    have HG2 := Lib.hid (blk_kept hb HG1.out)
    have HV2 := Lib.hid (HV1.out.kept hb)
    clear hb p0 p1 p2 p3
    have p0 : w2.cell? ⟨w.heap.size, 0, none⟩ = some (.int .u8 (p.1.1.toNat : Int)) := (by rw [blk_cell HG2.out]; rfl)
    have p1 : w2.cell? ⟨w.heap.size, 1, none⟩ = some (.int .u64 (p.1.2.1.toNat : Int)) := (by rw [blk_cell HG2.out]; rfl)
    have p2 : w2.cell? ⟨w.heap.size, 2, none⟩ = some (.int .u64 (p.1.2.2.toNat : Int)) := (by rw [blk_cell HG2.out]; rfl)
    have p3 : w2.cell? ⟨w.heap.size, 3, none⟩ = some (.int .i64 p.2) := (by rw [blk_cell HG2.out]; rfl)
    go_wp2_with fail
    refine (HHS.out _ HV2.out (rightL_iff.1 HR.out.symm)).mono ?_
    rintro e w3 ⟨rfl, hb⟩
    have HB3 := Lib.hid (below_step HB2.out hb HB2.out.size)
    have HG3 := Lib.hid (blk_kept hb HG2.out)
    have HV3 := Lib.hid (HV2.out.kept hb)
    clear hb p0 p1 p2 p3
    rw [HX.out]
    go_wp2_with fail
    have HRS := Lib.hid (rightL_iff.1 HR.out.symm)
    go_loopw [6, 7] (fun v6 v7 wr => ∃ i n : Nat, i ≤ l.length ∧ n ≤ i ∧ v7 = .int .i64 i ∧ Hid (n = ((l.take i).filter (fun q => before q p)).length) ∧ wr.ownsRow w3.heap.size TR 4 v6 n (((l.take i).filter (fun q => before q p)).flatMap encC) ∧ Below w3.heap.size w3 wr) (fun _ v7 _ => l.length - (intOf v7).toNat)
    case atStart => exact ⟨0, 0, Nat.zero_le _, Nat.le_refl _, rfl, Lib.hid rfl, World.ownsRow_nil _ _ _ _, Below.refl _ _⟩
    case round =>
      obtain ⟨i, n, hi, hni, rfl, HN, ho, hbel⟩ := hrel
      have HO := Lib.hid ho
      have HBE := Lib.hid hbel
      obtain ⟨oo, oc, hov⟩ := owns_slice1 ho
      subst hov
      clear ho hbel
      by_cases hlt : i < l.length
      · obtain ⟨b, off, cap', hve, hcs⟩ := pfs_cells (HV3.out.kept HBE.out) (by omega)
        cases hve
        have hcm := hcs i hlt
        obtain ⟨q, hq⟩ : ∃ q, q = l[i] := ⟨_, rfl⟩
        rw [← hq] at hcm
        have HCM := Lib.hid hcm
        obtain ⟨c, hc⟩ : ∃ c, c = before q p := ⟨_, rfl⟩
        have HSN := Lib.hid (show (l.take (i + 1)).filter (fun q => before q p) = (l.take i).filter (fun q => before q p) ++ (if c then [q] else []) by
          rw [List.take_succ_eq_append_getElem hlt, List.filter_append, ← hq, hc]
          exact congrArg _ (filter_single _ q))
        have HBF := Lib.hid (fun w => rbefore q p w)
        rw [← hc] at HBF
        have HG4 := Lib.hid (blk_kept HBE.out HG3.out)
        have m0 : (0 : Int) ≤ (i : Int) := by omega
        have m1 : (i : Int) < (l.length : Int) := by omega
        clear hcs hq hc
        have q0 : ∀ zz : Later wr.heap.size wr, zz.val.cell? ⟨b, off + i * 4, none⟩ = some (.int .u8 (q.1.1.toNat : Int)) := fun zz => Later.cell hcm.c0 (World.block_lt_of_cell? _ _ hcm.c0) zz
        have q1 : ∀ zz : Later wr.heap.size wr, zz.val.cell? ⟨b, off + i * 4 + 1, none⟩ = some (.int .u64 (q.1.2.1.toNat : Int)) := fun zz => Later.cell hcm.c1 (World.block_lt_of_cell? _ _ hcm.c1) zz
        have q2 : ∀ zz : Later wr.heap.size wr, zz.val.cell? ⟨b, off + i * 4 + 2, none⟩ = some (.int .u64 (q.1.2.2.toNat : Int)) := fun zz => Later.cell hcm.c2 (World.block_lt_of_cell? _ _ hcm.c2) zz
        have q3 : ∀ zz : Later wr.heap.size wr, zz.val.cell? ⟨b, off + i * 4 + 3, none⟩ = some (.int .i64 q.2) := fun zz => Later.cell hcm.c3 (World.block_lt_of_cell? _ _ hcm.c3) zz
        have p0 : ∀ zz : Later wr.heap.size wr, zz.val.cell? ⟨w.heap.size, 0, none⟩ = some (.int .u8 (p.1.1.toNat : Int)) := fun zz => Later.cell (by rw [blk_cell HG4.out]; rfl) (blk_lt HG4.out) zz
        have p1 : ∀ zz : Later wr.heap.size wr, zz.val.cell? ⟨w.heap.size, 1, none⟩ = some (.int .u64 (p.1.2.1.toNat : Int)) := fun zz => Later.cell (by rw [blk_cell HG4.out]; rfl) (blk_lt HG4.out) zz
        have p2 : ∀ zz : Later wr.heap.size wr, zz.val.cell? ⟨w.heap.size, 2, none⟩ = some (.int .u64 (p.1.2.2.toNat : Int)) := fun zz => Later.cell (by rw [blk_cell HG4.out]; rfl) (blk_lt HG4.out) zz
        have p3 : ∀ zz : Later wr.heap.size wr, zz.val.cell? ⟨w.heap.size, 3, none⟩ = some (.int .i64 p.2) := fun zz => Later.cell (by rw [blk_cell HG4.out]; rfl) (blk_lt HG4.out) zz
        clear hcm
        go_wp2_with fail
        refine wp_region_later wr.heap.size (by kernel_rfl) (by kernel_rfl) ?_
        repeat (go_big_quiet_step ((go_at_call 51; with_reducible exact Later.calls (Nat.le_refl _) (HBF.out _))))
        refine wpQuiet_nil ?_
        rintro w9 ⟨yy, rfl⟩
        have HB9 := Lib.hid (below_step HBE.out yy.prop HBE.out.size)
        have HO9 := Lib.hid (row_kept1 HO.out fun k hk => yy.prop.block k (HO.out.lt k hk).2)
        have hc9 := HCM.out.kept yy.prop
        clear q0 q1 q2 q3 p0 p1 p2 p3
        generalize yy.val = w9 at *
        cases c
        · clear hc9
          go_wp2_with fail
          go_roundw
          case rel => exact ⟨i + 1, n, by omega, by omega, by go_num, Lib.hid (by rw [HSN.out]; simpa using HN.out), by rw [HSN.out]; simpa using HO9.out, HB9.out⟩
          case measure => simp [intOf]; omega
        · have HL := Lib.hid (show n + 1 ≤ 1099511627776 by omega)
          have HS9 := Lib.hid HB9.out.size
          have c0 := hc9.c0
          have c1 := hc9.c1
          have c2 := hc9.c2
          have c3 := hc9.c3
          clear hc9
          go_wp2_with (at_builtin; refine wpList_append1 rfl (.tmp 32) (.tmp 37) 30 rfl w3.heap.size 36 _ 4 32 Try.underlying30 infoR rfl (by decide) _ n (((l.take i).filter (fun q => before q p)).flatMap encC) (encC q) rfl HO9.out _ 1 rfl rfl rfl (encC_one1 q) HL.out (by decide) HS9.out w3.heap.size w3 HB9.out (Nat.le_refl _) ?_; intro v' w' ho hgr hb' hsz'; have HO4 := Lib.hid ho; have HB4 := Lib.hid hb'; clear ho hgr hb' hsz')
          go_roundw
          case rel =>
            refine ⟨i + 1, n + 1, by omega, by omega, by go_num, Lib.hid (by rw [HSN.out, List.length_append, ← HN.out]; rfl), ?_, HB4.out⟩
            rw [HSN.out]
            have := HO4.out
            simpa [List.flatMap_append] using this
          case measure => simp [intOf]; omega
      · obtain rfl : i = l.length := by omega
        have hfl : (l.take l.length).filter (fun q => before q p) = l.take (pos l p) := by rw [List.take_length]; exact filter_pos HRS.out p
        have hpl : pos l p ≤ l.length := List.countP_le_length
        have hnp : n = pos l p := by have := HN.out; rw [hfl, List.length_take] at this; omega
        subst hnp
        obtain ⟨m, hm⟩ : ∃ m, m = pos l p := ⟨_, rfl⟩
        have HF := Lib.hid hfl
        rw [← hm] at HO hpl HF ⊢
        have HM := Lib.hid hm
        have HO5 := Lib.hid (show wr.ownsRow w3.heap.size TR 4 (.slice oo m oc) m ((l.take m).flatMap encC) by have := HO.out; rwa [HF.out] at this)
        have HG5 := Lib.hid (blk_kept HBE.out HG3.out)
        have HL := Lib.hid (show m + 1 ≤ 1099511627776 by omega)
        have HSR := Lib.hid HBE.out.size
        clear hfl hm
        have p0 : wr.cell? ⟨w.heap.size, 0, none⟩ = some (.int .u8 (p.1.1.toNat : Int)) := (by rw [blk_cell HG5.out]; rfl)
        have p1 : wr.cell? ⟨w.heap.size, 1, none⟩ = some (.int .u64 (p.1.2.1.toNat : Int)) := (by rw [blk_cell HG5.out]; rfl)
        have p2 : wr.cell? ⟨w.heap.size, 2, none⟩ = some (.int .u64 (p.1.2.2.toNat : Int)) := (by rw [blk_cell HG5.out]; rfl)
        have p3 : wr.cell? ⟨w.heap.size, 3, none⟩ = some (.int .i64 p.2) := (by rw [blk_cell HG5.out]; rfl)
        have hcs : m < l.length ∨ m = l.length := by omega
        have HFIN := Lib.hid (show ∀ (v' : Value) (w' : World), w'.ownsRow w3.heap.size TR 4 v' (m + 1 + (l.length - m)) ((l.take m).flatMap encC ++ encC p ++ (l.drop m).flatMap encC) → w'.ownsRow w.heap.size TR 4 v' (outP l p).length ((outP l p).flatMap encC) from fun v' w' ho => by
          have e1 : outP l p = putL l p := by unfold outP; rw [if_pos HE.out]
          have e2 : m + 1 + (l.length - m) = l.length + 1 := by omega
          have e3 : (l.take m).flatMap encC ++ encC p ++ (l.drop m).flatMap encC = (putL l p).flatMap encC := by unfold putL; rw [← HM.out]; simp [List.flatMap_append]
          rw [e2, e3] at ho
          rw [e1, putL_length]
          exact owns_mono ho HB3.out.size)
        have HL2 := Lib.hid (show m + 1 + (l.length - m) ≤ 1099511627776 by omega)
        rcases hcs with hlm | hlm
        · obtain ⟨b, off, cap', hve, -⟩ := pfs_cells HV3.out (by omega)
          cases hve
          have k4 : ¬ cap = m := by omega
          have HSG := Lib.hid (show Seg w3 4 (.slice (some ⟨b, off + m * 4, none⟩) (l.length - m) (cap - m)) (l.length - m) ((l.drop m).flatMap encC) by
            have := seg_from HV3.out hcap m hpl
            rw [if_neg k4] at this
            have hadd : (⟨b, off, none⟩ : Addr).add (m * 4) = ⟨b, off + m * 4, none⟩ := by unfold Addr.add; split <;> simp_all
            simpa [hadd] using this)
          have k5 : (m : Int) ≤ (l.length : Int) := by omega
          have k6 : (0 : Int) ≤ (m : Int) := by omega
          go_wp2_with (first | (at_builtin; refine wpList_append1 rfl (.tmp 39) (.tmp 41) 30 rfl w3.heap.size 36 _ 4 32 Try.underlying30 infoR rfl (by decide) _ m ((l.take m).flatMap encC) (encC p) rfl HO5.out _ 1 rfl rfl rfl (encC_one1 p) HL.out (by decide) HSR.out w3.heap.size w3 HBE.out (Nat.le_refl _) ?_; intro v6 w6 ho hgr hb6 hsz6; have HO6 := Lib.hid ho; have HB6 := Lib.hid hb6; obtain ⟨o6, c6, hv6⟩ := owns_slice1 ho; subst hv6; clear ho hgr hb6 hsz6) | (at_builtin; refine wpList_append_seg rfl (.tmp 43) (.tmp 48) 30 rfl w3.heap.size 36 _ 4 32 Try.underlying30 infoR rfl (by decide) _ (m + 1) _ rfl HO6.out _ (l.length - m) ((l.drop m).flatMap encC) rfl (HSG.out.kept HB6.out) encC_one HL2.out (by decide) HB6.out.size ?_; intro v7 w7 ho hgr hob; have HO7 := Lib.hid ho; have HB7 := Lib.hid (HB6.out.grown hgr HB6.out.size (fun k hk => (HO6.out.lt k hk).1)); clear ho hgr hob))
          go_ret2
          exact ⟨_, by rw [HE.out]; rfl, HFIN.out _ _ HO7.out, below_step HB3.out HB7.out HB3.out.size⟩
        · subst hlm
          have hz : l.drop l.length = [] := List.drop_length
          have HZ := Lib.hid hz
          have k5 : (l.length : Int) ≤ (l.length : Int) := by omega
          have k6 : (0 : Int) ≤ (l.length : Int) := by omega
          have hac : (ao = none) ∨ (∃ a, ao = some a ∧ cap = l.length) ∨ (∃ a, ao = some a ∧ ¬ cap = l.length) := by
            cases ao with
            | none => exact .inl rfl
            | some a => by_cases h : cap = l.length
                        · exact .inr (.inl ⟨a, rfl, h⟩)
                        · exact .inr (.inr ⟨a, rfl, h⟩)
          have HFIN2 := Lib.hid (show ∀ (v' : Value) (w' : World), w'.ownsRow w3.heap.size TR 4 v' (l.length + 1 + 0) ((l.take l.length).flatMap encC ++ encC p ++ []) → w'.ownsRow w.heap.size TR 4 v' (outP l p).length ((outP l p).flatMap encC) from fun v' w' ho => HFIN.out v' w' (by rw [HZ.out, Nat.sub_self]; exact ho))
          clear hz
          rcases hac with rfl | ⟨a, rfl, hk⟩ | ⟨a, rfl, hk⟩
          all_goals
            go_wp2_with (first | (at_builtin; refine wpList_append1 rfl (.tmp 39) (.tmp 41) 30 rfl w3.heap.size 36 _ 4 32 Try.underlying30 infoR rfl (by decide) _ l.length ((l.take l.length).flatMap encC) (encC p) rfl HO5.out _ 1 rfl rfl rfl (encC_one1 p) HL.out (by decide) HSR.out w3.heap.size w3 HBE.out (Nat.le_refl _) ?_; intro v6 w6 ho hgr hb6 hsz6; have HO6 := Lib.hid ho; have HB6 := Lib.hid hb6; obtain ⟨o6, c6, hv6⟩ := owns_slice1 ho; subst hv6; clear ho hgr hb6 hsz6) | (at_builtin; refine wpList_append_seg rfl (.tmp 43) (.tmp 48) 30 rfl w3.heap.size 36 _ 4 32 Try.underlying30 infoR rfl (by decide) _ (l.length + 1) _ rfl HO6.out _ 0 [] rfl (seg_zero _ _ _) (by simp) (by omega) (by decide) HB6.out.size ?_; intro v7 w7 ho hgr hob; have HO7 := Lib.hid ho; have HB7 := Lib.hid (HB6.out.grown hgr HB6.out.size (fun k hk => (HO6.out.lt k hk).1)); clear ho hgr hob))
            go_ret2
            exact ⟨_, by rw [HE.out]; rfl, HFIN2.out _ _ HO7.out, below_step HB3.out HB7.out HB3.out.size⟩
end Go.Proofs.Try.Pfx
