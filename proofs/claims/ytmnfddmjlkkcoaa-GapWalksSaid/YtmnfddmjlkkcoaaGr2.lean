/- The document's Covered, Least, end. -/
import Derived.Test.YtmnfddmjlkkcoaaGr1
set_option linter.unusedVariables false
set_option linter.unusedSimpArgs false
namespace Go.Proofs.Try.Gp
open Go.RowKit Go.Cph Go.Cph.Px Go.Cph.Gp Go.Cph.So
open Pfx (encA)
theorem coveredD_take {l : List Sp} {a : Ad} {i : Nat} (h : i < l.length) : coveredD (l.take (i + 1)) a = (coveredD (l.take i) a || hasS l[i] a) := by
  rw [List.take_succ_eq_append_getElem h]; unfold coveredD; rw [List.any_append]; simp
theorem coveredD_some {l : List Sp} {a : Ad} {i : Nat} (h : i < l.length) (hs : hasS l[i] a = true) : coveredD l a = true := by
  unfold coveredD; rw [List.any_eq_true]; exact ⟨_, List.getElem_mem h, hs⟩

set_option maxRecDepth 100000 in
set_option maxHeartbeats 4000000 in
theorem covered_any (v : Value) (l : List Sp) (a : Ad) (w : World) (h : SpsAt w v l) (hl : l.length ≤ 3000000) :
    Calls Try.prog 44 #[v, encA a] w fun e w' => e = .returned (.bool (coveredD l a)) ∧ Below w.heap.size w w' := by
  obtain ⟨ao, cap, rfl⟩ := elems_slice h
  have HBX := Lib.hid (show Below w.heap.size w (w.alloc (boxAr a)) from (Below.refl _ _).alloc (Nat.le_refl _) _)
  have HG := Lib.hid (heap_alloc_new w (boxAr a))
  have HE := Lib.hid (h.kept HBX.out)
  have HL := Lib.hid hl
  clear h
  go_enter Try.func44, Try.ntmps44
  go_wp2_with fail
  generalize w.alloc (boxAr a) = w1 at *
  obtain ⟨n, hn⟩ : ∃ n, n = w.heap.size := ⟨_, rfl⟩
  rw [← hn] at HG HBX ⊢
  have HN := Lib.hid hn
  clear hn
  go_loopw [5] (fun vi W => ∃ i : Nat, i ≤ l.length ∧ vi = .int .i64 i ∧ coveredD (l.take i) a = false ∧ Below w1.heap.size w1 W) (fun vi _ => l.length - (intOf vi).toNat)
  case atStart => exact ⟨0, Nat.zero_le _, rfl, rfl, Below.refl _ _⟩
  case round =>
    obtain ⟨i, hi, rfl, hcv, hbel⟩ := hrel
    have HBE := Lib.hid hbel
    have HCV := Lib.hid hcv
    have HBW := Lib.hid (below_step HBX.out hbel (by rw [HN.out]; exact HBX.out.size))
    by_cases hlt : i < l.length
    · have HLT := Lib.hid hlt
      have HCT := Lib.hid (coveredD_take (a := a) hlt)
      have HCS := Lib.hid (fun h => coveredD_some (a := a) hlt h)
      obtain ⟨b', off, cap', hve, hcs⟩ := sps_cells (HE.out.kept hbel) (by omega)
      injection hve with hx1 hx2 hx3
      subst hx1
      clear hx2 hx3
      have hcx := hcs i hlt
      obtain ⟨x, hx⟩ : ∃ x, x = l[i]'hlt := ⟨_, rfl⟩
      rw [← hx] at hcx
      rw [← hx] at HCT
      rw [← hx] at HCS
      have HG2 := Lib.hid (blk_kept hbel HG.out)
      have d0 : ∀ zz : Later wr.heap.size wr, zz.val.cell? ⟨b', off + i * 6, none⟩ = some (.int .u8 (x.1.1.toNat : Int)) := fun zz => Later.cell hcx.c0 (World.block_lt_of_cell? _ _ hcx.c0) zz
      have d1 : ∀ zz : Later wr.heap.size wr, zz.val.cell? ⟨b', off + i * 6 + 1, none⟩ = some (.int .u64 (x.1.2.1.toNat : Int)) := fun zz => Later.cell hcx.c1 (World.block_lt_of_cell? _ _ hcx.c1) zz
      have d2 : ∀ zz : Later wr.heap.size wr, zz.val.cell? ⟨b', off + i * 6 + 2, none⟩ = some (.int .u64 (x.1.2.2.toNat : Int)) := fun zz => Later.cell hcx.c2 (World.block_lt_of_cell? _ _ hcx.c2) zz
      have d3 : ∀ zz : Later wr.heap.size wr, zz.val.cell? ⟨b', off + i * 6 + 3, none⟩ = some (.int .u8 (x.2.1.toNat : Int)) := fun zz => Later.cell hcx.c3 (World.block_lt_of_cell? _ _ hcx.c3) zz
      have d4 : ∀ zz : Later wr.heap.size wr, zz.val.cell? ⟨b', off + i * 6 + 4, none⟩ = some (.int .u64 (x.2.2.1.toNat : Int)) := fun zz => Later.cell hcx.c4 (World.block_lt_of_cell? _ _ hcx.c4) zz
      have d5 : ∀ zz : Later wr.heap.size wr, zz.val.cell? ⟨b', off + i * 6 + 5, none⟩ = some (.int .u64 (x.2.2.2.toNat : Int)) := fun zz => Later.cell hcx.c5 (World.block_lt_of_cell? _ _ hcx.c5) zz
      have f0 : ∀ zz : Later wr.heap.size wr, zz.val.cell? ⟨n, 0, none⟩ = some (.int .u8 (a.1.toNat : Int)) := fun zz => Later.cell (rbox_n0 HG2.out) (blk_lt HG2.out) zz
      have f1 : ∀ zz : Later wr.heap.size wr, zz.val.cell? ⟨n, 1, none⟩ = some (.int .u64 (a.2.1.toNat : Int)) := fun zz => Later.cell (rbox_n1 HG2.out) (blk_lt HG2.out) zz
      have f2 : ∀ zz : Later wr.heap.size wr, zz.val.cell? ⟨n, 2, none⟩ = some (.int .u64 (a.2.2.toNat : Int)) := fun zz => Later.cell (rbox_n2 HG2.out) (blk_lt HG2.out) zz
      have HH := Lib.hid (fun W => rhas_any x a W)
      obtain ⟨p, hp⟩ : ∃ p, p = hasS x a := ⟨_, rfl⟩
      rw [← hp] at HH HCT HCS
      have k1 : (0 : Int) ≤ (i : Int) := by omega
      have k2 : (i : Int) < (l.length : Int) := by omega
      have k4 : IntKind.i64.wrap ((i : Int) + 1) = (i : Int) + 1 := by rw [IntKind.wrap_i64]; omega
      clear hbel hcs hcx hx hp hcv hi hlt
      go_wp2_with fail
      refine wp_region_later wr.heap.size (by kernel_rfl) (by kernel_rfl) ?_
      repeat (go_big_quiet_step ((go_at_call 25; first | (with_reducible exact Later.calls (Nat.le_refl _) (HH.out _)))))
      refine wpQuiet_nil ?_
      rintro wq ⟨zz, rfl⟩
      have hb := zz.prop
      generalize zz.val = wq at *
      have HBQ := Lib.hid (below_step HBE.out hb HBE.out.size)
      have HBR := Lib.hid (below_step HBW.out hb (by rw [HN.out]; exact HBW.out.size))
      clear hb d0 d1 d2 d3 d4 d5 f0 f1 f2
      cases p
      · go_wp2_with fail
        go_roundw
        case rel => exact ⟨i + 1, HLT.out, by go_num, by rw [HCT.out, HCV.out]; rfl, HBQ.out⟩
        case measure => have := HLT.out; simp [intOf]; omega
      · go_wp2_with fail
        go_ret
        exact ⟨ret_bool (HCS.out (by first | rfl | trivial)).symm, by rw [← HN.out]; exact HBR.out⟩
    · obtain rfl : i = l.length := by omega
      have k2 : ¬ (l.length : Int) < (l.length : Int) := by omega
      rw [List.take_length] at HCV
      clear hcv hbel hi hlt
      go_wp2_with fail
      go_ret
      exact ⟨ret_bool HCV.out.symm, by rw [← HN.out]; exact HBW.out⟩
abbrev box0r : Obj := .cells #[.int .u8 0, .int .u64 0, .int .u64 0] 36 (0, 0)
theorem put_box0 {W : World} {g : Nat} (h : W.heap[g]? = some box0r) (a : Ad) : (putA W g 0 a).heap[g]? = some (boxAr a) := blk_set (blk_set (blk_set h 0 _) 1 _) 2 _
/-- What end tells. -/
def EndPost (a b : Ad) (l : List Sp) (w : World) (e : Ending) (w' : World) : Prop := (∃ x, e = .returned (encA x) ∧ En a b l l.length x) ∧ Below w.heap.size w w'
/-- The boxes of end's call: at, to, the result's, the best one. -/
structure St4 (w : World) (n : Nat) (a b e : Ad) (W : World) : Prop where
  ga : W.heap[n]? = some (boxAr a)
  gb : W.heap[n + 1]? = some (boxAr b)
  gr : W.heap[n + 1 + 1]? = some box0r
  gc : W.heap[n + 1 + 1 + 1]? = some (boxAr e)
  bel : Below n w W
theorem St4.later {w W W' : World} {n : Nat} {a b e : Ad} (h : St4 w n a b e W) (hb : Below W.heap.size W W') : St4 w n a b e W' :=
  ⟨blk_kept hb h.ga, blk_kept hb h.gb, blk_kept hb h.gr, blk_kept hb h.gc, below_step h.bel hb (by have := blk_lt h.gc; omega)⟩
theorem put_other {W : World} {g o k : Nat} {x : Obj} (h : W.heap[k]? = some x) (hne : k ≠ g) (c : Ad) : (putA W g o c).heap[k]? = some x := by
  show (World.setCell _ _ _).heap[k]? = _
  rw [blk_set_other (a := ⟨g, o + 2, none⟩) hne]
  rw [blk_set_other (a := ⟨g, o + 1, none⟩) hne]
  rw [blk_set_other (a := ⟨g, o, none⟩) hne]
  exact h
theorem St4.put {w W : World} {n : Nat} {a b e : Ad} (h : St4 w n a b e W) (c : Ad) : St4 w n a b c (putA W (n + 1 + 1 + 1) 0 c) :=
  ⟨put_other h.ga (by omega) c, put_other h.gb (by omega) c, put_other h.gr (by omega) c, put_boxR h.gc c, put_below h.bel (by omega) c⟩

set_option maxRecDepth 100000 in
set_option maxHeartbeats 8000000 in
theorem end_any (v : Value) (l : List Sp) (a b : Ad) (w : World) (h : SpsAt w v l) (hl : l.length ≤ 3000000) (hb : rightA b = true) (hf : b.1 = a.1) (hab : rank a ≤ rank b) :
    Calls Try.prog 41 #[encA a, encA b, v] w (EndPost a b l w) := by
  obtain ⟨ao, cap, rfl⟩ := elems_slice h
  have HE := Lib.hid (fun W (hb : Below w.heap.size w W) => h.kept hb)
  have HEN := Lib.hid (En.start (l := l) hb hf hab)
  have HST := Lib.hid (show St4 w w.heap.size a b b ((((w.alloc (boxAr a)).alloc (boxAr b)).alloc box0r).alloc (boxAr b)) from by
    have h0 := heap_alloc_new w (boxAr a)
    have h1 := heap_alloc_new (w.alloc (boxAr a)) (boxAr b)
    have h2 := heap_alloc_new ((w.alloc (boxAr a)).alloc (boxAr b)) box0r
    have h3 := heap_alloc_new (((w.alloc (boxAr a)).alloc (boxAr b)).alloc box0r) (boxAr b)
    simp only [World.size_alloc, Nat.add_assoc] at h1 h2 h3
    exact ⟨blk_alloc (blk_alloc (blk_alloc h0 _) _) _, blk_alloc (blk_alloc h1 _) _, blk_alloc h2 _, h3, ((((Below.refl _ _).alloc (Nat.le_refl _) _).alloc (by simp) _).alloc (by simp; omega) _).alloc (by simp; omega) _⟩)
  have HF := Lib.hid hf
  clear h hb hf hab
  go_enter Try.func41, Try.ntmps41
  go_wp2_with fail
  generalize (((w.alloc (boxAr a)).alloc (boxAr b)).alloc box0r).alloc (boxAr b) = w1 at *
  obtain ⟨n, hn⟩ : ∃ n, n = w.heap.size := ⟨_, rfl⟩
  rw [← hn] at HST HE ⊢
  have HN := Lib.hid hn
  clear hn
  go_loopw [8] (fun vi W => ∃ (i : Nat) (e : Ad), i ≤ l.length ∧ vi = .int .i64 i ∧ St4 w n a b e W ∧ En a b l i e) (fun vi _ => l.length - (intOf vi).toNat)
  case atStart => exact ⟨0, b, Nat.zero_le _, rfl, HST.out, HEN.out⟩
  case round =>
    obtain ⟨i, e, hi, rfl, hst, hen⟩ := hrel
    have HS := Lib.hid hst
    by_cases hlt : i < l.length
    · have HLT := Lib.hid hlt
      have HSK := Lib.hid (fun hh => hen.skip hlt hh)
      have HTK := Lib.hid (fun h1 h2 h3 h4 => hen.take hlt h1 h2 h3 h4)
      obtain ⟨b', off, cap', hve, hcs⟩ := sps_cells (HE.out _ hst.bel) (by omega)
      injection hve with hx1 hx2 hx3
      subst hx1
      clear hx2 hx3
      have hcx := hcs i hlt
      have hc0 := hcs
      obtain ⟨x, hx⟩ : ∃ x, x = l[i]'hlt := ⟨_, rfl⟩
      rw [← hx] at hcx
      rw [← hx] at HSK
      rw [← hx] at HTK
      have d0 : ∀ zz : Later wr.heap.size wr, zz.val.cell? ⟨b', off + i * 6, none⟩ = some (.int .u8 (x.1.1.toNat : Int)) := fun zz => Later.cell hcx.c0 (World.block_lt_of_cell? _ _ hcx.c0) zz
      have d1 : ∀ zz : Later wr.heap.size wr, zz.val.cell? ⟨b', off + i * 6 + 1, none⟩ = some (.int .u64 (x.1.2.1.toNat : Int)) := fun zz => Later.cell hcx.c1 (World.block_lt_of_cell? _ _ hcx.c1) zz
      have d2 : ∀ zz : Later wr.heap.size wr, zz.val.cell? ⟨b', off + i * 6 + 2, none⟩ = some (.int .u64 (x.1.2.2.toNat : Int)) := fun zz => Later.cell hcx.c2 (World.block_lt_of_cell? _ _ hcx.c2) zz
      have d3 : ∀ zz : Later wr.heap.size wr, zz.val.cell? ⟨b', off + i * 6 + 3, none⟩ = some (.int .u8 (x.2.1.toNat : Int)) := fun zz => Later.cell hcx.c3 (World.block_lt_of_cell? _ _ hcx.c3) zz
      have d4 : ∀ zz : Later wr.heap.size wr, zz.val.cell? ⟨b', off + i * 6 + 4, none⟩ = some (.int .u64 (x.2.2.1.toNat : Int)) := fun zz => Later.cell hcx.c4 (World.block_lt_of_cell? _ _ hcx.c4) zz
      have d5 : ∀ zz : Later wr.heap.size wr, zz.val.cell? ⟨b', off + i * 6 + 5, none⟩ = some (.int .u64 (x.2.2.2.toNat : Int)) := fun zz => Later.cell hcx.c5 (World.block_lt_of_cell? _ _ hcx.c5) zz
      have f0 : ∀ zz : Later wr.heap.size wr, zz.val.cell? ⟨n, 0, none⟩ = some (.int .u8 (a.1.toNat : Int)) := fun zz => Later.cell (rbox_n0 HS.out.ga) (blk_lt HS.out.ga) zz
      have f1 : ∀ zz : Later wr.heap.size wr, zz.val.cell? ⟨n, 1, none⟩ = some (.int .u64 (a.2.1.toNat : Int)) := fun zz => Later.cell (rbox_n1 HS.out.ga) (blk_lt HS.out.ga) zz
      have f2 : ∀ zz : Later wr.heap.size wr, zz.val.cell? ⟨n, 2, none⟩ = some (.int .u64 (a.2.2.toNat : Int)) := fun zz => Later.cell (rbox_n2 HS.out.ga) (blk_lt HS.out.ga) zz
      have g0 : ∀ zz : Later wr.heap.size wr, zz.val.cell? ⟨(n + 1 + 1 + 1), 0, none⟩ = some (.int .u8 (e.1.toNat : Int)) := fun zz => Later.cell (rbox_n0 HS.out.gc) (blk_lt HS.out.gc) zz
      have g1 : ∀ zz : Later wr.heap.size wr, zz.val.cell? ⟨(n + 1 + 1 + 1), 1, none⟩ = some (.int .u64 (e.2.1.toNat : Int)) := fun zz => Later.cell (rbox_n1 HS.out.gc) (blk_lt HS.out.gc) zz
      have g2 : ∀ zz : Later wr.heap.size wr, zz.val.cell? ⟨(n + 1 + 1 + 1), 2, none⟩ = some (.int .u64 (e.2.2.toNat : Int)) := fun zz => Later.cell (rbox_n2 HS.out.gc) (blk_lt HS.out.gc) zz
      have HR := Lib.hid (fun W => rright_sp x W)
      have HL1 := Lib.hid (fun W => rless a x.1 W)
      have HL2 := Lib.hid (fun W => rless e x.1 W)
      have HBK := Lib.hid (fun W => rback x.1 W)
      obtain ⟨p, hp⟩ : ∃ p, p = rightS x := ⟨_, rfl⟩
      obtain ⟨y, hy⟩ : ∃ y, y = lessA a x.1 := ⟨_, rfl⟩
      obtain ⟨z, hz⟩ : ∃ z, z = lessA e x.1 := ⟨_, rfl⟩
      have heq := Pfx.u8_eq x.1.1 a.1
      obtain ⟨q, hq⟩ : ∃ q, q = (x.1.1 == a.1) := ⟨_, rfl⟩
      rw [← hq] at heq
      rw [← hp] at HR HSK HTK
      rw [← hy] at HL1 HSK HTK
      rw [← hz] at HL2 HSK HTK
      have HQ := Lib.hid hq
      have k1 : (0 : Int) ≤ (i : Int) := by omega
      have k2 : (i : Int) < (l.length : Int) := by omega
      have k4 : IntKind.i64.wrap ((i : Int) + 1) = (i : Int) + 1 := by rw [IntKind.wrap_i64]; omega
      have HXE := Lib.hid (show ∀ h : i < l.length, x = l[i]'h from fun _ => hx)
      clear hst hen hcs hcx hx hp hq hy hz hi hlt hc0
      go_wp2_with fail
      cases p
      · refine wp_region_later wr.heap.size (by kernel_rfl) (by kernel_rfl) ?_
        repeat (go_big_quiet_step (first | (go_at_call 23; first | (with_reducible exact Later.calls (Nat.le_refl _) (HR.out _))) | (go_at_call 45; first | (with_reducible exact Later.calls (Nat.le_refl _) (HL1.out _)) | (with_reducible exact Later.calls (Nat.le_refl _) (HL2.out _)))))
        refine wpQuiet_nil ?_
        rintro wq ⟨zz, rfl⟩
        have hb := zz.prop
        generalize zz.val = wq at *
        have HS2 := Lib.hid (HS.out.later hb)
        have HEQ := Lib.hid (HE.out _ HS2.out.bel)
        clear hb d0 d1 d2 d3 d4 d5 f0 f1 f2 g0 g1 g2
        go_wp2_with fail
        go_roundw
        case rel => exact ⟨i + 1, e, HLT.out, by go_num, HS2.out, HSK.out (Or.inl rfl)⟩
        case measure => have := HLT.out; simp [intOf]; omega
      · cases q
        · refine wp_region_later wr.heap.size (by kernel_rfl) (by kernel_rfl) ?_
          repeat (go_big_quiet_step (first | (go_at_call 23; first | (with_reducible exact Later.calls (Nat.le_refl _) (HR.out _))) | (go_at_call 45; first | (with_reducible exact Later.calls (Nat.le_refl _) (HL1.out _)) | (with_reducible exact Later.calls (Nat.le_refl _) (HL2.out _)))))
          refine wpQuiet_nil ?_
          rintro wq ⟨zz, rfl⟩
          have hb := zz.prop
          generalize zz.val = wq at *
          have HS2 := Lib.hid (HS.out.later hb)
          have HEQ := Lib.hid (HE.out _ HS2.out.bel)
          clear hb d0 d1 d2 d3 d4 d5 f0 f1 f2 g0 g1 g2
          go_wp2_with fail
          go_roundw
          case rel => exact ⟨i + 1, e, HLT.out, by go_num, HS2.out, HSK.out (Or.inr (Or.inl (fun h => by have h2 := HQ.out; rw [h, beq_self_eq_true] at h2; cases h2)))⟩
          case measure => have := HLT.out; simp [intOf]; omega
        · have HFM := Lib.hid (show x.1.1 = a.1 from by have h2 := HQ.out.symm; rwa [beq_iff_eq] at h2)
          clear HQ
          cases y
          · refine wp_region_later wr.heap.size (by kernel_rfl) (by kernel_rfl) ?_
            repeat (go_big_quiet_step (first | (go_at_call 23; first | (with_reducible exact Later.calls (Nat.le_refl _) (HR.out _))) | (go_at_call 45; first | (with_reducible exact Later.calls (Nat.le_refl _) (HL1.out _)) | (with_reducible exact Later.calls (Nat.le_refl _) (HL2.out _)))))
            refine wpQuiet_nil ?_
            rintro wq ⟨zz, rfl⟩
            have hb := zz.prop
            generalize zz.val = wq at *
            have HS2 := Lib.hid (HS.out.later hb)
            have HEQ := Lib.hid (HE.out _ HS2.out.bel)
            clear hb d0 d1 d2 d3 d4 d5 f0 f1 f2 g0 g1 g2
            go_wp2_with fail
            go_roundw
            case rel => exact ⟨i + 1, e, HLT.out, by go_num, HS2.out, HSK.out (Or.inr (Or.inr (Or.inl rfl)))⟩
            case measure => have := HLT.out; simp [intOf]; omega
          · cases z
            · refine wp_region_later wr.heap.size (by kernel_rfl) (by kernel_rfl) ?_
              repeat (go_big_quiet_step (first | (go_at_call 23; first | (with_reducible exact Later.calls (Nat.le_refl _) (HR.out _))) | (go_at_call 45; first | (with_reducible exact Later.calls (Nat.le_refl _) (HL1.out _)) | (with_reducible exact Later.calls (Nat.le_refl _) (HL2.out _)))))
              refine wpQuiet_nil ?_
              rintro wq ⟨zz, rfl⟩
              have hb := zz.prop
              generalize zz.val = wq at *
              have HS2 := Lib.hid (HS.out.later hb)
              have HEQ := Lib.hid (HE.out _ HS2.out.bel)
              clear hb d0 d1 d2 d3 d4 d5 f0 f1 f2 g0 g1 g2
              obtain ⟨b2, off2, cap2, hve, hcs⟩ := sps_cells HEQ.out (Nat.lt_of_le_of_lt (Nat.zero_le _) HLT.out)
              injection hve with hx1 hx2 hx3
              injection hx1 with hx1
              injection hx1 with hx1 hx4 hx5
              subst hx1 hx4
              clear hx2 hx3 hx5
              have hcx := hcs i HLT.out
              rw [← HXE.out HLT.out] at hcx
              have d0 := hcx.c0
              have d1 := hcx.c1
              have d2 := hcx.c2
              clear hcx hcs
              go_wp2_with fail
              clear d0 d1 d2
              refine (HBK.out _).mono ?_
              rintro e9 w9 ⟨rfl, hb⟩
              have HS3 := Lib.hid (HS2.out.later hb)
              clear hb
              have fz : ∀ j, w9.frozen? ⟨n + 1 + 1 + 1, j, none⟩ = false := fun j => by rw [blk_frozen HS3.out.gc]; simp
              have HS4 := Lib.hid (HS3.out.put (backD x.1))
              have g0 := rbox_n0 HS3.out.gc
              have g1 := rbox_n1 HS3.out.gc
              have g2 := rbox_n2 HS3.out.gc
              go_wp2_with fail
              clear g0 g1 g2 fz
              go_roundw
              case rel => exact ⟨i + 1, backD x.1, HLT.out, by go_num, HS4.out, HTK.out (by first | rfl | trivial) HFM.out (by first | rfl | trivial) (by first | rfl | trivial)⟩
              case measure => have := HLT.out; simp [intOf]; omega
            · refine wp_region_later wr.heap.size (by kernel_rfl) (by kernel_rfl) ?_
              repeat (go_big_quiet_step (first | (go_at_call 23; first | (with_reducible exact Later.calls (Nat.le_refl _) (HR.out _))) | (go_at_call 45; first | (with_reducible exact Later.calls (Nat.le_refl _) (HL1.out _)) | (with_reducible exact Later.calls (Nat.le_refl _) (HL2.out _)))))
              refine wpQuiet_nil ?_
              rintro wq ⟨zz, rfl⟩
              have hb := zz.prop
              generalize zz.val = wq at *
              have HS2 := Lib.hid (HS.out.later hb)
              have HEQ := Lib.hid (HE.out _ HS2.out.bel)
              clear hb d0 d1 d2 d3 d4 d5 f0 f1 f2 g0 g1 g2
              go_wp2_with fail
              go_roundw
              case rel => exact ⟨i + 1, e, HLT.out, by go_num, HS2.out, HSK.out (Or.inr (Or.inr (Or.inr rfl)))⟩
              case measure => have := HLT.out; simp [intOf]; omega
    · obtain rfl : i = l.length := by omega
      have k2 : ¬ (l.length : Int) < (l.length : Int) := by omega
      have HEX := Lib.hid hen
      have g0 := rbox_n0 HS.out.gc
      have g1 := rbox_n1 HS.out.gc
      have g2 := rbox_n2 HS.out.gc
      have fz : ∀ j, wr.frozen? ⟨n + 1 + 1, j, none⟩ = false := fun j => by rw [blk_frozen HS.out.gr]; simp
      have r0 : wr.cell? ⟨n + 1 + 1, 0, none⟩ = some (.int .u8 0) := by rw [blk_cell HS.out.gr]; rfl
      have r1 : wr.cell? ⟨n + 1 + 1, 1, none⟩ = some (.int .u64 0) := by rw [blk_cell HS.out.gr]; rfl
      have r2 : wr.cell? ⟨n + 1 + 1, 2, none⟩ = some (.int .u64 0) := by rw [blk_cell HS.out.gr]; rfl
      clear hst hen hi hlt
      go_wp2_with fail
      have HQ := Lib.hid (show (((wr.setCell ⟨n + 1 + 1, 0, none⟩ (.int .u8 (e.1.toNat : Int))).setCell ⟨n + 1 + 1, 1, none⟩ (.int .u64 (e.2.1.toNat : Int))).setCell ⟨n + 1 + 1, 2, none⟩ (.int .u64 (e.2.2.toNat : Int))).heap[n + 1 + 1]? = some (boxAr e) from put_box0 HS.out.gr e)
      have HBQ := Lib.hid (show Below n w (((wr.setCell ⟨n + 1 + 1, 0, none⟩ (.int .u8 (e.1.toNat : Int))).setCell ⟨n + 1 + 1, 1, none⟩ (.int .u64 (e.2.1.toNat : Int))).setCell ⟨n + 1 + 1, 2, none⟩ (.int .u64 (e.2.2.toNat : Int))) from put_below (o := 0) HS.out.bel (show n ≤ n + 1 + 1 by omega) e)
      clear g0 g1 g2 r0 r1 r2 fz
      generalize ((wr.setCell ⟨n + 1 + 1, 0, none⟩ (.int .u8 (e.1.toNat : Int))).setCell ⟨n + 1 + 1, 1, none⟩ (.int .u64 (e.2.1.toNat : Int))).setCell ⟨n + 1 + 1, 2, none⟩ (.int .u64 (e.2.2.toNat : Int)) = w9 at *
      have c0 := rbox_n0 HQ.out
      have c1 := rbox_n1 HQ.out
      have c2 := rbox_n2 HQ.out
      exact bodyPost_ret (v := encA e) (by simp [results, Try.results41, go_sem, c0, c1, c2]) rfl ⟨⟨e, rfl, HEX.out⟩, by rw [← HN.out]; exact HBQ.out⟩
end Go.Proofs.Try.Gp
