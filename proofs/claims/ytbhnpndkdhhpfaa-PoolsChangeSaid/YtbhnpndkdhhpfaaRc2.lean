/- The document's lists of prefixes: where one is; right. -/
import Derived.Test.YtbhnpndkdhhpfaaRc1
set_option linter.unusedVariables false
set_option linter.unusedSimpArgs false
namespace Go.Proofs.Try.Pfx
open Go.RowKit Go.Cph Go.Cph.Px

def hasV (l : List Pf) (p : Pf) : Int := if p ∈ l then (pos l p : Int) else -1
theorem has_no {l : List Pf} {p : Pf} (h : ∀ q ∈ l, (q == p) = false) : p ∉ l := fun hm => by have := h p hm; simp at this

set_option maxRecDepth 100000 in
set_option maxHeartbeats 4000000 in
theorem has22 (v : Value) (l : List Pf) (p : Pf) (w : World) (h : PfsAt w v l) (hr : Rises l) (hn : l.length ≤ 1000000) :
    Calls Try.prog 50 #[v, encP p] w fun e w' => e = .returned (.int .i64 (hasV l p)) ∧ Below w.heap.size w w' := by
  obtain ⟨ao, cap, hv⟩ := elems_slice h
  have HV := Lib.hid h
  have HR := Lib.hid hr
  subst hv
  clear h hr
  have hb0 : Below w.heap.size w (w.alloc (.cells #[.int .u8 (p.1.1.toNat : Int), .int .u64 (p.1.2.1.toNat : Int), .int .u64 (p.1.2.2.toNat : Int), .int .i64 p.2] 36)) := ((Below.refl _ _).alloc (Nat.le_refl _) _)
  have h1 : (w.alloc (.cells #[.int .u8 (p.1.1.toNat : Int), .int .u64 (p.1.2.1.toNat : Int), .int .u64 (p.1.2.2.toNat : Int), .int .i64 p.2] 36)).heap[w.heap.size]? = some (.cells #[.int .u8 (p.1.1.toNat : Int), .int .u64 (p.1.2.1.toNat : Int), .int .u64 (p.1.2.2.toNat : Int), .int .i64 p.2] 36 (0, 0)) := (heap_alloc_new w (.cells #[.int .u8 (p.1.1.toNat : Int), .int .u64 (p.1.2.1.toNat : Int), .int .u64 (p.1.2.2.toNat : Int), .int .i64 p.2] 36))
  have H1 := Lib.hid h1
  have HB0 := Lib.hid hb0
  clear hb0 h1
  go_enter Try.func50, Try.ntmps50
  go_wp2_with fail
  generalize (w.alloc (.cells #[.int .u8 (p.1.1.toNat : Int), .int .u64 (p.1.2.1.toNat : Int), .int .u64 (p.1.2.2.toNat : Int), .int .i64 p.2] 36)) = w0 at *
  go_loopw [5] (fun v5 wr => ∃ i : Nat, i ≤ l.length ∧ v5 = .int .i64 i ∧ Hid (∀ q ∈ l.take i, (q == p) = false) ∧ Below w.heap.size w wr ∧ wr.heap[w.heap.size]? = some (.cells #[.int .u8 (p.1.1.toNat : Int), .int .u64 (p.1.2.1.toNat : Int), .int .u64 (p.1.2.2.toNat : Int), .int .i64 p.2] 36 (0, 0))) (fun v5 _ => l.length - (intOf v5).toNat)
  case atStart => exact ⟨0, Nat.zero_le _, rfl, Lib.hid (by simp), HB0.out, H1.out⟩
  case round =>
    obtain ⟨i, hi, rfl, HA, hbel, hg⟩ := hrel
    have HBE := Lib.hid hbel
    have HG := Lib.hid hg
    clear hbel hg
    by_cases hlt : i < l.length
    · obtain ⟨b, off, cap', hve, hcs⟩ := pfs_cells (HV.out.kept HBE.out) (by omega)
      cases hve
      have hcm := hcs i hlt
      obtain ⟨q, hq⟩ : ∃ q, q = l[i] := ⟨_, rfl⟩
      rw [← hq] at hcm
      obtain ⟨c, hc⟩ : ∃ c, c = (q == p) := ⟨_, rfl⟩
      have HC := Lib.hid hc
      have HQ := Lib.hid hq
      have HLT := Lib.hid hlt
      have hep := fun w => (show (binOp .eql 36 (encP q) (encP p)).run Try.prog w = .ok (.bool c) w by rw [hc]; exact run_eqlPR q p w)
      have m0 : (0 : Int) ≤ (i : Int) := by omega
      have m1 : (i : Int) < (l.length : Int) := by omega
      clear hq hcs hc
      have c0 := hcm.c0
      have c1 := hcm.c1
      have c2 := hcm.c2
      have c3 := hcm.c3
      have p0 : wr.cell? ⟨w.heap.size, 0, none⟩ = some (.int .u8 (p.1.1.toNat : Int)) := (by rw [blk_cell HG.out]; rfl)
      have p1 : wr.cell? ⟨w.heap.size, 1, none⟩ = some (.int .u64 (p.1.2.1.toNat : Int)) := (by rw [blk_cell HG.out]; rfl)
      have p2 : wr.cell? ⟨w.heap.size, 2, none⟩ = some (.int .u64 (p.1.2.2.toNat : Int)) := (by rw [blk_cell HG.out]; rfl)
      have p3 : wr.cell? ⟨w.heap.size, 3, none⟩ = some (.int .i64 p.2) := (by rw [blk_cell HG.out]; rfl)
      clear hcm
      cases c
      · have HA2 : Hid (∀ q ∈ l.take (i + 1), (q == p) = false) := Lib.hid (by
          rw [List.take_succ_eq_append_getElem HLT.out, ← HQ.out]
          intro x hx
          rcases List.mem_append.1 hx with hx | hx
          · exact HA.out x hx
          · simp at hx; subst hx; exact HC.out.symm)
        go_wp2_with fail
        go_quiet (fail)
        clear hep c0 c1 c2 c3 p0 p1 p2 p3
        go_wp2_with fail
        go_roundw
        case rel => exact ⟨i + 1, hlt, by go_num, HA2, HBE.out.trans ⟨rfl, rfl, rfl, Nat.le_refl _, fun _ _ => rfl⟩, HG.out⟩
        case measure => simp [intOf]; omega
      · have hqp : q = p := by have := HC.out; simpa using this.symm
        have HX := Lib.hid (show hasV l p = (i : Int) by
          have hm : p ∈ l := by rw [← hqp, HQ.out]; exact List.getElem_mem HLT.out
          obtain ⟨h1, h2⟩ := (HR.out.there p).1 hm
          have : pos l p = i := HR.out.inj h1 HLT.out (by rw [h2, ← hqp, HQ.out])
          unfold hasV; rw [if_pos hm, this])
        clear hqp
        go_wp2_with fail
        go_quiet (fail)
        clear hep c0 c1 c2 c3 p0 p1 p2 p3
        go_wp2_with fail
        go_ret
        exact ⟨ret_int HX.out.symm, HBE.out.trans ⟨rfl, rfl, rfl, Nat.le_refl _, fun _ _ => rfl⟩⟩
    · obtain rfl : i = l.length := by omega
      have HX := Lib.hid (show hasV l p = -1 by
        have h := HA.out
        rw [List.take_length] at h
        unfold hasV; rw [if_neg (has_no h)])
      go_wp2_with fail
      go_ret
      exact ⟨ret_int HX.out.symm, HBE.out⟩
/-- The first so many are right, and each ahead of all behind it. -/
def upTo (l : List Pf) (i : Nat) : Prop := ∀ j (h : j < l.length), j < i → rightP l[j] = true ∧ ∀ k (hk : k < j), before (l[k]'(by omega)) l[j] = true
theorem upTo_all {{l : List Pf}} (h : upTo l l.length) : rightL l = true :=
  rightL_iff.2 ⟨List.pairwise_iff_getElem.2 fun i j hi hj hlt => (h j hj hj).2 i hlt, fun p hp => by
    obtain ⟨i, hi, rfl⟩ := List.getElem_of_mem hp
    exact (h i hi hi).1⟩
theorem not_right {{l : List Pf}} {{i : Nat}} (hi : i < l.length) (h : rightP l[i] = false) : rightL l = false := by
  rw [Bool.eq_false_iff]; intro hr
  have := (rightL_iff.1 hr).rt _ (List.getElem_mem hi)
  rw [h] at this; cases this
theorem not_rises {{l : List Pf}} {{i k : Nat}} (hi : i < l.length) (hk : k < i) (h : before (l[k]'(by omega)) l[i] = false) : rightL l = false := by
  rw [Bool.eq_false_iff]; intro hr
  have := List.pairwise_iff_getElem.1 (rightL_iff.1 hr).ord k i (by omega) hi hk
  rw [h] at this; cases this
theorem upTo_next {{l : List Pf}} {{i : Nat}} (h : upTo l i) (hi : i < l.length) (hr : rightP l[i] = true) (hb : ∀ k (hk : k < i), before (l[k]'(by omega)) l[i] = true) : upTo l (i + 1) := by
  intro j hj hlt
  rcases Nat.lt_or_ge j i with h1 | h1
  · exact h j hj h1
  · have : j = i := by omega
    subst this
    exact ⟨hr, hb⟩

set_option maxRecDepth 100000 in
set_option maxHeartbeats 4000000 in
theorem right22 (v : Value) (l : List Pf) (w : World) (h : PfsAt w v l) (hn : l.length ≤ 1000000) :
    Calls Try.prog 33 #[v] w fun e w' => e = .returned (.bool (rightL l)) ∧ Below w.heap.size w w' := by
  obtain ⟨ao, cap, hv⟩ := elems_slice h
  have HV := Lib.hid h
  subst hv
  clear h
  go_enter Try.func33, Try.ntmps33
  go_wp2_with fail
  go_loopw [3] (fun v3 wr => ∃ i : Nat, i ≤ l.length ∧ v3 = .int .i64 i ∧ Hid (upTo l i) ∧ Below w.heap.size w wr) (fun v3 _ => l.length - (intOf v3).toNat)
  case atStart => exact ⟨0, Nat.zero_le _, rfl, Lib.hid (fun j _ h => absurd h (by omega)), Below.refl _ _⟩
  case round =>
    obtain ⟨wo, rfl⟩ : ∃ wo : World, wo = wr := ⟨_, rfl⟩
    obtain ⟨i, hi, rfl, HA, hbel⟩ := hrel
    have HBE := Lib.hid hbel
    clear hbel
    by_cases hlt : i < l.length
    · obtain ⟨b, off, cap', hve, hcs⟩ := pfs_cells HV.out (by omega)
      cases hve
      have HCS := Lib.hid hcs
      have hcm := (hcs i hlt).kept HBE.out
      obtain ⟨q, hq⟩ : ∃ q, q = l[i] := ⟨_, rfl⟩
      rw [← hq] at hcm
      have HQ := Lib.hid hq
      have HLT := Lib.hid hlt
      obtain ⟨r, hr⟩ : ∃ c, c = rightP q := ⟨_, rfl⟩
      have HRR := Lib.hid hr
      have HRP := Lib.hid (fun w => rrightP q w)
      rw [← hr] at HRP
      have m1 : (i : Int) < (l.length : Int) := by omega
      clear hq hcs hr
      have c0 := hcm.c0
      have c1 := hcm.c1
      have c2 := hcm.c2
      have c3 := hcm.c3
      clear hcm
      go_wp2_with fail
      refine (HRP.out _).mono ?_
      rintro e w2 ⟨rfl, hb⟩
      have HB2 := Lib.hid (below_step HBE.out hb HBE.out.size)
      clear hb c0 c1 c2 c3
      cases r
      · have HX := Lib.hid (not_right HLT.out (by rw [← HQ.out]; exact HRR.out.symm))
        go_wp2_with fail
        go_ret
        exact ⟨ret_bool HX.out.symm, HB2.out⟩
      · go_wp2_with fail
        go_loopw [4] (fun v4 wr => ∃ k : Nat, k ≤ i ∧ v4 = .int .i64 k ∧ Hid (∀ j (h : j < i) (hl : i < l.length), j < k → before (l[j]'(by omega)) l[i] = true) ∧ Below w.heap.size w wr) (fun v4 _ => i - (intOf v4).toNat)
        case atStart => exact ⟨0, Nat.zero_le _, rfl, Lib.hid (fun j _ _ h => absurd h (by omega)), HB2.out⟩
        case round =>
          obtain ⟨k, hk, rfl, HK, hbel⟩ := hrel
          have HBK := Lib.hid hbel
          clear hbel
          by_cases hlk : k < i
          · have hck := (HCS.out k (by omega)).kept HBK.out
            have hcq := (HCS.out i (by omega)).kept HBK.out
            obtain ⟨s, hs⟩ : ∃ q, q = l[k]'(by omega) := ⟨_, rfl⟩
            rw [← hs] at hck
            rw [← HQ.out] at hcq
            have HS := Lib.hid hs
            obtain ⟨r, hr⟩ : ∃ c, c = before s q := ⟨_, rfl⟩
            have HRR2 := Lib.hid hr
            have HBF := Lib.hid (fun w => rbefore s q w)
            rw [← hr] at HBF
            have n0 : (0 : Int) ≤ (k : Int) := by omega
            have n1 : (k : Int) < (l.length : Int) := by omega
            have n2 : (0 : Int) ≤ (i : Int) := by omega
            clear hs hr
            have s0 : ∀ zz : Later wr.heap.size wr, zz.val.cell? ⟨b, off + k * 4, none⟩ = some (.int .u8 (s.1.1.toNat : Int)) := fun zz => Later.cell hck.c0 (World.block_lt_of_cell? _ _ hck.c0) zz
            have s1 : ∀ zz : Later wr.heap.size wr, zz.val.cell? ⟨b, off + k * 4 + 1, none⟩ = some (.int .u64 (s.1.2.1.toNat : Int)) := fun zz => Later.cell hck.c1 (World.block_lt_of_cell? _ _ hck.c1) zz
            have s2 : ∀ zz : Later wr.heap.size wr, zz.val.cell? ⟨b, off + k * 4 + 2, none⟩ = some (.int .u64 (s.1.2.2.toNat : Int)) := fun zz => Later.cell hck.c2 (World.block_lt_of_cell? _ _ hck.c2) zz
            have s3 : ∀ zz : Later wr.heap.size wr, zz.val.cell? ⟨b, off + k * 4 + 3, none⟩ = some (.int .i64 s.2) := fun zz => Later.cell hck.c3 (World.block_lt_of_cell? _ _ hck.c3) zz
            have q0 : ∀ zz : Later wr.heap.size wr, zz.val.cell? ⟨b, off + i * 4, none⟩ = some (.int .u8 (q.1.1.toNat : Int)) := fun zz => Later.cell hcq.c0 (World.block_lt_of_cell? _ _ hcq.c0) zz
            have q1 : ∀ zz : Later wr.heap.size wr, zz.val.cell? ⟨b, off + i * 4 + 1, none⟩ = some (.int .u64 (q.1.2.1.toNat : Int)) := fun zz => Later.cell hcq.c1 (World.block_lt_of_cell? _ _ hcq.c1) zz
            have q2 : ∀ zz : Later wr.heap.size wr, zz.val.cell? ⟨b, off + i * 4 + 2, none⟩ = some (.int .u64 (q.1.2.2.toNat : Int)) := fun zz => Later.cell hcq.c2 (World.block_lt_of_cell? _ _ hcq.c2) zz
            have q3 : ∀ zz : Later wr.heap.size wr, zz.val.cell? ⟨b, off + i * 4 + 3, none⟩ = some (.int .i64 q.2) := fun zz => Later.cell hcq.c3 (World.block_lt_of_cell? _ _ hcq.c3) zz
            clear hck hcq
            cases r
            · have HX := Lib.hid (not_rises HLT.out hlk (by rw [← HS.out, ← HQ.out]; exact HRR2.out.symm))
              go_wp2_with fail
              refine wp_region_later wr.heap.size (by kernel_rfl) (by kernel_rfl) ?_
              repeat (go_big_quiet_step ((go_at_call 51; with_reducible exact Later.calls (Nat.le_refl _) (HBF.out _))))
              refine wpQuiet_nil ?_
              rintro w9 ⟨yy, rfl⟩
              have HB9 := Lib.hid (below_step HBK.out yy.prop HBK.out.size)
              clear q0 q1 q2 q3 s0 s1 s2 s3
              go_wp2_with fail
              go_ret
              exact ⟨ret_bool HX.out.symm, HB9.out⟩
            · have HK2 : Hid (∀ j (h : j < i) (hl : i < l.length), j < k + 1 → before (l[j]'(by omega)) l[i] = true) := Lib.hid (fun j h hl hj => by
                rcases Nat.lt_or_ge j k with h1 | h1
                · exact HK.out j h hl h1
                · have : j = k := by omega
                  subst this
                  rw [← HS.out, ← HQ.out]; exact HRR2.out.symm)
              go_wp2_with fail
              refine wp_region_later wr.heap.size (by kernel_rfl) (by kernel_rfl) ?_
              repeat (go_big_quiet_step ((go_at_call 51; with_reducible exact Later.calls (Nat.le_refl _) (HBF.out _))))
              refine wpQuiet_nil ?_
              rintro w9 ⟨yy, rfl⟩
              have HB9 := Lib.hid (below_step HBK.out yy.prop HBK.out.size)
              clear q0 q1 q2 q3 s0 s1 s2 s3
              go_wp2_with fail
              go_roundw
              case rel => exact ⟨k + 1, hlk, by go_num, HK2, HB9.out⟩
              case measure => simp [intOf]; omega
          · obtain rfl : k = i := by omega
            have HA2 := Lib.hid (upTo_next HA.out HLT.out (by rw [← HQ.out]; exact HRR.out.symm) (fun j hj => HK.out j hj HLT.out hj))
            go_wp2_with fail
            go_roundw
            case rel => exact ⟨k + 1, hlt, by go_num, HA2, HBK.out⟩
            case measure => simp [intOf]; omega
    · obtain rfl : i = l.length := by omega
      have HX := Lib.hid (upTo_all HA.out)
      go_wp2_with fail
      go_ret
      exact ⟨ret_bool HX.out.symm, HBE.out⟩
end Go.Proofs.Try.Pfx
