/- A program's addresses and prefixes as the document's; lists of them held against each other. -/
import Derived.Test.YtbhnpndkdhhpfaaRb8
import Derived.Test.YtbhnpndkdhhpfaaPsP
import Derived.Deep.RegionHeld3
set_option linter.unusedVariables false
set_option linter.unusedSimpArgs false
namespace Go.Proofs.Try.Pfx
open Go.RowKit Go.Cph Go.Cph.Px

abbrev TR : TypeId := 36
theorem infoR : (Try.prog.info? 36).map (fun i => (i.zero, i.size, i.bytes)) = some (some (.agg #[.int .u8 0, .int .u64 0, .int .u64 0, .int .i64 0]), 4, 32) := by kernel_rfl

set_option maxRecDepth 100000 in
set_option maxHeartbeats 4000000 in
theorem given19 (a : Ad) (w : World) : Calls Try.prog 14 #[encA a] w fun e w' => e = .returned (encA a) ∧ Below w.heap.size w w' := by
  have hb0 : Below w.heap.size w ((w.alloc (.cells #[.int .u8 (a.1.toNat : Int), .int .u64 (a.2.1.toNat : Int), .int .u64 (a.2.2.toNat : Int)] 25)).alloc (.cells #[.int .u8 0, .int .u64 0, .int .u64 0] 34)) := (((Below.refl _ _).alloc (Nat.le_refl _) _).alloc (by simp) _)
  have h1 : ((w.alloc (.cells #[.int .u8 (a.1.toNat : Int), .int .u64 (a.2.1.toNat : Int), .int .u64 (a.2.2.toNat : Int)] 25)).alloc (.cells #[.int .u8 0, .int .u64 0, .int .u64 0] 34)).heap[w.heap.size]? = some (.cells #[.int .u8 (a.1.toNat : Int), .int .u64 (a.2.1.toNat : Int), .int .u64 (a.2.2.toNat : Int)] 25 (0, 0)) := (blk_alloc (heap_alloc_new w (.cells #[.int .u8 (a.1.toNat : Int), .int .u64 (a.2.1.toNat : Int), .int .u64 (a.2.2.toNat : Int)] 25)) _)
  have h2 : ((w.alloc (.cells #[.int .u8 (a.1.toNat : Int), .int .u64 (a.2.1.toNat : Int), .int .u64 (a.2.2.toNat : Int)] 25)).alloc (.cells #[.int .u8 0, .int .u64 0, .int .u64 0] 34)).heap[w.heap.size + 1]? = some (.cells #[.int .u8 0, .int .u64 0, .int .u64 0] 34 (0, 0)) := by have h := (heap_alloc_new (w.alloc (.cells #[.int .u8 (a.1.toNat : Int), .int .u64 (a.2.1.toNat : Int), .int .u64 (a.2.2.toNat : Int)] 25)) (.cells #[.int .u8 0, .int .u64 0, .int .u64 0] 34)); simpa [World.size_alloc] using h
  have H1 := Lib.hid h1
  have H2 := Lib.hid h2
  have HB0 := Lib.hid hb0
  clear hb0 h1 h2
  have a0 : ((w.alloc (.cells #[.int .u8 (a.1.toNat : Int), .int .u64 (a.2.1.toNat : Int), .int .u64 (a.2.2.toNat : Int)] 25)).alloc (.cells #[.int .u8 0, .int .u64 0, .int .u64 0] 34)).cell? ⟨w.heap.size, 0, none⟩ = some (.int .u8 (a.1.toNat : Int)) := (by rw [blk_cell H1.out]; rfl)
  have a1 : ((w.alloc (.cells #[.int .u8 (a.1.toNat : Int), .int .u64 (a.2.1.toNat : Int), .int .u64 (a.2.2.toNat : Int)] 25)).alloc (.cells #[.int .u8 0, .int .u64 0, .int .u64 0] 34)).cell? ⟨w.heap.size, 1, none⟩ = some (.int .u64 (a.2.1.toNat : Int)) := (by rw [blk_cell H1.out]; rfl)
  have a2 : ((w.alloc (.cells #[.int .u8 (a.1.toNat : Int), .int .u64 (a.2.1.toNat : Int), .int .u64 (a.2.2.toNat : Int)] 25)).alloc (.cells #[.int .u8 0, .int .u64 0, .int .u64 0] 34)).cell? ⟨w.heap.size, 2, none⟩ = some (.int .u64 (a.2.2.toNat : Int)) := (by rw [blk_cell H1.out]; rfl)
  have s0 : ((w.alloc (.cells #[.int .u8 (a.1.toNat : Int), .int .u64 (a.2.1.toNat : Int), .int .u64 (a.2.2.toNat : Int)] 25)).alloc (.cells #[.int .u8 0, .int .u64 0, .int .u64 0] 34)).cell? ⟨w.heap.size + 1, 0, none⟩ = some (.int .u8 0) := (by rw [blk_cell H2.out]; rfl)
  have s1 : ((w.alloc (.cells #[.int .u8 (a.1.toNat : Int), .int .u64 (a.2.1.toNat : Int), .int .u64 (a.2.2.toNat : Int)] 25)).alloc (.cells #[.int .u8 0, .int .u64 0, .int .u64 0] 34)).cell? ⟨w.heap.size + 1, 1, none⟩ = some (.int .u64 0) := (by rw [blk_cell H2.out]; rfl)
  have s2 : ((w.alloc (.cells #[.int .u8 (a.1.toNat : Int), .int .u64 (a.2.1.toNat : Int), .int .u64 (a.2.2.toNat : Int)] 25)).alloc (.cells #[.int .u8 0, .int .u64 0, .int .u64 0] 34)).cell? ⟨w.heap.size + 1, 2, none⟩ = some (.int .u64 0) := (by rw [blk_cell H2.out]; rfl)
  have f0 : ((w.alloc (.cells #[.int .u8 (a.1.toNat : Int), .int .u64 (a.2.1.toNat : Int), .int .u64 (a.2.2.toNat : Int)] 25)).alloc (.cells #[.int .u8 0, .int .u64 0, .int .u64 0] 34)).frozen? ⟨w.heap.size + 1, 0, none⟩ = false := (by rw [blk_frozen H2.out]; rfl)
  have f1 : ((w.alloc (.cells #[.int .u8 (a.1.toNat : Int), .int .u64 (a.2.1.toNat : Int), .int .u64 (a.2.2.toNat : Int)] 25)).alloc (.cells #[.int .u8 0, .int .u64 0, .int .u64 0] 34)).frozen? ⟨w.heap.size + 1, 1, none⟩ = false := (by rw [blk_frozen H2.out]; rfl)
  have f2 : ((w.alloc (.cells #[.int .u8 (a.1.toNat : Int), .int .u64 (a.2.1.toNat : Int), .int .u64 (a.2.2.toNat : Int)] 25)).alloc (.cells #[.int .u8 0, .int .u64 0, .int .u64 0] 34)).frozen? ⟨w.heap.size + 1, 2, none⟩ = false := (by rw [blk_frozen H2.out]; rfl)
  go_enter Try.func14, Try.ntmps14
  go_wp2_with fail
  refine bodyPost_ret (v := encA a) (by simp [results, Try.results14, go_sem]) rfl ⟨rfl, ?_⟩
  exact ((Below.refl _ _).alloc (Nat.le_refl _) _).alloc (by simp) _

set_option maxRecDepth 100000 in
set_option maxHeartbeats 4000000 in
theorem given20 (p : Pf) (w : World) : Calls Try.prog 17 #[encP p] w fun e w' => e = .returned (encP p) ∧ Below w.heap.size w w' := by
  have HG := Lib.hid (fun w => given19 p.1 w)
  have hb0 : Below w.heap.size w ((w.alloc (.cells #[.int .u8 (p.1.1.toNat : Int), .int .u64 (p.1.2.1.toNat : Int), .int .u64 (p.1.2.2.toNat : Int), .int .i64 p.2] 27)).alloc (.cells #[.int .u8 0, .int .u64 0, .int .u64 0, .int .i64 0] 36)) := (((Below.refl _ _).alloc (Nat.le_refl _) _).alloc (by simp) _)
  have h1 : ((w.alloc (.cells #[.int .u8 (p.1.1.toNat : Int), .int .u64 (p.1.2.1.toNat : Int), .int .u64 (p.1.2.2.toNat : Int), .int .i64 p.2] 27)).alloc (.cells #[.int .u8 0, .int .u64 0, .int .u64 0, .int .i64 0] 36)).heap[w.heap.size]? = some (.cells #[.int .u8 (p.1.1.toNat : Int), .int .u64 (p.1.2.1.toNat : Int), .int .u64 (p.1.2.2.toNat : Int), .int .i64 p.2] 27 (0, 0)) := (blk_alloc (heap_alloc_new w (.cells #[.int .u8 (p.1.1.toNat : Int), .int .u64 (p.1.2.1.toNat : Int), .int .u64 (p.1.2.2.toNat : Int), .int .i64 p.2] 27)) _)
  have h2 : ((w.alloc (.cells #[.int .u8 (p.1.1.toNat : Int), .int .u64 (p.1.2.1.toNat : Int), .int .u64 (p.1.2.2.toNat : Int), .int .i64 p.2] 27)).alloc (.cells #[.int .u8 0, .int .u64 0, .int .u64 0, .int .i64 0] 36)).heap[w.heap.size + 1]? = some (.cells #[.int .u8 0, .int .u64 0, .int .u64 0, .int .i64 0] 36 (0, 0)) := by have h := (heap_alloc_new (w.alloc (.cells #[.int .u8 (p.1.1.toNat : Int), .int .u64 (p.1.2.1.toNat : Int), .int .u64 (p.1.2.2.toNat : Int), .int .i64 p.2] 27)) (.cells #[.int .u8 0, .int .u64 0, .int .u64 0, .int .i64 0] 36)); simpa [World.size_alloc] using h
  have H1 := Lib.hid h1
  have H2 := Lib.hid h2
  have HB0 := Lib.hid hb0
  clear hb0 h1 h2
  go_enter Try.func17, Try.ntmps17
  go_wp2_with fail
  generalize ((w.alloc (.cells #[.int .u8 (p.1.1.toNat : Int), .int .u64 (p.1.2.1.toNat : Int), .int .u64 (p.1.2.2.toNat : Int), .int .i64 p.2] 27)).alloc (.cells #[.int .u8 0, .int .u64 0, .int .u64 0, .int .i64 0] 36)) = w0 at *
  have HD1 := Lib.hid (show w0.drew.heap[w.heap.size]? = some (.cells #[.int .u8 (p.1.1.toNat : Int), .int .u64 (p.1.2.1.toNat : Int), .int .u64 (p.1.2.2.toNat : Int), .int .i64 p.2] 27 (0, 0)) from H1.out)
  have HD2 := Lib.hid (show w0.drew.heap[w.heap.size + 1]? = some (.cells #[.int .u8 0, .int .u64 0, .int .u64 0, .int .i64 0] 36 (0, 0)) from H2.out)
  have HBD := Lib.hid (HB0.out.drew)
  have a0 : w0.drew.cell? ⟨w.heap.size, 0, none⟩ = some (.int .u8 (p.1.1.toNat : Int)) := (by rw [blk_cell HD1.out]; rfl)
  have a1 : w0.drew.cell? ⟨w.heap.size, 1, none⟩ = some (.int .u64 (p.1.2.1.toNat : Int)) := (by rw [blk_cell HD1.out]; rfl)
  have a2 : w0.drew.cell? ⟨w.heap.size, 2, none⟩ = some (.int .u64 (p.1.2.2.toNat : Int)) := (by rw [blk_cell HD1.out]; rfl)
  have a3 : w0.drew.cell? ⟨w.heap.size, 3, none⟩ = some (.int .i64 p.2) := (by rw [blk_cell HD1.out]; rfl)
  go_region_held3 (fun W => W.cell? ⟨w.heap.size, 0, none⟩ = some (.int .u8 (p.1.1.toNat : Int)) ∧ W.cell? ⟨w.heap.size, 1, none⟩ = some (.int .u64 (p.1.2.1.toNat : Int)) ∧ W.cell? ⟨w.heap.size, 2, none⟩ = some (.int .u64 (p.1.2.2.toNat : Int)) ∧ W.cell? ⟨w.heap.size, 3, none⟩ = some (.int .i64 p.2))
    (go_keep)
    ((go_at_call 14; (with_reducible refine (HG.out _).mono ?_); rintro e w3 ⟨rfl, hb⟩; have HB3 := Lib.hid (below_step HBD.out hb HBD.out.size); have HG1 := Lib.hid (blk_kept hb HD1.out); have HG2 := Lib.hid (blk_kept hb HD2.out); have b0 : w3.cell? ⟨w.heap.size, 0, none⟩ = some (.int .u8 (p.1.1.toNat : Int)) := (by rw [blk_cell HG1.out]; rfl); have b1 : w3.cell? ⟨w.heap.size, 1, none⟩ = some (.int .u64 (p.1.2.1.toNat : Int)) := (by rw [blk_cell HG1.out]; rfl); have b2 : w3.cell? ⟨w.heap.size, 2, none⟩ = some (.int .u64 (p.1.2.2.toNat : Int)) := (by rw [blk_cell HG1.out]; rfl); have b3 : w3.cell? ⟨w.heap.size, 3, none⟩ = some (.int .i64 p.2) := (by rw [blk_cell HG1.out]; rfl); have s0 : w3.cell? ⟨w.heap.size + 1, 0, none⟩ = some (.int .u8 0) := (by rw [blk_cell HG2.out]; rfl); have s1 : w3.cell? ⟨w.heap.size + 1, 1, none⟩ = some (.int .u64 0) := (by rw [blk_cell HG2.out]; rfl); have s2 : w3.cell? ⟨w.heap.size + 1, 2, none⟩ = some (.int .u64 0) := (by rw [blk_cell HG2.out]; rfl); have s3 : w3.cell? ⟨w.heap.size + 1, 3, none⟩ = some (.int .i64 0) := (by rw [blk_cell HG2.out]; rfl); have f0 : w3.frozen? ⟨w.heap.size + 1, 0, none⟩ = false := (by rw [blk_frozen HG2.out]; rfl); have f1 : w3.frozen? ⟨w.heap.size + 1, 1, none⟩ = false := (by rw [blk_frozen HG2.out]; rfl); have f2 : w3.frozen? ⟨w.heap.size + 1, 2, none⟩ = false := (by rw [blk_frozen HG2.out]; rfl); have f3 : w3.frozen? ⟨w.heap.size + 1, 3, none⟩ = false := (by rw [blk_frozen HG2.out]; rfl); clear hb))
  go_wp2_with fail
  refine bodyPost_ret (v := encP p) (by simp [results, Try.results17, go_sem, s0, s1, s2, s3]) rfl ⟨rfl, ?_⟩
  exact (((HB3.out.setCell (p := ⟨w.heap.size + 1, 0, none⟩) (by simp) _).setCell (p := ⟨w.heap.size + 1, 1, none⟩) (by simp) _).setCell (p := ⟨w.heap.size + 1, 2, none⟩) (by simp) _).setCell (p := ⟨w.heap.size + 1, 3, none⟩) (by simp) _

def RefPost (out : List Pf) (w : World) (e : Ending) (w' : World) : Prop :=
  ∃ v', e = .returned v' ∧ w'.ownsRow w.heap.size TR 4 v' out.length (out.flatMap encC) ∧ Below w.heap.size w w'

set_option maxRecDepth 100000 in
set_option maxHeartbeats 4000000 in
theorem given22 (v : Value) (l : List Pf) (w : World) (h : PfsAt w v l) (hn : l.length ≤ 1000000) : Calls Try.prog 11 #[v] w (RefPost l w) := by
  obtain ⟨ao, cap, hv⟩ := elems_slice h
  have HV := Lib.hid h
  subst hv
  clear h
  go_enter Try.func11, Try.ntmps11
  go_wp2_with fail
  go_loopw [3, 4] (fun v3 v4 wr => ∃ k : Nat, k ≤ l.length ∧ v4 = .int .i64 k ∧ wr.ownsRow w.heap.size TR 4 v3 k ((l.take k).flatMap encC) ∧ Below w.heap.size w wr) (fun _ v4 _ => l.length - (intOf v4).toNat)
  case atStart => exact ⟨0, Nat.zero_le _, rfl, World.ownsRow_nil _ _ _ _, Below.refl _ _⟩
  case round =>
    obtain ⟨k, hk, rfl, ho, hbel⟩ := hrel
    have HO := Lib.hid ho
    have HBE := Lib.hid hbel
    obtain ⟨oo, oc, hov⟩ := owns_slice1 ho
    subst hov
    clear ho hbel
    by_cases hlt : k < l.length
    · obtain ⟨b, off, cap', hve, hcs⟩ := pfs_cells HV.out (by omega)
      cases hve
      have hcm := (hcs k hlt).kept HBE.out
      obtain ⟨q, hq⟩ : ∃ q, q = l[k] := ⟨_, rfl⟩
      rw [← hq] at hcm
      have HSN := Lib.hid (show l.take (k + 1) = l.take k ++ [q] by rw [List.take_succ_eq_append_getElem hlt, hq])
      have HGV := Lib.hid (fun w => given20 q w)
      have HL := Lib.hid (show k + 1 ≤ 1099511627776 by omega)
      have m1 : (k : Int) < (l.length : Int) := by omega
      clear hq hcs
      have c0 := hcm.c0
      have c1 := hcm.c1
      have c2 := hcm.c2
      have c3 := hcm.c3
      clear hcm
      go_wp2_with fail
      refine (HGV.out _).mono ?_
      rintro e w2 ⟨rfl, hb⟩
      have HB2 := Lib.hid (below_step HBE.out hb HBE.out.size)
      have HO2 := Lib.hid (row_kept1 HO.out fun k hk => hb.block k (HO.out.lt k hk).2)
      have HS2 := Lib.hid HB2.out.size
      clear hb c0 c1 c2 c3
      go_wp2_with (at_builtin; refine wpList_append1 rfl (.tmp 11) (.tmp 17) 30 rfl w.heap.size 36 _ 4 32 Try.underlying30 infoR rfl (by decide) _ k ((l.take k).flatMap encC) (encC q) rfl HO2.out _ 1 rfl rfl rfl (encC_one1 q) HL.out (by decide) HS2.out w.heap.size w HB2.out (Nat.le_refl _) ?_; intro v' w' ho hgr hb' hsz'; have HO4 := Lib.hid ho; have HB4 := Lib.hid hb'; clear ho hgr hb' hsz')
      go_roundw
      case rel =>
        refine ⟨k + 1, hlt, by go_num, ?_, HB4.out⟩
        rw [HSN.out]
        have := HO4.out
        simpa [List.flatMap_append] using this
      case measure => simp [intOf]; omega
    · obtain rfl : k = l.length := by omega
      go_wp2_with fail
      go_ret
      exact ⟨_, rfl, by have := HO.out; rwa [List.take_length] at this, HBE.out⟩

theorem run_neqR (p q : Pf) (w : World) : (binOp .neq 36 (encP p) (encP q)).run Try.prog w = .ok (.bool (!(p == q))) w := by
  have hb : (p == q) = ((p.1.1.toNat : Int) == q.1.1.toNat && ((p.1.2.1.toNat : Int) == q.1.2.1.toNat && ((p.1.2.2.toNat : Int) == q.1.2.2.toNat && (p.2 == q.2)))) := by
    rw [Bool.eq_iff_iff, pf_eq]
    simp only [Bool.and_eq_true, beq_iff_eq]
  rw [hb]
  cases b0 : ((p.1.1.toNat : Int) == q.1.1.toNat) <;> cases b1 : ((p.1.2.1.toNat : Int) == q.1.2.1.toNat) <;> cases b2 : ((p.1.2.2.toNat : Int) == q.1.2.2.toNat) <;> cases b3 : (p.2 == q.2) <;> go_simp
theorem run_eqlPR (p q : Pf) (w : World) : (binOp .eql 36 (encP p) (encP q)).run Try.prog w = .ok (.bool (p == q)) w := by
  have hb : (p == q) = ((p.1.1.toNat : Int) == q.1.1.toNat && ((p.1.2.1.toNat : Int) == q.1.2.1.toNat && ((p.1.2.2.toNat : Int) == q.1.2.2.toNat && (p.2 == q.2)))) := by
    rw [Bool.eq_iff_iff, pf_eq]
    simp only [Bool.and_eq_true, beq_iff_eq]
  rw [hb]
  cases b0 : ((p.1.1.toNat : Int) == q.1.1.toNat) <;> cases b1 : ((p.1.2.1.toNat : Int) == q.1.2.1.toNat) <;> cases b2 : ((p.1.2.2.toNat : Int) == q.1.2.2.toNat) <;> cases b3 : (p.2 == q.2) <;> go_simp
theorem same_end {l m : List Pf} (hl : l.length = m.length) (h : l.take l.length = m.take l.length) : l = m := by
  rw [List.take_length] at h
  rw [h, hl, List.take_length]
theorem same_snoc {l m : List Pf} {i : Nat} (hi : i < l.length) (hj : i < m.length) (h : l.take i = m.take i) : l.take (i + 1) = m.take (i + 1) ↔ (l[i] == m[i]) = true := by
  rw [beq_iff_eq, List.take_succ_eq_append_getElem hi, List.take_succ_eq_append_getElem hj, h]
  exact ⟨fun h => (List.cons.inj (List.append_cancel_left h)).1, fun h => by rw [h]⟩

set_option maxRecDepth 100000 in
set_option maxHeartbeats 4000000 in
theorem same22 (v u : Value) (l m : List Pf) (w : World) (h : PfsAt w v l) (k : PfsAt w u m) (hn : l.length ≤ 1000000) (hm : m.length ≤ 1000000) :
    Calls Try.prog 18 #[v, u] w fun e w' => e = .returned (.bool (decide (l = m))) ∧ Below w.heap.size w w' := by
  obtain ⟨ao, cap, hv⟩ := elems_slice h
  obtain ⟨bo, cbp, hu⟩ := elems_slice k
  have HV := Lib.hid h
  have HU := Lib.hid k
  subst hv
  subst hu
  clear h k
  by_cases hlen : l.length = m.length
  · have HL := Lib.hid hlen
    rw [← hlen] at HU ⊢
    clear hlen
    go_enter Try.func18, Try.ntmps18
    go_wp2_with fail
    go_loopw [5] (fun vi wr => ∃ i : Nat, i ≤ l.length ∧ vi = .int .i64 i ∧ Hid (l.take i = m.take i) ∧ Below w.heap.size w wr) (fun vi _ => l.length - (intOf vi).toNat)
    case atStart => exact ⟨0, Nat.zero_le _, rfl, Lib.hid (by simp), Below.refl _ _⟩
    case round =>
      obtain ⟨i, hi, rfl, HT, hbel⟩ := hrel
      have HBE := Lib.hid hbel
      clear hbel
      by_cases hlt : i < l.length
      · obtain ⟨b, off, cap', hve, hcs⟩ := pfs_cells (HV.out.kept HBE.out) (by omega)
        cases hve
        have hlm : i < m.length := by rw [← HL.out]; exact hlt
        have HUw : PfsAt wr (.slice bo m.length cbp) m := by have := HU.out.kept HBE.out; rwa [HL.out] at this
        obtain ⟨b2, off2, cap2, hve2, hds⟩ := pfs_cells HUw (by omega)
        cases hve2
        have hq := hcs i hlt
        have hs := hds i hlm
        have HQ := Lib.hid (same_snoc hlt hlm HT.out)
        obtain ⟨x, hx⟩ : ∃ x, x = l[i] := ⟨_, rfl⟩
        obtain ⟨y, hy⟩ : ∃ y, y = m[i] := ⟨_, rfl⟩
        rw [← hx] at hq HQ
        rw [← hy] at hs HQ
        have HGV := Lib.hid (fun w => given20 x w)
        obtain ⟨c, hc⟩ : ∃ c, c = (x == y) := ⟨_, rfl⟩
        rw [← hc] at HQ
        have hnp := fun w => (show (binOp .neq 36 (encP x) (encP y)).run Try.prog w = .ok (.bool (!c)) w by rw [hc]; exact run_neqR x y w)
        have m0 : (0 : Int) ≤ (i : Int) := by omega
        have m1 : (i : Int) < (l.length : Int) := by omega
        clear hx hy hc hcs hds HUw
        have q0 : ∀ zz : Later wr.heap.size wr, zz.val.cell? ⟨b, off + i * 4, none⟩ = some (.int .u8 (x.1.1.toNat : Int)) := fun zz => Later.cell hq.c0 (World.block_lt_of_cell? _ _ hq.c0) zz
        have q1 : ∀ zz : Later wr.heap.size wr, zz.val.cell? ⟨b, off + i * 4 + 1, none⟩ = some (.int .u64 (x.1.2.1.toNat : Int)) := fun zz => Later.cell hq.c1 (World.block_lt_of_cell? _ _ hq.c1) zz
        have q2 : ∀ zz : Later wr.heap.size wr, zz.val.cell? ⟨b, off + i * 4 + 2, none⟩ = some (.int .u64 (x.1.2.2.toNat : Int)) := fun zz => Later.cell hq.c2 (World.block_lt_of_cell? _ _ hq.c2) zz
        have q3 : ∀ zz : Later wr.heap.size wr, zz.val.cell? ⟨b, off + i * 4 + 3, none⟩ = some (.int .i64 x.2) := fun zz => Later.cell hq.c3 (World.block_lt_of_cell? _ _ hq.c3) zz
        have s0 : ∀ zz : Later wr.heap.size wr, zz.val.cell? ⟨b2, off2 + i * 4, none⟩ = some (.int .u8 (y.1.1.toNat : Int)) := fun zz => Later.cell hs.c0 (World.block_lt_of_cell? _ _ hs.c0) zz
        have s1 : ∀ zz : Later wr.heap.size wr, zz.val.cell? ⟨b2, off2 + i * 4 + 1, none⟩ = some (.int .u64 (y.1.2.1.toNat : Int)) := fun zz => Later.cell hs.c1 (World.block_lt_of_cell? _ _ hs.c1) zz
        have s2 : ∀ zz : Later wr.heap.size wr, zz.val.cell? ⟨b2, off2 + i * 4 + 2, none⟩ = some (.int .u64 (y.1.2.2.toNat : Int)) := fun zz => Later.cell hs.c2 (World.block_lt_of_cell? _ _ hs.c2) zz
        have s3 : ∀ zz : Later wr.heap.size wr, zz.val.cell? ⟨b2, off2 + i * 4 + 3, none⟩ = some (.int .i64 y.2) := fun zz => Later.cell hs.c3 (World.block_lt_of_cell? _ _ hs.c3) zz
        clear hq hs
        cases c
        · go_wp2_with fail
          refine wp_region_later wr.heap.size (by kernel_rfl) (by kernel_rfl) ?_
          repeat (go_big_quiet_step ((go_at_call 17; with_reducible exact Later.calls (Nat.le_refl _) (HGV.out _))))
          refine wpQuiet_nil ?_
          rintro w9 ⟨yy, rfl⟩
          have HB9 := Lib.hid (below_step HBE.out yy.prop HBE.out.size)
          clear hnp q0 q1 q2 q3 s0 s1 s2 s3
          go_wp2_with fail
          go_ret
          refine ⟨ret_bool ?_, HB9.out⟩
          symm
          rw [decide_eq_false_iff_not]
          intro e
          have := HQ.out.1 (by rw [e])
          cases this
        · have HQ2 := Lib.hid (HQ.out.2 rfl)
          go_wp2_with fail
          refine wp_region_later wr.heap.size (by kernel_rfl) (by kernel_rfl) ?_
          repeat (go_big_quiet_step ((go_at_call 17; with_reducible exact Later.calls (Nat.le_refl _) (HGV.out _))))
          refine wpQuiet_nil ?_
          rintro w9 ⟨yy, rfl⟩
          have HB9 := Lib.hid (below_step HBE.out yy.prop HBE.out.size)
          clear hnp q0 q1 q2 q3 s0 s1 s2 s3
          go_wp2_with fail
          go_roundw
          case rel => exact ⟨i + 1, hlt, by go_num, HQ2, HB9.out⟩
          case measure => simp [intOf]; omega
      · obtain rfl : i = l.length := by omega
        have HE := Lib.hid (same_end HL.out HT.out)
        go_wp2_with fail
        go_ret
        exact ⟨ret_bool (by simp [HE.out]), HBE.out⟩
  · have hne : ((l.length : Int) != (m.length : Int)) = true := by simpa using (show ¬ (l.length : Int) = (m.length : Int) by omega)
    have HN := Lib.hid (show ¬ l = m by rintro rfl; exact hlen rfl)
    clear hlen
    go_enter Try.func18, Try.ntmps18
    go_wp2_with fail
    go_ret
    exact ⟨ret_bool (by simp [HN.out]), Below.refl _ _⟩
end Go.Proofs.Try.Pfx
