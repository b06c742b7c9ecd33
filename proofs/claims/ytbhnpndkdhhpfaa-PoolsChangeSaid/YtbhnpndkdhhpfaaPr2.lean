/- PoolsRow: the walk. -/
import Derived.Test.YtbhnpndkdhhpfaaPr1
import Derived.Laws.OwnMore
import Derived.RegionTactic
import Derived.ChangeAlike
set_option linter.unusedVariables false
set_option linter.unusedSimpArgs false
namespace Go.Proofs.Try.Pfx
open Go.RowKit Go.Cph Go.Cph.Px

/-- What lies in memory. -/
structure EnR (w : World) (l : List Pf) (p : Pf) (lv : Value) (W : World) : Prop where
  b3 : W.heap[w.heap.size]? = some (.cells #[.int .u8 (p.1.1.toNat : Int), .int .u64 (p.1.2.1.toNat : Int), .int .u64 (p.1.2.2.toNat : Int), .int .i64 p.2] 27 (0, 0))
  ls : PfsAt W lv l
  bel : Below w.heap.size w W
theorem EnR.kept {w : World} {l : List Pf} {p : Pf} {lv : Value} {W W' : World} (h : EnR w l p lv W) (hb : Below W.heap.size W W') : EnR w l p lv W' :=
  ⟨blk_kept hb h.b3, h.ls.kept hb, below_step h.bel hb h.bel.size⟩
theorem flat_put (l : List Pf) (i : Nat) (hi : i < l.length) (q : Pf) :
    ((((l.flatMap encC).set (i * 4) (.int .u8 (q.1.1.toNat : Int))).set (i * 4 + 1) (.int .u64 (q.1.2.1.toNat : Int))).set (i * 4 + 2) (.int .u64 (q.1.2.2.toNat : Int))).set (i * 4 + 3) (.int .i64 q.2) = (l.set i q).flatMap encC := by
  induction l generalizing i with
  | nil => exact absurd hi (by simp)
  | cons x l ih =>
    cases i with
    | zero => simp [encC]
    | succ i =>
      have h := ih i (by simpa using hi)
      rw [List.flatMap_cons, List.set_cons_succ, List.flatMap_cons, ← h]
      have e : (i + 1) * 4 = i * 4 + 4 := by omega
      rw [e]
      simp [encC]
theorem owns_put {w : World} {base g n cap : Nat} {l : List Pf} (h : w.ownsRow base TP 4 (.slice (some ⟨g, 0, none⟩) n cap) n (l.flatMap encC)) (i : Nat) (hi : i < l.length) (q : Pf) :
    ((((w.setCell ⟨g, i * 4, none⟩ (.int .u8 (q.1.1.toNat : Int))).setCell ⟨g, i * 4 + 1, none⟩ (.int .u64 (q.1.2.1.toNat : Int))).setCell ⟨g, i * 4 + 2, none⟩ (.int .u64 (q.1.2.2.toNat : Int))).setCell ⟨g, i * 4 + 3, none⟩ (.int .i64 q.2)).ownsRow base TP 4 (.slice (some ⟨g, 0, none⟩) n cap) n ((l.set i q).flatMap encC) := by
  rw [← flat_put l i hi q]
  exact ((((h.stored _ _).1.stored _ _).1.stored _ _).1.stored _ _).1

theorem owns_drew1 {w : World} {base : Nat} {e : TypeId} {size : Nat} {v : Value} {n : Nat} {xs : List Value} (h : w.ownsRow base e size v n xs) : w.drew.ownsRow base e size v n xs := h
theorem below_put {B : Nat} {w0 w : World} (h : Below B w0 w) {g : Nat} (hg : B ≤ g) (o : Nat) (q : Pf) :
    Below B w0 ((((w.setCell ⟨g, o, none⟩ (.int .u8 (q.1.1.toNat : Int))).setCell ⟨g, o + 1, none⟩ (.int .u64 (q.1.2.1.toNat : Int))).setCell ⟨g, o + 2, none⟩ (.int .u64 (q.1.2.2.toNat : Int))).setCell ⟨g, o + 3, none⟩ (.int .i64 q.2)) :=
  (((h.setCell (p := ⟨g, o, none⟩) hg _).setCell (p := ⟨g, o + 1, none⟩) hg _).setCell (p := ⟨g, o + 2, none⟩) hg _).setCell (p := ⟨g, o + 3, none⟩) hg _
def PairPost (l : List Pf) (c : Int) (w : World) (e : Ending) (w' : World) : Prop := ∃ v', e = .returned (.tuple #[v', .int .i64 c]) ∧ PfsAt w' v' l ∧ Below w.heap.size w w'
theorem put_pair {c : Nat} {l' : List Pf} (v : Value) (l : List Pf) (p : Pf) (w : World) (h : PfsAt w v l) (hn : l.length ≤ 900000) (hc : putE l p = c) (ho : outP l p = l') :
    Calls Try.prog 27 #[v, encP p] w (PairPost l' c w) :=
  (put_any v l p w h hn).mono fun e w' ⟨v', h1, h2, h3⟩ => ⟨v', by rw [h1, hc], by rw [← ho]; exact Seg.of_owns h2, h3⟩
theorem drop_pair {c : Nat} {l' : List Pf} (v : Value) (l : List Pf) (p : Pf) (w : World) (h : PfsAt w v l) (hn : l.length ≤ 900000) (hc : dropE l p = c) (ho : outD l p = l') :
    Calls Try.prog 28 #[v, encP p] w (PairPost l' c w) :=
  (drop_any v l p w h hn).mono fun e w' ⟨v', h1, h2, h3⟩ => ⟨v', by rw [h1, hc], by rw [← ho]; exact Seg.of_owns h2, h3⟩

set_option maxRecDepth 100000 in
set_option maxHeartbeats 8000000 in
theorem row_small (ao : Option Addr) (cap : Nat) (l : List Pf) (t : UInt8) (p : Pf) (w : World) (h : PfsAt w (.slice ao l.length cap) l) (hn : l.length ≤ 60) :
    Calls Try.prog 8 #[.slice ao l.length cap, .int .u8 (t.toNat : Int), encP p] w (AwPost w) := by
  have HV := Lib.hid h
  have ht : t.toNat < 256 := t.toNat_lt
  obtain ⟨m, hm⟩ : ∃ m, m = madeL l := ⟨_, rfl⟩
  have hml : m.length ≤ l.length := by rw [hm]; exact (madeL_is l).2.2
  have HR := Lib.hid (show Rises m by rw [hm]; exact (madeL_is l).1)
  have HM := Lib.hid hm
  clear h hm
  have hb0 : Below w.heap.size w (w.alloc (.cells #[.int .u8 (p.1.1.toNat : Int), .int .u64 (p.1.2.1.toNat : Int), .int .u64 (p.1.2.2.toNat : Int), .int .i64 p.2] 27)) := (Below.refl _ _).alloc (Nat.le_refl _) _
  have HG3 := Lib.hid (heap_alloc_new w (.cells #[.int .u8 (p.1.1.toNat : Int), .int .u64 (p.1.2.1.toNat : Int), .int .u64 (p.1.2.2.toNat : Int), .int .i64 p.2] 27))
  have HB0 := Lib.hid hb0
  have hsz0 : (w.alloc (.cells #[.int .u8 (p.1.1.toNat : Int), .int .u64 (p.1.2.1.toNat : Int), .int .u64 (p.1.2.2.toNat : Int), .int .i64 p.2] 27)).heap.size = w.heap.size + 1 := World.size_alloc _ _
  have HZ0 := Lib.hid hsz0
  have HNG := Lib.hid (show decide (60 < l.length) = false by simp; omega)
  have HGR := Lib.hid (great_any ao l.length cap)
  clear hb0 hsz0
  go_enter Try.func8, Try.ntmps8
  go_wp2_with fail
  generalize w.alloc (.cells #[.int .u8 (p.1.1.toNat : Int), .int .u64 (p.1.2.1.toNat : Int), .int .u64 (p.1.2.2.toNat : Int), .int .i64 p.2] 27) = w0 at *
  refine (HGR.out _ (by omega)).mono ?_
  rintro e w0' ⟨rfl, rfl⟩
  rw [HNG.out]
  go_wp2_with fail
  go_loopw [7, 8] (fun vo vi wr => ∃ k : Nat, k ≤ l.length ∧ vi = .int .i64 k ∧ wr.ownsRow (w.heap.size + 1) TP 4 vo k ((turnL l t.toNat k).flatMap encC) ∧ Below (w.heap.size + 1) w0 wr) (fun _ vi _ => l.length - (intOf vi).toNat)
  case atStart => exact ⟨0, Nat.zero_le _, rfl, World.ownsRow_nil _ _ _ _, Below.refl _ _⟩
  case round =>
    obtain ⟨k, hk, rfl, ho, hbel⟩ := hrel
    have HO := Lib.hid ho
    have HBE := Lib.hid hbel
    have HE := Lib.hid (show EnR w l p (.slice ao l.length cap) wr from (EnR.kept ⟨HG3.out, HV.out.kept HB0.out, HB0.out⟩ (by rw [HZ0.out]; exact HBE.out)))
    obtain ⟨oo, oc, hov⟩ := owns_slice1 ho
    subst hov
    clear ho hbel
    by_cases hlt : k < l.length
    · obtain ⟨b, off, cap', hve, hcs⟩ := pfs_cells HE.out.ls (by omega)
      cases hve
      obtain ⟨j, hj⟩ : ∃ j, j = (k + t.toNat) % l.length := ⟨_, rfl⟩
      have hjl : j < l.length := by rw [hj]; exact Nat.mod_lt _ (by omega)
      have hcm := hcs j hjl
      obtain ⟨q, hq⟩ : ∃ q, q = l[j] := ⟨_, rfl⟩
      rw [← hq] at hcm
      have HSN := Lib.hid (show turnL l t.toNat (k + 1) = turnL l t.toNat k ++ [q] by rw [turnL_snoc, ← hj, getD_of hjl, hq])
      have ej : ((k : Int) + (t.toNat : Int)) % (l.length : Int) = (j : Int) := by rw [hj, Int.natCast_emod, Int.natCast_add]
      clear hq hj hcs
      have m0 : (0 : Int) ≤ (j : Int) := by omega
      have m1 : (j : Int) < (l.length : Int) := by omega
      have m2 : ((l.length : Int) == 0) = false := by simpa using (show ¬ (l.length : Int) = 0 by omega)
      have c0 := hcm.c0
      have c1 := hcm.c1
      have c2 := hcm.c2
      have c3 := hcm.c3
      have HL := Lib.hid (show k + 1 ≤ 1099511627776 by omega)
      have HZB := Lib.hid (show w.heap.size + 1 ≤ wr.heap.size by have := HBE.out.size; rw [HZ0.out] at this; exact this)
      clear hcm
      go_wp2_with (at_builtin; refine wpList_append1 rfl (.tmp 28) (.tmp 39) 22 rfl (w.heap.size + 1) 27 _ 4 32 Try.underlying22 infoP rfl (by decide) _ k ((turnL l t.toNat k).flatMap encC) (encC q) rfl HO.out _ 1 rfl rfl rfl (encC_one1 q) HL.out (by decide) HZB.out (w.heap.size + 1) w0 HBE.out (Nat.le_refl _) ?_; intro v' w' ho hgr hb' hsz'; have HO4 := Lib.hid ho; have HB4 := Lib.hid hb'; clear ho hgr hb' hsz')
      go_roundw
      case rel =>
        refine ⟨k + 1, hlt, by go_num, ?_, HB4.out⟩
        rw [HSN.out]
        have := HO4.out
        simpa [List.flatMap_append] using this
      case measure => simp [intOf]; omega
    · obtain rfl : k = l.length := by omega
      have HT := Lib.hid (show ∃ xs : List Pf, xs.length = l.length ∧ (∀ x, x ∈ xs ↔ x ∈ l) ∧ wr.ownsRow (w.heap.size + 1) TP 4 (.slice oo l.length oc) l.length (xs.flatMap encC) from ⟨turnL l t.toNat l.length, turnL_length _ _ _, mem_turnL l _, HO.out⟩)
      go_wp2_with fail
      go_loopw [9] (fun vi wr => ∃ i : Nat, i ≤ 60 ∧ vi = .int .i64 i ∧ (∃ xs : List Pf, xs.length = l.length ∧ (∀ x, x ∈ xs ↔ x ∈ l) ∧ wr.ownsRow (w.heap.size + 1) TP 4 (.slice oo l.length oc) l.length (xs.flatMap encC)) ∧ Below (w.heap.size + 1) w0 wr) (fun vi _ => l.length - (intOf vi).toNat)
      case atStart => exact ⟨0, by omega, rfl, HT.out, HBE.out⟩
      case round =>
        obtain ⟨wo, rfl⟩ : ∃ wo : World, wo = wr := ⟨_, rfl⟩
        obtain ⟨i, hi, rfl, ⟨xs, hxl, hxm, ho⟩, hbel⟩ := hrel
        have HO2 := Lib.hid ho
        have HXM := Lib.hid hxm
        have HXL := Lib.hid hxl
        have HB2 := Lib.hid hbel
        clear ho hxm hxl hbel
        by_cases hlt2 : 2 * i + 1 < l.length
        · obtain ⟨g, gc, hgv, hgb, hgl, hgc, hcell, hfz⟩ := owns_shape HO2.out (by omega)
          cases hgv
          obtain ⟨j, hj⟩ : ∃ j, j = 2 * i := ⟨_, rfl⟩
          obtain ⟨k, hk2⟩ : ∃ k, k = j + 1 := ⟨_, rfl⟩
          have hjl : j < xs.length := by rw [HXL.out]; omega
          have hkl : k < xs.length := by rw [HXL.out]; omega
          have hc : ∀ a (ha : a < xs.length), CellsOf wo g (a * 4) xs[a] := fun a ha => by
            have hal : a < l.length := by rw [← HXL.out]; exact ha
            refine ⟨(hcell (a * 4 + 0) (by omega)).trans ?_, (hcell (a * 4 + 1) (by omega)).trans ?_, (hcell (a * 4 + 2) (by omega)).trans ?_, (hcell (a * 4 + 3) (by omega)).trans ?_⟩ <;> exact flat_at encC_len xs a ha _ (by decide)
          have hcj := hc j hjl
          have hck := hc k hkl
          obtain ⟨x, hx⟩ : ∃ q, q = xs[j] := ⟨_, rfl⟩
          obtain ⟨y, hy⟩ : ∃ q, q = xs[k] := ⟨_, rfl⟩
          rw [← hx] at hcj
          rw [← hy] at hck
          have HSW := Lib.hid (show ∀ z, z ∈ (xs.set j y).set k x ↔ z ∈ l from fun z => by rw [hx, hy, mem_swap hjl hkl z]; exact HXM.out z)
          have HX := Lib.hid hx
          have HY := Lib.hid hy
          have e1 : 2 * (i : Int) = (j : Int) := by omega
          have e2 : (j : Int) + 1 = (k : Int) := by omega
          have z1 : (k : Int) < (l.length : Int) := by omega
          have z2 : (j : Int) < (l.length : Int) := by omega
          have z3 : (0 : Int) ≤ (j : Int) := by omega
          have z4 : (0 : Int) ≤ (k : Int) := by omega
          have z5 : k < l.length := by omega
          have z6 : j < l.length := by omega
          have z7 : decide (k < l.length) = true := by simpa using z5
          have HJL := Lib.hid hjl
          have HKL := Lib.hid hkl
          have HJ := Lib.hid hj
          have HK := Lib.hid hk2
          have c0 := hcj.c0
          have c1 := hcj.c1
          have c2 := hcj.c2
          have c3 := hcj.c3
          have d0 := hck.c0
          have d1 := hck.c1
          have d2 := hck.c2
          have d3 := hck.c3
          have f0 := hfz
          clear hcj hck hc hx hy hcell hfz hj hk2
          go_wp2_with fail
          go_region
          have HO3 := Lib.hid (owns_put (owns_put HO2.out j hjl y) k (by simpa using hkl) x)
          have HB3 := Lib.hid (below_put (below_put HB2.out hgb (j * 4) y) hgb (k * 4) x)
          clear c0 c1 c2 c3 d0 d1 d2 d3 f0
          go_wp2_with fail
          go_roundw
          case rel => exact ⟨i + 1, by omega, by go_num, ⟨(xs.set j y).set k x, by simp [HXL.out], HSW.out, owns_drew1 HO3.out⟩, HB3.out.drew⟩
          case measure => simp [intOf]; omega
        · have z1 : decide (2 * (i : Int) + 1 < (l.length : Int)) = false := by simp; omega
          have z2 : ¬ (2 * (i : Int) + 1 < (l.length : Int)) := by omega
          have HE2 := Lib.hid (show EnR w l p (.slice ao l.length cap) wo from (EnR.kept ⟨HG3.out, HV.out.kept HB0.out, HB0.out⟩ (by rw [HZ0.out]; exact HB2.out)))
          have HXS := Lib.hid (show PfsAt wo (.slice oo l.length oc) xs from by
            show Seg _ _ _ xs.length _
            rw [HXL.out]; exact Seg.of_owns HO2.out)
          have HMX := Lib.hid (show madeL xs = m by rw [HM.out]; exact madeL_eq HXM.out)
          have HX60 := Lib.hid (show xs.length ≤ 60 by rw [HXL.out]; exact hn)
          have hm60 : m.length ≤ 60 := by omega
          have HRT := Lib.hid (fun v w (h : PfsAt w v m) => (show Calls Try.prog 30 #[v] w fun e w' => e = .returned (.bool true) ∧ Below w.heap.size w w' by rw [← rightL_iff.2 HR.out]; exact rightL_any v m w h (by omega)))
          have HAL := Lib.hid (fun v u w (h : PfsAt w v m) (k : PfsAt w u m) => (show Calls Try.prog 34 #[v, u] w fun e w' => e = .returned (.bool true) ∧ Below w.heap.size w w' from (alike_any v u m m w h k (by omega) (by omega)).mono fun e w' ⟨h1, h2⟩ => ⟨by rw [h1]; simp, h2⟩))
          clear hml
          go_wp2_with fail
          refine (made_any _ l _ HE2.out.ls hn).mono ?_
          rintro e w1 ⟨mv, rfl, hmv, hb⟩
          rw [← HM.out] at hmv
          obtain ⟨mo, mcap, hmo⟩ := elems_slice hmv
          subst hmo
          have HMV1 := Lib.hid hmv
          have HE3 := Lib.hid (HE2.out.kept hb)
          have HX3 := Lib.hid (HXS.out.kept hb)
          clear hb hmv
          go_wp2_with fail
          refine (HRT.out _ _ HMV1.out).mono ?_
          rintro e w2 ⟨rfl, hb⟩
          have HMV2 := Lib.hid (HMV1.out.kept hb)
          have HE4 := Lib.hid (HE3.out.kept hb)
          have HX4 := Lib.hid (HX3.out.kept hb)
          clear hb
          go_wp2_with fail
          refine (made_any _ xs _ HX4.out HX60.out).mono ?_
          rintro e w3 ⟨mx, rfl, hmx, hb⟩
          rw [HMX.out] at hmx
          have HMX3 := Lib.hid hmx
          have HMV3 := Lib.hid (HMV2.out.kept hb)
          have HE5 := Lib.hid (HE4.out.kept hb)
          clear hb hmx
          go_wp2_with fail
          refine (HAL.out _ _ _ HMV3.out HMX3.out).mono ?_
          rintro e w4 ⟨rfl, hb⟩
          have HMV4 := Lib.hid (HMV3.out.kept hb)
          have HE6 := Lib.hid (HE5.out.kept hb)
          clear hb
          by_cases hrp : rightP p = true
          · by_cases hpm : p ∈ m
            · obtain ⟨d, hd⟩ : ∃ d, d = dropL m p := ⟨_, rfl⟩
              have HP := Lib.hid (fun v w h => put_pair (c := 5) (l' := []) v m p w h (by omega) (by rw [putE_rises HR.out, if_pos hrp, if_pos hpm]) (by unfold outP; rw [putE_rises HR.out, if_pos hrp, if_pos hpm, if_neg (by decide)]))
              have HD := Lib.hid (fun v w h => drop_pair (c := 0) (l' := d) v m p w h (by omega) (by rw [dropE_rises HR.out, if_pos hrp, if_pos hpm]) (by unfold outD; rw [dropE_rises HR.out, if_pos hrp, if_pos hpm, if_pos rfl, hd]))
              have hdl : d.length + 1 = m.length := by rw [hd]; exact dropL_length HR.out hpm
              have hdr : Rises d := by rw [hd]; exact HR.out.drop p
              have hdn : p ∉ d := by rw [hd]; exact fun hx => ((mem_dropL HR.out hpm).1 hx).2 rfl
              have HQ := Lib.hid (fun v w h => put_pair (c := 0) (l' := m) v d p w h (by omega) (by rw [putE_rises hdr, if_pos hrp, if_neg hdn]) (by unfold outP; rw [putE_rises hdr, if_pos hrp, if_neg hdn, if_pos rfl, hd]; exact drop_put HR.out hpm))
              have HRP := Lib.hid (fun w => (show Calls Try.prog 35 #[encP p] w fun e w' => e = .returned (.bool true) ∧ Below w.heap.size w w' by have := rightP_any p w; rwa [hrp] at this))
              have zl : ((d.length : Int) == (m.length : Int) - 1) = true := by simp; omega
              clear hrp hpm hd hdl hdr hdn
              have hpp := boxP (p := p) HE6.out.b3
              have p0 := hpp.c0
              have p1 := hpp.c1
              have p2 := hpp.c2
              have p3 := hpp.c3
              clear hpp
              go_wp2_with fail
              refine (HP.out _ _ HMV4.out).mono ?_
              rintro e w5 ⟨v5, rfl, hv5, hb⟩
              obtain ⟨v5o, v5c, hq⟩ := elems_slice hv5
              subst hq
              have Hv5 := Lib.hid hv5
              have HMV5 := Lib.hid (HMV4.out.kept hb)
              have HE7 := Lib.hid (HE6.out.kept hb)
              clear hb hv5 p0 p1 p2 p3
              have hpp := boxP (p := p) HE7.out.b3
              have p0 := hpp.c0
              have p1 := hpp.c1
              have p2 := hpp.c2
              have p3 := hpp.c3
              clear hpp
              go_wp2_with fail
              refine (HD.out _ _ HMV5.out).mono ?_
              rintro e w6 ⟨v6, rfl, hv6, hb⟩
              obtain ⟨v6o, v6c, hq⟩ := elems_slice hv6
              subst hq
              have Hv6 := Lib.hid hv6
              have HMV6 := Lib.hid (HMV5.out.kept hb)
              have HE8 := Lib.hid (HE7.out.kept hb)
              clear hb hv6 p0 p1 p2 p3
              have hpp := boxP (p := p) HE8.out.b3
              have p0 := hpp.c0
              have p1 := hpp.c1
              have p2 := hpp.c2
              have p3 := hpp.c3
              clear hpp
              go_wp2_with fail
              clear p0 p1 p2 p3
              refine (HRP.out _).mono ?_
              rintro e w7 ⟨rfl, hb⟩
              have HMV7 := Lib.hid (HMV6.out.kept hb)
              have Hv6b := Lib.hid (Hv6.out.kept hb)
              have HE9 := Lib.hid (HE8.out.kept hb)
              clear hb
              have hpp := boxP (p := p) HE9.out.b3
              have p0 := hpp.c0
              have p1 := hpp.c1
              have p2 := hpp.c2
              have p3 := hpp.c3
              clear hpp
              go_wp2_with fail
              refine (HQ.out _ _ Hv6b.out).mono ?_
              rintro e w8 ⟨v8, rfl, hv8, hb⟩
              obtain ⟨v8o, v8c, hq⟩ := elems_slice hv8
              subst hq
              have Hv8 := Lib.hid hv8
              have HMV8 := Lib.hid (HMV7.out.kept hb)
              have HEa := Lib.hid (HE9.out.kept hb)
              clear hb hv8 p0 p1 p2 p3
              go_wp2_with fail
              refine (HAL.out _ _ _ Hv8.out HMV8.out).mono ?_
              rintro e w9 ⟨rfl, hb⟩
              have HEb := Lib.hid (HEa.out.kept hb)
              clear hb
              go_wp2_with fail
              refine (awake _).mono ?_
              rintro e w20 ⟨rfl, hb⟩
              have HBF := Lib.hid (below_step HEb.out.bel hb HEb.out.bel.size)
              clear hb
              go_wp2_with fail
              go_ret
              exact ⟨rfl, HBF.out⟩
            · obtain ⟨u, hu⟩ : ∃ d, d = putL m p := ⟨_, rfl⟩
              have HP := Lib.hid (fun v w h => put_pair (c := 0) (l' := u) v m p w h (by omega) (by rw [putE_rises HR.out, if_pos hrp, if_neg hpm]) (by unfold outP; rw [putE_rises HR.out, if_pos hrp, if_neg hpm, if_pos rfl, hu]))
              have hul : u.length = m.length + 1 := by rw [hu]; exact putL_length m p
              have hur : Rises u := by rw [hu]; exact HR.out.put hrp hpm
              have hun : p ∈ u := by rw [hu]; exact mem_putL.2 (.inl rfl)
              have HD := Lib.hid (fun v w h => drop_pair (c := 0) (l' := m) v u p w h (by omega) (by rw [dropE_rises hur, if_pos hrp, if_pos hun]) (by unfold outD; rw [dropE_rises hur, if_pos hrp, if_pos hun, if_pos rfl, hu]; exact put_drop HR.out hrp hpm))
              have HRU := Lib.hid (fun v w (h : PfsAt w v u) => (show Calls Try.prog 30 #[v] w fun e w' => e = .returned (.bool true) ∧ Below w.heap.size w w' by rw [← rightL_iff.2 hur]; exact rightL_any v u w h (by omega)))
              have zl : ((u.length : Int) == (m.length : Int) + 1) = true := by simp; omega
              clear hrp hpm hu hul hur hun
              have hpp := boxP (p := p) HE6.out.b3
              have p0 := hpp.c0
              have p1 := hpp.c1
              have p2 := hpp.c2
              have p3 := hpp.c3
              clear hpp
              go_wp2_with fail
              refine (HP.out _ _ HMV4.out).mono ?_
              rintro e w5 ⟨v5, rfl, hv5, hb⟩
              obtain ⟨v5o, v5c, hq⟩ := elems_slice hv5
              subst hq
              have Hv5 := Lib.hid hv5
              have HMV5 := Lib.hid (HMV4.out.kept hb)
              have HE7 := Lib.hid (HE6.out.kept hb)
              clear hb hv5 p0 p1 p2 p3
              have hpp := boxP (p := p) HE7.out.b3
              have p0 := hpp.c0
              have p1 := hpp.c1
              have p2 := hpp.c2
              have p3 := hpp.c3
              clear hpp
              go_wp2_with fail
              refine (HD.out _ _ Hv5.out).mono ?_
              rintro e w6 ⟨v6, rfl, hv6, hb⟩
              obtain ⟨v6o, v6c, hq⟩ := elems_slice hv6
              subst hq
              have Hv6 := Lib.hid hv6
              have HMV6 := Lib.hid (HMV5.out.kept hb)
              have Hv5b := Lib.hid (Hv5.out.kept hb)
              have HE8 := Lib.hid (HE7.out.kept hb)
              clear hb hv6 p0 p1 p2 p3
              go_wp2_with fail
              refine (HRU.out _ _ Hv5b.out).mono ?_
              rintro e w7 ⟨rfl, hb⟩
              have HMV7 := Lib.hid (HMV6.out.kept hb)
              have Hv6b := Lib.hid (Hv6.out.kept hb)
              have HE9 := Lib.hid (HE8.out.kept hb)
              clear hb
              go_wp2_with fail
              refine (HAL.out _ _ _ Hv6b.out HMV7.out).mono ?_
              rintro e w8 ⟨rfl, hb⟩
              have HEa := Lib.hid (HE9.out.kept hb)
              clear hb
              go_wp2_with fail
              refine (awake _).mono ?_
              rintro e w20 ⟨rfl, hb⟩
              have HBF := Lib.hid (below_step HEa.out.bel hb HEa.out.bel.size)
              clear hb
              go_wp2_with fail
              go_ret
              exact ⟨rfl, HBF.out⟩
          · have HP := Lib.hid (fun v w h => put_pair (c := 1) (l' := []) v m p w h (by omega) (by rw [putE_rises HR.out, if_neg hrp]) (by unfold outP; rw [putE_rises HR.out, if_neg hrp, if_neg (by decide)]))
            have HD := Lib.hid (fun v w h => drop_pair (c := 1) (l' := []) v m p w h (by omega) (by rw [dropE_rises HR.out, if_neg hrp]) (by unfold outD; rw [dropE_rises HR.out, if_neg hrp, if_neg (by decide)]))
            have HRP := Lib.hid (fun w => (show Calls Try.prog 35 #[encP p] w fun e w' => e = .returned (.bool false) ∧ Below w.heap.size w w' by have := rightP_any p w; rwa [show rightP p = false by simpa using hrp] at this))
            clear hrp
            have hpp := boxP (p := p) HE6.out.b3
            have p0 := hpp.c0
            have p1 := hpp.c1
            have p2 := hpp.c2
            have p3 := hpp.c3
            clear hpp
            go_wp2_with fail
            refine (HP.out _ _ HMV4.out).mono ?_
            rintro e w5 ⟨v5, rfl, hv5, hb⟩
            obtain ⟨v5o, v5c, hq⟩ := elems_slice hv5
            subst hq
            have Hv5 := Lib.hid hv5
            have HMV5 := Lib.hid (HMV4.out.kept hb)
            have HE7 := Lib.hid (HE6.out.kept hb)
            clear hb hv5 p0 p1 p2 p3
            have hpp := boxP (p := p) HE7.out.b3
            have p0 := hpp.c0
            have p1 := hpp.c1
            have p2 := hpp.c2
            have p3 := hpp.c3
            clear hpp
            go_wp2_with fail
            refine (HD.out _ _ HMV5.out).mono ?_
            rintro e w6 ⟨v6, rfl, hv6, hb⟩
            obtain ⟨v6o, v6c, hq⟩ := elems_slice hv6
            subst hq
            have Hv6 := Lib.hid hv6
            have HE8 := Lib.hid (HE7.out.kept hb)
            clear hb hv6 p0 p1 p2 p3
            have hpp := boxP (p := p) HE8.out.b3
            have p0 := hpp.c0
            have p1 := hpp.c1
            have p2 := hpp.c2
            have p3 := hpp.c3
            clear hpp
            go_wp2_with fail
            clear p0 p1 p2 p3
            refine (HRP.out _).mono ?_
            rintro e w7 ⟨rfl, hb⟩
            have HE9 := Lib.hid (HE8.out.kept hb)
            clear hb
            go_wp2_with fail
            refine (awake _).mono ?_
            rintro e w20 ⟨rfl, hb⟩
            have HBF := Lib.hid (below_step HE9.out.bel hb HE9.out.bel.size)
            clear hb
            go_wp2_with fail
            go_ret
            exact ⟨rfl, HBF.out⟩
end Go.Proofs.Try.Pfx
