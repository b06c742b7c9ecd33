/- The document's Free. -/
import Derived.Test.YtmnfddmjlkkcoaaGr3
import Derived.Test.YtmnfddmjlkkcoaaGf1
set_option linter.unusedVariables false
set_option linter.unusedSimpArgs false
namespace Go.Proofs.Try.Gp
open Go.RowKit Go.Cph Go.Cph.Px Go.Cph.Gp Go.Cph.So
open Pfx (encA)
theorem ad_eq (p q : Ad) : (p == q) = true ↔ (p.1.toNat : Int) = q.1.toNat ∧ (p.2.1.toNat : Int) = q.2.1.toNat ∧ (p.2.2.toNat : Int) = q.2.2.toNat := by
  rw [beq_iff_eq, Prod.ext_iff, Prod.ext_iff, ← UInt8.toNat_inj, ← UInt64.toNat_inj, ← UInt64.toNat_inj]
  omega
theorem run_eqlA (p q : Ad) (w : World) : (binOp .eql 36 (encA p) (encA q)).run Try.prog w = .ok (.bool (p == q)) w := by
  have hb : (p == q) = ((p.1.toNat : Int) == q.1.toNat && ((p.2.1.toNat : Int) == q.2.1.toNat && ((p.2.2.toNat : Int) == q.2.2.toNat))) := by
    rw [Bool.eq_iff_iff, ad_eq]
    simp only [Bool.and_eq_true, beq_iff_eq]
  rw [hb]
  cases b0 : ((p.1.toNat : Int) == q.1.toNat) <;> cases b1 : ((p.2.1.toNat : Int) == q.2.1.toNat) <;> cases b2 : ((p.2.2.toNat : Int) == q.2.2.toNat) <;> go_simp
/-- The number that a box holds. -/
def rankAt (W : World) (k : Nat) : Nat := match W.heap[k]? with
  | some (.cells cur _ _) => match cur.toList with
    | [.int _ f, .int _ h, .int _ l] => f.toNat * 340282366920938463463374607431768211456 + (h.toNat * 18446744073709551616 + l.toNat)
    | _ => 0
  | _ => 0
theorem rankAt_box {W : World} {k : Nat} {c : Ad} (h : W.heap[k]? = some (boxAr c)) : rankAt W k = rank c := by
  unfold rankAt
  rw [h]
  simp only [Int.toNat_natCast]
  rw [rank_num]; rfl
def NewRowR (w : World) (l : List Sp) (e : Ending) (w' : World) : Prop := ∃ v', e = .returned v' ∧ w'.ownsRow w.heap.size TEr 6 v' l.length (l.flatMap encC) ∧ Below w.heap.size w w'
def SetPostR (w : World) (P : Nat → Prop) (n : Nat) (e : Ending) (w' : World) : Prop := ∃ l, IsSet l P ∧ l.length ≤ n ∧ NewRowR w l e w'
/-- The boxes of Free's call: from (where the search goes on), to; the row. -/
structure St2 (w : World) (n : Nat) (b c : Ad) (vo : Value) (out : List Sp) (W : World) : Prop where
  gc : W.heap[n]? = some (boxAr c)
  gb : W.heap[n + 1]? = some (boxAr b)
  own : W.ownsRow (n + 1 + 1) TEr 6 vo out.length (out.flatMap encC)
  bel : Below n w W
section
variable {w W W' : World} {n : Nat} {b c : Ad} {vo v' : Value} {out : List Sp} {x : Sp} {obj o : Obj}
theorem St2.later (h : St2 w n b c vo out W) (hb : Below W.heap.size W W') : St2 w n b c vo out W' :=
  ⟨blk_kept hb h.gc, blk_kept hb h.gb, row_kept1 h.own (fun k hk => hb.block k (h.own.lt k hk).2), below_step h.bel hb (by have := blk_lt h.gb; omega)⟩
theorem St2.put (h : St2 w n b c vo out W) (c' : Ad) : St2 w n b c' vo out (putA W n 0 c') := by
  have hg := grown_putA W n 0 c'
  exact ⟨put_boxR h.gc c', put_other h.gb (by omega) c', row_kept1 h.own (fun k e => hg.block k (h.own.lt k e).2 (fun e2 => by injection e2 with e2; have := (h.own.lt k e).1; omega)), put_below h.bel (Nat.le_refl _) c'⟩
theorem St2.append (h : St2 w n b c vo out W) (ho : W'.ownsRow (n + 1 + 1) TEr 6 v' (out.length + 1) (out.flatMap encC ++ encC x)) (hg : (W.alloc obj).grownBy W' vo.ownBlock) : St2 w n b c v' (out ++ [x]) W' := by
  have hn : ∀ k, k ≤ n + 1 → some k ≠ vo.ownBlock := fun k hk e => by have := (h.own.lt k e.symm).1; omega
  have hs : n ≤ W.heap.size := by have := blk_lt h.gb; omega
  refine ⟨st_box h.gc (hn n (by omega)) hg, st_box h.gb (hn (n + 1) (by omega)) hg, by rw [List.length_append, List.flatMap_append]; simpa using ho, ?_⟩
  exact (h.bel.alloc hs obj).grown hg (by rw [World.size_alloc]; omega) fun k hk => by have := (h.own.lt k hk).1; omega
theorem St2.apart (h : St2 w n b c vo out W) (k : Nat) (hk : W.heap.size ≤ k) : some k ≠ vo.ownBlock := fun e => by have := (h.own.lt k e.symm).2; omega
end

set_option maxRecDepth 100000 in
set_option maxHeartbeats 16000000 in
theorem rfree_any (a b : Ad) (v : Value) (l : List Sp) (w : World) (h : SpsAt w v l) (hl : l.length ≤ 3000000) :
    Calls Try.prog 16 #[encA a, encA b, v] w (SetPostR w (FreeP a b (covS l)) (l.length + 1)) := by
  obtain ⟨ao, cap, rfl⟩ := elems_slice h
  have HLE := Lib.hid (fun (c : Ad) W (hb : Below w.heap.size w W) => rleast_any _ l c b W (h.kept hb) hl)
  have HEN := Lib.hid (fun (x : Ad) W (hb : Below w.heap.size w W) h1 h2 h3 => end_any _ l x b W (h.kept hb) hl h1 h2 h3)
  have HFD := Lib.hid (Fd.start (a := a) (b := b) (l := l))
  have HLL := Lib.hid hl
  have HST := Lib.hid (show St2 w w.heap.size b a (.slice none 0 0) [] ((w.alloc (boxAr a)).alloc (boxAr b)) from by
    have h1 := heap_alloc_new (w.alloc (boxAr a)) (boxAr b)
    simp only [World.size_alloc] at h1
    exact ⟨blk_alloc (heap_alloc_new w (boxAr a)) _, h1, World.ownsRow_nil _ _ _ _, ((Below.refl _ _).alloc (Nat.le_refl _) _).alloc (by simp) _⟩)
  obtain ⟨n, hn⟩ : ∃ n, n = w.heap.size := ⟨_, rfl⟩
  have HN := Lib.hid hn
  clear hn h hl
  go_enter Try.func16, Try.ntmps16
  go_wp2_with fail
  generalize (w.alloc (boxAr a)).alloc (boxAr b) = w1 at *
  rw [← HN.out] at HLE HEN HST ⊢
  go_loopw [7] (fun vo W => ∃ (c : Ad) (out : List Sp), St2 w n b c vo out W ∧ Fd a b l c out) (fun _ W => rank b + 1 - rankAt W n)
  case atStart => exact ⟨a, [], HST.out, HFD.out⟩
  case round =>
    obtain ⟨c, out, hst, hfd⟩ := hrel
    obtain ⟨oo, oc, hov⟩ := owns_slice1 hst.own
    subst hov
    have HS := Lib.hid hst
    have HF := Lib.hid hfd
    have HOL := Lib.hid (show out.length ≤ l.length from hfd.len)
    have HRK := Lib.hid (rankAt_box hst.gc)
    clear hst hfd
    have f0 := rbox_n0 HS.out.gc
    have f1 := rbox_n1 HS.out.gc
    have f2 := rbox_n2 HS.out.gc
    have g0 := rbox_n0 HS.out.gb
    have g1 := rbox_n1 HS.out.gb
    have g2 := rbox_n2 HS.out.gb
    go_wp2_with fail
    clear f0 f1 f2 g0 g1 g2
    refine (HLE.out c _ HS.out.bel).mono ?_
    rintro e w2 ⟨⟨r, rfl, hls⟩, hb⟩
    have HS2 := Lib.hid (HS.out.later hb)
    obtain ⟨x, ok⟩ := r
    have HL := Lib.hid hls
    clear hb hls
    have HBN := Lib.hid (show Below w2.heap.size w2 (w2.alloc (boxAr x)) from (Below.refl _ _).alloc (Nat.le_refl _) _)
    have HX3 := Lib.hid (heap_alloc_new w2 (boxAr x))
    have HS3 := Lib.hid (HS2.out.later HBN.out)
    cases ok
    · go_wp2_with fail
      go_ret
      exact ⟨_, HF.out.none (HL.out.no rfl).2, by have := HOL.out; omega, _, rfl, owns_mono HS3.out.own (by have := HN.out; omega), by rw [← HN.out]; exact HS3.out.bel⟩
    · have HY := Lib.hid (HL.out.yes rfl)
      have HB := Lib.hid (show rightA b = true ∧ b.1 = x.1 ∧ rank x ≤ rank b from by
        obtain ⟨h1, h2, h3, h4⟩ := HY.out
        have h5 := rightS_iff.1 h3.1
        exact ⟨h5.2.1, h5.2.2.1.symm.trans h2.symm, h3.2.2.1⟩)
      have f0 := rbox_n0 HX3.out
      have f1 := rbox_n1 HX3.out
      have f2 := rbox_n2 HX3.out
      have g0 := rbox_n0 HS3.out.gb
      have g1 := rbox_n1 HS3.out.gb
      have g2 := rbox_n2 HS3.out.gb
      go_wp2_with fail
      clear f0 f1 f2 g0 g1 g2
      refine (HEN.out x _ HS3.out.bel HB.out.1 HB.out.2.1 HB.out.2.2).mono ?_
      rintro e w4 ⟨⟨y, rfl, hen⟩, hb⟩
      have HE := Lib.hid hen
      have HS4 := Lib.hid (HS3.out.later hb)
      have HX4 := Lib.hid (blk_kept hb HX3.out)
      clear hb hen
      have HBN2 := Lib.hid (show Below w4.heap.size w4 (w4.alloc (boxAr y)) from (Below.refl _ _).alloc (Nat.le_refl _) _)
      have HY5 := Lib.hid (heap_alloc_new w4 (boxAr y))
      have HX5 := Lib.hid (blk_kept HBN2.out HX4.out)
      have HS5 := Lib.hid (HS4.out.later HBN2.out)
      obtain ⟨w5, hw5⟩ : ∃ w5, w5 = w4.alloc (boxAr y) := ⟨_, rfl⟩
      rw [← hw5] at HY5 HX5 HS5
      have HW5 := Lib.hid hw5
      clear hw5
      have HAP := Lib.hid (show some w4.heap.size ≠ (Value.slice oo out.length oc).ownBlock from HS4.out.apart _ (Nat.le_refl _))
      have HL9 := Lib.hid (show out.length + 1 ≤ 1099511627776 by have := HOL.out; have := HLL.out; omega)
      have HZ9 := Lib.hid (show n + 1 + 1 ≤ w5.heap.size from blk_lt HS5.out.gb)
      have f0 := rbox_n0 HX5.out
      have f1 := rbox_n1 HX5.out
      have f2 := rbox_n2 HX5.out
      have g0 := rbox_n0 HY5.out
      have g1 := rbox_n1 HY5.out
      have g2 := rbox_n2 HY5.out
      rw [HW5.out] at f0 f1 f2 g0 g1 g2 HS5 HY5 HZ9
      have HQ := Lib.hid (fun W => run_eqlA y b W)
      have HLA := Lib.hid (fun W => rlast y W)
      go_wp2_with (at_builtin; refine wpList_append1b rfl (.tmp 25) (.tmp 29) 29 rfl (n + 1 + 1) TEr _ 6 48 Try.underlying29 infoR rfl (by decide) _ out.length _ (encC (x, y)) rfl HS5.out.own _ 1 (by rw [World.size_alloc]; rfl) rfl rfl (encC_one1 (x, y)) HL9.out (by decide) HZ9.out ?_; intro v9 w9 ho9 hgr9 hv9; have HS9 := Lib.hid (HS5.out.append (x := (x, y)) ho9 hgr9); have HY9 := Lib.hid (st_box HY5.out HAP.out hgr9); obtain ⟨o9, c9, hv⟩ := owns_slice1 ho9; subst hv; clear ho9 hgr9 hv9 f0 f1 f2 g0 g1 g2; have g0 := rbox_n0 HY9.out; have g1 := rbox_n1 HY9.out; have g2 := rbox_n2 HY9.out)
      clear g0 g1 g2
      obtain ⟨la, hla⟩ : ∃ la, la = lastD y := ⟨_, rfl⟩
      rw [← hla] at HLA
      have HLAE := Lib.hid hla
      clear hla
      refine (HLA.out _).mono ?_
      rintro e w10 ⟨rfl, hb⟩
      have HS10 := Lib.hid (HS9.out.later hb)
      have HY10 := Lib.hid (blk_kept hb HY9.out)
      clear hb
      cases la
      · have f0 := rbox_n0 HY10.out
        have f1 := rbox_n1 HY10.out
        have f2 := rbox_n2 HY10.out
        have g0 := rbox_n0 HS10.out.gb
        have g1 := rbox_n1 HS10.out.gb
        have g2 := rbox_n2 HS10.out.gb
        have hq := HQ.out
        obtain ⟨eq, heq⟩ : ∃ eq, eq = (y == b) := ⟨_, rfl⟩
        rw [← heq] at hq
        have HEQ := Lib.hid heq
        clear heq
        cases eq
        · go_wp2_with fail
          clear hq f0 f1 f2 g0 g1 g2
          have f0 := rbox_n0 HY10.out
          have f1 := rbox_n1 HY10.out
          have f2 := rbox_n2 HY10.out
          go_wp2_with fail
          clear f0 f1 f2
          refine (rnext y _).mono ?_
          rintro e w11 ⟨rfl, hb⟩
          have HS11 := Lib.hid (HS10.out.later hb)
          clear hb
          have fz : ∀ j, w11.frozen? ⟨n, j, none⟩ = false := fun j => by rw [blk_frozen HS11.out.gc]; simp
          have HS12 := Lib.hid (HS11.out.put (nextD y))
          have f0 := rbox_n0 HS11.out.gc
          have f1 := rbox_n1 HS11.out.gc
          have f2 := rbox_n2 HS11.out.gc
          go_wp2_with fail
          clear f0 f1 f2 fz
          have HNX := Lib.hid (HF.out.next HL.out HE.out HLAE.out.symm (by intro h; have h2 := HEQ.out; rw [h, beq_self_eq_true] at h2; cases h2))
          go_roundw
          case rel => exact ⟨nextD y, out ++ [(x, y)], HS12.out, HNX.out.1⟩
          case measure =>
            have h1 := rankAt_box HS12.out.gc
            have h2 := HRK.out
            have h3 := HNX.out.2
            have h4 : ∀ p q z : Nat, p < q → q ≤ z → z + 1 - q < z + 1 - p := fun p q z h5 h6 => by omega
            rw [h2]
            exact lt_of_eq_of_lt (congrArg (rank b + 1 - ·) h1) (h4 _ _ _ h3.1 h3.2)
        · go_wp2_with fail
          go_ret
          exact ⟨_, HF.out.stop HL.out HE.out (Or.inr (by have h2 := HEQ.out.symm; rwa [beq_iff_eq] at h2)), by rw [List.length_append]; have := HOL.out; simp; omega, _, rfl, owns_mono HS10.out.own (by have := HN.out; omega), by rw [← HN.out]; exact HS10.out.bel⟩
      · go_wp2_with fail
        go_ret
        exact ⟨_, HF.out.stop HL.out HE.out (Or.inl HLAE.out.symm), by rw [List.length_append]; have := HOL.out; simp; omega, _, rfl, owns_mono HS10.out.own (by have := HN.out; omega), by rw [← HN.out]; exact HS10.out.bel⟩
end Go.Proofs.Try.Gp
