/- What lies between spans: Free. -/
import Derived.Test.YtmnfddmjlkkcoaaGj1
import Derived.Test.YtmnfddmjlkkcoaaGp2
set_option linter.unusedVariables false
set_option linter.unusedSimpArgs false
namespace Go.Proofs.Try.Gp
open Go.RowKit Go.Cph Go.Cph.Px Go.Cph.Gp Go.Cph.So
open Pfx
theorem wpList_append1b {P : Program} {ops : Array Oper} {rest : List Oper} {o : Oper} {a : Act} {W : World} {Q : Exit → Act → World → Prop} (hgd : o.guard = none) (s x : Operand) (t : TypeId)
    (ho : o.op = .call { callee := .builtin .append, args := #[s, x], argTypes := #[t, t] })
    (base : Nat) (e : TypeId) (z : Value) (size bytes : Nat) (ht : P.underlying t = some (.slice e)) (hinfo : (P.info? e).map (fun i => (i.zero, i.size, i.bytes)) = some (some z, size, bytes))
    (hzs : z.cells.size = size) (hsz : 0 < size) (v : Value) (n : Nat) (xs us : List Value) (hs : a.eval s = v) (hown : W.ownsRow base e size v n xs)
    (cells : Array Value) (c : Nat) (hx : a.eval x = .slice (some ⟨W.heap.size, 0, none⟩) 1 c) (hcells : cells.toList = us) (hus : us.length = size) (h1 : ∀ u ∈ us, u.oneCell' = true)
    (h63 : n + 1 ≤ 1099511627776) (hbytes : bytes ≤ 128) (hbase : base ≤ W.heap.size)
    (h : ∀ v' w', w'.ownsRow base e size v' (n + 1) (xs ++ us) → (W.alloc (.cells cells e)).grownBy w' v.ownBlock → (v'.ownBlock = v.ownBlock ∨ v'.ownBlock = some (W.heap.size + 1)) → wpList P ops Q rest (a.put o.dst v') w') :
    wpList P ops Q (o :: rest) a (W.alloc (.cells cells e)) := by
  have hsize : (W.alloc (.cells cells e)).heap.size = W.heap.size + 1 := by show (W.heap.push _).size = _; rw [Array.size_push]
  refine wpList_append_seg hgd s x t ho base e z size bytes ht hinfo hzs hsz v n xs hs (hown.alloc _) _ 1 us hx ⟨⟨_, _, rfl, fun _ => ⟨W.heap.size, 0, rfl, fun j hj => ?_⟩⟩, by rw [hus, Nat.one_mul]⟩ h1 h63 hbytes (by rw [hsize]; omega) fun v' w' h2 h3 h4 => h v' w' h2 h3 (by rw [hsize] at h4; exact h4)
  rw [Nat.zero_add, blk_cell (heap_alloc_new W _), ← hcells]
  simp
theorem box_n0 {w : World} {b : Nat} {a : Ad} (h : w.heap[b]? = some (boxA a)) : w.cell? ⟨b, 0, none⟩ = some (.int .u8 (a.1.toNat : Int)) := by rw [blk_cell h]; rfl
theorem box_n1 {w : World} {b : Nat} {a : Ad} (h : w.heap[b]? = some (boxA a)) : w.cell? ⟨b, 1, none⟩ = some (.int .u64 (a.2.1.toNat : Int)) := by rw [blk_cell h]; rfl
theorem box_n2 {w : World} {b : Nat} {a : Ad} (h : w.heap[b]? = some (boxA a)) : w.cell? ⟨b, 2, none⟩ = some (.int .u64 (a.2.2.toNat : Int)) := by rw [blk_cell h]; rfl
theorem box_s0 {w : World} {b : Nat} {a : Sp} (h : w.heap[b]? = some (boxS a)) : w.cell? ⟨b, 0, none⟩ = some (.int .u8 (a.1.1.toNat : Int)) := by rw [blk_cell h]; rfl
theorem box_s1 {w : World} {b : Nat} {a : Sp} (h : w.heap[b]? = some (boxS a)) : w.cell? ⟨b, 1, none⟩ = some (.int .u64 (a.1.2.1.toNat : Int)) := by rw [blk_cell h]; rfl
theorem box_s2 {w : World} {b : Nat} {a : Sp} (h : w.heap[b]? = some (boxS a)) : w.cell? ⟨b, 2, none⟩ = some (.int .u64 (a.1.2.2.toNat : Int)) := by rw [blk_cell h]; rfl
theorem box_s3 {w : World} {b : Nat} {a : Sp} (h : w.heap[b]? = some (boxS a)) : w.cell? ⟨b, 3, none⟩ = some (.int .u8 (a.2.1.toNat : Int)) := by rw [blk_cell h]; rfl
theorem box_s4 {w : World} {b : Nat} {a : Sp} (h : w.heap[b]? = some (boxS a)) : w.cell? ⟨b, 4, none⟩ = some (.int .u64 (a.2.2.1.toNat : Int)) := by rw [blk_cell h]; rfl
theorem box_s5 {w : World} {b : Nat} {a : Sp} (h : w.heap[b]? = some (boxS a)) : w.cell? ⟨b, 5, none⟩ = some (.int .u64 (a.2.2.2.toNat : Int)) := by rw [blk_cell h]; rfl

theorem grown_putA (w : World) (g o : Nat) (q : Ad) : w.grownBy (putA w g o q) (some g) := ((grown_set w g _ _).trans (grown_set _ g _ _)).trans (grown_set _ g _ _)
/-- The loop's state: the boxes of from, to and at; the row. -/
structure St (w3 : World) (na nb g8 : Nat) (a b c : Ad) (vo : Value) (out : List Sp) (W : World) : Prop where
  ga : W.heap[na]? = some (boxA a)
  gb : W.heap[nb]? = some (boxA b)
  gc : W.heap[g8]? = some (boxA c)
  own : W.ownsRow w3.heap.size TE 6 vo out.length (out.flatMap encC)
  grown : w3.grownBy W (some g8)
section
variable {w3 W W' : World} {na nb g8 : Nat} {a b c c' : Ad} {vo v' : Value} {out : List Sp} {x : Sp} {obj o : Obj}
theorem St.later (h : St w3 na nb g8 a b c vo out W) (hb : Below W.heap.size W W') : St w3 na nb g8 a b c vo out W' :=
  ⟨blk_kept hb h.ga, blk_kept hb h.gb, blk_kept hb h.gc, row_kept1 h.own (fun k hk => hb.block k (h.own.lt k hk).2), h.grown.trans (grown_below hb _)⟩
theorem St.put (h : St w3 na nb g8 a b c vo out W) (h1 : na < g8) (h2 : nb < g8) (h3 : g8 < w3.heap.size) (c' : Ad) : St w3 na nb g8 a b c' vo out (putA W g8 0 c') := by
  have hg := grown_putA W g8 0 c'
  have hk : ∀ k, k ≠ g8 → k < W.heap.size → (putA W g8 0 c').heap[k]? = W.heap[k]? := fun k hk hl => hg.block k hl (fun e => hk (by injection e))
  exact ⟨(hk _ (by omega) (blk_lt h.ga)).trans h.ga, (hk _ (by omega) (blk_lt h.gb)).trans h.gb, put_box h.gc c', row_kept1 h.own (fun k e => hk k (by have := (h.own.lt k e).1; omega) (h.own.lt k e).2), h.grown.trans hg⟩
theorem St.append (h : St w3 na nb g8 a b c vo out W) (h1 : na < g8) (h2 : nb < g8) (h3 : g8 < w3.heap.size) (ho : W'.ownsRow w3.heap.size TE 6 v' (out.length + 1) (out.flatMap encC ++ encC x)) (hg : (W.alloc obj).grownBy W' vo.ownBlock) : St w3 na nb g8 a b c v' (out ++ [x]) W' := by
  have hs : W.heap.size ≤ (W.alloc obj).heap.size := by rw [World.size_alloc]; omega
  have hk : ∀ k o, k < w3.heap.size → W.heap[k]? = some o → W'.heap[k]? = some o := fun k o hk hb => by
    rw [hg.block k (Nat.lt_of_lt_of_le (blk_lt hb) hs) (fun e => by have := (h.own.lt k e.symm).1; omega)]
    exact blk_alloc hb _
  refine ⟨hk _ _ (by omega) h.ga, hk _ _ (by omega) h.gb, hk _ _ h3 h.gc, by rw [List.length_append, List.flatMap_append]; simpa using ho, ?_⟩
  have hg3 := h.grown.size
  refine ⟨hg.os.trans h.grown.os, hg.tape.trans h.grown.tape, hg.output.trans h.grown.output, Nat.le_trans hg3 (Nat.le_trans hs hg.size), fun k hkl hne => ?_⟩
  rw [hg.block k (by omega) (fun e => by have := (h.own.lt k e.symm).1; omega), ← h.grown.block k hkl hne]
  unfold World.alloc
  rw [Array.getElem?_push_lt (by omega)]
  rw [Array.getElem?_eq_getElem (by omega)]
theorem St.apart (h : St w3 na nb g8 a b c vo out W) (k : Nat) (hk : some k = vo.ownBlock) : k < W.heap.size := (h.own.lt k hk.symm).2
theorem st_box {k : Nat} (h : W.heap[k]? = some o) (hn : some k ≠ vo.ownBlock) (hg : (W.alloc obj).grownBy W' vo.ownBlock) : W'.heap[k]? = some o := by
  rw [hg.block k (by rw [World.size_alloc]; exact Nat.lt_succ_of_lt (blk_lt h)) hn]
  exact blk_alloc h _
end

set_option maxRecDepth 100000 in
set_option maxHeartbeats 16000000 in
theorem free_any (a b : Ad) (v : Value) (ls : List (List Sp)) (w : World) (h : SpsOf w v ls) (hl : ls.length ≤ 100000) (hn : ls.flatten.length ≤ 1000000) :
    Calls Try.prog 13 #[encA a, encA b, v] w (SetPost w (FreeP a b (covS ls.flatten)) (ls.flatten.length + 1)) := by
  obtain ⟨P, hP⟩ : ∃ P, P = covS ls.flatten := ⟨_, rfl⟩
  obtain ⟨n, hnn⟩ : ∃ n, n = ls.flatten.length := ⟨_, rfl⟩
  have HJ := Lib.hid (fun (W : World) (hb : Below w.heap.size w W) => join_any v ls W (h.kept hb) hl hn)
  rw [← hP, ← hnn] at HJ ⊢
  rw [← hnn] at hn
  clear h hP hnn hl
  have HBX := Lib.hid (show Below w.heap.size w ((w.alloc (boxA a)).alloc (boxA b)) from ((Below.refl _ _).alloc (Nat.le_refl _) _).alloc (by simp) _)
  have HGA := Lib.hid (show ((w.alloc (boxA a)).alloc (boxA b)).heap[w.heap.size]? = some (boxA a) from blk_alloc (heap_alloc_new _ _) _)
  have hg1 := heap_alloc_new (w.alloc (boxA a)) (boxA b)
  rw [World.size_alloc] at hg1
  have HGB := Lib.hid hg1
  have HRS := Lib.hid (fun W => right_sp (a, b) W)
  obtain ⟨r, hr⟩ : ∃ r, r = rightS (a, b) := ⟨_, rfl⟩
  rw [← hr] at HRS
  have HR := Lib.hid hr
  clear hg1 hr
  go_enter Try.func13, Try.ntmps13
  go_wp2_with fail
  refine (HRS.out _).mono ?_
  rintro e w1 ⟨rfl, hb⟩
  have HB1 := Lib.hid (below_step HBX.out hb HBX.out.size)
  have HGA1 := Lib.hid (blk_kept hb HGA.out)
  have HGB1 := Lib.hid (blk_kept hb HGB.out)
  clear hb HRS HGA HGB HBX
  cases r
  · go_wp2_with fail
    go_ret
    exact ⟨[], IsSet.nil (fun n hn => by have := hn.1; rw [← HR.out] at this; cases this), Nat.zero_le _, _, rfl, World.ownsRow_nil _ _ _ _, HB1.out⟩
  · have a0 := (box_ca HGA1.out).c0
    have a1 := (box_ca HGA1.out).c1
    have a2 := (box_ca HGA1.out).c2
    have HG8 := Lib.hid (heap_alloc_new w1 (boxA a))
    have HBA := Lib.hid (show Below w1.heap.size w1 (w1.alloc (boxA a)) from (Below.refl _ _).alloc (Nat.le_refl _) _)
    have HB2 := Lib.hid (below_step HB1.out HBA.out HB1.out.size)
    have HN8 := Lib.hid (show w.heap.size < w1.heap.size ∧ w.heap.size + 1 < w1.heap.size ∧ w1.heap.size < (w1.alloc (boxA a)).heap.size from ⟨blk_lt HGA1.out, blk_lt HGB1.out, by rw [World.size_alloc]; omega⟩)
    have HGA2 := Lib.hid (blk_kept HBA.out HGA1.out)
    have HGB2 := Lib.hid (blk_kept HBA.out HGB1.out)
    go_wp2_with fail
    clear a0 a1 a2 HGA1 HGB1
    generalize w1.alloc (boxA a) = w2 at *
    obtain ⟨g8, hg8⟩ : ∃ g8, g8 = w1.heap.size := ⟨_, rfl⟩
    rw [← hg8] at HG8 HN8 ⊢
    obtain ⟨na, hna⟩ : ∃ na, na = w.heap.size := ⟨_, rfl⟩
    have HNA := Lib.hid hna
    rw [← hna] at HGA2 HGB2 HN8 ⊢
    obtain ⟨nb, hnb⟩ : ∃ nb, nb = na + 1 := ⟨_, rfl⟩
    rw [← hnb] at HGB2 HN8 ⊢
    clear hg8 hna hnb
    refine (HJ.out _ HB2.out).mono ?_
    rintro e w3 ⟨l, hset, hll, v3, rfl, ho, hb⟩
    have HB3 := Lib.hid (below_step HB2.out hb HB2.out.size)
    have HST := Lib.hid (show St w3 na nb g8 a b a (.slice none 0 0) [] w3 from ⟨blk_kept hb HGA2.out, blk_kept hb HGB2.out, blk_kept hb HG8.out, World.ownsRow_nil _ _ _ _, grown_refl _ _⟩)
    have HN3 := Lib.hid (show na < g8 ∧ nb < g8 ∧ g8 < w3.heap.size from ⟨HN8.out.1, HN8.out.2.1, Nat.lt_of_lt_of_le HN8.out.2.2 hb.size⟩)
    have HSET := Lib.hid hset
    have HOL := Lib.hid (show ∀ W, w3.grownBy W (some g8) → SpsAt W v3 l from fun W hg => Seg.of_owns (row_kept1 ho fun k hk => hg.block k (ho.lt k hk).2 (fun e => by
      injection e with e
      have h1 := (ho.lt k hk).1
      have h2 := HN8.out.2.2
      omega)))
    obtain ⟨o3, c3, hv3⟩ := owns_slice1 ho
    subst hv3
    have HLL := Lib.hid hll
    have hln : l.length ≤ 1000000 := by omega
    have HLN := Lib.hid hln
    have HNN := Lib.hid hn
    have HFR := Lib.hid (Fr.start (P := P) (l := l) HR.out.symm)
    clear ho hb hset hll HJ HGA2 HGB2 HG8 HN8 HB1 HB2 HBA hn
    go_wp2_with fail
    go_loopw [7, 24] (fun vo vi W => ∃ (i : Nat) (c : Ad) (out : List Sp), i ≤ l.length ∧ vi = .int .i64 i ∧ St w3 na nb g8 a b c vo out W ∧ Fr a b P l i c out ∧ out.length ≤ i) (fun _ vi _ => l.length - (intOf vi).toNat)
    case atStart => exact ⟨0, a, [], Nat.zero_le _, rfl, HST.out, HFR.out, Nat.le_refl _⟩
    case round =>
      obtain ⟨i, c, out, hi, rfl, hst, hfr, hol⟩ := hrel
      obtain ⟨oo, oc, hov⟩ := owns_slice1 hst.own
      subst hov
      have HS := Lib.hid hst
      have HF := Lib.hid hfr
      have hol2 : out.length ≤ 1000000 := by omega
      have HOL2 := Lib.hid hol2
      have HOI := Lib.hid hol
      by_cases hlt : i < l.length
      · have HAT := Lib.hid (HSET.out.at hlt)
        obtain ⟨b', off, cap', hve, hcs⟩ := sps_cells (HOL.out _ hst.grown) (by omega)
        injection hve with hx1 hx2 hx3
        subst hx1
        clear hx2 hx3
        have hcx := hcs i hlt
        have HLT := Lib.hid hlt
        have HSK := Lib.hid (hfr.skip hlt)
        have HBR := Lib.hid (hfr.break HSET.out hlt)
        have HMD := Lib.hid (hfr.mid HSET.out hlt)
        have HNX := Lib.hid (fun out' => hfr.next (out' := out') HSET.out hlt)
        obtain ⟨x, hx⟩ : ∃ x, x = l[i]'hlt := ⟨_, rfl⟩
        rw [← hx] at hcx
        rw [← hx] at HAT
        rw [← hx] at HSK
        rw [← hx] at HBR
        rw [← hx] at HMD
        rw [← hx] at HNX
        have d0 := hcx.c0
        have d1 := hcx.c1
        have d2 := hcx.c2
        have d3 := hcx.c3
        have d4 := hcx.c4
        have d5 := hcx.c5
        have HX0 := Lib.hid (heap_alloc_new wr (boxS x))
        have HBX := Lib.hid (show Below wr.heap.size wr (wr.alloc (boxS x)) from (Below.refl _ _).alloc (Nat.le_refl _) _)
        have HS0 := Lib.hid (hst.later HBX.out)
        have HKX := Lib.hid (show some wr.heap.size ≠ (Value.slice oo out.length oc).ownBlock from fun e => absurd (hst.apart _ e) (Nat.lt_irrefl _))
        have a0 := (box_ca HS0.out.ga).c0
        have k1 : (0 : Int) ≤ (i : Int) := by omega
        have k2 : (i : Int) < (l.length : Int) := by omega
        have k4 : IntKind.i64.wrap ((i : Int) + 1) = (i : Int) + 1 := by rw [IntKind.wrap_i64]; omega
        have heq := Pfx.u8_eq x.1.1 a.1
        obtain ⟨q, hq⟩ : ∃ q, q = (x.1.1 == a.1) := ⟨_, rfl⟩
        rw [← hq] at heq
        have hne : ((x.1.1.toNat : Int) != (a.1.toNat : Int)) = !q := by rw [bne, heq]
        have HQ := Lib.hid hq
        have HL1 := Lib.hid (fun W => Pfx.less x.2 c W)
        have HL2 := Lib.hid (fun W => Pfx.less b x.1 W)
        obtain ⟨p, hp⟩ : ∃ p, p = lessA x.2 c := ⟨_, rfl⟩
        obtain ⟨t, ht⟩ : ∃ t, t = lessA b x.1 := ⟨_, rfl⟩
        rw [← hp] at HL1
        rw [← ht] at HL2
        have HP := Lib.hid hp
        have HT := Lib.hid ht
        clear hst hfr hx hcx hcs hq hp ht hol hol2
        obtain ⟨kx, hkx⟩ : ∃ kx, kx = wr.heap.size := ⟨_, rfl⟩
        cases q
        · go_wp2_with fail
          go_roundw
          case rel => exact ⟨i + 1, c, out, HLT.out, by go_num, HS0.out, HSK.out (Or.inl (by intro e; rw [e] at HQ; simp at HQ; exact absurd HQ.out (by simp))), by have := HOI.out; omega⟩
          case measure => have := HLT.out; simp [intOf]; omega
        · have HFM := Lib.hid (show x.1.1 = a.1 from by have h := HQ.out.symm; rwa [beq_iff_eq] at h)
          clear HQ
          have HG0 := HX0
          have p0 := box_n0 HS0.out.gc
          have p1 := box_n1 HS0.out.gc
          have p2 := box_n2 HS0.out.gc
          go_wp2_with fail
          clear p0 p1 p2 a0 d0 d1 d2 d3 d4 d5 heq hne
          refine (HL1.out _).mono ?_
          rintro e w1 ⟨rfl, hb⟩
          have HS1 := Lib.hid (HS0.out.later hb)
          have HG1 := Lib.hid (blk_kept hb HG0.out)
          clear hb HL1
          cases p
          · have HLC := Lib.hid HP.out.symm
            have q0 := box_n0 HS1.out.gb
            have q1 := box_n1 HS1.out.gb
            have q2 := box_n2 HS1.out.gb
            have p0 := box_s0 HG1.out
            have p1 := box_s1 HG1.out
            have p2 := box_s2 HG1.out
            go_wp2_with fail
            clear p0 p1 p2 q0 q1 q2
            refine (HL2.out _).mono ?_
            rintro e w2 ⟨rfl, hb⟩
            have HS2 := Lib.hid (HS1.out.later hb)
            have HG2 := Lib.hid (blk_kept hb HG1.out)
            clear hb HL2
            cases t
            · have HLB := Lib.hid HT.out.symm
              have HM := Lib.hid (HMD.out HFM.out HLC.out HLB.out)
              have HBK := Lib.hid (fun W => back_any x.1 W)
              have HNE := Lib.hid (fun W => next_any x.2 W)
              obtain ⟨nx, hnx⟩ : ∃ nx, nx = nextA x.2 := ⟨_, rfl⟩
              rw [← hnx] at HNE
              have HNQ := Lib.hid hnx
              clear hnx
              obtain ⟨ne, nok⟩ := nx
              have HMS := Lib.hid (show midS c x out = if (backA x.1).2 && !lessA (backA x.1).1 c then out ++ [(c, (backA x.1).1)] else out from rfl)
              obtain ⟨bk, hbk⟩ : ∃ bk, bk = backA x.1 := ⟨_, rfl⟩
              rw [← hbk] at HBK HMS
              clear hbk
              obtain ⟨be, bok⟩ := bk
              have p0 := box_s0 HG2.out
              have p1 := box_s1 HG2.out
              have p2 := box_s2 HG2.out
              go_wp2_with fail
              clear p0 p1 p2
              refine (HBK.out _).mono ?_
              rintro e w4 ⟨rfl, hb⟩
              have HS3 := Lib.hid (HS2.out.later hb)
              have HG3 := Lib.hid (blk_kept hb HG2.out)
              clear hb HBK
              have HBN := Lib.hid (show Below w4.heap.size w4 (w4.alloc (boxA be)) from (Below.refl _ _).alloc (Nat.le_refl _) _)
              have HGB := Lib.hid (heap_alloc_new w4 (boxA be))
              have HS4 := Lib.hid (HS3.out.later HBN.out)
              have HG4 := Lib.hid (blk_kept HBN.out HG3.out)
              cases bok
              · have HM2 := Lib.hid (show Md a b P x out from (show midS c x out = out from HMS.out.trans rfl) ▸ HM.out)
                have r3 := box_s3 HG4.out
                have r4 := box_s4 HG4.out
                have r5 := box_s5 HG4.out
                go_wp2_with fail
                clear r3 r4 r5
                refine (HNE.out _).mono ?_
                rintro e w6 ⟨rfl, hb⟩
                have HS6 := Lib.hid (HS4.out.later hb)
                clear hb
                have HBN := Lib.hid (show Below w6.heap.size w6 (w6.alloc (boxA ne)) from (Below.refl _ _).alloc (Nat.le_refl _) _)
                have HGN := Lib.hid (heap_alloc_new w6 (boxA ne))
                have HS7 := Lib.hid (HS6.out.later HBN.out)
                cases nok
                · go_wp2_with fail
                  go_ret
                  have HS9 := HS7
                  exact ⟨_, (HM2.out.done HR.out.symm HAT.out.1 HFM.out HAT.out.2.2.2.2.2 HLB.out (Or.inl (by rw [← HNQ.out]))), by have := HOI.out; have := HLL.out; have := HLT.out; omega, _, rfl, owns_mono HS9.out.own HB3.out.size, HB3.out.grown HS9.out.grown HB3.out.size (fun k hk => by injection hk with hk; have := HN3.out.1; have := HNA.out; omega)⟩
                · have HL3 := Lib.hid (fun W => Pfx.less b ne W)
                  obtain ⟨l3, hl3⟩ : ∃ l3, l3 = lessA b ne := ⟨_, rfl⟩
                  rw [← hl3] at HL3
                  have HL3E := Lib.hid hl3
                  clear hl3
                  have q0 := box_n0 HS7.out.gb
                  have q1 := box_n1 HS7.out.gb
                  have q2 := box_n2 HS7.out.gb
                  go_wp2_with fail
                  clear q0 q1 q2
                  refine (HL3.out _).mono ?_
                  rintro e w8 ⟨rfl, hb⟩
                  have HS8 := Lib.hid (HS7.out.later hb)
                  have HGN8 := Lib.hid (blk_kept hb HGN.out)
                  clear hb
                  cases l3
                  · have q0 := box_n0 HGN8.out
                    have q1 := box_n1 HGN8.out
                    have q2 := box_n2 HGN8.out
                    have p0 := box_n0 HS8.out.gc
                    have p1 := box_n1 HS8.out.gc
                    have p2 := box_n2 HS8.out.gc
                    have pf : ∀ j, w8.frozen? ⟨g8, j, none⟩ = false := fun j => by rw [blk_frozen HS8.out.gc]; simp
                    have HSP := Lib.hid (HS8.out.put HN3.out.1 HN3.out.2.1 HN3.out.2.2 ne)
                    go_wp2_with fail
                    clear p0 p1 p2 q0 q1 q2 pf
                    go_roundw
                    case rel =>
                      have hnx := HNX.out _ HFM.out HLC.out HM2.out (by rw [← HNQ.out]) (by rw [← HNQ.out]; exact HL3E.out.symm)
                      rw [← HNQ.out] at hnx
                      exact ⟨i + 1, ne, out, HLT.out, by go_num, HSP.out, hnx, by have := HOI.out; omega⟩
                    case measure => have := HLT.out; simp [intOf]; omega
                  · go_wp2_with fail
                    go_ret
                    have HS9 := HS8
                    exact ⟨_, (HM2.out.done HR.out.symm HAT.out.1 HFM.out HAT.out.2.2.2.2.2 HLB.out (Or.inr (by rw [← HNQ.out]; exact HL3E.out.symm))), by have := HOI.out; have := HLL.out; have := HLT.out; omega, _, rfl, owns_mono HS9.out.own HB3.out.size, HB3.out.grown HS9.out.grown HB3.out.size (fun k hk => by injection hk with hk; have := HN3.out.1; have := HNA.out; omega)⟩
              · have HL4 := Lib.hid (fun W => Pfx.less be c W)
                obtain ⟨l4, hl4⟩ : ∃ l4, l4 = lessA be c := ⟨_, rfl⟩
                rw [← hl4] at HL4
                have HMS2 := Lib.hid (show midS c x out = if true && !l4 then out ++ [(c, be)] else out from by rw [hl4]; exact HMS.out)
                clear hl4 HMS
                have q0 := box_n0 HS4.out.gc
                have q1 := box_n1 HS4.out.gc
                have q2 := box_n2 HS4.out.gc
                go_wp2_with fail
                clear q0 q1 q2
                refine (HL4.out _).mono ?_
                rintro e w5 ⟨rfl, hb⟩
                have HS5 := Lib.hid (HS4.out.later hb)
                have HG5 := Lib.hid (blk_kept hb HG4.out)
                have HGB5 := Lib.hid (blk_kept hb HGB.out)
                clear hb HL4
                cases l4
                · have HM2 := Lib.hid (show Md a b P x (out ++ [(c, be)]) from (show midS c x out = out ++ [(c, be)] from HMS2.out.trans rfl) ▸ HM.out)
                  have HL9 := Lib.hid (show out.length + 1 ≤ 1099511627776 by have := HOL2.out; omega)
                  have HZ9 := Lib.hid (show w3.heap.size ≤ w5.heap.size from HS5.out.grown.size)
                  have HK5 := Lib.hid (show some wr.heap.size ≠ (Value.slice oo out.length oc).ownBlock from HKX.out)
                  have p0 := box_n0 HS5.out.gc
                  have p1 := box_n1 HS5.out.gc
                  have p2 := box_n2 HS5.out.gc
                  have q0 := box_n0 HGB5.out
                  have q1 := box_n1 HGB5.out
                  have q2 := box_n2 HGB5.out
                  go_wp2_with (at_builtin; refine wpList_append1b rfl (.tmp 57) (.tmp 61) 28 rfl w3.heap.size TE _ 6 48 Try.underlying28 infoE rfl (by decide) _ out.length _ (encC (c, be)) rfl HS5.out.own _ 1 rfl rfl rfl (encC_one1 (c, be)) HL9.out (by decide) HZ9.out ?_; intro v9 w9 ho9 hgr9 hv9; have HS6 := Lib.hid (HS5.out.append HN3.out.1 HN3.out.2.1 HN3.out.2.2 (x := (c, be)) ho9 hgr9); have HG6 := Lib.hid (st_box HG5.out HK5.out hgr9); obtain ⟨o9, c9, hv⟩ := owns_slice1 ho9; subst hv; have r3 := box_s3 HG6.out; have r4 := box_s4 HG6.out; have r5 := box_s5 HG6.out; clear ho9 hgr9 hv9 p0 p1 p2 q0 q1 q2)
                  clear r3 r4 r5
                  refine (HNE.out _).mono ?_
                  rintro e w6 ⟨rfl, hb⟩
                  have HS6b := Lib.hid (HS6.out.later hb)
                  clear hb
                  have HBM := Lib.hid (show Below w6.heap.size w6 (w6.alloc (boxA ne)) from (Below.refl _ _).alloc (Nat.le_refl _) _)
                  have HGN := Lib.hid (heap_alloc_new w6 (boxA ne))
                  have HS7 := Lib.hid (HS6b.out.later HBM.out)
                  cases nok
                  · go_wp2_with fail
                    go_ret
                    have HS9 := HS7
                    exact ⟨_, (HM2.out.done HR.out.symm HAT.out.1 HFM.out HAT.out.2.2.2.2.2 HLB.out (Or.inl (by rw [← HNQ.out]))), by rw [List.length_append]; have := HOI.out; have := HLL.out; have := HLT.out; simp; omega, _, rfl, owns_mono HS9.out.own HB3.out.size, HB3.out.grown HS9.out.grown HB3.out.size (fun k hk => by injection hk with hk; have := HN3.out.1; have := HNA.out; omega)⟩
                  · have HL3 := Lib.hid (fun W => Pfx.less b ne W)
                    obtain ⟨l3, hl3⟩ : ∃ l3, l3 = lessA b ne := ⟨_, rfl⟩
                    rw [← hl3] at HL3
                    have HL3E := Lib.hid hl3
                    clear hl3
                    have q0 := box_n0 HS7.out.gb
                    have q1 := box_n1 HS7.out.gb
                    have q2 := box_n2 HS7.out.gb
                    go_wp2_with fail
                    clear q0 q1 q2
                    refine (HL3.out _).mono ?_
                    rintro e w8 ⟨rfl, hb⟩
                    have HS8 := Lib.hid (HS7.out.later hb)
                    have HGN8 := Lib.hid (blk_kept hb HGN.out)
                    clear hb
                    cases l3
                    · have q0 := box_n0 HGN8.out
                      have q1 := box_n1 HGN8.out
                      have q2 := box_n2 HGN8.out
                      have p0 := box_n0 HS8.out.gc
                      have p1 := box_n1 HS8.out.gc
                      have p2 := box_n2 HS8.out.gc
                      have pf : ∀ j, w8.frozen? ⟨g8, j, none⟩ = false := fun j => by rw [blk_frozen HS8.out.gc]; simp
                      have HSP := Lib.hid (HS8.out.put HN3.out.1 HN3.out.2.1 HN3.out.2.2 ne)
                      go_wp2_with fail
                      clear p0 p1 p2 q0 q1 q2 pf
                      go_roundw
                      case rel =>
                        have hnx := HNX.out _ HFM.out HLC.out HM2.out (by rw [← HNQ.out]) (by rw [← HNQ.out]; exact HL3E.out.symm)
                        rw [← HNQ.out] at hnx
                        exact ⟨i + 1, ne, (out ++ [(c, be)]), HLT.out, by go_num, HSP.out, hnx, by rw [List.length_append]; have := HOI.out; simp; omega⟩
                      case measure => have := HLT.out; simp [intOf]; omega
                    · go_wp2_with fail
                      go_ret
                      have HS9 := HS8
                      exact ⟨_, (HM2.out.done HR.out.symm HAT.out.1 HFM.out HAT.out.2.2.2.2.2 HLB.out (Or.inr (by rw [← HNQ.out]; exact HL3E.out.symm))), by rw [List.length_append]; have := HOI.out; have := HLL.out; have := HLT.out; simp; omega, _, rfl, owns_mono HS9.out.own HB3.out.size, HB3.out.grown HS9.out.grown HB3.out.size (fun k hk => by injection hk with hk; have := HN3.out.1; have := HNA.out; omega)⟩
                · have HM2 := Lib.hid (show Md a b P x out from (show midS c x out = out from HMS2.out.trans rfl) ▸ HM.out)
                  have r3 := box_s3 HG5.out
                  have r4 := box_s4 HG5.out
                  have r5 := box_s5 HG5.out
                  go_wp2_with fail
                  clear r3 r4 r5
                  refine (HNE.out _).mono ?_
                  rintro e w6 ⟨rfl, hb⟩
                  have HS6 := Lib.hid (HS5.out.later hb)
                  clear hb
                  have HBM := Lib.hid (show Below w6.heap.size w6 (w6.alloc (boxA ne)) from (Below.refl _ _).alloc (Nat.le_refl _) _)
                  have HGN := Lib.hid (heap_alloc_new w6 (boxA ne))
                  have HS7 := Lib.hid (HS6.out.later HBM.out)
                  cases nok
                  · go_wp2_with fail
                    go_ret
                    have HS9 := HS7
                    exact ⟨_, (HM2.out.done HR.out.symm HAT.out.1 HFM.out HAT.out.2.2.2.2.2 HLB.out (Or.inl (by rw [← HNQ.out]))), by have := HOI.out; have := HLL.out; have := HLT.out; omega, _, rfl, owns_mono HS9.out.own HB3.out.size, HB3.out.grown HS9.out.grown HB3.out.size (fun k hk => by injection hk with hk; have := HN3.out.1; have := HNA.out; omega)⟩
                  · have HL3 := Lib.hid (fun W => Pfx.less b ne W)
                    obtain ⟨l3, hl3⟩ : ∃ l3, l3 = lessA b ne := ⟨_, rfl⟩
                    rw [← hl3] at HL3
                    have HL3E := Lib.hid hl3
                    clear hl3
                    have q0 := box_n0 HS7.out.gb
                    have q1 := box_n1 HS7.out.gb
                    have q2 := box_n2 HS7.out.gb
                    go_wp2_with fail
                    clear q0 q1 q2
                    refine (HL3.out _).mono ?_
                    rintro e w8 ⟨rfl, hb⟩
                    have HS8 := Lib.hid (HS7.out.later hb)
                    have HGN8 := Lib.hid (blk_kept hb HGN.out)
                    clear hb
                    cases l3
                    · have q0 := box_n0 HGN8.out
                      have q1 := box_n1 HGN8.out
                      have q2 := box_n2 HGN8.out
                      have p0 := box_n0 HS8.out.gc
                      have p1 := box_n1 HS8.out.gc
                      have p2 := box_n2 HS8.out.gc
                      have pf : ∀ j, w8.frozen? ⟨g8, j, none⟩ = false := fun j => by rw [blk_frozen HS8.out.gc]; simp
                      have HSP := Lib.hid (HS8.out.put HN3.out.1 HN3.out.2.1 HN3.out.2.2 ne)
                      go_wp2_with fail
                      clear p0 p1 p2 q0 q1 q2 pf
                      go_roundw
                      case rel =>
                        have hnx := HNX.out _ HFM.out HLC.out HM2.out (by rw [← HNQ.out]) (by rw [← HNQ.out]; exact HL3E.out.symm)
                        rw [← HNQ.out] at hnx
                        exact ⟨i + 1, ne, out, HLT.out, by go_num, HSP.out, hnx, by have := HOI.out; omega⟩
                      case measure => have := HLT.out; simp [intOf]; omega
                    · go_wp2_with fail
                      go_ret
                      have HS9 := HS8
                      exact ⟨_, (HM2.out.done HR.out.symm HAT.out.1 HFM.out HAT.out.2.2.2.2.2 HLB.out (Or.inr (by rw [← HNQ.out]; exact HL3E.out.symm))), by have := HOI.out; have := HLL.out; have := HLT.out; omega, _, rfl, owns_mono HS9.out.own HB3.out.size, HB3.out.grown HS9.out.grown HB3.out.size (fun k hk => by injection hk with hk; have := HN3.out.1; have := HNA.out; omega)⟩
            · have HE := Lib.hid (HBR.out HT.out.symm)
              have HL9 := Lib.hid (show out.length + 1 ≤ 1099511627776 by have := HOL2.out; omega)
              have HZ9 := Lib.hid (show w3.heap.size ≤ w2.heap.size from HS2.out.grown.size)
              have p0 := box_n0 HS2.out.gc
              have p1 := box_n1 HS2.out.gc
              have p2 := box_n2 HS2.out.gc
              have q0 := box_n0 HS2.out.gb
              have q1 := box_n1 HS2.out.gb
              have q2 := box_n2 HS2.out.gb
              go_wp2_with (at_builtin; refine wpList_append1b rfl (.tmp 79) (.tmp 83) 28 rfl w3.heap.size TE _ 6 48 Try.underlying28 infoE rfl (by decide) _ out.length _ (encC (c, b)) rfl HS2.out.own _ 1 rfl rfl rfl (encC_one1 (c, b)) HL9.out (by decide) HZ9.out ?_; intro v5 w5 ho5 hgr5 hv5; have HS9 := Lib.hid (HS2.out.append HN3.out.1 HN3.out.2.1 HN3.out.2.2 (x := (c, b)) ho5 hgr5); clear ho5 hgr5 hv5 p0 p1 p2 q0 q1 q2)
              go_ret
              exact ⟨_, HE.out, by rw [List.length_append]; have := HOI.out; have := HLL.out; simp; omega, _, rfl, owns_mono HS9.out.own HB3.out.size, HB3.out.grown HS9.out.grown HB3.out.size (fun k hk => by injection hk with hk; have := HN3.out.1; have := HNA.out; omega)⟩
          · go_wp2_with fail
            go_roundw
            case rel => exact ⟨i + 1, c, out, HLT.out, by go_num, HS1.out, HSK.out (Or.inr HP.out.symm), by have := HOI.out; omega⟩
            case measure => have := HLT.out; simp [intOf]; omega
      · obtain rfl : i = l.length := by omega
        have k2 : ¬ (l.length : Int) < (l.length : Int) := by omega
        have HE := Lib.hid (hfr.end HSET.out rfl)
        clear hst hfr hol hol2 hlt hi
        have HL9 := Lib.hid (show out.length + 1 ≤ 1099511627776 by have := HOL2.out; omega)
        have HZ9 := Lib.hid (show w3.heap.size ≤ wr.heap.size from HS.out.grown.size)
        have p0 := box_n0 HS.out.gc
        have p1 := box_n1 HS.out.gc
        have p2 := box_n2 HS.out.gc
        have q0 := box_n0 HS.out.gb
        have q1 := box_n1 HS.out.gb
        have q2 := box_n2 HS.out.gb
        go_wp2_with (at_builtin; refine wpList_append1b rfl (.tmp 79) (.tmp 83) 28 rfl w3.heap.size TE _ 6 48 Try.underlying28 infoE rfl (by decide) _ out.length _ (encC (c, b)) rfl HS.out.own _ 1 rfl rfl rfl (encC_one1 (c, b)) HL9.out (by decide) HZ9.out ?_; intro v5 w5 ho5 hgr5 hv5; have HS9 := Lib.hid (HS.out.append HN3.out.1 HN3.out.2.1 HN3.out.2.2 (x := (c, b)) ho5 hgr5); clear ho5 hgr5 hv5 p0 p1 p2 q0 q1 q2)
        go_ret
        exact ⟨_, HE.out, by rw [List.length_append]; have := HOI.out; have := HLL.out; simp; omega, _, rfl, owns_mono HS9.out.own HB3.out.size, HB3.out.grown HS9.out.grown HB3.out.size (fun k hk => by injection hk with hk; have := HN3.out.1; have := HNA.out; omega)⟩
end Go.Proofs.Try.Gp
