/- The document's edits done one behind the other. -/
import Derived.Test.YtkeaalacepjadaaDoorVu6
import Derived.Test.YtkeaalacepjadaaDoorVH
set_option linter.unusedVariables false
set_option linter.unusedSimpArgs false
set_option maxRecDepth 100000
namespace Go.Proofs.Tryd.Vr
open Go.RowKit Go.Cph Go.Cph.Skip Go.Cph.So Go.Cph.Ve
open Go.Proofs.Tryd.Sq (row_kept1 grown_below grown_set encU encU_len TU TUs infoU)

theorem drop_sub : ∀ (ds : List UInt64) (L M : List Tb), ds.foldl dropStep (some L) = some M → ∀ t ∈ M, t ∈ L
  | [], L, M, h => by cases h; exact fun t ht => ht
  | n :: ds, L, M, h => by
    rw [List.foldl_cons] at h
    by_cases hn : hasN L n = true
    · have e : dropStep (some L) n = some (lessN L n) := by unfold dropStep; simp [hn]
      rw [e] at h
      exact fun t ht => (List.mem_filter.1 (drop_sub ds _ M h t ht)).1
    · have e : dropStep (some L) n = none := by unfold dropStep; simp [hn]
      rw [e, drop_none] at h
      cases h
theorem doD_mem {L : List Tb} {m : Nm} {d : Ed} {t : Tb} (h : t ∈ (doD L m d).2.1) : t ∈ L ∨ t ∈ d.1 := by
  unfold doD at h
  cases hd : dropL L d.2.1 with
  | none => rw [hd] at h; cases h
  | some M =>
    rw [hd] at h
    dsimp only at h
    cases ha : addL M d.1 with
    | none => rw [ha] at h; cases h
    | some N =>
      rw [ha] at h
      dsimp only at h
      split at h
      · dsimp only at h
        rw [addL_app ha] at h
        rcases List.mem_append.1 h with h | h
        · exact .inl (drop_sub _ _ _ hd t h)
        · exact .inr h
      · cases h
theorem doD_small {L : List Tb} {m : Nm} {d : Ed} (h1 : SmallL L) (h2 : SmallL d.1) : SmallL (doD L m d).2.1 := fun t ht => by
  rcases doD_mem ht with h | h
  · exact h1 t h
  · exact h2 t h
/-- The world in the middle of the document's Apply. -/
structure DAp (w : World) (u : Dn) (M : List Tb) (W : World) : Prop where
  box : W.heap[w.heap.size]? = some (boxD u)
  res : W.heap[w.heap.size + 1]? = some boxDZ
  row : FarT W u.l M w.heap.size (w.heap.size + 2)
  bel : Below w.heap.size w W
theorem DAp.kept {w W W' : World} {u : Dn} {M : List Tb} (h : DAp w u M W) (hb : Below W.heap.size W W') : DAp w u M W' :=
  ⟨blk_kept hb h.box, blk_kept hb h.res, h.row.kept hb, below_step h.bel hb h.bel.size⟩
def SepT (v : Value) (L : List Tb) (lo hi : Nat) : Prop := 0 < L.length → ∀ a n c, v = .slice (some a) n c → a.block < lo ∨ hi ≤ a.block
theorem sep_nil (lo hi : Nat) : SepT (.slice none 0 0) [] lo hi := fun h => absurd h (by simp)
theorem sep_new {W : World} {v : Value} {M : List Tb} {base lo hi : Nat} (h : W.ownsRow base TE 8 v M.length (M.flatMap encC)) (hb : hi ≤ base) : SepT v M lo hi := (FarT.new (lo := lo) h hb).2
def DApInv (L : List Tb) (m : Nm) (ds : List Ed) (i : Nat) (M : List Tb) (u : Dn) : Prop :=
  editsD L m (ds.take i) = (0, M, u.log, u.seq, u.nxt) ∧ SmallL M ∧ M.length + sumA (ds.drop i) ≤ 100000

set_option maxHeartbeats 16000000 in
theorem dapply_any (P : Value → List Tb → Prop) (d : Dn) (av : Value) (es : List Es) (L : List Tb) (ds : List Ed) (w : World) (h : TbsAt w d.l L) (hE : EdsAt w av es ds) (hs : SmallL L) (hs2 : ∀ e ∈ ds, SmallL e.1)
    (hn : L.length + sumA ds ≤ 100000) (hd : ∀ e ∈ ds, e.2.1.length ≤ 100000) (hdn : ds.length ≤ 100000) (hpd : P d.l L) (hp0 : P (.slice none 0 0) []) (hpn : ∀ (v : Value) (M : List Tb) (W : World), W.ownsRow w.heap.size TE 8 v M.length (M.flatMap encC) → P v M) :
    Calls Tryd.prog 10 #[encD d, av] w (DDoPost P (applyD L (d.log, d.seq, d.nxt) ds) w) := by
  obtain ⟨lao, lcap, hv⟩ := elems_slice h
  obtain ⟨dl, log, seq, nxt⟩ := d
  dsimp only at hv h hpd
  subst hv
  obtain ⟨ao, cap, hav⟩ := elems_slice hE.row
  rw [hE.len] at hav
  have hb2 : Below w.heap.size w ((w.alloc (boxD ⟨.slice lao L.length lcap, log, seq, nxt⟩)).alloc boxDZ) := bel2 _ _
  have hst : DAp w ⟨.slice lao L.length lcap, log, seq, nxt⟩ L ((w.alloc (boxD ⟨.slice lao L.length lcap, log, seq, nxt⟩)).alloc boxDZ) := ⟨blk_alloc (heap_alloc_new _ _) _, alloc2_new w _ _, (FarT.old h _).kept hb2, hb2⟩
  have HST := Lib.hid hst
  have HE := Lib.hid (show ∀ W, Below w.heap.size w W → EdsAt W av es ds from fun W hb => hE.kept hb)
  have HEL := Lib.hid hE.len
  have HAV := Lib.hid hav
  have HN := Lib.hid hn
  have HD := Lib.hid hd
  have HDN := Lib.hid hdn
  have HSL := Lib.hid hs
  have HS2 := Lib.hid hs2
  have HP0 := Lib.hid (show P (.slice none 0 0) [] from hp0)
  have HPN := Lib.hid (show ∀ (v : Value) (M : List Tb) (W : World), W.ownsRow w.heap.size TE 8 v M.length (M.flatMap encC) → P v M from hpn)
  have HPD := Lib.hid (show P (.slice lao L.length lcap) L from hpd)
  have HC := Lib.hid (dright_any ⟨.slice lao L.length lcap, log, seq, nxt⟩ L _ hst.row.1 (by omega) hs)
  have hbx := hst.box
  have d0 : ((w.alloc (boxD ⟨.slice lao L.length lcap, log, seq, nxt⟩)).alloc boxDZ).cell? ⟨w.heap.size, 0, none⟩ = some (.slice lao L.length lcap) := (blk_cell hbx 0).trans rfl
  have d1 : ((w.alloc (boxD ⟨.slice lao L.length lcap, log, seq, nxt⟩)).alloc boxDZ).cell? ⟨w.heap.size, 1, none⟩ = some (.int .u64 (log.toNat : Int)) := (blk_cell hbx 1).trans rfl
  have d2 : ((w.alloc (boxD ⟨.slice lao L.length lcap, log, seq, nxt⟩)).alloc boxDZ).cell? ⟨w.heap.size, 2, none⟩ = some (.int .u64 (seq.toNat : Int)) := (blk_cell hbx 2).trans rfl
  have d3 : ((w.alloc (boxD ⟨.slice lao L.length lcap, log, seq, nxt⟩)).alloc boxDZ).cell? ⟨w.heap.size, 3, none⟩ = some (.int .u64 (nxt.toNat : Int)) := (blk_cell hbx 3).trans rfl
  rw [hav]
  clear h hE hs hs2 hn hd hdn hpd hp0 hpn hb2 hst hav hbx
  go_enter Tryd.func10, Tryd.ntmps10
  go_wp2_with fail
  refine HC.out.mono ?_
  rintro e w5 ⟨rb, rfl, hrb, hb5⟩
  have HRB := Lib.hid hrb
  have HT5 := Lib.hid (HST.out.kept hb5)
  clear HC hrb hb5 HST d0 d1 d2 d3
  cases rb
  · have HV := Lib.hid (show applyD L (log, seq, nxt) ds = (1, [], 0, 0, 0) from by
      unfold applyD
      refine if_neg fun h => ?_
      have := HRB.out.2 (rightDB_iff.1 h)
      cases this)
    have hz5 := HT5.out.res
    have z0 : w5.cell? ⟨w.heap.size + 1, 0, none⟩ = some (.slice none 0 0) := (blk_cell hz5 0).trans rfl
    have z1 : w5.cell? ⟨w.heap.size + 1, 1, none⟩ = some (.int .u64 0) := (blk_cell hz5 1).trans rfl
    have z2 : w5.cell? ⟨w.heap.size + 1, 2, none⟩ = some (.int .u64 0) := (blk_cell hz5 2).trans rfl
    have z3 : w5.cell? ⟨w.heap.size + 1, 3, none⟩ = some (.int .u64 0) := (blk_cell hz5 3).trans rfl
    have fz : ∀ q, w5.frozen? ⟨w.heap.size + 1, q, none⟩ = false := fun q => (blk_frozen hz5 q).trans (by simp)
    have HP := Lib.hid (box_putDZ (b := w.heap.size + 1) hz5)
    have HBP := Lib.hid (below_putDZ HT5.out.bel (b := w.heap.size + 1) (by omega))
    clear hz5
    go_wp2_with fail
    exact bodyPost_ret (v := .tuple #[encD zDn, .int .i64 1]) (results_row_tmpD Tryd.results10 _ _ (w.heap.size + 1) TDn _ (0, 0) _ _ rfl rfl HP.out Tryd.underlying32 rfl (by kernel_rfl)) rfl (zpost HV.out HP0.out HBP.out)
  · have HAP := Lib.hid (show applyD L (log, seq, nxt) ds = editsD L (log, seq, nxt) ds from by
      unfold applyD
      exact if_pos (rightDB_iff.2 (HRB.out.1 (by first | rfl | trivial))))
    have HI0 := Lib.hid (show DApInv L (log, seq, nxt) ds 0 L ⟨.slice lao L.length lcap, log, seq, nxt⟩ from ⟨rfl, HSL.out, HN.out⟩)
    go_wp2_with fail
    go_loopw [6] (fun vi W => ∃ (i : Nat) (M : List Tb) (uo : Option Addr) (uc : Nat) (ul us un : UInt64), i ≤ ds.length ∧ vi = .int .i64 (i : Int) ∧ Hid (DApInv L (log, seq, nxt) ds i M ⟨.slice uo M.length uc, ul, us, un⟩) ∧ Hid (DAp w ⟨.slice uo M.length uc, ul, us, un⟩ M W) ∧ Hid (P (.slice uo M.length uc) M)) (fun vi _ => ds.length - (intOf vi).toNat)
    case atStart => exact ⟨0, L, lao, lcap, log, seq, nxt, Nat.zero_le _, rfl, HI0, HT5, HPD⟩
    case round =>
      clear HI0 HT5
      obtain ⟨i, M, uo, uc, ul, us, un, hi, rfl, HI, HT, HPU⟩ := hrel
      by_cases hlt : i < ds.length
      · have HE4 := Lib.hid (HE.out wr HT.out.bel)
        have hrow := HE4.out.row
        rw [HAV.out] at hrow
        obtain ⟨eb, eoff, ecap, hve, hcs⟩ := elems_shape encEc_len hrow (by rw [HEL.out]; omega)
        injection hve with hx1 hx2 hx3
        subst hx1
        have hle : i < es.length := by rw [HEL.out]; omega
        have hcx := hcs i hle
        obtain ⟨x, hx⟩ : ∃ x, x = es[i] := ⟨_, rfl⟩
        have hat := HE4.out.at' i hle hlt
        rw [← hx] at hcx hat
        obtain ⟨ea, edr, el, eq, en⟩ := x
        obtain ⟨tao, tc, hta⟩ := elems_slice hat.add
        obtain ⟨dao, dc, hda⟩ := elems_slice hat.drop
        dsimp only at hta hda
        subst hta hda
        obtain ⟨e, he⟩ : ∃ d, d = ds[i] := ⟨_, rfl⟩
        have HDE := Lib.hid he
        rw [← he] at hat hcx
        have HAT := Lib.hid hat
        have b0 : wr.cell? ⟨eb, eoff + i * 5, none⟩ = some (.slice tao e.1.length tc) := hcx 0 (by omega)
        have b1 : wr.cell? ⟨eb, eoff + i * 5 + 1, none⟩ = some (.slice dao e.2.1.length dc) := hcx 1 (by omega)
        have b2 : wr.cell? ⟨eb, eoff + i * 5 + 2, none⟩ = some (.int .u64 (el.toNat : Int)) := hcx 2 (by omega)
        have b3 : wr.cell? ⟨eb, eoff + i * 5 + 3, none⟩ = some (.int .u64 (eq.toNat : Int)) := hcx 3 (by omega)
        have b4 : wr.cell? ⟨eb, eoff + i * 5 + 4, none⟩ = some (.int .u64 (en.toNat : Int)) := hcx 4 (by omega)
        have j1 : (0 : Int) ≤ (i : Int) := by omega
        have j2 : (i : Int) < (ds.length : Int) := by omega
        have j4 : IntKind.i64.wrap ((i : Int) + 1) = (i : Int) + 1 := by have := HDN.out; rw [IntKind.wrap_i64]; omega
        have HSM := Lib.hid (sum_drop hlt)
        have HSE := Lib.hid (show SmallL e.1 from by rw [he]; exact HS2.out _ (List.getElem_mem _))
        have hbx := HT.out.box
        have c0 : wr.cell? ⟨w.heap.size, 0, none⟩ = some (.slice uo M.length uc) := (blk_cell hbx 0).trans rfl
        have c1 : wr.cell? ⟨w.heap.size, 1, none⟩ = some (.int .u64 (ul.toNat : Int)) := (blk_cell hbx 1).trans rfl
        have c2 : wr.cell? ⟨w.heap.size, 2, none⟩ = some (.int .u64 (us.toNat : Int)) := (blk_cell hbx 2).trans rfl
        have c3 : wr.cell? ⟨w.heap.size, 3, none⟩ = some (.int .u64 (un.toNat : Int)) := (blk_cell hbx 3).trans rfl
        have HLT := Lib.hid hlt
        obtain ⟨r, hr⟩ : ∃ r, r = doD M (ul, us, un) e := ⟨_, rfl⟩
        have HR := Lib.hid hr
        have HS9 := Lib.hid (show w.heap.size + 1 < wr.heap.size from blk_lt HT.out.res)
        have hdo := fun (Q : Value → List Tb → Prop) (W : World) (hW : Below wr.heap.size wr W) (q1 : Q (.slice uo M.length uc) M) (q0 : Q (.slice none 0 0) []) (qn : ∀ (v : Value) (M : List Tb) (V : World), V.ownsRow W.heap.size TE 8 v M.length (M.flatMap encC) → Q v M) =>
          ddo_any Q ⟨.slice uo M.length uc, ul, us, un⟩ ⟨.slice tao e.1.length tc, .slice dao e.2.1.length dc, el, eq, en⟩ M e W (HT.out.row.1.kept hW) (HAT.out.kept hW) (by have := HI.out.2.2; have := HSM.out; rw [← he] at this; omega) (HD.out e (by rw [he]; exact List.getElem_mem _)) HI.out.2.1 HSE.out q1 q0 qn
        rw [← hr] at hdo
        have hsz := HT.out.bel.size
        have HC1 := Lib.hid (hdo (fun v M => P v M ∧ SepT v M w.heap.size (w.heap.size + 2)) wr.drew (Below.refl _ _).drew ⟨HPU.out, HT.out.row.2⟩ ⟨HP0.out, sep_nil _ _⟩ (fun v M V hV => ⟨HPN.out v M V (owns_mono hV hsz), sep_new hV (by have := HS9.out; show _ ≤ wr.heap.size; omega)⟩))
        have HC2 := Lib.hid (hdo (fun v M => (P v M ∧ SepT v M w.heap.size (w.heap.size + 2)) ∧ SepT v M wr.heap.size (wr.heap.size + 1)) ((wr.alloc boxDZ).drew) (below_of_alloc _).drew ⟨⟨HPU.out, HT.out.row.2⟩, (FarT.old HT.out.row.1 _).2⟩ ⟨⟨HP0.out, sep_nil _ _⟩, sep_nil _ _⟩ (fun v M V hV => ⟨⟨HPN.out v M V (owns_mono hV (by show w.heap.size ≤ (World.heap (wr.alloc boxDZ)).size; rw [World.size_alloc]; omega)), sep_new hV (by show _ ≤ (World.heap (wr.alloc boxDZ)).size; rw [World.size_alloc]; have := HS9.out; omega)⟩, sep_new hV (by show _ ≤ (World.heap (wr.alloc boxDZ)).size; rw [World.size_alloc]; omega)⟩))
        obtain ⟨z, hz⟩ : ∃ z, z = r.1 := ⟨_, rfl⟩
        unfold DDoPost at HC1 HC2
        rw [← hz] at HC1 HC2
        have HZ := Lib.hid hz
        clear hrow hx2 hx3 hcs hcx hx hat hbx hr hdo hz hsz he
        go_upto_region 6 with fail
        go_cut [7, 8] (fun v7 v8 W => v8 = .int .i64 z ∧ ∃ (b7 : Nat) (vo : Option Addr) (vc : Nat) (vl vs vn : UInt64), v7 = .pointer (some ⟨b7, 0, none⟩) ∧ Hid (W.heap[b7]? = some (boxD ⟨.slice vo r.2.1.length vc, vl, vs, vn⟩)) ∧ Hid (TbsAt W (.slice vo r.2.1.length vc) r.2.1 ∧ (P (.slice vo r.2.1.length vc) r.2.1 ∧ SepT (.slice vo r.2.1.length vc) r.2.1 w.heap.size (w.heap.size + 2)) ∧ (vl, vs, vn) = r.2.2) ∧ Hid (Below wr.heap.size wr W))
        case first =>
          have HCLS := Lib.hid (show ∀ W, Below wr.heap.size wr W → W.cell? ⟨w.heap.size, 0, none⟩ = some (.slice uo M.length uc) ∧ W.cell? ⟨w.heap.size, 1, none⟩ = some (.int .u64 (ul.toNat : Int)) ∧ W.cell? ⟨w.heap.size, 2, none⟩ = some (.int .u64 (us.toNat : Int)) ∧ W.cell? ⟨w.heap.size, 3, none⟩ = some (.int .u64 (un.toNat : Int)) ∧ W.cell? ⟨eb, eoff + i * 5, none⟩ = some (.slice tao e.1.length tc) ∧ W.cell? ⟨eb, eoff + i * 5 + 1, none⟩ = some (.slice dao e.2.1.length dc) ∧ W.cell? ⟨eb, eoff + i * 5 + 2, none⟩ = some (.int .u64 (el.toNat : Int)) ∧ W.cell? ⟨eb, eoff + i * 5 + 3, none⟩ = some (.int .u64 (eq.toNat : Int)) ∧ W.cell? ⟨eb, eoff + i * 5 + 4, none⟩ = some (.int .u64 (en.toNat : Int)) from fun W hb => ⟨cell_kept hb c0, cell_kept hb c1, cell_kept hb c2, cell_kept hb c3, cell_kept hb b0, cell_kept hb b1, cell_kept hb b2, cell_kept hb b3, cell_kept hb b4⟩)
          have q1 : eb < wr.heap.size := World.block_lt_of_cell? _ _ b0
          have q2 : w.heap.size < wr.heap.size := World.block_lt_of_cell? _ _ c0
          have n1 : wr.heap.size ≠ w.heap.size := by omega
          have n2 : wr.heap.size ≠ eb := by omega
          have n3 : w.heap.size ≠ wr.heap.size := by omega
          have n4 : eb ≠ wr.heap.size := by omega
          go_region_held3 (fun W => W.cell? ⟨w.heap.size, 0, none⟩ = some (.slice uo M.length uc) ∧ W.cell? ⟨w.heap.size, 1, none⟩ = some (.int .u64 (ul.toNat : Int)) ∧ W.cell? ⟨w.heap.size, 2, none⟩ = some (.int .u64 (us.toNat : Int)) ∧ W.cell? ⟨w.heap.size, 3, none⟩ = some (.int .u64 (un.toNat : Int)) ∧ W.cell? ⟨eb, eoff + i * 5, none⟩ = some (.slice tao e.1.length tc) ∧ W.cell? ⟨eb, eoff + i * 5 + 1, none⟩ = some (.slice dao e.2.1.length dc) ∧ W.cell? ⟨eb, eoff + i * 5 + 2, none⟩ = some (.int .u64 (el.toNat : Int)) ∧ W.cell? ⟨eb, eoff + i * 5 + 3, none⟩ = some (.int .u64 (eq.toNat : Int)) ∧ W.cell? ⟨eb, eoff + i * 5 + 4, none⟩ = some (.int .u64 (en.toNat : Int)))
            (go_keep)
            (first | (go_at_call 29; refine HC1.out.mono ?_; rintro e w3 ⟨u, rfl, ht, hp, hnm, hb⟩; obtain ⟨vo, vc, hvl⟩ := elems_slice ht; obtain ⟨vl0, vl, vs, vn⟩ := u; dsimp only at hvl ht hp hnm; subst hvl; have HT3 := Lib.hid ht; have HP3 := Lib.hid hp; have HNM3 := Lib.hid hnm; have HB3 := Lib.hid (show Below wr.heap.size wr w3 from below_step (Below.refl _ _).drew hb (Nat.le_refl _)); have hcl := HCLS.out w3 HB3.out; obtain ⟨s0, s1, s2, s3, s4, s5, s6, s7, s8⟩ := hcl; clear ht hp hnm hb) | (go_at_call 29; refine HC2.out.mono ?_; rintro e w3 ⟨u, rfl, ht, hp, hnm, hb⟩; obtain ⟨vo, vc, hvl⟩ := elems_slice ht; obtain ⟨vl0, vl, vs, vn⟩ := u; dsimp only at hvl ht hp hnm; subst hvl; have HT3 := Lib.hid ht; have HP3 := Lib.hid hp; have HNM3 := Lib.hid hnm; have HB3 := Lib.hid (show Below wr.heap.size wr w3 from below_step (below_of_alloc _).drew hb (by show wr.heap.size ≤ (World.heap (wr.alloc boxDZ)).size; rw [World.size_alloc]; omega)); have hcl := HCLS.out w3 HB3.out; obtain ⟨s0, s1, s2, s3, s4, s5, s6, s7, s8⟩ := hcl; have HZ3 := Lib.hid (show w3.heap[wr.heap.size]? = some boxDZ from blk_kept hb (heap_alloc_new wr boxDZ)); have z0 : w3.cell? ⟨wr.heap.size, 0, none⟩ = some (.slice none 0 0) := (blk_cell HZ3.out 0).trans rfl; have z1 : w3.cell? ⟨wr.heap.size, 1, none⟩ = some (.int .u64 0) := (blk_cell HZ3.out 1).trans rfl; have z2 : w3.cell? ⟨wr.heap.size, 2, none⟩ = some (.int .u64 0) := (blk_cell HZ3.out 2).trans rfl; have z3 : w3.cell? ⟨wr.heap.size, 3, none⟩ = some (.int .u64 0) := (blk_cell HZ3.out 3).trans rfl; have zf : ∀ q, w3.frozen? ⟨wr.heap.size, q, none⟩ = false := (fun q => (blk_frozen HZ3.out q).trans (by simp)); clear ht hp hnm hb))
          all_goals go_wp2_with fail
          all_goals go_meet
          · exact ⟨by first | rfl | trivial, _, vo, vc, vl, vs, vn, rfl, Lib.hid (heap_alloc_new _ _), Lib.hid ⟨HT3.out.kept (below_of_alloc _), by first | exact HP3.out.1 | exact HP3.out, HNM3.out⟩, Lib.hid (HB3.out.alloc HB3.out.size _)⟩
          · exact ⟨by first | rfl | trivial, _, vo, vc, vl, vs, vn, rfl, Lib.hid (box_putD HZ3.out (by rfl) ⟨.slice vo r.2.1.length vc, vl, vs, vn⟩), Lib.hid ⟨(far_putD (lo := wr.heap.size) (hi := wr.heap.size + 1) ⟨HT3.out, HP3.out.2⟩ (Nat.le_refl _) (Nat.lt_succ_self _) ⟨.slice vo r.2.1.length vc, vl, vs, vn⟩).1, HP3.out.1, HNM3.out⟩, Lib.hid (below_putD HB3.out (Nat.le_refl _) ⟨.slice vo r.2.1.length vc, vl, vs, vn⟩)⟩
        case rest =>
          rename World => w5
          obtain ⟨rfl, b7, vo, vc, vl, vs, vn, rfl, HB7, HTR, HB5⟩ := hcut
          have HT5 := Lib.hid (HT.out.kept HB5.out)
          clear c0 c1 c2 c3 b0 b1 b2 b3 b4
          by_cases hz0 : z = 0
          · subst hz0
            have hb7 := HB7.out
            have x0 : w5.cell? ⟨b7, 0, none⟩ = some (.slice vo r.2.1.length vc) := (blk_cell hb7 0).trans rfl
            have x1 : w5.cell? ⟨b7, 1, none⟩ = some (.int .u64 (vl.toNat : Int)) := (blk_cell hb7 1).trans rfl
            have x2 : w5.cell? ⟨b7, 2, none⟩ = some (.int .u64 (vs.toNat : Int)) := (blk_cell hb7 2).trans rfl
            have x3 : w5.cell? ⟨b7, 3, none⟩ = some (.int .u64 (vn.toNat : Int)) := (blk_cell hb7 3).trans rfl
            have hbx := HT5.out.box
            have y0 : w5.cell? ⟨w.heap.size, 0, none⟩ = some (.slice uo M.length uc) := (blk_cell hbx 0).trans rfl
            have y1 : w5.cell? ⟨w.heap.size, 1, none⟩ = some (.int .u64 (ul.toNat : Int)) := (blk_cell hbx 1).trans rfl
            have y2 : w5.cell? ⟨w.heap.size, 2, none⟩ = some (.int .u64 (us.toNat : Int)) := (blk_cell hbx 2).trans rfl
            have y3 : w5.cell? ⟨w.heap.size, 3, none⟩ = some (.int .u64 (un.toNat : Int)) := (blk_cell hbx 3).trans rfl
            have fz : ∀ q, w5.frozen? ⟨w.heap.size, q, none⟩ = false := fun q => (blk_frozen hbx q).trans (by simp)
            have HP := Lib.hid (box_putD hbx (by rfl) ⟨.slice vo r.2.1.length vc, vl, vs, vn⟩)
            have HD2 := Lib.hid (show DAp w ⟨.slice vo r.2.1.length vc, vl, vs, vn⟩ r.2.1 (putD w5 w.heap.size ⟨.slice vo r.2.1.length vc, vl, vs, vn⟩) from
              ⟨box_putD hbx (by rfl) _, by
                have e : ∀ (W : World) (q : Nat) (x : Value), (W.setCell ⟨w.heap.size, q, none⟩ x).heap[w.heap.size + 1]? = W.heap[w.heap.size + 1]? := fun W q x => blk_set_other (by show w.heap.size + 1 ≠ w.heap.size; omega)
                rw [e, e, e, e]; exact HT5.out.res, far_putD ⟨HTR.out.1, HTR.out.2.1.2⟩ (Nat.le_refl _) (by omega) _, below_putD HT5.out.bel (Nat.le_refl _) _⟩)
            have HI2 := Lib.hid (show DApInv L (log, seq, nxt) ds (i + 1) r.2.1 ⟨.slice vo r.2.1.length vc, vl, vs, vn⟩ from by
              refine ⟨?_, ?_, ?_⟩
              · rw [edits_next HLT.out HI.out.1, ← HDE.out, ← HR.out]
                exact Prod.ext HZ.out.symm (Prod.ext rfl HTR.out.2.2.symm)
              · rw [HR.out]; exact doD_small HI.out.2.1 HSE.out
              · have h1 := doD_len M (ul, us, un) e
                have h2 := HSM.out
                rw [← HDE.out] at h2
                have h3 := HI.out.2.2
                rw [← HR.out] at h1
                omega)
            clear hb7 hbx
            go_wp2_with fail
            go_roundw
            case rel => exact ⟨i + 1, r.2.1, vo, vc, vl, vs, vn, hlt, by first | rfl | (congr 1), HI2, HD2, Lib.hid HTR.out.2.1.1⟩
            case measure => simp [intOf]; omega
          · have hzb : (z != 0) = true := by simpa using hz0
            have HR6 := Lib.hid (show editsD L (log, seq, nxt) ds = (z, [], 0, 0, 0) from by
              rw [edits_stop HLT.out HI.out.1 (by rw [← HDE.out, ← HR.out, ← HZ.out]; exact hz0), ← HDE.out]
              have hb := doD_bad (L := M) (m := (ul, us, un)) (d := e) (by rw [← HR.out, ← HZ.out]; exact hz0)
              rw [← HR.out] at hb ⊢
              exact Prod.ext HZ.out.symm hb)
            have HV := Lib.hid (HAP.out.trans HR6.out)
            clear hz0
            have hz5 := HT5.out.res
            have z0 : w5.cell? ⟨w.heap.size + 1, 0, none⟩ = some (.slice none 0 0) := (blk_cell hz5 0).trans rfl
            have z1 : w5.cell? ⟨w.heap.size + 1, 1, none⟩ = some (.int .u64 0) := (blk_cell hz5 1).trans rfl
            have z2 : w5.cell? ⟨w.heap.size + 1, 2, none⟩ = some (.int .u64 0) := (blk_cell hz5 2).trans rfl
            have z3 : w5.cell? ⟨w.heap.size + 1, 3, none⟩ = some (.int .u64 0) := (blk_cell hz5 3).trans rfl
            have fz : ∀ q, w5.frozen? ⟨w.heap.size + 1, q, none⟩ = false := fun q => (blk_frozen hz5 q).trans (by simp)
            have HP := Lib.hid (box_putDZ (b := w.heap.size + 1) hz5)
            have HBP := Lib.hid (below_putDZ HT5.out.bel (b := w.heap.size + 1) (by omega))
            clear hz5
            go_wp2_with fail
            exact bodyPost_ret (v := .tuple #[encD zDn, .int .i64 z]) (results_row_tmpD Tryd.results10 _ _ (w.heap.size + 1) TDn _ (0, 0) _ _ rfl rfl HP.out Tryd.underlying32 rfl (by kernel_rfl)) rfl (zpost HV.out HP0.out HBP.out)
      · have hil : i = ds.length := by omega
        subst hil
        have i1 : ¬ (ds.length : Int) < (ds.length : Int) := by omega
        have HV := Lib.hid (show applyD L (log, seq, nxt) ds = (0, M, ul, us, un) from by rw [HAP.out]; have := HI.out.1; rwa [List.take_length] at this)
        have hbx := HT.out.box
        have d0 : wr.cell? ⟨w.heap.size, 0, none⟩ = some (.slice uo M.length uc) := (blk_cell hbx 0).trans rfl
        have d1 : wr.cell? ⟨w.heap.size, 1, none⟩ = some (.int .u64 (ul.toNat : Int)) := (blk_cell hbx 1).trans rfl
        have d2 : wr.cell? ⟨w.heap.size, 2, none⟩ = some (.int .u64 (us.toNat : Int)) := (blk_cell hbx 2).trans rfl
        have d3 : wr.cell? ⟨w.heap.size, 3, none⟩ = some (.int .u64 (un.toNat : Int)) := (blk_cell hbx 3).trans rfl
        have hz5 := HT.out.res
        have z0 : wr.cell? ⟨w.heap.size + 1, 0, none⟩ = some (.slice none 0 0) := (blk_cell hz5 0).trans rfl
        have z1 : wr.cell? ⟨w.heap.size + 1, 1, none⟩ = some (.int .u64 0) := (blk_cell hz5 1).trans rfl
        have z2 : wr.cell? ⟨w.heap.size + 1, 2, none⟩ = some (.int .u64 0) := (blk_cell hz5 2).trans rfl
        have z3 : wr.cell? ⟨w.heap.size + 1, 3, none⟩ = some (.int .u64 0) := (blk_cell hz5 3).trans rfl
        have fz : ∀ q, wr.frozen? ⟨w.heap.size + 1, q, none⟩ = false := fun q => (blk_frozen hz5 q).trans (by simp)
        have HP := Lib.hid (box_putD (b := w.heap.size + 1) hz5 (by rfl) ⟨.slice uo M.length uc, ul, us, un⟩)
        have HBP := Lib.hid (below_putD HT.out.bel (b := w.heap.size + 1) (by omega) ⟨.slice uo M.length uc, ul, us, un⟩)
        have HFP := Lib.hid (far_putD HT.out.row (b := w.heap.size + 1) (by omega) (by omega) ⟨.slice uo M.length uc, ul, us, un⟩)
        clear hbx hz5
        go_wp2_with fail
        exact bodyPost_ret (v := .tuple #[encD ⟨.slice uo M.length uc, ul, us, un⟩, .int .i64 0]) (results_row_tmpD Tryd.results10 _ _ (w.heap.size + 1) TDn _ (0, 0) _ _ rfl rfl HP.out Tryd.underlying32 rfl (by kernel_rfl)) rfl (by
          rw [HV.out]
          exact ⟨⟨.slice uo M.length uc, ul, us, un⟩, rfl, HFP.out.1, HPU.out, rfl, HBP.out⟩)
end Go.Proofs.Tryd.Vr
