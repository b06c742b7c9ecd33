/- The edit of a plan: the laws' behind. -/
import Derived.Test.YtkeaalacepjadaaDoorWa3
import Derived.Test.YtkeaalacepjadaaDoorWa4
import Derived.Test.YtkeaalacepjadaaDoorVL
import Derived.Test.YtkeaalacepjadaaDoorVI
set_option linter.unusedVariables false
set_option linter.unusedSimpArgs false
set_option maxRecDepth 100000
namespace Go.Proofs.Tryd.Vr
open Go.RowKit Go.Cph Go.Cph.Skip Go.Cph.So Go.Cph.Ve
open Go.Proofs.Tryd.Sq (row_kept1 grown_below grown_set encU encU_len TU TUs infoU)

theorem le_yes9 {a b : ByteArray} (h : klt b a = false) : ∃ c : Bool, Op.bytesLess a.toList b.toList = c ∧ (a.toList == b.toList) = !c := by
  rcases klt_three a b with ⟨h1, h2, h3⟩ | ⟨h1, h2, h3⟩ | ⟨h1, h2, h3⟩
  · exact ⟨true, h1, h3⟩
  · exact ⟨false, h1, h3⟩
  · rw [h] at h2; cases h2
theorem le_no9 {a b : ByteArray} (h : klt b a = true) : Op.bytesLess a.toList b.toList = false ∧ (a.toList == b.toList) = false := by
  rcases klt_three a b with ⟨h1, h2, h3⟩ | ⟨h1, h2, h3⟩ | ⟨h1, h2, h3⟩
  · rw [h] at h2; cases h2
  · rw [h] at h2; cases h2
  · exact ⟨h1, h3⟩
theorem fst_next {l : List Tb} {i : Nat} (h : i < l.length) : fstF (l.take (i + 1)) = if i = 0 ∨ klt (tF l[i]) (fstF (l.take i)) = true then tF l[i] else fstF (l.take i) := by
  have h0 : 0 < l.length := by omega
  by_cases hi : i = 0
  · subst hi
    rw [if_pos (.inl rfl)]
    cases l with
    | nil => simp at h
    | cons t l => simp [fstF, lowF]
  · have e : ∀ j, 0 < j → j ≤ l.length → fstF (l.take j) = lowF (l.take j) (tF l[0]) := fun j hj hl => by
      have hp : 0 < (l.take j).length := by rw [List.length_take]; omega
      rw [← fst_all hp, List.getElem_take]
    rw [e (i + 1) (by omega) (by omega), e i (by omega) (by omega), lowF_next h]
    by_cases hk : klt (tF l[i]) (lowF (l.take i) (tF l[0])) = true
    · rw [if_pos hk, if_pos (.inr hk)]
    · rw [if_neg hk, if_neg (fun h => h.elim hi hk)]
theorem lst_next {l : List Tb} {i : Nat} (h : i < l.length) : lstL (l.take (i + 1)) = if i = 0 ∨ klt (lstL (l.take i)) (tL l[i]) = true then tL l[i] else lstL (l.take i) := by
  have h0 : 0 < l.length := by omega
  by_cases hi : i = 0
  · subst hi
    rw [if_pos (.inl rfl)]
    cases l with
    | nil => simp at h
    | cons t l => simp [lstL, topL]
  · have e : ∀ j, 0 < j → j ≤ l.length → lstL (l.take j) = topL (l.take j) (tL l[0]) := fun j hj hl => by
      have hp : 0 < (l.take j).length := by rw [List.length_take]; omega
      rw [← lst_all hp, List.getElem_take]
    rw [e (i + 1) (by omega) (by omega), e i (by omega) (by omega), topL_next h]
    by_cases hk : klt (topL (l.take i) (tL l[0])) (tL l[i]) = true
    · rw [if_pos hk, if_pos (.inr hk)]
    · rw [if_neg hk, if_neg (fun h => h.elim hi hk)]
/-- While the edit is made: the version's box, the plan's box, the edit's box. -/
structure BhSt (w : World) (v : Vn) (p : Pn) (eb : Nat) (d : Value) (ns : List UInt64) (W : World) : Prop where
  bv : W.heap[w.heap.size]? = some (boxV v)
  bp : W.heap[w.heap.size + 1]? = some (boxPn p)
  br : W.heap[w.heap.size + 2]? = some boxEZ
  be : W.heap[eb]? = some (boxE ⟨.slice none 0 0, d, 0, 0, v.nxt + 40⟩)
  row : W.ownsRow (eb + 1) TU 1 d ns.length (ns.flatMap encU)
  le : w.heap.size + 3 ≤ eb
  bel : Below w.heap.size w W
section
variable {w W W' : World} {v : Vn} {p : Pn} {eb : Nat} {d : Value} {ns : List UInt64}
theorem BhSt.kept (h : BhSt w v p eb d ns W) (hb : Below W.heap.size W W') : BhSt w v p eb d ns W' :=
  ⟨blk_kept hb h.bv, blk_kept hb h.bp, blk_kept hb h.br, blk_kept hb h.be, row_kept1 h.row fun q hq => hb.block q (h.row.lt q hq).2, h.le, below_step h.bel hb h.bel.size⟩
theorem BhSt.mid (h : BhSt w v p eb d ns W) (hg : W.grownBy W' d.ownBlock) : W'.heap[eb]? = some (boxE ⟨.slice none 0 0, d, 0, 0, v.nxt + 40⟩) := by
  rw [hg.block _ (blk_lt h.be) (fun e => by have := (h.row.lt eb e.symm).1; omega)]; exact h.be
theorem BhSt.put (h : BhSt w v p eb d ns W) {d' : Value} {ms : List UInt64} (hg : W.grownBy W' d.ownBlock) (ho : W'.ownsRow (eb + 1) TU 1 d' ms.length (ms.flatMap encU)) : BhSt w v p eb d' ms (W'.setCell ⟨eb, 1, none⟩ d') := by
  have hle := h.le
  have far : ∀ b, b ≤ eb → d.ownBlock ≠ some b := fun b hb e => by have := (h.row.lt b e).1; omega
  have hl := blk_lt h.be
  have gs := grown_set W' eb 1 d'
  have mv : ∀ {b o}, b < eb → W.heap[b]? = some o → (W'.setCell ⟨eb, 1, none⟩ d').heap[b]? = some o := fun {b o} hb ho => by
    have h1 : W'.heap[b]? = some o := by rw [hg.block b (by omega) (fun e => far b (by omega) e.symm)]; exact ho
    rw [gs.block b (blk_lt h1) (by intro e; injection e with e; omega)]; exact h1
  refine ⟨mv (by omega) h.bv, mv (by omega) h.bp, mv (by omega) h.br, ?_, row_kept1 ho fun q hq => gs.block q (ho.lt q hq).2 (fun e => by have := (ho.lt q hq).1; injection e with e; omega), hle, ?_⟩
  · rw [blk_set (h.mid hg)]; rfl
  · exact (h.bel.grown hg h.bel.size fun q hq => by have := (h.row.lt q hq).1; omega).setCell (p := ⟨eb, 1, none⟩) (show _ ≤ eb by omega) _
end
abbrev zeroTb9 : Tb := (0, 0, 0, 0, ⟨#[]⟩, ⟨#[]⟩, 0, 0)
def BhPost (A : Nat → List Tb) (k : Nat) (nxt seq : UInt64) (w : World) (e : Ending) (w' : World) : Prop := ∃ x : Es, e = .returned (encE x) ∧ EdAt w' x (moveE A k nxt seq) ∧ Below w.heap.size w w'

set_option maxHeartbeats 16000000 in
theorem behind_any (v : Vn) (A : Nat → List Tb) (k il bl : Nat) (io bo : Option Addr) (ic bc : Nat) (bt : Bool) (w : World) (hi : TbsAt w (.slice io il ic) (inK A k)) (hil : il = (inK A k).length) (hb : TbsAt w (.slice bo bl bc) (belowK A k)) (hbl : bl = (belowK A k).length)
    (hn : il ≤ 1000 ∧ bl ≤ 1000) (hk : k < 3) (hx : v.nxt.toNat ≤ 1099511627726) : Calls Tryd.prog 23 #[encV v, encPn ⟨k, .slice io il ic, .slice bo bl bc, bt⟩] w (BhPost A k v.nxt v.seq w) := by
  have HI := Lib.hid hi
  have HB := Lib.hid hb
  have HIL := Lib.hid hil
  have HBL := Lib.hid hbl
  have HN := Lib.hid hn
  have HK := Lib.hid hk
  have k1 : ((v.nxt.toNat : Int) + 40) % 18446744073709551616 = ((v.nxt + 40).toNat : Int) := by rw [next_toNat hx]; omega
  have HB3 := Lib.hid (show Below w.heap.size w (((w.alloc (boxV v)).alloc (boxPn ⟨k, .slice io il ic, .slice bo bl bc, bt⟩)).alloc boxEZ) from (bel2 _ _).alloc (bel2 _ _).size _)
  have hbv : (((w.alloc (boxV v)).alloc (boxPn ⟨k, .slice io il ic, .slice bo bl bc, bt⟩)).alloc boxEZ).heap[w.heap.size]? = some (boxV v) := blk_alloc (blk_alloc (heap_alloc_new _ _) _) _
  have hbp : (((w.alloc (boxV v)).alloc (boxPn ⟨k, .slice io il ic, .slice bo bl bc, bt⟩)).alloc boxEZ).heap[w.heap.size + 1]? = some (boxPn ⟨k, .slice io il ic, .slice bo bl bc, bt⟩) := blk_alloc (alloc2_new _ _ _) _
  have hs3 : (((w.alloc (boxV v)).alloc (boxPn ⟨k, .slice io il ic, .slice bo bl bc, bt⟩)).alloc boxEZ).heap.size = w.heap.size + 3 := by rw [World.size_alloc, World.size_alloc, World.size_alloc]
  have hbr : (((w.alloc (boxV v)).alloc (boxPn ⟨k, .slice io il ic, .slice bo bl bc, bt⟩)).alloc boxEZ).heap[w.heap.size + 2]? = some boxEZ := by have := heap_alloc_new ((w.alloc (boxV v)).alloc (boxPn ⟨k, .slice io il ic, .slice bo bl bc, bt⟩)) boxEZ; rwa [World.size_alloc, World.size_alloc] at this
  have HST := Lib.hid (show BhSt w v ⟨k, .slice io il ic, .slice bo bl bc, bt⟩ (((w.alloc (boxV v)).alloc (boxPn ⟨k, .slice io il ic, .slice bo bl bc, bt⟩)).alloc boxEZ).heap.size (.slice none 0 0) [] ((((w.alloc (boxV v)).alloc (boxPn ⟨k, .slice io il ic, .slice bo bl bc, bt⟩)).alloc boxEZ).alloc (boxE ⟨.slice none 0 0, .slice none 0 0, 0, 0, v.nxt + 40⟩)) from
    ⟨blk_alloc hbv _, blk_alloc hbp _, blk_alloc hbr _, heap_alloc_new _ _, World.ownsRow_nil _ _ _ _, by rw [hs3]; exact Nat.le_refl _, HB3.out.alloc HB3.out.size _⟩)
  have c0 : (((w.alloc (boxV v)).alloc (boxPn ⟨k, .slice io il ic, .slice bo bl bc, bt⟩)).alloc boxEZ).cell? ⟨w.heap.size, 0, none⟩ = some (v.s0) := (blk_cell hbv 0).trans rfl
  have c1 : (((w.alloc (boxV v)).alloc (boxPn ⟨k, .slice io il ic, .slice bo bl bc, bt⟩)).alloc boxEZ).cell? ⟨w.heap.size, 1, none⟩ = some (v.s1) := (blk_cell hbv 1).trans rfl
  have c2 : (((w.alloc (boxV v)).alloc (boxPn ⟨k, .slice io il ic, .slice bo bl bc, bt⟩)).alloc boxEZ).cell? ⟨w.heap.size, 2, none⟩ = some (v.s2) := (blk_cell hbv 2).trans rfl
  have c3 : (((w.alloc (boxV v)).alloc (boxPn ⟨k, .slice io il ic, .slice bo bl bc, bt⟩)).alloc boxEZ).cell? ⟨w.heap.size, 3, none⟩ = some (v.s3) := (blk_cell hbv 3).trans rfl
  have c4 : (((w.alloc (boxV v)).alloc (boxPn ⟨k, .slice io il ic, .slice bo bl bc, bt⟩)).alloc boxEZ).cell? ⟨w.heap.size, 4, none⟩ = some (.int .u64 (v.log.toNat : Int)) := (blk_cell hbv 4).trans rfl
  have c5 : (((w.alloc (boxV v)).alloc (boxPn ⟨k, .slice io il ic, .slice bo bl bc, bt⟩)).alloc boxEZ).cell? ⟨w.heap.size, 5, none⟩ = some (.int .u64 (v.seq.toNat : Int)) := (blk_cell hbv 5).trans rfl
  have c6 : (((w.alloc (boxV v)).alloc (boxPn ⟨k, .slice io il ic, .slice bo bl bc, bt⟩)).alloc boxEZ).cell? ⟨w.heap.size, 6, none⟩ = some (.int .u64 (v.nxt.toNat : Int)) := (blk_cell hbv 6).trans rfl
  clear hi hb hil hbl hn hk hx hbv hbp hbr
  go_enter Tryd.func23, Tryd.ntmps23
  go_wp2_with fail
  obtain ⟨both, hboth⟩ : ∃ l, l = bothK A k := ⟨_, rfl⟩
  have HBO := Lib.hid hboth
  have hbl2 : both.length = il + bl := by rw [hboth, HIL.out, HBL.out]; unfold bothK; rw [List.length_append]
  have HBLN := Lib.hid hbl2
  clear k1 hboth hbl2 c0 c1 c2 c3 c4 c5 c6
  rw [hs3] at HST
  go_loopw [6, 7, 8] (fun v6 v7 v8 W => ∃ (i : Nat) (f g : ByteArray) (dd : Option Addr) (dc : Nat), i ≤ il + bl ∧ v8 = .int .i64 (i : Int) ∧ v6 = .string f ∧ v7 = .string g ∧ Hid (f = fstF (both.take i) ∧ g = lstL (both.take i)) ∧ Hid (BhSt w v ⟨k, .slice io il ic, .slice bo bl bc, bt⟩ (w.heap.size + 3) (.slice dd i dc) ((both.take i).map tN) W)) (fun _ _ v8 _ => il + bl - (intOf v8).toNat)
  case atStart => exact ⟨0, _, _, none, 0, Nat.zero_le _, rfl, rfl, rfl, Lib.hid ⟨rfl, rfl⟩, HST⟩
  case round =>
    obtain ⟨i, f, g, dd, dc, hi, rfl, rfl, rfl, HFG, HT⟩ := hrel
    have hbp := HT.out.bp
    have p1 : wr.cell? ⟨w.heap.size + 1, 1, none⟩ = some (.slice io il ic) := (blk_cell hbp 1).trans rfl
    have p2 : wr.cell? ⟨w.heap.size + 1, 2, none⟩ = some (.slice bo bl bc) := (blk_cell hbp 2).trans rfl
    have k2 : IntKind.i64.wrap ((il : Int) + (bl : Int)) = ((il + bl : Nat) : Int) := by have := HN.out; rw [IntKind.wrap_i64]; omega
    by_cases hlt : i < il + bl
    · have HLT := Lib.hid hlt
      have hbi : i < both.length := by rw [HBLN.out]; exact hlt
      have HBI := Lib.hid hbi
      obtain ⟨x, hx⟩ : ∃ x, x = both[i]'HBI.out := ⟨_, rfl⟩
      have HX := Lib.hid hx
      have k3 : (i : Int) < ((il + bl : Nat) : Int) := by omega
      have k4 : IntKind.i64.wrap ((i : Int) + 1) = (i : Int) + 1 := by have := HN.out; rw [IntKind.wrap_i64]; omega
      have k5 : (0 : Int) ≤ (i : Int) := by omega
      obtain ⟨q, hq⟩ : ∃ q, q = decide (i < il) := ⟨_, rfl⟩
      have HQ := Lib.hid hq
      have kq1 : decide ((i : Int) < (il : Int)) = q := by rw [hq, decide_eq_decide]; omega
      have kq2 : decide (i < il) = q := hq.symm
      have HTA := Lib.hid (fun o => HT.out.kept (below_of_alloc (w := wr) o))
      have hba := (HTA.out (Obj.cells #[.int .u64 0, .int .i64 0, .int .i64 0, .int .i64 0, .string ⟨#[]⟩, .string ⟨#[]⟩, .int .u64 0, .int .u64 0] TE (0, 0))).bp
      have pa1 : (wr.alloc (Obj.cells #[.int .u64 0, .int .i64 0, .int .i64 0, .int .i64 0, .string ⟨#[]⟩, .string ⟨#[]⟩, .int .u64 0, .int .u64 0] TE (0, 0))).cell? ⟨w.heap.size + 1, 1, none⟩ = some (.slice io il ic) := (blk_cell hba 1).trans rfl
      have pa2 : (wr.alloc (Obj.cells #[.int .u64 0, .int .i64 0, .int .i64 0, .int .i64 0, .string ⟨#[]⟩, .string ⟨#[]⟩, .int .u64 0, .int .u64 0] TE (0, 0))).cell? ⟨w.heap.size + 1, 2, none⟩ = some (.slice bo bl bc) := (blk_cell hba 2).trans rfl
      clear hx hq hbi hlt hbp hba
      go_upto_if 30 with fail
      go_cut [] (fun W => Hid (W.heap[wr.heap.size]? = some (boxT x)) ∧ Hid (BhSt w v ⟨k, .slice io il ic, .slice bo bl bc, bt⟩ (w.heap.size + 3) (.slice dd i dc) ((both.take i).map tN) W))
      case first =>
        cases q
        · have hge : ¬ i < il := by have := HQ.out; simp at this; omega
          have hlb : i - il < (belowK A k).length := by have := HLT.out; have := HBL.out; omega
          have HLB := Lib.hid hlb
          have hB := (HB.out).kept HT.out.bel
          rw [HBL.out] at hB
          obtain ⟨tb, tof, tc', hve, hcs⟩ := tbs_cells (l := belowK A k) hB (by omega)
          injection hve with e1 e2 e3
          subst e1
          have hcx : CellsOf wr tb (tof + (i - il) * 8) ((belowK A k)[i - il]'hlb) := hcs (i - il) hlb
          have hxe : (belowK A k)[i - il]'hlb = x := by
            rw [HX.out]
            simp only [HBO.out, bothK]
            rw [List.getElem_append_right (by have := HIL.out; omega)]
            simp only [HIL.out]
          rw [hxe] at hcx
          have hcy := hcx.kept (below_of_alloc (w := wr) (Obj.cells #[.int .u64 0, .int .i64 0, .int .i64 0, .int .i64 0, .string ⟨#[]⟩, .string ⟨#[]⟩, .int .u64 0, .int .u64 0] TE (0, 0)))
          have k6 : IntKind.i64.wrap ((i : Int) - (il : Int)) = ((i - il : Nat) : Int) := by have := HLT.out; have := HN.out; rw [IntKind.wrap_i64]; omega
          have k7 : (0 : Int) ≤ ((i - il : Nat) : Int) := by omega
          have k8 : ((i - il : Nat) : Int) < (bl : Int) := by have := HLT.out; omega
          have d0 := hcy.c0
          have d1 := hcy.c1
          have d2 := hcy.c2
          have d3 := hcy.c3
          have d4 := hcy.c4
          have d5 := hcy.c5
          have d6 := hcy.c6
          have d7 := hcy.c7
          clear hge hlb hB hcs e2 e3 hcx hcy hxe
          go_wp2_with fail
          go_meet
          exact ⟨Lib.hid (heap_alloc_new wr (boxT x)), Lib.hid (HTA.out _)⟩
        · have hlt2 : i < il := by have := HQ.out; simp at this; omega
          have hli : i < (inK A k).length := by have := HIL.out; omega
          have HLI := Lib.hid hli
          have hI := (HI.out).kept HT.out.bel
          rw [HIL.out] at hI
          obtain ⟨tb, tof, tc', hve, hcs⟩ := tbs_cells (l := inK A k) hI (by omega)
          injection hve with e1 e2 e3
          subst e1
          have hcx : CellsOf wr tb (tof + i * 8) ((inK A k)[i]'hli) := hcs i hli
          have hxe : (inK A k)[i]'hli = x := by
            rw [HX.out]
            simp only [HBO.out, bothK]
            rw [List.getElem_append_left hli]
            try rfl
          rw [hxe] at hcx
          have hcy := hcx.kept (below_of_alloc (w := wr) (Obj.cells #[.int .u64 0, .int .i64 0, .int .i64 0, .int .i64 0, .string ⟨#[]⟩, .string ⟨#[]⟩, .int .u64 0, .int .u64 0] TE (0, 0)))
          have k8 : (i : Int) < (il : Int) := by omega
          have d0 := hcy.c0
          have d1 := hcy.c1
          have d2 := hcy.c2
          have d3 := hcy.c3
          have d4 := hcy.c4
          have d5 := hcy.c5
          have d6 := hcy.c6
          have d7 := hcy.c7
          clear hlt2 hli hI hcs e2 e3 hcx hcy hxe
          go_wp2_with fail
          go_meet
          exact ⟨Lib.hid (heap_alloc_new wr (boxT x)), Lib.hid (HTA.out _)⟩
      case rest =>
        rename World => w5
        obtain ⟨HG5, HT5⟩ := hcut
        obtain ⟨tb, htb⟩ : ∃ b, b = wr.heap.size := ⟨_, rfl⟩
        have HNE := Lib.hid (show ∀ q, (Value.slice dd i dc).ownBlock = some q → q < tb from fun q hq => by rw [htb]; exact (HT.out.row.lt q hq).2)
        have HEB := Lib.hid (show w.heap.size + 3 < tb from by rw [htb]; exact blk_lt HT.out.be)
        rw [← htb] at HG5 ⊢
        clear htb HTA kq1 kq2 pa1 pa2 p1 p2 k2
        have hnl : ((both.take i).map tN).length = i := by rw [List.length_map, List.length_take]; have := HBI.out; omega
        have HGA := Lib.hid (blk_alloc HG5.out (Obj.cells #[.int .u64 (x.1.toNat : Int)] TU (0, 0)))
        have HT6 := Lib.hid (HT5.out.kept (below_of_alloc (w := w5) (Obj.cells #[.int .u64 (x.1.toNat : Int)] TU (0, 0))))
        have HRW := Lib.hid (show (w5.alloc (Obj.cells #[.int .u64 (x.1.toNat : Int)] TU (0, 0))).ownsRow (w.heap.size + 3 + 1) TU 1 (.slice dd i dc) i (((both.take i).map tN).flatMap encU) from by have h := HT6.out.row; rw [hnl] at h; exact h)
        have HSO := Lib.hid (show Seg (w5.alloc (Obj.cells #[.int .u64 (x.1.toNat : Int)] TU (0, 0))) 1 (.slice (some ⟨w5.heap.size, 0, none⟩) 1 1) 1 (encU x.1) from seg_oneG (heap_alloc_new w5 (Obj.cells #[.int .u64 (x.1.toNat : Int)] TU (0, 0))) rfl)
        have hcg := box_cells HG5.out
        have g0 := hcg.c0
        have e1 : w5.cell? ⟨w.heap.size + 3, 1, none⟩ = some (.slice dd i dc) := (blk_cell HT5.out.be 1).trans rfl
        have HMS := Lib.hid (show (both.take (i + 1)).map tN = (both.take i).map tN ++ [x.1] from by rw [List.take_succ_eq_append_getElem HBI.out, List.map_append, HX.out]; rfl)
        have HSZ := Lib.hid (show w.heap.size + 3 + 1 ≤ (w5.alloc (Obj.cells #[.int .u64 (x.1.toNat : Int)] TU (0, 0))).heap.size from blk_lt HT6.out.be)
        clear hnl hcg
        go_upto_region 12 with (at_builtin; refine wpList_append_seg rfl (.tmp 46) (.tmp 49) TUs rfl (w.heap.size + 3 + 1) TU _ 1 8 Tryd.underlying36 infoU rfl (by decide) _ i _ rfl HRW.out _ 1 _ rfl HSO.out (by intro u hu; simp only [encU, List.mem_singleton] at hu; subst hu; rfl) (by have := HLT.out; have := HN.out; omega) (by decide) HSZ.out ?_; intro v7 W7 ho7 hg7 _; obtain ⟨o7, c7, hv7⟩ := owns_slice1 ho7; subst hv7; have hm := HT6.out.mid hg7; have e7 : W7.cell? ⟨w.heap.size + 3, 1, none⟩ = some (.slice dd i dc) := (blk_cell hm 1).trans rfl; have f7 : ∀ j, W7.frozen? ⟨w.heap.size + 3, j, none⟩ = false := (fun j => by rw [blk_frozen hm]; simp); have HT7 := Lib.hid (HT6.out.put (d' := .slice o7 (i + 1) c7) (ms := (both.take (i + 1)).map tN) hg7 (by rw [HMS.out, List.length_append, List.flatMap_append, List.length_map, List.length_take, Nat.min_eq_left (Nat.le_of_lt HBI.out)]; simpa using ho7)); have HG7 := Lib.hid (show (W7.setCell ⟨w.heap.size + 3, 1, none⟩ (.slice o7 (i + 1) c7)).heap[tb]? = some (boxT x) from by rw [Below.heap_setCell _ _ _ _ (show tb ≠ w.heap.size + 3 by have := HEB.out; omega), hg7.block tb (blk_lt HGA.out) (fun e => by have := HNE.out tb e.symm; omega)]; exact HGA.out); clear ho7 hg7 hm)
        refine (show ∀ W, W = W7.setCell ⟨w.heap.size + 3, 1, none⟩ (.slice o7 (i + 1) c7) → Code.wp _ _ _ _ W from ?_) _ rfl
        intro w8 hw8
        rw [← hw8] at HT7 HG7
        have hcg := box_cells HG7.out
        have g4 := hcg.c4
        have g5 := hcg.c5
        have HFN := Lib.hid (show fstF (both.take (i + 1)) = if i = 0 ∨ klt (tF x) f = true then tF x else f from by rw [fst_next HBI.out, ← HFG.out.1, ← HX.out])
        have HGN := Lib.hid (show lstL (both.take (i + 1)) = if i = 0 ∨ klt g (tL x) = true then tL x else g from by rw [lst_next HBI.out, ← HFG.out.2, ← HX.out])
        clear g0 e1 e7 f7 hcg hw8 HT5 HT6 HGA HRW HSO HG5
        by_cases hi0 : i = 0
        · have HI0 := Lib.hid hi0
          have m1 : ((i : Int) == 0) = true := by rw [hi0]; rfl
          clear hi0
          go_wp2_with fail
          go_roundw
          case rel => exact ⟨i + 1, (tF x), (tL x), o7, c7, HLT.out, by first | rfl | (congr 1), rfl, rfl, Lib.hid ⟨by rw [HFN.out]; exact (if_pos (by first | exact .inl HI0.out)).symm, by rw [HGN.out]; exact (if_pos (by first | exact .inl HI0.out)).symm⟩, HT7⟩
          case measure => simp [intOf]; have := HLT.out; omega
        · have HI0 := Lib.hid hi0
          have m1 : ((i : Int) == 0) = false := by rw [beq_eq_false_iff_ne]; omega
          obtain ⟨q1, hq1⟩ : ∃ q, q = klt (tF x) f := ⟨_, rfl⟩
          obtain ⟨q2, hq2⟩ : ∃ q, q = klt g (tL x) := ⟨_, rfl⟩
          have HQ1 := Lib.hid hq1.symm
          have HQ2 := Lib.hid hq2.symm
          have r1 : Op.bytesLess x.2.2.2.2.1.toList f.toList = q1 := hq1.symm
          clear hi0 hq1 hq2
          cases q1
          · cases q2
            · obtain ⟨cc, y1, y2⟩ := le_yes9 HQ2.out
              go_wp2_with fail
              go_roundw
              case rel => exact ⟨i + 1, f, g, o7, c7, HLT.out, by first | rfl | (congr 1), rfl, rfl, Lib.hid ⟨by rw [HFN.out]; exact (if_neg (fun h => h.elim HI0.out (fun h => by rw [HQ1.out] at h; cases h))).symm, by rw [HGN.out]; exact (if_neg (fun h => h.elim HI0.out (fun h => by rw [HQ2.out] at h; cases h))).symm⟩, HT7⟩
              case measure => simp [intOf]; have := HLT.out; omega
            · obtain ⟨y1, y2⟩ := le_no9 HQ2.out
              go_wp2_with fail
              go_roundw
              case rel => exact ⟨i + 1, f, (tL x), o7, c7, HLT.out, by first | rfl | (congr 1), rfl, rfl, Lib.hid ⟨by rw [HFN.out]; exact (if_neg (fun h => h.elim HI0.out (fun h => by rw [HQ1.out] at h; cases h))).symm, by rw [HGN.out]; exact (if_pos (by first | exact .inl HI0.out | exact .inr HQ2.out)).symm⟩, HT7⟩
              case measure => simp [intOf]; have := HLT.out; omega
          · cases q2
            · obtain ⟨cc, y1, y2⟩ := le_yes9 HQ2.out
              go_wp2_with fail
              go_roundw
              case rel => exact ⟨i + 1, (tF x), g, o7, c7, HLT.out, by first | rfl | (congr 1), rfl, rfl, Lib.hid ⟨by rw [HFN.out]; exact (if_pos (by first | exact .inl HI0.out | exact .inr HQ1.out)).symm, by rw [HGN.out]; exact (if_neg (fun h => h.elim HI0.out (fun h => by rw [HQ2.out] at h; cases h))).symm⟩, HT7⟩
              case measure => simp [intOf]; have := HLT.out; omega
            · obtain ⟨y1, y2⟩ := le_no9 HQ2.out
              go_wp2_with fail
              go_roundw
              case rel => exact ⟨i + 1, (tF x), (tL x), o7, c7, HLT.out, by first | rfl | (congr 1), rfl, rfl, Lib.hid ⟨by rw [HFN.out]; exact (if_pos (by first | exact .inl HI0.out | exact .inr HQ1.out)).symm, by rw [HGN.out]; exact (if_pos (by first | exact .inl HI0.out | exact .inr HQ2.out)).symm⟩, HT7⟩
              case measure => simp [intOf]; have := HLT.out; omega
    · have hil : i = il + bl := by omega
      have htk : both.take i = both := List.take_of_length_le (by rw [HBLN.out]; omega)
      have hnl : (both.map tN).length = i := by rw [List.length_map, HBLN.out]; omega
      rw [htk] at HFG HT
      have k3 : ¬ (i : Int) < ((il + bl : Nat) : Int) := by omega
      have k9 : IntKind.i64.wrap ((k : Int) + 1) = (k : Int) + 1 := by have := HK.out; rw [IntKind.wrap_i64]; omega
      have HT6 := Lib.hid (HT.out.kept (below_of_alloc (w := wr) (boxT (v.nxt, (k : Int) + 1, 1, 1, f, g, 1, v.seq))))
      have hbv := HT.out.bv
      have v6 : wr.cell? ⟨w.heap.size, 6, none⟩ = some (.int .u64 (v.nxt.toNat : Int)) := (blk_cell hbv 6).trans rfl
      have v5 : wr.cell? ⟨w.heap.size, 5, none⟩ = some (.int .u64 (v.seq.toNat : Int)) := (blk_cell hbv 5).trans rfl
      have p0 : wr.cell? ⟨w.heap.size + 1, 0, none⟩ = some (.int .i64 (k : Int)) := (blk_cell hbp 0).trans rfl
      have HMT := Lib.hid (show moveT A k v.nxt v.seq = (v.nxt, (k : Int) + 1, 1, 1, f, g, 1, v.seq) from by unfold moveT; rw [← HBO.out, ← HFG.out.1, ← HFG.out.2])
      have e0 : (wr.alloc (Obj.cells #[.int .u64 (v.nxt.toNat : Int), .int .i64 ((k : Int) + 1), .int .i64 1, .int .i64 1, .string f, .string g, .int .u64 1, .int .u64 (v.seq.toNat : Int)] TE (0, 0))).cell? ⟨w.heap.size + 3, 0, none⟩ = some (.slice none 0 0) := (blk_cell (blk_alloc HT.out.be _) 0).trans rfl
      have ef : ∀ j, (wr.alloc (Obj.cells #[.int .u64 (v.nxt.toNat : Int), .int .i64 ((k : Int) + 1), .int .i64 1, .int .i64 1, .string f, .string g, .int .u64 1, .int .u64 (v.seq.toNat : Int)] TE (0, 0))).frozen? ⟨w.heap.size + 3, j, none⟩ = false := fun j => by rw [blk_frozen (blk_alloc HT.out.be _)]; simp
      have HNL := Lib.hid hnl
      clear hil htk hnl hbv hbp hlt hi
      go_upto_region 17 with fail
      refine (show ∀ W, W = (wr.alloc (Obj.cells #[.int .u64 (v.nxt.toNat : Int), .int .i64 ((k : Int) + 1), .int .i64 1, .int .i64 1, .string f, .string g, .int .u64 1, .int .u64 (v.seq.toNat : Int)] TE (0, 0))).setCell ⟨w.heap.size + 3, 0, none⟩ (.slice (some ⟨wr.heap.size, 0, none⟩) 1 1) → Code.wp _ _ _ _ W from ?_) _ rfl
      intro w2 hw2
      have hsz : w.heap.size + 3 < wr.heap.size := blk_lt HT.out.be
      have hbe : w2.heap[w.heap.size + 3]? = some (boxE ⟨.slice (some ⟨wr.heap.size, 0, none⟩) 1 1, .slice dd i dc, 0, 0, v.nxt + 40⟩) := by rw [hw2, blk_set (blk_alloc HT.out.be _)]; rfl
      have hbr : w2.heap[w.heap.size + 1 + 1]? = some boxEZ := by rw [hw2, Below.heap_setCell _ _ _ _ (show w.heap.size + 1 + 1 ≠ w.heap.size + 3 by omega)]; exact blk_alloc HT.out.br _
      have htt : w2.heap[wr.heap.size]? = some (boxT (moveT A k v.nxt v.seq)) := by rw [hw2, Below.heap_setCell _ _ _ _ (show wr.heap.size ≠ w.heap.size + 3 by omega), HMT.out]; exact heap_alloc_new _ _
      have hrow : w2.ownsRow (w.heap.size + 3 + 1) TU 1 (.slice dd i dc) (both.map tN).length ((both.map tN).flatMap encU) := by
        rw [hw2]
        exact row_kept1 (HT.out.row.alloc _) fun q hq => (grown_set (wr.alloc (Obj.cells #[.int .u64 (v.nxt.toNat : Int), .int .i64 ((k : Int) + 1), .int .i64 1, .int .i64 1, .string f, .string g, .int .u64 1, .int .u64 (v.seq.toNat : Int)] TE (0, 0))) (w.heap.size + 3) 0 _).block q ((HT.out.row.alloc (Obj.cells #[.int .u64 (v.nxt.toNat : Int), .int .i64 ((k : Int) + 1), .int .i64 1, .int .i64 1, .string f, .string g, .int .u64 1, .int .u64 (v.seq.toNat : Int)] TE (0, 0))).lt q hq).2 (fun e => by have := (HT.out.row.lt q hq).1; injection e with e; omega)
      have hbel : Below w.heap.size w w2 := by rw [hw2]; exact (HT.out.bel.alloc HT.out.bel.size _).setCell (p := ⟨w.heap.size + 3, 0, none⟩) (show _ ≤ w.heap.size + 3 by omega) _
      have x0 : w2.cell? ⟨w.heap.size + 3, 0, none⟩ = some (.slice (some ⟨wr.heap.size, 0, none⟩) 1 1) := (blk_cell hbe 0).trans rfl
      have x1 : w2.cell? ⟨w.heap.size + 3, 1, none⟩ = some (.slice dd i dc) := (blk_cell hbe 1).trans rfl
      have x2 : w2.cell? ⟨w.heap.size + 3, 2, none⟩ = some (.int .u64 0) := (blk_cell hbe 2).trans rfl
      have x3 : w2.cell? ⟨w.heap.size + 3, 3, none⟩ = some (.int .u64 0) := (blk_cell hbe 3).trans rfl
      have x4 : w2.cell? ⟨w.heap.size + 3, 4, none⟩ = some (.int .u64 ((v.nxt + 40).toNat : Int)) := (blk_cell hbe 4).trans rfl
      have z0 : w2.cell? ⟨w.heap.size + 1 + 1, 0, none⟩ = some (.slice none 0 0) := (blk_cell hbr 0).trans rfl
      have z1 : w2.cell? ⟨w.heap.size + 1 + 1, 1, none⟩ = some (.slice none 0 0) := (blk_cell hbr 1).trans rfl
      have z2 : w2.cell? ⟨w.heap.size + 1 + 1, 2, none⟩ = some (.int .u64 0) := (blk_cell hbr 2).trans rfl
      have z3 : w2.cell? ⟨w.heap.size + 1 + 1, 3, none⟩ = some (.int .u64 0) := (blk_cell hbr 3).trans rfl
      have z4 : w2.cell? ⟨w.heap.size + 1 + 1, 4, none⟩ = some (.int .u64 0) := (blk_cell hbr 4).trans rfl
      have fz : ∀ j, w2.frozen? ⟨w.heap.size + 1 + 1, j, none⟩ = false := fun j => by rw [blk_frozen hbr]; simp
      have HP := Lib.hid (box_put5 hbr rfl ⟨.slice (some ⟨wr.heap.size, 0, none⟩) 1 1, .slice dd i dc, 0, 0, v.nxt + 40⟩)
      have gp := grown_put5 w2 (w.heap.size + 1 + 1) ⟨.slice (some ⟨wr.heap.size, 0, none⟩) 1 1, .slice dd i dc, 0, 0, v.nxt + 40⟩
      have HBP := Lib.hid (show Below w.heap.size w (put5 w2 (w.heap.size + 1 + 1) ⟨.slice (some ⟨wr.heap.size, 0, none⟩) 1 1, .slice dd i dc, 0, 0, v.nxt + 40⟩) from hbel.grown gp hbel.size fun q hq => by injection hq with hq; omega)
      have HED := Lib.hid (show EdAt (put5 w2 (w.heap.size + 1 + 1) ⟨.slice (some ⟨wr.heap.size, 0, none⟩) 1 1, .slice dd i dc, 0, 0, v.nxt + 40⟩) ⟨.slice (some ⟨wr.heap.size, 0, none⟩) 1 1, .slice dd i dc, 0, 0, v.nxt + 40⟩ (moveE A k v.nxt v.seq) from by
        refine ⟨seg_tb ?_, ?_, rfl, fun a n c e => by cases e; omega⟩
        · rw [gp.block _ (blk_lt htt) (by intro e; injection e with e; omega)]; exact htt
        · have h1 := row_kept1 hrow fun q hq => gp.block q (hrow.lt q hq).2 (fun e => by have := (hrow.lt q hq).1; injection e with e; omega)
          have h2 := Seg.of_owns h1
          rw [HBO.out] at h2
          exact h2)
      clear hbe hbr htt hrow hbel gp hsz hw2 e0 ef v5 v6 p0 p1 p2
      go_wp2_with fail
      exact bodyPost_ret (v := encE ⟨.slice (some ⟨wr.heap.size, 0, none⟩) 1 1, .slice dd i dc, 0, 0, v.nxt + 40⟩) (results_cell_row Tryd.results23 _ _ (w.heap.size + 1 + 1) TEd _ (0, 0) _ rfl HP.out Tryd.underlying38 rfl (by kernel_rfl)) rfl ⟨⟨.slice (some ⟨wr.heap.size, 0, none⟩) 1 1, .slice dd i dc, 0, 0, v.nxt + 40⟩, rfl, HED.out, HBP.out⟩
end Go.Proofs.Tryd.Vr
