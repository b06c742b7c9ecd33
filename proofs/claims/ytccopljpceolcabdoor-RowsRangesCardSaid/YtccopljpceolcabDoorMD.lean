/- MD: texts put together: Ro1 Ro2 Ro3 Ro4. -/
import Derived.Test.YtccopljpceolcabDoorMC
import Derived.Test.YtccopljpceolcabDoorMX
import Derived.Deep.DeepCutAuto
import Derived.Laws.OwnMore
import Derived.Deep.RegionHeld3
/- rows.parts. -/
set_option linter.unusedVariables false
set_option linter.unusedSimpArgs false
set_option maxRecDepth 100000
namespace Go.Proofs.Tryd.Rows
open Go.RowKit Go.Cph Go.Cph.Ok Go.Proofs.Tryd.Nu Go.Proofs.Tryd.Ok
open Go.Cph.Px (Ad Pf rightA bytesA)
open Go.Proofs.Tryd.Pfx (encA bcell)
def numP (n : UInt64) : Pt := ⟨false, ⟨#[]⟩, n⟩
def strP (s : ByteArray) : Pt := ⟨true, s, 0⟩
def headL (kind : UInt64) (a : Ad) : List Pt := [numP kind, numP a.1.toUInt64, strP (ofBs (bytesA a))]
def partsL (kind : UInt64) (a : Ad) (l : List UInt64) : List Pt := headL kind a ++ l.map numP
theorem fam64 (f : UInt8) : ((f.toUInt64).toNat : Int) = (f.toNat : Int) := by rw [UInt8.toNat_toUInt64]
abbrev boxA (a : Ad) : Obj := .cells #[.int .u8 (a.1.toNat : Int), .int .u64 (a.2.1.toNat : Int), .int .u64 (a.2.2.toNat : Int)] 40 (0, 0)
structure AdCells (w : World) (b : Nat) (a : Ad) : Prop where
  c0 : w.cell? ⟨b, 0, none⟩ = some (.int .u8 (a.1.toNat : Int))
  c1 : w.cell? ⟨b, 1, none⟩ = some (.int .u64 (a.2.1.toNat : Int))
  c2 : w.cell? ⟨b, 2, none⟩ = some (.int .u64 (a.2.2.toNat : Int))
theorem adCells {w : World} {b : Nat} {a : Ad} (h : w.heap[b]? = some (boxA a)) : AdCells w b a := ⟨by rw [blk_cell h]; rfl, by rw [blk_cell h]; rfl, by rw [blk_cell h]; rfl⟩
theorem AdCells.kept {w w' : World} {b : Nat} {a : Ad} (h : AdCells w b a) (hb : Below w.heap.size w w') : AdCells w' b a := ⟨cell_kept hb h.c0, cell_kept hb h.c1, cell_kept hb h.c2⟩
set_option maxHeartbeats 6400000 in
theorem parts_row (kind : UInt64) (a : Ad) (v : Value) (l : List UInt64) (w : World) (h : NumsAt w v l) (hl : l.length ≤ 1000) :
    Calls Tryd.prog 48 #[.int .u64 (kind.toNat : Int), encA a, v] w fun e w' => ∃ v', e = .returned v' ∧ w'.ownsRow w.heap.size TP 3 v' (partsL kind a l).length ((partsL kind a l).flatMap encC) ∧ Below w.heap.size w w' := by
  obtain ⟨ao, cap, rfl⟩ := elems_slice h
  have H := Lib.hid h
  have HL := Lib.hid hl
  clear h hl
  have HB := Lib.hid (show Below (w.alloc (boxA a)).heap.size (w.alloc (boxA a)) ((w.alloc (boxA a)).drew) from (Below.refl _ _).drew)
  have HAC := Lib.hid (fun W (hb : Below (w.alloc (boxA a)).heap.size (w.alloc (boxA a)) W) => (adCells (heap_alloc_new w (boxA a))).kept hb)
  have HBW := Lib.hid (fun W (hb : Below (w.alloc (boxA a)).heap.size (w.alloc (boxA a)) W) => show Below w.heap.size w W from ((Below.refl _ _).alloc (Nat.le_refl _) _).trans (hb.mono (by rw [World.size_alloc]; omega)))
  have HN1 := Lib.hid (fun W => num_any kind W)
  have HN2 := Lib.hid (fun W => show Calls Tryd.prog 50 #[.int .u64 (a.1.toNat : Int)] W _ from by rw [← fam64]; exact num_any a.1.toUInt64 W)
  have HBY := Lib.hid (fun W => abytes a W)
  obtain ⟨sb, hsb⟩ : ∃ sb, sb = ofBs (bytesA a) := ⟨_, rfl⟩
  have HPL := Lib.hid (show partsL kind a l = [numP kind, numP a.1.toUInt64, strP sb] ++ l.map numP from by rw [hsb]; rfl)
  have HF := Lib.hid (fam64 a.1)
  rw [← hsb] at HBY
  have HST := Lib.hid (fun W => str_any sb W)
  clear hsb
  obtain ⟨f, hi, lo⟩ := a
  go_enter Tryd.func48, Tryd.ntmps48
  have HS3 := Lib.hid (fun W (hb : Below (w.alloc (boxA (f, hi, lo))).heap.size (w.alloc (boxA (f, hi, lo))) W) => show W.cell? ⟨w.heap.size, 0, none⟩ = some (.int .u8 (f.toNat : Int)) ∧ W.cell? ⟨w.heap.size, 1, none⟩ = some (.int .u64 (hi.toNat : Int)) ∧ W.cell? ⟨w.heap.size, 2, none⟩ = some (.int .u64 (lo.toNat : Int)) from ⟨(HAC.out W hb).c0, (HAC.out W hb).c1, (HAC.out W hb).c2⟩)
  go_upto_region 1 with (fail)
  go_cut [7] (fun s7 W => ∃ g, s7 = .slice (some ⟨g, 0, none⟩) 3 3 ∧ W.ownsRow w.heap.size TP 3 s7 3 (([numP kind, numP f.toUInt64, strP sb]).flatMap encC) ∧ Below w.heap.size w W)
  case first =>
    go_region_held3 (fun W => W.cell? ⟨w.heap.size, 0, none⟩ = some (.int .u8 (f.toNat : Int)) ∧ W.cell? ⟨w.heap.size, 1, none⟩ = some (.int .u64 (hi.toNat : Int)) ∧ W.cell? ⟨w.heap.size, 2, none⟩ = some (.int .u64 (lo.toNat : Int)))
      (((refine HS3.out _ ?_); (first | exact HB.out | exact HB.out.drew | exact HB.out.alloc HB.out.size _)))
      (first
        | (go_at_call 50; (first | (with_reducible refine (HN1.out _).mono ?_) | (with_reducible refine (HN2.out _).mono ?_)); rintro r u ⟨rfl, hb⟩; replace HB := Lib.hid (HB.out.trans (hb.mono HB.out.size)); clear hb)
        | (go_at_call 61; refine (HBY.out _).mono ?_; rintro r u ⟨rfl, hb⟩; replace HB := Lib.hid (HB.out.trans (hb.mono HB.out.size)); clear hb)
        | (go_at_call 60; refine (HST.out _).mono ?_; rintro r u ⟨rfl, hb⟩; replace HB := Lib.hid (HB.out.trans (hb.mono HB.out.size)); clear hb))
    all_goals
      go_wp2_with fail
      go_meet
      case rel => exact ⟨_, rfl, World.ownsRow_lit _ _ 3 (HBW.out _ HB.out).size (by decide) rfl, HBW.out _ (HB.out.alloc HB.out.size _)⟩
  case rest =>
    obtain ⟨g, rfl, ho, hb⟩ := hcut
    have HO := Lib.hid ho
    have HBC := Lib.hid hb
    obtain ⟨hd, hhd⟩ : ∃ hd, hd = [numP kind, numP f.toUInt64, strP sb] := ⟨_, rfl⟩
    have HPD := Lib.hid (show partsL kind (f, hi, lo) l = hd ++ l.map numP from by rw [HPL.out, hhd])
    have H3 := Lib.hid (show hd.length = 3 from by rw [hhd]; rfl)
    rw [← hhd] at HO
    clear HPL HN1 HN2 HST HBY HAC HBW HS3 HB HF ho hb hhd
    go_wp2_with fail
    go_loopw [7, 22] (fun v7 vi W => ∃ i : Nat, i ≤ l.length ∧ vi = .int .i64 i ∧ W.ownsRow w.heap.size TP 3 v7 (3 + i) ((hd ++ (l.take i).map numP).flatMap encC) ∧ Below w.heap.size w W) (fun _ vi _ => l.length - (intOf vi).toNat)
    case atStart => exact ⟨0, Nat.zero_le _, rfl, by simpa using HO.out, HBC.out⟩
    case round =>
      obtain ⟨i, hi, rfl, ho, hb⟩ := hrel
      have HB := Lib.hid hb
      have HZ := Lib.hid hb.size
      obtain ⟨oo, oc, hov⟩ := owns_slice1 ho
      subst hov
      have HO := Lib.hid ho
      by_cases hlt : i < l.length
      · have HLT := Lib.hid hlt
        obtain ⟨b, off, cap', hve, hcs⟩ := nums_cells H.out (by omega)
        injection hve with hx1 hx2 hx3
        subst hx1
        clear hx2 hx3
        have hc := cell_kept hb (hcs i hlt)
        obtain ⟨n, hn⟩ : ∃ n, n = l[i]'hlt := ⟨_, rfl⟩
        rw [← hn] at hc
        have HTK := Lib.hid (show (hd ++ (l.take (i + 1)).map numP).flatMap encC = (hd ++ (l.take i).map numP).flatMap encC ++ encC (numP n) from by rw [List.take_succ_eq_append_getElem hlt, ← hn]; simp)
        have HNB := Lib.hid (show 3 + i + 1 ≤ 1099511627776 from by have := HL.out; omega)
        have HNN := Lib.hid (fun W => num_any n W)
        have k1 : (0 : Int) ≤ (i : Int) := by omega
        have k2 : (i : Int) < (l.length : Int) := by omega
        have k4 : IntKind.i64.wrap ((i : Int) + 1) = (i : Int) + 1 := by rw [IntKind.wrap_i64]; have := HL.out; omega
        clear hb hcs hn ho hi hlt
        go_wp2_with fail
        refine (HNN.out _).mono ?_
        rintro e w1 ⟨rfl, hb⟩
        have HB1 := Lib.hid (below_step HB.out hb HZ.out)
        have HO1 := Lib.hid (row_keptB HO.out hb)
        have HZ1 := Lib.hid HB1.out.size
        clear hb
        go_wp2_with (at_builtin; refine wpList_append1 rfl (.tmp 26) (.tmp 29) TPs rfl w.heap.size TP _ 3 32 Tryd.underlying82 infoP rfl (by decide) _ (3 + i) _ (encC (numP n)) rfl HO1.out _ 1 rfl rfl rfl (encC_one1 (numP n)) HNB.out (by decide) HZ1.out w.heap.size w HB1.out (Nat.le_refl _) ?_; intro v6 w6 ho hgr hb6 hsz6; have HO6 := Lib.hid ho; have HB6 := Lib.hid hb6; clear ho hgr hb6 hsz6)
        go_roundw
        case rel => exact ⟨i + 1, HLT.out, by go_num, by rw [HTK.out, ← Nat.add_assoc]; exact HO6.out, HB6.out⟩
        case measure => have := HLT.out; simp [intOf]; omega
      · have HE := Lib.hid (show l.take i = l from List.take_of_length_le (by omega))
        have hil : i = l.length := by omega
        rw [HE.out] at HO
        have HI := Lib.hid hil
        have q2 : ¬ (i : Int) < (l.length : Int) := by omega
        clear ho hb hlt hi hil
        go_wp2_with fail
        go_ret
        exact ⟨_, rfl, by rw [HPD.out, List.length_append, List.length_map, H3.out, ← HI.out]; exact HO.out, HB.out⟩
end Go.Proofs.Tryd.Rows

/- rows: the keys of prefixes and addresses. -/
set_option linter.unusedVariables false
set_option linter.unusedSimpArgs false
set_option maxRecDepth 100000
namespace Go.Proofs.Tryd.Rows
open Go.RowKit Go.Cph Go.Cph.Ok Go.Proofs.Tryd.Nu Go.Proofs.Tryd.Ok
open Go.Cph.Px (Ad Pf rightA bytesA rightP)
open Go.Proofs.Tryd.Pfx (encA bcell)
abbrev MaxAt (m : Int) (w : World) : Prop := w.cell? ⟨0, 0, none⟩ = some (.int .i64 m)
theorem max_kept {m : Int} {w w' : World} (h : MaxAt m w) (hb : Below w.heap.size w w') : MaxAt m w' := cell_kept hb h
theorem num_len (n : UInt64) : (Cph.Ok.bytes (numP n)).length ≤ 10 := by
  show (1 :: row n.toNat).length ≤ 10
  have := row_le (n := n.toNat) n.toNat_lt
  rw [List.length_cons]; omega
theorem bytesA_le (a : Ad) : (bytesA a).length ≤ 16 := by
  unfold bytesA Px.sizeB; split
  · rw [Px.bytesN_length]; split <;> omega
  · simp
theorem str_len (s : ByteArray) : (Cph.Ok.bytes (strP s)).length ≤ 2 * s.size + 3 := by
  show (2 :: (esc s.data.toList ++ [0, 1])).length ≤ _
  have := (esc_len s.data.toList).2
  have e : s.data.toList.length = s.size := rfl
  rw [List.length_cons, List.length_append]; simp only [List.length_cons, List.length_nil]; omega
theorem nums_len (l : List UInt64) : (key (l.map numP)).length ≤ 10 * l.length := by
  induction l with
  | nil => exact Nat.le_refl _
  | cons n l ih =>
    rw [List.map_cons, show key (numP n :: l.map numP) = Cph.Ok.bytes (numP n) ++ key (l.map numP) from rfl, List.length_append, List.length_cons]
    have := num_len n; omega
theorem parts_len (kind : UInt64) (a : Ad) (l : List UInt64) : (key (partsL kind a l)).length ≤ 60 + 10 * l.length := by
  unfold partsL headL
  rw [key_append, List.length_append, show key [numP kind, numP a.1.toUInt64, strP (ofBs (bytesA a))] = Cph.Ok.bytes (numP kind) ++ (Cph.Ok.bytes (numP a.1.toUInt64) ++ (Cph.Ok.bytes (strP (ofBs (bytesA a))) ++ [])) from rfl]
  have h1 := num_len kind
  have h2 := num_len a.1.toUInt64
  have h3 := str_len (ofBs (bytesA a))
  have h4 := bytesA_le a
  have h5 := nums_len l
  rw [ofBs_size] at h3
  simp only [List.length_append, List.length_nil]; omega
/-- The key of an address, and what follows; of a prefix. -/
def keyA (kind : UInt64) (a : Ad) (l : List UInt64) : ByteArray := if rightA a then ofBs (key (partsL kind a l)) else ⟨#[]⟩
def bitsU (p : Pf) : UInt64 := UInt64.ofNat p.2.toNat
def keyP (kind : UInt64) (p : Pf) : ByteArray := if rightP p then ofBs (key (partsL kind p.1 [bitsU p])) else ⟨#[]⟩
theorem right_bits {p : Pf} (h : rightP p = true) : 0 ≤ p.2 ∧ p.2 ≤ 128 ∧ rightA p.1 = true := by
  unfold rightP at h
  simp only [Bool.and_eq_true] at h
  have h1 := Px.fits_iff.1 h.1
  have h2 := h1.2.2
  unfold Px.width at h2
  refine ⟨h1.2.1, ?_, h1.1⟩
  split at h2 <;> omega
abbrev boxF (p : Pf) : Obj := .cells #[.int .u8 (p.1.1.toNat : Int), .int .u64 (p.1.2.1.toNat : Int), .int .u64 (p.1.2.2.toNat : Int), .int .i64 p.2] 42 (0, 0)
set_option maxHeartbeats 3200000 in
theorem address_any (kind : UInt64) (a : Ad) (v : Value) (l : List UInt64) (m : Int) (w : World) (h : NumsAt w v l) (hl : l.length ≤ 1000) (hm : MaxAt m w) :
    Calls Tryd.prog 43 #[.int .u64 (kind.toNat : Int), encA a, v] w fun e w' => e = .returned (.string (keyA kind a l)) ∧ Below w.heap.size w w' := by
  obtain ⟨ao, cap, rfl⟩ := elems_slice h
  have H := Lib.hid h
  have HL := Lib.hid hl
  have HM := Lib.hid hm
  have HRT := Lib.hid (Pfx.right a)
  have HBX := Lib.hid (show Below w.heap.size w (w.alloc (boxA a)) from (Below.refl _ _).alloc (Nat.le_refl _) _)
  have HPT := Lib.hid (fun W (hb : Below w.heap.size w W) => parts_row kind a _ l W (Seg.kept H.out hb) hl)
  have HKY := Lib.hid (fun W v (h : PtsAt W v (partsL kind a l)) (hm : MaxAt m W) => key_any v (partsL kind a l) m W h (by unfold partsL headL; simp; omega) (by have := parts_len kind a l; omega) hm)
  have HAC := Lib.hid (fun W (hb : Below (w.alloc (boxA a)).heap.size (w.alloc (boxA a)) W) => (adCells (heap_alloc_new w (boxA a))).kept hb)
  have HV := Lib.hid (show keyA kind a l = if rightA a then ofBs (key (partsL kind a l)) else ⟨#[]⟩ from rfl)
  clear h hl hm
  cases hr : rightA a with
  | false =>
    rw [hr] at HRT HV
    clear hr
    obtain ⟨f, hi, lo⟩ := a
    go_enter Tryd.func43, Tryd.ntmps43
    go_wp2_with fail
    refine (HRT.out _).mono ?_
    rintro e w1 ⟨rfl, hb⟩
    have HB := Lib.hid (below_step HBX.out hb HBX.out.size)
    clear hb
    go_wp2_with fail
    go_ret
    exact ⟨ret_s (by rw [HV.out]; rfl), HB.out⟩
  | true =>
    rw [hr] at HRT HV
    clear hr
    obtain ⟨f, hi, lo⟩ := a
    go_enter Tryd.func43, Tryd.ntmps43
    go_wp2_with fail
    refine (HRT.out _).mono ?_
    rintro e w1 ⟨rfl, hb⟩
    have c0 := (HAC.out w1 hb).c0
    have c1 := (HAC.out w1 hb).c1
    have c2 := (HAC.out w1 hb).c2
    have HB := Lib.hid (below_step HBX.out hb HBX.out.size)
    clear hb
    go_wp2_with fail
    refine (HPT.out _ HB.out).mono ?_
    rintro e w2 ⟨v', rfl, ho, hb⟩
    have HP := Lib.hid (show PtsAt w2 v' (partsL kind (f, hi, lo) l) from Seg.of_owns ho)
    have HB2 := Lib.hid (below_step HB.out hb HB.out.size)
    clear hb ho
    go_wp2_with fail
    refine (HKY.out _ _ HP.out (max_kept HM.out HB2.out)).mono ?_
    rintro e w3 ⟨rfl, hb⟩
    have HB3 := Lib.hid (below_step HB2.out hb HB2.out.size)
    clear hb
    go_wp2_with fail
    go_ret
    exact ⟨ret_s (by rw [HV.out]; rfl), HB3.out⟩
set_option maxHeartbeats 3200000 in
theorem prefix_any (kind : UInt64) (p : Pf) (m : Int) (w : World) (hm : MaxAt m w) :
    Calls Tryd.prog 42 #[.int .u64 (kind.toNat : Int), Pfx.encP p] w fun e w' => e = .returned (.string (keyP kind p)) ∧ Below w.heap.size w w' := by
  have HM := Lib.hid hm
  have HRT := Lib.hid (Pfx.rightP_any p)
  have HBX := Lib.hid (show Below w.heap.size w (w.alloc (boxF p)) from (Below.refl _ _).alloc (Nat.le_refl _) _)
  have HPT := Lib.hid (fun W v (h : NumsAt W v [bitsU p]) => parts_row kind p.1 v [bitsU p] W h (by simp))
  have HKY := Lib.hid (fun W v (h : PtsAt W v (partsL kind p.1 [bitsU p])) (hm : MaxAt m W) => key_any v (partsL kind p.1 [bitsU p]) m W h (by unfold partsL headL; simp) (by have := parts_len kind p.1 [bitsU p]; simp at this; omega) hm)
  have HV := Lib.hid (show keyP kind p = if rightP p then ofBs (key (partsL kind p.1 [bitsU p])) else ⟨#[]⟩ from rfl)
  clear hm
  cases hr : rightP p with
  | false =>
    rw [hr] at HRT HV
    clear hr
    obtain ⟨⟨f, hi, lo⟩, n⟩ := p
    go_enter Tryd.func42, Tryd.ntmps42
    go_wp2_with fail
    refine (HRT.out _).mono ?_
    rintro e w1 ⟨rfl, hb⟩
    have HB := Lib.hid (below_step HBX.out hb HBX.out.size)
    clear hb
    go_wp2_with fail
    go_ret
    exact ⟨ret_s (by rw [HV.out]; rfl), HB.out⟩
  | true =>
    have h8 := right_bits hr
    rw [hr] at HRT HV
    have k1 : IntKind.u64.wrap p.2 = ((bitsU p).toNat : Int) := by
      unfold bitsU; rw [IntKind.wrap_u64, UInt64.toNat_ofNat']; omega
    clear hr h8
    obtain ⟨u, hu⟩ : ∃ u, u = bitsU p := ⟨_, rfl⟩
    rw [← hu] at HPT HKY HV k1
    clear hu
    obtain ⟨⟨f, hi, lo⟩, n⟩ := p
    go_enter Tryd.func42, Tryd.ntmps42
    go_wp2_with fail
    refine (HRT.out _).mono ?_
    rintro e w1 ⟨rfl, hb⟩
    have HB := Lib.hid (below_step HBX.out hb HBX.out.size)
    obtain ⟨hc, hf⟩ := bcell hb
    have hz : w.heap.size < w1.heap.size := by have := hb.size; simp at this; omega
    clear hb
    have HBN := Lib.hid (show Below w.heap.size w (w1.alloc (.cells #[.int .u64 (u.toNat : Int)] 22)) from HB.out.alloc HB.out.size _)
    have k2 : IntKind.u64.wrap n = (u.toNat : Int) := k1
    go_wp2_with fail
    refine (HPT.out _ _ (nums_one w1 u)).mono ?_
    rintro e w2 ⟨v', rfl, ho, hb⟩
    have HP := Lib.hid (show PtsAt w2 v' (partsL kind (f, hi, lo) [u]) from Seg.of_owns ho)
    have HB2 := Lib.hid (below_step HBN.out hb HBN.out.size)
    clear hb ho
    go_wp2_with fail
    refine (HKY.out _ _ HP.out (max_kept HM.out HB2.out)).mono ?_
    rintro e w3 ⟨rfl, hb⟩
    have HB3 := Lib.hid (below_step HB2.out hb HB2.out.size)
    clear hb
    go_wp2_with fail
    go_ret
    exact ⟨ret_s (by rw [HV.out]; rfl), HB3.out⟩
set_option maxHeartbeats 1600000 in
theorem poolKey (p : Pf) (m : Int) (w : World) (hm : MaxAt m w) : Calls Tryd.prog 19 #[Pfx.encP p] w fun e w' => e = .returned (.string (keyP 2 p)) ∧ Below w.heap.size w w' := by
  have HBX := Lib.hid (show Below w.heap.size w (w.alloc (boxF p)) from (Below.refl _ _).alloc (Nat.le_refl _) _)
  have HP := Lib.hid (show Calls Tryd.prog 42 #[.int .u64 2, Pfx.encP p] (w.alloc (boxF p)) _ from prefix_any 2 p m (w.alloc (boxF p)) (max_kept hm HBX.out))
  clear hm
  obtain ⟨⟨f, hi, lo⟩, n⟩ := p
  go_enter Tryd.func19, Tryd.ntmps19
  go_wp2_with fail
  refine HP.out.mono ?_
  rintro e w1 ⟨rfl, hb⟩
  have HB := Lib.hid (below_step HBX.out hb HBX.out.size)
  clear hb
  go_wp2_with fail
  go_ret
  exact ⟨rfl, HB.out⟩
set_option maxHeartbeats 1600000 in
theorem holdKey (p : Pf) (m : Int) (w : World) (hm : MaxAt m w) : Calls Tryd.prog 20 #[Pfx.encP p] w fun e w' => e = .returned (.string (keyP 3 p)) ∧ Below w.heap.size w w' := by
  have HBX := Lib.hid (show Below w.heap.size w (w.alloc (boxF p)) from (Below.refl _ _).alloc (Nat.le_refl _) _)
  have HP := Lib.hid (show Calls Tryd.prog 42 #[.int .u64 3, Pfx.encP p] (w.alloc (boxF p)) _ from prefix_any 3 p m (w.alloc (boxF p)) (max_kept hm HBX.out))
  clear hm
  obtain ⟨⟨f, hi, lo⟩, n⟩ := p
  go_enter Tryd.func20, Tryd.ntmps20
  go_wp2_with fail
  refine HP.out.mono ?_
  rintro e w1 ⟨rfl, hb⟩
  have HB := Lib.hid (below_step HBX.out hb HBX.out.size)
  clear hb
  go_wp2_with fail
  go_ret
  exact ⟨rfl, HB.out⟩
set_option maxHeartbeats 1600000 in
theorem leaseKey (a : Ad) (m : Int) (w : World) (hm : MaxAt m w) : Calls Tryd.prog 22 #[encA a] w fun e w' => e = .returned (.string (keyA 4 a [])) ∧ Below w.heap.size w w' := by
  have HBX := Lib.hid (show Below w.heap.size w (w.alloc (boxA a)) from (Below.refl _ _).alloc (Nat.le_refl _) _)
  have HP := Lib.hid (show Calls Tryd.prog 43 #[.int .u64 4, encA a, .slice none 0 0] (w.alloc (boxA a)) _ from address_any 4 a _ [] m (w.alloc (boxA a)) (Seg.nil _ 1) (by decide) (max_kept hm HBX.out))
  clear hm
  obtain ⟨f, hi, lo⟩ := a
  go_enter Tryd.func22, Tryd.ntmps22
  go_wp2_with fail
  refine HP.out.mono ?_
  rintro e w1 ⟨rfl, hb⟩
  have HB := Lib.hid (below_step HBX.out hb HBX.out.size)
  clear hb
  go_wp2_with fail
  go_ret
  exact ⟨rfl, HB.out⟩
set_option maxHeartbeats 1600000 in
theorem countKey (a : Ad) (m : Int) (w : World) (hm : MaxAt m w) : Calls Tryd.prog 28 #[encA a] w fun e w' => e = .returned (.string (keyA 5 a [])) ∧ Below w.heap.size w w' := by
  have HBX := Lib.hid (show Below w.heap.size w (w.alloc (boxA a)) from (Below.refl _ _).alloc (Nat.le_refl _) _)
  have HP := Lib.hid (show Calls Tryd.prog 43 #[.int .u64 5, encA a, .slice none 0 0] (w.alloc (boxA a)) _ from address_any 5 a _ [] m (w.alloc (boxA a)) (Seg.nil _ 1) (by decide) (max_kept hm HBX.out))
  clear hm
  obtain ⟨f, hi, lo⟩ := a
  go_enter Tryd.func28, Tryd.ntmps28
  go_wp2_with fail
  refine HP.out.mono ?_
  rintro e w1 ⟨rfl, hb⟩
  have HB := Lib.hid (below_step HBX.out hb HBX.out.size)
  clear hb
  go_wp2_with fail
  go_ret
  exact ⟨rfl, HB.out⟩
set_option maxHeartbeats 1600000 in
theorem eventKey (a : Ad) (n : UInt64) (m : Int) (w : World) (hm : MaxAt m w) : Calls Tryd.prog 26 #[encA a, .int .u64 (n.toNat : Int)] w fun e w' => e = .returned (.string (keyA 6 a [n])) ∧ Below w.heap.size w w' := by
  have HBX := Lib.hid (show Below w.heap.size w ((w.alloc (boxA a)).alloc (.cells #[.int .u64 (n.toNat : Int)] 22)) from ((Below.refl _ _).alloc (Nat.le_refl _) _).alloc (by rw [World.size_alloc]; omega) _)
  have HP := Lib.hid (show Calls Tryd.prog 43 #[.int .u64 6, encA a, .slice (some ⟨(w.alloc (boxA a)).heap.size, 0, none⟩) 1 1] ((w.alloc (boxA a)).alloc (.cells #[.int .u64 (n.toNat : Int)] 22)) _ from address_any 6 a _ [n] m _ (nums_one (w.alloc (boxA a)) n) (by simp) (max_kept hm HBX.out))
  clear hm
  rw [World.size_alloc] at HP
  obtain ⟨f, hi, lo⟩ := a
  go_enter Tryd.func26, Tryd.ntmps26
  go_wp2_with fail
  refine HP.out.mono ?_
  rintro e w1 ⟨rfl, hb⟩
  have HB := Lib.hid (below_step HBX.out hb HBX.out.size)
  clear hb
  go_wp2_with fail
  go_ret
  exact ⟨rfl, HB.out⟩
end Go.Proofs.Tryd.Rows

/- rows: the values; the clock's and clients' keys. -/
set_option linter.unusedVariables false
set_option linter.unusedSimpArgs false
set_option maxRecDepth 100000
namespace Go.Proofs.Tryd.Rows
open Go.RowKit Go.Cph Go.Cph.Ok Go.Proofs.Tryd.Nu Go.Proofs.Tryd.Ok
open Go.Cph.Px (Ad Pf rightA bytesA rightP)
open Go.Proofs.Tryd.Pfx (encA bcell)
def ownerB (s : ByteArray) : Bool := decide (0 < s.size) && decide (s.size ≤ 32)
theorem size0 {s : ByteArray} (h : s.size = 0) : s = ⟨#[]⟩ := by
  cases s with
  | mk d =>
    have : d = #[] := Array.eq_empty_of_size_eq_zero h
    rw [this]
theorem owner_any (s : ByteArray) (w : World) : Calls Tryd.prog 34 #[.string s] w fun e w' => e = .returned (.bool (ownerB s)) ∧ w' = w := by
  by_cases h0 : s.size = 0
  · obtain rfl := size0 h0
    go_enter Tryd.func34, Tryd.ntmps34
    go_wp2_with fail
    go_ret
    exact ⟨rfl, rfl⟩
  · have he := Go.Cph.str_some s h0
    have HE := Lib.hid (show ownerB s = decide (s.size ≤ 32) from by unfold ownerB; rw [decide_eq_true (show 0 < s.size by omega), Bool.true_and])
    by_cases h1 : s.size ≤ 32
    · have h2 : (s.size : Int) ≤ 32 := by omega
      have HF := Lib.hid (show ownerB s = true from by rw [HE.out]; exact decide_eq_true h1)
      clear HE h0
      go_enter Tryd.func34, Tryd.ntmps34
      go_wp2_with fail
      go_ret
      exact ⟨ret_bool (by rw [HF.out]), rfl⟩
    · have h2 : ¬ (s.size : Int) ≤ 32 := by omega
      have HF := Lib.hid (show ownerB s = false from by rw [HE.out]; exact decide_eq_false h1)
      clear HE h0
      go_enter Tryd.func34, Tryd.ntmps34
      go_wp2_with fail
      go_ret
      exact ⟨ret_bool (by rw [HF.out]), rfl⟩
def textB (s : ByteArray) : Bs := row s.size ++ s.data.toList
def rowsS (l : List UInt64) : ByteArray := ⟨(rows l).toArray⟩
theorem rowsS_list (l : List UInt64) : (rowsS l).data.toList = rows l := rfl
theorem rowsS_size (l : List UInt64) : (rowsS l).size ≤ 9 * l.length := by
  rw [Go.Lib.size_eq, rowsS_list]; have := rows_len l; omega
theorem rows_one (n : UInt64) : rows [n] = row n.toNat := List.append_nil _
theorem text_size (s : ByteArray) (h : s.size ≤ 1000000) : (ofBs (textB s)).size ≤ s.size + 9 := by
  rw [ofBs_size]; unfold textB; rw [List.length_append]
  have := row_le (n := s.size) (by omega)
  have e : s.data.toList.length = s.size := rfl
  omega
set_option maxHeartbeats 500000 in
theorem text1 (s : ByteArray) (b : Nat) (w : World) (h : w.cell? ⟨b, 0, none⟩ = some (.string s)) (hs : s.size ≤ 1000000) :
    Calls Tryd.prog 35 #[.slice (some ⟨b, 0, none⟩) 1 1] w fun e w' => e = .returned (.string (ofBs (textB s))) ∧ Below w.heap.size w w' := by
  have H := Lib.hid h
  obtain ⟨u, hu⟩ : ∃ u, u = UInt64.ofNat s.size := ⟨_, rfl⟩
  have hun : u.toNat = s.size := by rw [hu, UInt64.toNat_ofNat']; omega
  have k1 : IntKind.u64.wrap (s.size : Int) = (u.toNat : Int) := by rw [IntKind.wrap_u64, hun]; omega
  have HV := Lib.hid (fun W => var_any _ [u] _ (nums_one W u) (by simp))
  have HX := Lib.hid (show (rowsS [u] ++ s).data.toList = textB s from by rw [cat_list, rowsS_list, rows_one, hun]; rfl)
  have zx : (rowsS [u]).size ≤ 9 := rowsS_size [u]
  have zy : (rowsS [u] ++ s).size ≤ 1000009 := by rw [ByteArray.size_append]; omega
  obtain ⟨X, hX⟩ : ∃ X, X = rowsS [u] := ⟨_, rfl⟩
  have HV2 := Lib.hid (fun (W : World) => show Calls Tryd.prog 36 #[.slice (some ⟨W.heap.size, 0, none⟩) 1 1] (W.alloc (.cells #[.int .u64 (u.toNat : Int)] 22)) fun e w' => e = .returned (.string X) ∧ Below (W.alloc (.cells #[.int .u64 (u.toNat : Int)] 22)).heap.size (W.alloc (.cells #[.int .u64 (u.toNat : Int)] 22)) w' from by rw [hX]; exact HV.out W)
  rw [← hX] at HX zx zy
  clear h hu hX HV hun
  go_enter Tryd.func35, Tryd.ntmps35
  go_wp2_with fail
  go_loopw [3, 8] (fun v3 v8 W => ((v3 = .string ⟨#[]⟩ ∧ v8 = .int .i64 0) ∨ (v3 = .string (ofBs (textB s)) ∧ v8 = .int .i64 1)) ∧ Below w.heap.size w W) (fun _ v8 _ => 1 - (intOf v8).toNat)
  case atStart => exact ⟨.inl ⟨rfl, rfl⟩, Below.refl _ _⟩
  case round =>
    obtain ⟨hst, hb⟩ := hrel
    rcases hst with ⟨rfl, rfl⟩ | ⟨rfl, rfl⟩
    · have HB := Lib.hid hb
      have hc := cell_kept hb H.out
      have HBN := Lib.hid (show Below w.heap.size w (wr.alloc (.cells #[.int .u64 (u.toNat : Int)] 22)) from hb.alloc hb.size _)
      clear hb
      go_wp2_with fail
      refine (HV2.out _).mono ?_
      rintro e w1 ⟨rfl, hb⟩
      have HB1 := Lib.hid (below_step HBN.out hb HBN.out.size)
      clear hb
      go_wp2_with fail
      go_roundw
      case rel => exact ⟨.inr ⟨by congr 1; exact list_eq2 (by rw [ofBs_list, ← HX.out]; simp [cat_list]), rfl⟩, HB1.out⟩
      case measure => simp [intOf]
    · have HB := Lib.hid hb
      clear hb
      go_wp2_with fail
      go_ret
      exact ⟨rfl, HB.out⟩
def leaseV (who : ByteArray) (u : UInt64) : ByteArray := ofBs (textB who ++ row u.toNat)
def clientV (n : UInt64) (a : ByteArray) : ByteArray := ofBs (row n.toNat ++ textB a)
theorem str_one (w : World) (s : ByteArray) : (w.alloc (.cells #[.string s] 9)).cell? ⟨w.heap.size, 0, none⟩ = some (.string s) := by
  rw [blk_cell (heap_alloc_new w _)]; rfl
theorem ofBs_app (a b : Bs) : ofBs a ++ ofBs b = ofBs (a ++ b) := list_eq2 (by rw [cat_list, ofBs_list, ofBs_list, ofBs_list])
set_option maxHeartbeats 500000 in
theorem leaseValue (who : ByteArray) (u : UInt64) (w : World) (hw : who.size ≤ 1000000) : Calls Tryd.prog 6 #[.string who, .int .u64 (u.toNat : Int)] w
    fun e w' => e = .returned (if ownerB who then .tuple #[.string (leaseV who u), .int .i64 0] else .tuple #[.string ⟨#[]⟩, .int .i64 1]) ∧ Below w.heap.size w w' := by
  have HO := Lib.hid (fun W => owner_any who W)
  have HT := Lib.hid (fun W => text1 who W.heap.size _ (str_one W who) hw)
  have HV := Lib.hid (fun (W : World) => show Calls Tryd.prog 36 #[.slice (some ⟨W.heap.size, 0, none⟩) 1 1] (W.alloc (.cells #[.int .u64 (u.toNat : Int)] 22)) _ from var_any _ [u] _ (nums_one W u) (by simp))
  rw [rows_one] at HV
  have zx := text_size who hw
  have zy : (ofBs (row u.toNat)).size ≤ 9 := by rw [ofBs_size]; exact row_le u.toNat_lt
  have HX := Lib.hid (ofBs_app (textB who) (row u.toNat))
  have HL := Lib.hid (show leaseV who u = ofBs (textB who ++ row u.toNat) from rfl)
  obtain ⟨X, hX⟩ : ∃ X, X = ofBs (textB who) := ⟨_, rfl⟩
  obtain ⟨Y, hY⟩ : ∃ Y, Y = ofBs (row u.toNat) := ⟨_, rfl⟩
  have HV2 := Lib.hid (fun (W : World) => show Calls Tryd.prog 36 #[.slice (some ⟨W.heap.size, 0, none⟩) 1 1] (W.alloc (.cells #[.int .u64 (u.toNat : Int)] 22)) fun e w' => e = .returned (.string Y) ∧ Below (W.alloc (.cells #[.int .u64 (u.toNat : Int)] 22)).heap.size (W.alloc (.cells #[.int .u64 (u.toNat : Int)] 22)) w' from by rw [hY]; exact HV.out W)
  rw [← hX] at HT zx HX
  rw [← hY] at zy HX
  rw [← HL.out] at HX
  clear hX hY HV HL
  have HB1 := Lib.hid (show Below w.heap.size w (w.alloc (.cells #[.string who] 9)) from (Below.refl _ _).alloc (Nat.le_refl _) _)
  cases ho : ownerB who with
  | false =>
    rw [ho] at HO
    clear ho
    go_enter Tryd.func6, Tryd.ntmps6
    go_wp2_with fail
    refine (HO.out _).mono ?_
    rintro e w1 ⟨rfl, rfl⟩
    go_wp2_with fail
    exact bodyPost_ret (v := .tuple #[.string ⟨#[]⟩, .int .i64 1]) (by simp [results, Tryd.results6, go_sem]) rfl ⟨rfl, Below.refl _ _⟩
  | true =>
    rw [ho] at HO
    clear ho
    go_enter Tryd.func6, Tryd.ntmps6
    go_wp2_with fail
    refine (HO.out _).mono ?_
    rintro e w1 ⟨rfl, rfl⟩
    go_wp2_with fail
    refine (HT.out _).mono ?_
    rintro e w2 ⟨rfl, hb⟩
    have HB2 := Lib.hid (below_step HB1.out hb HB1.out.size)
    have HB3 := Lib.hid (show Below w1.heap.size w1 (w2.alloc (.cells #[.int .u64 (u.toNat : Int)] 22)) from HB2.out.alloc HB2.out.size _)
    clear hb
    go_wp2_with fail
    refine (HV2.out _).mono ?_
    rintro e w3 ⟨rfl, hb⟩
    have HB4 := Lib.hid (below_step HB3.out hb HB3.out.size)
    clear hb
    go_wp2_with fail
    exact bodyPost_ret (v := .tuple #[.string (X ++ Y), .int .i64 0]) (by simp [results, Tryd.results6, go_sem]) rfl ⟨by rw [HX.out], HB4.out⟩
theorem nums_three (w : World) (a b c : UInt64) : NumsAt (w.alloc (.cells #[.int .u64 (a.toNat : Int), .int .u64 (b.toNat : Int), .int .u64 (c.toNat : Int)] 22)) (.slice (some ⟨w.heap.size, 0, none⟩) 3 3) [a, b, c] :=
  ⟨⟨_, _, rfl, fun _ => ⟨w.heap.size, 0, rfl, fun j hj => by
    rw [Nat.zero_add, blk_cell (heap_alloc_new w _)]
    have hj3 : j < 3 := by simpa using hj
    rcases (show j = 0 ∨ j = 1 ∨ j = 2 by omega) with rfl | rfl | rfl <;> rfl⟩⟩, rfl⟩
def howU (how : Int) : UInt64 := UInt64.ofNat how.toNat
def eventV (how : Int) (who : ByteArray) (at_ u : UInt64) : ByteArray := ofBs (rows [howU how, at_, u] ++ textB who)
set_option maxHeartbeats 500000 in
theorem clientValue (n : UInt64) (an : ByteArray) (w : World) (hw : an.size ≤ 1000000) : Calls Tryd.prog 10 #[.int .u64 (n.toNat : Int), .string an] w
    fun e w' => e = .returned (if an.size ≤ 480 then .tuple #[.string (clientV n an), .int .i64 0] else .tuple #[.string ⟨#[]⟩, .int .i64 3]) ∧ Below w.heap.size w w' := by
  have HT := Lib.hid (fun (W : World) => text1 an W.heap.size _ (str_one W an) hw)
  have zx := text_size an hw
  have zy : (ofBs (row n.toNat)).size ≤ 9 := by rw [ofBs_size]; exact row_le n.toNat_lt
  have HX := Lib.hid (ofBs_app (row n.toNat) (textB an))
  have HL := Lib.hid (show clientV n an = ofBs (row n.toNat ++ textB an) from rfl)
  have HV := Lib.hid (fun (W : World) => show Calls Tryd.prog 36 #[.slice (some ⟨W.heap.size, 0, none⟩) 1 1] (W.alloc (.cells #[.int .u64 (n.toNat : Int)] 22)) _ from var_any _ [n] _ (nums_one W n) (by simp))
  rw [rows_one] at HV
  obtain ⟨X, hX⟩ : ∃ X, X = ofBs (textB an) := ⟨_, rfl⟩
  obtain ⟨Y, hY⟩ : ∃ Y, Y = ofBs (row n.toNat) := ⟨_, rfl⟩
  have HV2 := Lib.hid (fun (W : World) => show Calls Tryd.prog 36 #[.slice (some ⟨W.heap.size, 0, none⟩) 1 1] (W.alloc (.cells #[.int .u64 (n.toNat : Int)] 22)) fun e w' => e = .returned (.string Y) ∧ Below (W.alloc (.cells #[.int .u64 (n.toNat : Int)] 22)).heap.size (W.alloc (.cells #[.int .u64 (n.toNat : Int)] 22)) w' from by rw [hY]; exact HV.out W)
  rw [← hX] at HT zx HX
  rw [← hY] at zy HX
  rw [← HL.out] at HX
  clear hX hY HV HL
  have HB1 := Lib.hid (show Below w.heap.size w (w.alloc (.cells #[.int .u64 (n.toNat : Int)] 22)) from (Below.refl _ _).alloc (Nat.le_refl _) _)
  by_cases h : an.size ≤ 480
  · have k : ¬ (480 : Int) < (an.size : Int) := by omega
    rw [if_pos h]
    clear h
    go_enter Tryd.func10, Tryd.ntmps10
    go_wp2_with fail
    refine (HV2.out _).mono ?_
    rintro e w2 ⟨rfl, hb⟩
    have HB2 := Lib.hid (below_step HB1.out hb HB1.out.size)
    have HB3 := Lib.hid (show Below w.heap.size w (w2.alloc (.cells #[.string an] 9)) from HB2.out.alloc HB2.out.size _)
    clear hb
    go_wp2_with fail
    refine (HT.out _).mono ?_
    rintro e w3 ⟨rfl, hb⟩
    have HB4 := Lib.hid (below_step HB3.out hb HB3.out.size)
    clear hb
    go_wp2_with fail
    exact bodyPost_ret (v := .tuple #[.string (Y ++ X), .int .i64 0]) (by simp [results, Tryd.results10, go_sem]) rfl ⟨by rw [HX.out], HB4.out⟩
  · have k : (480 : Int) < (an.size : Int) := by omega
    rw [if_neg h]
    clear h
    go_enter Tryd.func10, Tryd.ntmps10
    go_wp2_with fail
    exact bodyPost_ret (v := .tuple #[.string ⟨#[]⟩, .int .i64 3]) (by simp [results, Tryd.results10, go_sem]) rfl ⟨rfl, Below.refl _ _⟩
def howOk (how : Int) (who : ByteArray) : Bool := ownerB who && (decide (1 ≤ how) && decide (how ≤ 4))
set_option maxHeartbeats 500000 in
theorem eventValue (how : Int) (who : ByteArray) (at_ u : UInt64) (w : World) (hw : who.size ≤ 1000000) : Calls Tryd.prog 8 #[.int .i64 how, .string who, .int .u64 (at_.toNat : Int), .int .u64 (u.toNat : Int)] w
    fun e w' => e = .returned (if howOk how who then .tuple #[.string (eventV how who at_ u), .int .i64 0] else .tuple #[.string ⟨#[]⟩, .int .i64 1]) ∧ Below w.heap.size w w' := by
  have HO := Lib.hid (fun (W : World) => owner_any who W)
  have HK := Lib.hid (show howOk how who = (ownerB who && (decide (1 ≤ how) && decide (how ≤ 4))) from rfl)
  by_cases hok : howOk how who = true
  · have h3 := hok
    unfold howOk at h3
    simp only [Bool.and_eq_true, decide_eq_true_eq] at h3
    obtain ⟨ho, h1, h4⟩ := h3
    rw [if_pos hok]
    obtain ⟨c, hc⟩ : ∃ c, c = howU how := ⟨_, rfl⟩
    have kc : IntKind.u64.wrap how = (c.toNat : Int) := by rw [hc]; unfold howU; rw [IntKind.wrap_u64, UInt64.toNat_ofNat']; omega
    have k1 : ¬ how < 1 := by omega
    have k2 : ¬ 4 < how := by omega
    have HT := Lib.hid (fun (W : World) => text1 who W.heap.size _ (str_one W who) hw)
    have HX := Lib.hid (show rowsS [c, at_, u] ++ ofBs (textB who) = eventV how who at_ u from by rw [hc]; exact ofBs_app (rows [howU how, at_, u]) (textB who))
    have zx := text_size who hw
    have zy : (rowsS [c, at_, u]).size ≤ 27 := rowsS_size [c, at_, u]
    have HV := Lib.hid (fun (W : World) => show Calls Tryd.prog 36 #[.slice (some ⟨W.heap.size, 0, none⟩) 3 3] (W.alloc (.cells #[.int .u64 (c.toNat : Int), .int .u64 (at_.toNat : Int), .int .u64 (u.toNat : Int)] 22)) (fun e w' => e = .returned (.string (rowsS [c, at_, u])) ∧ _) from var_any _ [c, at_, u] _ (nums_three W c at_ u) (by simp))
    obtain ⟨X, hX⟩ : ∃ X, X = ofBs (textB who) := ⟨_, rfl⟩
    obtain ⟨Y, hY⟩ : ∃ Y, Y = rowsS [c, at_, u] := ⟨_, rfl⟩
    rw [← hX] at HT zx HX
    rw [← hY] at zy HX HV
    rw [ho] at HO
    clear hX hY HK hc ho hok h1 h4
    have HB1 := Lib.hid (show Below w.heap.size w (w.alloc (.cells #[.int .u64 (c.toNat : Int), .int .u64 (at_.toNat : Int), .int .u64 (u.toNat : Int)] 22)) from (Below.refl _ _).alloc (Nat.le_refl _) _)
    go_enter Tryd.func8, Tryd.ntmps8
    go_wp2_with fail
    refine (HO.out _).mono ?_
    rintro e w1 ⟨rfl, rfl⟩
    go_wp2_with fail
    refine (HV.out _).mono ?_
    rintro e w2 ⟨rfl, hb⟩
    have HB2 := Lib.hid (below_step HB1.out hb HB1.out.size)
    have HB3 := Lib.hid (show Below w1.heap.size w1 (w2.alloc (.cells #[.string who] 9)) from HB2.out.alloc HB2.out.size _)
    clear hb
    go_wp2_with fail
    refine (HT.out _).mono ?_
    rintro e w3 ⟨rfl, hb⟩
    have HB4 := Lib.hid (below_step HB3.out hb HB3.out.size)
    clear hb
    go_wp2_with fail
    exact bodyPost_ret (v := .tuple #[.string (Y ++ X), .int .i64 0]) (by simp [results, Tryd.results8, go_sem]) rfl ⟨by rw [HX.out], HB4.out⟩
  · rw [if_neg hok]
    cases ho : ownerB who with
    | false =>
      rw [ho] at HO
      clear ho hok HK
      go_enter Tryd.func8, Tryd.ntmps8
      go_wp2_with fail
      refine (HO.out _).mono ?_
      rintro e w1 ⟨rfl, rfl⟩
      go_wp2_with fail
      exact bodyPost_ret (v := .tuple #[.string ⟨#[]⟩, .int .i64 1]) (by simp [results, Tryd.results8, go_sem]) rfl ⟨rfl, Below.refl _ _⟩
    | true =>
      rw [ho] at HO HK
      have h5 : how < 1 ∨ (¬ how < 1 ∧ 4 < how) := by
        have := HK.out
        by_cases h1 : how < 1
        · exact .inl h1
        · refine .inr ⟨h1, ?_⟩
          refine Classical.byContradiction fun h4 => hok ?_
          rw [this, decide_eq_true (show 1 ≤ how by omega), decide_eq_true (show how ≤ 4 by omega)]; rfl
      clear ho hok HK
      rcases h5 with h1 | ⟨h1, h4⟩
      all_goals
        go_enter Tryd.func8, Tryd.ntmps8
        go_wp2_with fail
        refine (HO.out _).mono ?_
        rintro e w1 ⟨rfl, rfl⟩
        go_wp2_with fail
        exact bodyPost_ret (v := .tuple #[.string ⟨#[]⟩, .int .i64 1]) (by simp [results, Tryd.results8, go_sem]) rfl ⟨rfl, Below.refl _ _⟩
end Go.Proofs.Tryd.Rows

/- rows: addr.FromBytes. -/
set_option linter.unusedVariables false
set_option linter.unusedSimpArgs false
set_option maxRecDepth 100000
namespace Go.Proofs.Tryd.Rows
open Go.RowKit Go.Cph Go.Cph.Ok Go.Proofs.Tryd.Nu Go.Proofs.Tryd.Ok
open Go.Cph.Px (Ad Pf rightA bytesA rightP fromB fromOk)
open Go.Proofs.Tryd.Pfx (encA bcell)
abbrev boxZ : Obj := .cells #[.int .u8 0, .int .u64 0, .int .u64 0] 40 (0, 0)
structure ZeroA (w : World) (b : Nat) : Prop where
  c0 : w.cell? ⟨b, 0, none⟩ = some (.int .u8 0)
  c1 : w.cell? ⟨b, 1, none⟩ = some (.int .u64 0)
  c2 : w.cell? ⟨b, 2, none⟩ = some (.int .u64 0)
  f0 : w.frozen? ⟨b, 0, none⟩ = false
  f1 : w.frozen? ⟨b, 1, none⟩ = false
  f2 : w.frozen? ⟨b, 2, none⟩ = false
theorem zeroA_of {w : World} {b : Nat} (h : w.heap[b]? = some boxZ) : ZeroA w b := ⟨by rw [blk_cell h]; rfl, by rw [blk_cell h]; rfl, by rw [blk_cell h]; rfl, by rw [blk_frozen h]; rfl, by rw [blk_frozen h]; rfl, by rw [blk_frozen h]; rfl⟩
theorem zeroA_kept {w W : World} (hb : Below (w.alloc boxZ).heap.size (w.alloc boxZ) W) : ZeroA W w.heap.size := zeroA_of (blk_kept hb (heap_alloc_new w boxZ))
theorem below_set3 {w W : World} (h : Below w.heap.size w W) (x y z : Value) : Below w.heap.size w (((W.setCell ⟨w.heap.size, 0, none⟩ x).setCell ⟨w.heap.size, 1, none⟩ y).setCell ⟨w.heap.size, 2, none⟩ z) :=
  ((h.setCell (p := ⟨w.heap.size, 0, none⟩) (Nat.le_refl _) _).setCell (p := ⟨w.heap.size, 1, none⟩) (Nat.le_refl _) _).setCell (p := ⟨w.heap.size, 2, none⟩) (Nat.le_refl _) _
/-- What FromBytes answers. -/
def encFB (fam : UInt8) (s : ByteArray) : Value := .tuple #[encA (fromB fam s.data.toList), .bool (fromOk fam s.size)]
theorem val_two (x y : Bs) : val (x ++ y) = val x * 256 ^ y.length + val y := by
  suffices k : ∀ (y : Bs) (x : Bs), val (x ++ y.reverse) = val x * 256 ^ y.reverse.length + val y.reverse by simpa using k y.reverse x
  intro y
  induction y with
  | nil => intro x; simp [val]
  | cons b y ih =>
    intro x
    rw [List.reverse_cons, ← List.append_assoc, val_snoc, ih x, val_snoc, List.length_append, List.length_singleton, Nat.pow_succ, Nat.mul_add, ← Nat.mul_assoc]
    rw [Nat.mul_comm 256 (val x), Nat.mul_assoc (val x), Nat.mul_comm 256, Nat.add_assoc]
theorem fromB_4 (s : ByteArray) (h : s.size = 4) : fromB 4 s.data.toList = (4, 0, UInt64.ofNat (val (s.data.toList.take 4))) := by
  have hl : s.data.toList.length = 4 := h
  have hv := val_lt s.data.toList
  rw [hl] at hv
  unfold fromB
  rw [if_pos (by rw [hl]; rfl), List.take_of_length_le (by omega)]
  show ((4 : UInt8), UInt64.ofNat (val s.data.toList / 18446744073709551616), UInt64.ofNat (val s.data.toList)) = _
  rw [Nat.div_eq_of_lt (by omega)]; rfl
theorem fromB_6 (s : ByteArray) (h : s.size = 16) : fromB 6 s.data.toList = (6, UInt64.ofNat (val (s.data.toList.take 8)), UInt64.ofNat (val ((s.data.toList.drop 8).take 8))) := by
  have hl : s.data.toList.length = 16 := h
  have h1 : (s.data.toList.take 8).length = 8 := by rw [List.length_take]; omega
  have h2 : (s.data.toList.drop 8).length = 8 := by rw [List.length_drop]; omega
  have hv2 := val_lt (s.data.toList.drop 8)
  rw [h2] at hv2
  unfold fromB
  rw [if_pos (by rw [hl]; rfl), List.take_of_length_le (l := s.data.toList.drop 8) (by omega)]
  have hv := val_two (s.data.toList.take 8) (s.data.toList.drop 8)
  rw [List.take_append_drop, h2] at hv
  show ((6 : UInt8), UInt64.ofNat (val s.data.toList / 18446744073709551616), UInt64.ofNat (val s.data.toList)) = _
  have e1 : val s.data.toList / 18446744073709551616 = val (s.data.toList.take 8) := by omega
  have e2 : UInt64.ofNat (val s.data.toList) = UInt64.ofNat (val (s.data.toList.drop 8)) := by
    apply UInt64.toNat_inj.1
    rw [UInt64.toNat_ofNat', UInt64.toNat_ofNat']; omega
  rw [e1, e2]
theorem fromB_no (fam : UInt8) (s : ByteArray) (h : fromOk fam s.size = false) : fromB fam s.data.toList = (0, 0, 0) := by
  unfold fromB
  rw [if_neg (by rw [show s.data.toList.length = s.size from rfl, h]; exact Bool.false_ne_true)]; rfl
theorem u64_val {l : Bs} (h : l.length ≤ 8) : ((UInt64.ofNat (val l)).toNat : Int) = (val l : Int) := by
  have := val_lt l
  have h2 : 256 ^ l.length ≤ 256 ^ 8 := Nat.pow_le_pow_right (by omega) h
  rw [UInt64.toNat_ofNat']; omega
set_option maxHeartbeats 800000 in
theorem fromBytes (fam : UInt8) (s : ByteArray) (w : World) (hs : s.size ≤ 1000000000) : Calls Tryd.prog 66 #[.int .u8 (fam.toNat : Int), .string s] w fun e w' => e = .returned (encFB fam s) ∧ Below w.heap.size w w' := by
  have HB0 := Lib.hid (show Below w.heap.size w (w.alloc boxZ) from (Below.refl _ _).alloc (Nat.le_refl _) _)
  have HZC := Lib.hid (fun W (hb : Below (w.alloc boxZ).heap.size (w.alloc boxZ) W) => zeroA_kept hb)
  have hcase : (fam = 4 ∧ s.size = 4) ∨ (fam = 6 ∧ s.size = 16) ∨ fromOk fam s.size = false := by
    cases h : fromOk fam s.size with
    | false => exact .inr (.inr rfl)
    | true =>
      simp only [fromOk, Bool.or_eq_true, Bool.and_eq_true, beq_iff_eq] at h
      rcases h with h | h
      · exact .inl h
      · exact .inr (.inl h)
  rcases hcase with ⟨rfl, h4⟩ | ⟨rfl, h6⟩ | hno
  · have HV := Lib.hid (show encFB 4 s = .tuple #[.agg #[.int .u8 4, .int .u64 0, .int .u64 (val (s.data.toList.take 4) : Int)], .bool true] from by
      unfold encFB
      rw [fromB_4 s h4, h4]
      show Value.tuple #[.agg #[.int .u8 _, .int .u64 _, .int .u64 ((UInt64.ofNat (val (s.data.toList.take 4))).toNat : Int)], _] = _
      rw [u64_val (by rw [List.length_take]; omega)]; rfl)
    have HR := Lib.hid (fun (W : World) => show Calls Tryd.prog 55 #[.string s, .int .i64 4] W (fun e w' => e = .returned (.tuple #[.int .u64 (val (s.data.toList.take 4) : Int), .bool true]) ∧ Below W.heap.size W w') from by
      have := big_any s 4 W (by omega) (by omega) (by omega)
      rw [if_neg (by omega), decide_eq_false (by omega)] at this
      exact this)
    obtain ⟨n, hn⟩ : ∃ n, n = val (s.data.toList.take 4) := ⟨_, rfl⟩
    rw [← hn] at HV HR
    have h4i : (s.size : Int) = 4 := by omega
    clear hn
    go_enter Tryd.func66, Tryd.ntmps66
    go_wp2_with fail
    refine (HR.out _).mono ?_
    rintro e w1 ⟨rfl, hb⟩
    have HB := Lib.hid (below_step HB0.out hb HB0.out.size)
    have c0 := (HZC.out w1 hb).c0
    have c1 := (HZC.out w1 hb).c1
    have c2 := (HZC.out w1 hb).c2
    have f0 := (HZC.out w1 hb).f0
    have f1 := (HZC.out w1 hb).f1
    have f2 := (HZC.out w1 hb).f2
    clear hb
    go_wp2_with fail
    exact bodyPost_ret (v := .tuple #[.agg #[.int .u8 4, .int .u64 0, .int .u64 (n : Int)], .bool true]) (by simp [results, Tryd.results66, go_sem, c0, c1, c2]) rfl ⟨by rw [HV.out], below_set3 HB.out _ _ _⟩
  · have HEX := Lib.hid (show (s.extract 8 s.size).data.toList = s.data.toList.drop 8 from by
      rw [ByteArray.data_extract, Array.toList_extract, List.extract_eq_take_drop]
      exact List.take_of_length_le (by rw [List.length_drop]; exact Nat.le_refl _))
    have HV := Lib.hid (show encFB 6 s = .tuple #[.agg #[.int .u8 6, .int .u64 (val (s.data.toList.take 8) : Int), .int .u64 (val ((s.data.toList.drop 8).take 8) : Int)], .bool true] from by
      unfold encFB
      rw [fromB_6 s h6, h6]
      show Value.tuple #[.agg #[.int .u8 _, .int .u64 ((UInt64.ofNat (val (s.data.toList.take 8))).toNat : Int), .int .u64 ((UInt64.ofNat (val ((s.data.toList.drop 8).take 8))).toNat : Int)], _] = _
      rw [u64_val (by rw [List.length_take]; omega), u64_val (by rw [List.length_take]; omega)]; rfl)
    have HR1 := Lib.hid (fun (W : World) => show Calls Tryd.prog 55 #[.string s, .int .i64 8] W (fun e w' => e = .returned (.tuple #[.int .u64 (val (s.data.toList.take 8) : Int), .bool true]) ∧ Below W.heap.size W w') from by
      have := big_any s 8 W (by omega) (by omega) (by omega)
      rw [if_neg (by omega), decide_eq_false (by omega)] at this
      exact this)
    have hz : (s.extract 8 s.size).size = 8 := by rw [ByteArray.size_extract]; omega
    have HR2 := Lib.hid (fun (W : World) => show Calls Tryd.prog 55 #[.string (s.extract 8 s.size), .int .i64 8] W (fun e w' => e = .returned (.tuple #[.int .u64 (val ((s.data.toList.drop 8).take 8) : Int), .bool true]) ∧ Below W.heap.size W w') from by
      have := big_any (s.extract 8 s.size) 8 W (by omega) (by omega) (by omega)
      rw [if_neg (by omega), decide_eq_false (by omega), HEX.out] at this
      exact this)
    rw [h6] at HR2
    obtain ⟨n, hn⟩ : ∃ n, n = val (s.data.toList.take 8) := ⟨_, rfl⟩
    obtain ⟨k, hk⟩ : ∃ k, k = val ((s.data.toList.drop 8).take 8) := ⟨_, rfl⟩
    rw [← hn] at HV HR1
    rw [← hk] at HV HR2
    have h6i : (s.size : Int) = 16 := by omega
    clear hn hk HEX hz
    go_enter Tryd.func66, Tryd.ntmps66
    go_wp2_with fail
    refine (HR1.out _).mono ?_
    rintro e w1 ⟨rfl, hb⟩
    have HB := Lib.hid hb
    clear hb
    go_wp2_with fail
    refine (HR2.out _).mono ?_
    rintro e w2 ⟨rfl, hb⟩
    have HBZ := Lib.hid (below_step HB.out hb HB.out.size)
    have HB2 := Lib.hid (below_step HB0.out HBZ.out HB0.out.size)
    have c0 := (HZC.out w2 HBZ.out).c0
    have c1 := (HZC.out w2 HBZ.out).c1
    have c2 := (HZC.out w2 HBZ.out).c2
    have f0 := (HZC.out w2 HBZ.out).f0
    have f1 := (HZC.out w2 HBZ.out).f1
    have f2 := (HZC.out w2 HBZ.out).f2
    clear hb
    go_wp2_with fail
    exact bodyPost_ret (v := .tuple #[.agg #[.int .u8 6, .int .u64 (n : Int), .int .u64 (k : Int)], .bool true]) (by simp [results, Tryd.results66, go_sem, c0, c1, c2]) rfl ⟨by rw [HV.out], below_set3 HB2.out _ _ _⟩
  · have HV := Lib.hid (show encFB fam s = .tuple #[.agg #[.int .u8 0, .int .u64 0, .int .u64 0], .bool false] from by
      unfold encFB
      rw [fromB_no fam s hno, hno]; rfl)
    have h4 : ((fam.toNat : Int) == 4) = (fam == 4) := Pfx.u8_eq fam 4
    have h6 : ((fam.toNat : Int) == 6) = (fam == 6) := Pfx.u8_eq fam 6
    have hz0 := heap_alloc_new w boxZ
    have c0 := (zeroA_of hz0).c0
    have c1 := (zeroA_of hz0).c1
    have c2 := (zeroA_of hz0).c2
    have f0 := (zeroA_of hz0).f0
    have f1 := (zeroA_of hz0).f1
    have f2 := (zeroA_of hz0).f2
    clear hz0
    by_cases k4 : fam = 4
    · subst k4
      have k5 : ¬ s.size = 4 := fun h => by rw [h] at hno; exact absurd hno (by decide)
      have k6 : ((s.size : Int) == 4) = false := by simp; omega
      have k7 : ¬ (s.size : Int) = 4 := by omega
      clear hno h4 h6
      go_enter Tryd.func66, Tryd.ntmps66
      go_wp2_with fail
      exact bodyPost_ret (v := .tuple #[.agg #[.int .u8 0, .int .u64 0, .int .u64 0], .bool false]) (by simp [results, Tryd.results66, go_sem, c0, c1, c2]) rfl ⟨by rw [HV.out], HB0.out⟩
    · have e4 : (fam == 4) = false := by simpa using k4
      rw [e4] at h4
      by_cases k5 : fam = 6
      · subst k5
        have k5 : ¬ s.size = 16 := fun h => by rw [h] at hno; exact absurd hno (by decide)
        have k6 : ((s.size : Int) == 16) = false := by simp; omega
        have k7 : ¬ (s.size : Int) = 16 := by omega
        clear hno h4 h6 e4 k4
        go_enter Tryd.func66, Tryd.ntmps66
        go_wp2_with fail
        exact bodyPost_ret (v := .tuple #[.agg #[.int .u8 0, .int .u64 0, .int .u64 0], .bool false]) (by simp [results, Tryd.results66, go_sem, c0, c1, c2]) rfl ⟨by rw [HV.out], HB0.out⟩
      · have e6 : (fam == 6) = false := by simpa using k5
        rw [e6] at h6
        have m4 : ¬ (fam.toNat : Int) = 4 := by simpa using h4
        have m6 : ¬ (fam.toNat : Int) = 6 := by simpa using h6
        clear hno e4 k4 e6 k5
        go_enter Tryd.func66, Tryd.ntmps66
        go_wp2_with fail
        exact bodyPost_ret (v := .tuple #[.agg #[.int .u8 0, .int .u64 0, .int .u64 0], .bool false]) (by simp [results, Tryd.results66, go_sem, c0, c1, c2]) rfl ⟨by rw [HV.out], HB0.out⟩
end Go.Proofs.Tryd.Rows
