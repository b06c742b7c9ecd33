/- MX: texts put together: Ok1 Ok2 Ok4 Ok5 Ok6. -/
import Derived.Test.YtccopljpceolcabDoorMB
import Derived.Test.YtccopljpceolcabDoorMA
import Derived.Deep.DeepCutAuto
import Derived.Deep.RegionHeld3
/- Parts of keys: how they lie in memory; a builder of texts, kept; okey.Key. -/
set_option linter.unusedVariables false
set_option linter.unusedSimpArgs false
set_option maxRecDepth 100000
namespace Go.Proofs.Tryd.Ok
open Go.RowKit Go.Cph Go.Cph.Ok Go.Proofs.Tryd.Nu
abbrev TP : TypeId := 86
abbrev TPs : TypeId := 82
abbrev TBd : TypeId := 104
abbrev encC (p : Pt) : List Value := [.bool p.text, .string p.s, .int .u64 (p.n.toNat : Int)]
abbrev encP (p : Pt) : Value := .agg #[.bool p.text, .string p.s, .int .u64 (p.n.toNat : Int)]
theorem encC_len (p : Pt) : (encC p).length = 3 := rfl
theorem encC_one {l : List Pt} : ∀ u ∈ l.flatMap encC, u.oneCell' = true := by
  intro u hu
  rw [List.mem_flatMap] at hu
  obtain ⟨p, _, hu⟩ := hu
  simp only [encC, List.mem_cons, List.not_mem_nil, or_false] at hu
  rcases hu with rfl | rfl | rfl <;> rfl
theorem encC_one1 (p : Pt) : ∀ u ∈ encC p, u.oneCell' = true := by
  intro u hu
  simp only [encC, List.mem_cons, List.not_mem_nil, or_false] at hu
  rcases hu with rfl | rfl | rfl <;> rfl
theorem infoP : (Tryd.prog.info? TP).map (fun i => (i.zero, i.size, i.bytes)) = some (some (.agg #[.bool false, .string ByteArray.empty, .int .u64 0]), 3, 32) := by kernel_rfl
abbrev PtsAt (w : World) (v : Value) (l : List Pt) : Prop := Elems encC 3 w v l
structure CellsOf (w : World) (b o : Nat) (p : Pt) : Prop where
  c0 : w.cell? ⟨b, o, none⟩ = some (.bool p.text)
  c1 : w.cell? ⟨b, o + 1, none⟩ = some (.string p.s)
  c2 : w.cell? ⟨b, o + 2, none⟩ = some (.int .u64 (p.n.toNat : Int))
theorem CellsOf.kept {w w' : World} {b o : Nat} {p : Pt} (h : CellsOf w b o p) (hb : Below w.heap.size w w') : CellsOf w' b o p := ⟨cell_kept hb h.c0, cell_kept hb h.c1, cell_kept hb h.c2⟩
theorem pts_cells {w : World} {v : Value} {l : List Pt} (h : PtsAt w v l) (h0 : 0 < l.length) :
    ∃ b off cap, v = .slice (some ⟨b, off, none⟩) l.length cap ∧ ∀ i (hi : i < l.length), CellsOf w b (off + i * 3) l[i] := by
  obtain ⟨b, off, cap, hv, hc⟩ := elems_shape encC_len h h0
  exact ⟨b, off, cap, hv, fun i hi => ⟨hc i hi 0 (by omega), hc i hi 1 (by omega), hc i hi 2 (by omega)⟩⟩
abbrev boxP (p : Pt) : Obj := .cells #[.bool p.text, .string p.s, .int .u64 (p.n.toNat : Int)] 86 (0, 0)
theorem box_cells {w : World} {b : Nat} {p : Pt} {E : TypeId} {fr : Nat × Nat} (h : w.heap[b]? = some (.cells #[.bool p.text, .string p.s, .int .u64 (p.n.toNat : Int)] E fr)) : CellsOf w b 0 p :=
  ⟨by rw [blk_cell h]; rfl, by rw [blk_cell h]; rfl, by rw [blk_cell h]; rfl⟩
/-- A builder of texts that holds these bytes. -/
abbrev Bld (B b : Nat) (bs : Bs) (w : World) : Prop := Lib.IsBuilder TBd T8 B b (Nu.byteCells bs) w
theorem row_kept1 {w w' : World} {base : Nat} {e : TypeId} {size : Nat} {v : Value} {n : Nat} {xs : List Value} (h : w.ownsRow base e size v n xs)
    (hk : ∀ k, v.ownBlock = some k → w'.heap[k]? = w.heap[k]?) : w'.ownsRow base e size v n xs := by
  obtain ⟨h1, h2⟩ := h
  refine ⟨h1, ?_⟩
  rcases h2 with h2 | ⟨g, cap, cur, rfl, h4, h5, r⟩
  · exact .inl h2
  · exact .inr ⟨g, cap, cur, rfl, h4, (hk g rfl).trans h5, r⟩
theorem row_keptB {w w' : World} {base : Nat} {e : TypeId} {size n : Nat} {v : Value} {xs : List Value} (h : w.ownsRow base e size v n xs) (hb : Below w.heap.size w w') : w'.ownsRow base e size v n xs :=
  row_kept1 h fun q hq => hb.block q (h.lt q hq).2
theorem bld_kept {B b : Nat} {bs : Bs} {w w' : World} (h : Bld B b bs w) (hb : Below w.heap.size w w') : Bld B b bs w' := by
  have k : ∀ p, Lib.BuilderAt TBd T8 B b p (Nu.byteCells bs) w → Lib.BuilderAt TBd T8 B b p (Nu.byteCells bs) w' := fun p h => by
    obtain ⟨h1, v, h2, h3, h4⟩ := h
    exact ⟨h1, v, blk_kept hb h2, row_keptB h3 hb, h4⟩
  exact h.imp (k _) (k _)
theorem write_any (B b : Nat) (bs : Bs) (s : ByteArray) (w : World) (h : Bld B b bs w) (hlen : bs.length + s.size ≤ 100000000000) (hBw : B ≤ w.heap.size) :
    Calls Tryd.prog 62 #[.pointer (some ⟨b, 0, none⟩), .string s] w fun e w' => e = .returned (.tuple #[.int .i64 s.size, .nilIface]) ∧ Bld B b (bs ++ s.data.toList) w' ∧ Below B w w' := by
  have c := Any.Builder_WriteString { Tryd.lays154 with } Tryd.Builder_Extra_154 B b (Nu.byteCells bs) s w h (by rw [byteCells_len]; omega) hBw
  refine c.mono fun e w' ⟨h1, h2, h3⟩ => ⟨h1, Or.inr ?_, h3⟩
  rw [byteCells_append]; exact h2
theorem string_any (B b : Nat) (bs : Bs) (w : World) (h : Bld B b bs w) (hBw : B ≤ w.heap.size) :
    Calls Tryd.prog 64 #[.pointer (some ⟨b, 0, none⟩)] w fun e w' => e = .returned (.string (ofBs bs)) ∧ Below B w w' := Tryd.Builder_String_any B b bs w h hBw
theorem replace_any (s : ByteArray) (m : Int) (w : World) (hs : s.size ≤ 4294967280) (hm : w.cell? ⟨0, 0, none⟩ = some (.int .i64 m)) :
    Calls Tryd.prog 63 #[.string s, .string ⟨#[0]⟩, .string ⟨#[0, 255]⟩] w fun e w' => e = .returned (.string (ofBs (esc s.data.toList))) ∧ Below w.heap.size w w' := by
  have hc := count_zero_le s
  have c := Tryd.strings_ReplaceAll s ⟨#[0]⟩ ⟨#[0, 255]⟩ m w (by omega) hm (by decide) (by
    have e : (⟨#[0, 255]⟩ : ByteArray).size = 2 := rfl
    rw [e]; omega)
  have e := replace_esc s.data.toList
  refine c.mono fun e' w' ⟨h1, h2⟩ => ⟨?_, h2⟩
  rw [h1]
  exact congrArg Ending.returned (congrArg Value.string (congrArg ofBs e))
end Go.Proofs.Tryd.Ok

/- okey.Key: a list's key. -/
set_option linter.unusedVariables false
set_option linter.unusedSimpArgs false
set_option maxRecDepth 100000
namespace Go.Proofs.Tryd.Ok
open Go.RowKit Go.Cph Go.Cph.Ok Go.Proofs.Tryd.Nu
theorem nums_one (w : World) (n : UInt64) : NumsAt (w.alloc (.cells #[.int .u64 (n.toNat : Int)] 22)) (.slice (some ⟨w.heap.size, 0, none⟩) 1 1) [n] :=
  ⟨⟨_, _, rfl, fun _ => ⟨w.heap.size, 0, rfl, fun j hj => by
    obtain rfl : j = 0 := by simp at hj; omega
    rw [Nat.zero_add, blk_cell (heap_alloc_new w _)]; rfl⟩⟩, rfl⟩
theorem key_take (l : List Pt) {i : Nat} (h : i < l.length) : key (l.take (i + 1)) = key (l.take i) ++ Cph.Ok.bytes l[i] := by
  unfold key
  rw [List.take_succ_eq_append_getElem h, List.flatMap_append]; simp
theorem key_take_le (l : List Pt) (i : Nat) : (key (l.take i)).length ≤ (key l).length := by
  have h : key l = key (l.take i) ++ key (l.drop i) := by rw [← key_append, List.take_append_drop]
  rw [h, List.length_append]; omega
theorem ofBs_size (l : Bs) : (ofBs l).size = l.length := by rw [Go.Lib.size_eq, ofBs_list]
set_option maxHeartbeats 6400000 in
theorem key_any (v : Value) (l : List Pt) (m : Int) (w : World) (h : PtsAt w v l) (hl : l.length ≤ 1000000) (hk : (key l).length ≤ 1000000000) (hm : w.cell? ⟨0, 0, none⟩ = some (.int .i64 m)) :
    Calls Tryd.prog 49 #[v] w fun e w' => e = .returned (.string (ofBs (key l))) ∧ Below w.heap.size w w' := by
  obtain ⟨ao, cap, rfl⟩ := elems_slice h
  have H := Lib.hid h
  have HL := Lib.hid hl
  have HK := Lib.hid hk
  have HM := Lib.hid hm
  have HF := Lib.hid (show Bld w.heap.size w.heap.size [] (w.alloc (.cells #[.pointer none, .slice none 0 0] 104)) from Lib.fresh_isBuilder TBd T8 w)
  have HB0 := Lib.hid (show Below w.heap.size w (w.alloc (.cells #[.pointer none, .slice none 0 0] 104)) from (Below.refl _ _).alloc (Nat.le_refl _) _)
  have H0 := Lib.hid (World.block_lt_of_cell? _ _ hm)
  clear h hl hk hm
  go_enter Tryd.func49, Tryd.ntmps49
  go_wp2_with fail
  go_loopw [8] (fun vi W => ∃ i : Nat, i ≤ l.length ∧ vi = .int .i64 i ∧ Bld w.heap.size w.heap.size (key (l.take i)) W ∧ Below w.heap.size w W) (fun vi _ => l.length - (intOf vi).toNat)
  case atStart => exact ⟨0, Nat.zero_le _, rfl, HF.out, HB0.out⟩
  case round =>
    obtain ⟨i, hi, rfl, hbl, hb⟩ := hrel
    have HB := Lib.hid hb
    have HBL := Lib.hid hbl
    by_cases hlt : i < l.length
    · have HLT := Lib.hid hlt
      obtain ⟨b, off, cap', hve, hcs⟩ := pts_cells H.out (by omega)
      injection hve with hx1 hx2 hx3
      subst hx1
      clear hx2 hx3
      have hcx := (hcs i hlt).kept hb
      obtain ⟨p, hp⟩ : ∃ p, p = l[i]'hlt := ⟨_, rfl⟩
      rw [← hp] at hcx
      have HTK := Lib.hid (show key (l.take (i + 1)) = key (l.take i) ++ Cph.Ok.bytes p from by rw [hp]; exact key_take l hlt)
      have HKL := Lib.hid (show (key (l.take i)).length + (Cph.Ok.bytes p).length ≤ 1000000000 from by
        have := key_take_le l (i + 1)
        rw [HTK.out, List.length_append] at this
        have := HK.out; omega)
      obtain ⟨X, hX⟩ : ∃ X, X = key (l.take i) := ⟨_, rfl⟩
      rw [← hX] at HBL HTK HKL
      have hbx : Below wr.heap.size wr (wr.alloc (boxP p)) := (Below.refl _ _).alloc (Nat.le_refl _) _
      have HBX := Lib.hid (below_step hb hbx hb.size)
      have HBLX := Lib.hid (bld_kept HBL.out hbx)
      have HGX := Lib.hid (heap_alloc_new wr (boxP p))
      have HMX := Lib.hid (show (wr.alloc (boxP p)).cell? ⟨0, 0, none⟩ = some (.int .i64 m) from (HBX.out.cell H0.out).trans HM.out)
      have d0 := hcx.c0
      have d1 := hcx.c1
      have d2 := hcx.c2
      have k1 : (0 : Int) ≤ (i : Int) := by omega
      have k2 : (i : Int) < (l.length : Int) := by omega
      have k4 : IntKind.i64.wrap ((i : Int) + 1) = (i : Int) + 1 := by rw [IntKind.wrap_i64]; have := HL.out; omega
      clear hcs hcx hp hX hbx hb hbl hlt hi
      go_upto_region 5 with (fail)
      obtain ⟨kb, hkb⟩ : ∃ k, k = wr.heap.size := ⟨_, rfl⟩
      rw [← hkb] at HGX ⊢
      clear hkb d0 d1 d2
      generalize wr.alloc (boxP p) = w1 at *
      obtain ⟨tx, s, n⟩ := p
      have hcb := box_cells HGX.out
      have d0 := hcb.c0
      have d1 := hcb.c1
      have d2 := hcb.c2
      clear hcb
      have HZ := Lib.hid HBX.out.size
      cases tx
      · have HV := Lib.hid (fun W v (h : NumsAt W v [n]) => var_any v [n] W h (by simp))
        have HRW := Lib.hid (show rows [n] = row n.toNat from by unfold rows; simp)
        have HR9 := Lib.hid (row_le n.toNat_lt)
        obtain ⟨A, hA⟩ : ∃ A, A = ofBs (rows [n]) := ⟨_, rfl⟩
        have HAL := Lib.hid (show A.data.toList = row n.toNat from by rw [hA, HRW.out]; rfl)
        have ha9 : A.size ≤ 9 := by rw [hA, ofBs_size, HRW.out]; exact HR9.out
        have ha9i : (A.size : Int) ≤ 9 := by omega
        have HV := Lib.hid (show ∀ W v (h : NumsAt W v [n]), Calls Tryd.prog 36 #[v] W fun e w' => e = .returned (.string A) ∧ Below W.heap.size W w' from by rw [hA]; exact HV.out)
        have HBY := Lib.hid (show Below w1.heap.size w1 (w1.alloc (.cells #[.int .u64 (n.toNat : Int)] 22)) from (Below.refl _ _).alloc (Nat.le_refl _) _)
        have HN1 := Lib.hid (nums_one w1 n)
        have HS := Lib.hid (show ((⟨#[1]⟩ : ByteArray) ++ A).data.toList = Cph.Ok.bytes ⟨false, s, n⟩ from by rw [cat_list, HAL.out]; rfl)
        have HSZ := Lib.hid (show ((⟨#[1]⟩ : ByteArray) ++ A).size ≤ 10 from by rw [ByteArray.size_append]; have e : (⟨#[1]⟩ : ByteArray).size = 1 := rfl; omega)
        clear hA ha9
        go_wp2_with fail
        clear d0 d1 d2
        refine (HV.out _ _ HN1.out).mono ?_
        rintro e w2 ⟨rfl, hb⟩
        have HB2 := Lib.hid (below_step (below_step HBX.out HBY.out HZ.out) hb (Nat.le_trans HZ.out HBY.out.size))
        have HBL2 := Lib.hid (bld_kept (bld_kept HBLX.out HBY.out) hb)
        clear hb
        go_wp2_with fail
        refine (write_any w.heap.size w.heap.size X _ w2 HBL2.out (by have := HKL.out; have := HSZ.out; omega) HB2.out.size).mono ?_
        rintro e w3 ⟨rfl, hbl, hb⟩
        have HBL3 := Lib.hid hbl
        have HB3 := Lib.hid (HB2.out.trans hb)
        clear hbl hb
        go_wp2_with fail
        go_roundw
        case rel => exact ⟨i + 1, HLT.out, by go_num, by rw [HTK.out, ← HS.out]; exact HBL3.out, HB3.out⟩
        case measure => have := HLT.out; simp [intOf]; omega
      · have hes := esc_len s.data.toList
        have hbs : (Cph.Ok.bytes ⟨true, s, n⟩).length = (esc s.data.toList).length + 3 := by
          show (2 :: (esc s.data.toList ++ [0, 1])).length = _
          simp
        have hss : s.size ≤ 1000000000 := by have := HKL.out; rw [hbs] at this; rw [Go.Lib.size_eq]; omega
        have HRP := Lib.hid (fun W hm => replace_any s m W (by omega) hm)
        obtain ⟨A, hA⟩ : ∃ A, A = ofBs (esc s.data.toList) := ⟨_, rfl⟩
        have HAL := Lib.hid (show A.data.toList = esc s.data.toList from by rw [hA]; rfl)
        have ha9 : A.size ≤ 1000000000 := by rw [hA, ofBs_size]; have := HKL.out; rw [hbs] at this; omega
        have ha9i : (A.size : Int) ≤ 1000000000 := by omega
        rw [← hA] at HRP
        have HS := Lib.hid (show ((⟨#[2]⟩ : ByteArray) ++ A ++ ⟨#[0, 1]⟩).data.toList = Cph.Ok.bytes ⟨true, s, n⟩ from by rw [cat_list, cat_list, HAL.out]; show 2 :: (esc s.data.toList) ++ [0, 1] = _; rfl)
        have HSZ := Lib.hid (show ((⟨#[2]⟩ : ByteArray) ++ A ++ ⟨#[0, 1]⟩).size = (Cph.Ok.bytes ⟨true, s, n⟩).length from by rw [Go.Lib.size_eq, HS.out])
        have hz2 : ((⟨#[2]⟩ : ByteArray) ++ A).size ≤ 1000000001 := by rw [ByteArray.size_append]; have e : (⟨#[2]⟩ : ByteArray).size = 1 := rfl; omega
        have hz2i : (((⟨#[2]⟩ : ByteArray) ++ A).size : Int) ≤ 1000000001 := by omega
        clear hA ha9 hes hbs hss
        go_wp2_with fail
        clear d0 d1 d2
        refine (HRP.out _ HMX.out).mono ?_
        rintro e w2 ⟨rfl, hb⟩
        have HB2 := Lib.hid (below_step HBX.out hb HZ.out)
        have HBL2 := Lib.hid (bld_kept HBLX.out hb)
        clear hb
        go_wp2_with fail
        refine (write_any w.heap.size w.heap.size X _ w2 HBL2.out (by have := HKL.out; rw [HSZ.out]; omega) HB2.out.size).mono ?_
        rintro e w3 ⟨rfl, hbl, hb⟩
        have HBL3 := Lib.hid hbl
        have HB3 := Lib.hid (HB2.out.trans hb)
        clear hbl hb
        go_wp2_with fail
        go_roundw
        case rel => exact ⟨i + 1, HLT.out, by go_num, by rw [HTK.out, ← HS.out]; exact HBL3.out, HB3.out⟩
        case measure => have := HLT.out; simp [intOf]; omega
    · have HE := Lib.hid (show l.take i = l from List.take_of_length_le (by omega))
      rw [HE.out] at HBL
      have hil : i = l.length := by omega
      have k2 : ¬ (i : Int) < (l.length : Int) := by omega
      have HZ := Lib.hid hb.size
      clear hbl hb hlt hi hil
      go_wp2_with fail
      refine (string_any w.heap.size w.heap.size (key l) wr HBL.out HZ.out).mono ?_
      rintro e w3 ⟨rfl, hb⟩
      have HB3 := Lib.hid (HB.out.trans hb)
      clear hb
      go_wp2_with fail
      go_ret
      exact ⟨rfl, HB3.out⟩
end Go.Proofs.Tryd.Ok

/- okey's readText. -/
set_option linter.unusedVariables false
set_option linter.unusedSimpArgs false
set_option maxRecDepth 100000
namespace Go.Proofs.Tryd.Ok
open Go.RowKit Go.Cph Go.Cph.Ok Go.Proofs.Tryd.Nu
def lenS : Value → Nat
  | .string s => s.size
  | _ => 0
def encRT : Option (Bs × Bs) → Value
  | none => .tuple #[.string ⟨#[]⟩, .string ⟨#[]⟩, .bool false]
  | some (t, r) => .tuple #[.string (ofBs t), .string (ofBs r), .bool true]
theorem end_one : ((⟨#[0, 1]⟩ : ByteArray).extract 1 2).toList = [1] := by rw [ByteArray.toList_eq, ByteArray.data_extract]; rfl
theorem index_any (s : ByteArray) (w : World) : Calls Tryd.prog 80 #[.string s, .int .u8 0] w fun e w' => e = .returned (.int .i64 (Lib.indexByte s.data.toList 0)) ∧ w' = w :=
  Tryd.strings_IndexByte s 0 w
set_option maxHeartbeats 6400000 in
theorem readText_any (s : ByteArray) (w : World) (hs : s.size ≤ 1000000000) :
    Calls Tryd.prog 73 #[.string s] w fun e w' => e = .returned (encRT (readText s.data.toList)) ∧ Below w.heap.size w w' := by
  have HS := Lib.hid hs
  have HF := Lib.hid (show Bld w.heap.size w.heap.size [] (w.alloc (.cells #[.pointer none, .slice none 0 0] 104)) from Lib.fresh_isBuilder TBd T8 w)
  have HB0 := Lib.hid (show Below w.heap.size w (w.alloc (.cells #[.pointer none, .slice none 0 0] 104)) from (Below.refl _ _).alloc (Nat.le_refl _) _)
  obtain ⟨L, hL⟩ : ∃ L, L = readText s.data.toList := ⟨_, rfl⟩
  have HLL := Lib.hid hL
  rw [← hL]
  clear hs hL
  go_enter Tryd.func73, Tryd.ntmps73
  go_wp2_with fail
  go_loopw [0] (fun vs W => ∃ (c : ByteArray) (acc : Bs), vs = .string c ∧ L = (readText c.data.toList).map (fun x => (acc ++ x.1, x.2)) ∧ acc.length + c.size ≤ s.size ∧ Bld w.heap.size w.heap.size acc W ∧ Below w.heap.size w W) (fun vs _ => lenS vs)
  case atStart => exact ⟨s, [], rfl, by rw [HLL.out]; cases readText s.data.toList <;> rfl, by simp, HF.out, HB0.out⟩
  case round =>
    obtain ⟨c, acc, rfl, hl, hlen, hbl, hb⟩ := hrel
    have HL := Lib.hid hl
    have HLEN := Lib.hid hlen
    have HBL := Lib.hid hbl
    have HB := Lib.hid hb
    have HI := Lib.hid (fun W => index_any c W)
    obtain ⟨x, hx⟩ : ∃ x, x = Lib.indexByte c.data.toList 0 := ⟨_, rfl⟩
    rw [← hx] at HI
    have hge := Lib.indexByte_ge c.data.toList 0
    rw [← hx] at hge
    by_cases hn : x = -1
    · have HN := Lib.hid (show L = none from by rw [hl, text_none (byte_none (hx.symm.trans hn))]; rfl)
      subst hn
      clear hx hge hl hlen hbl hb
      go_wp2_with fail
      refine (HI.out _).mono ?_
      rintro e w3 ⟨rfl, rfl⟩
      go_wp2_with fail
      exact bodyPost_ret (v := .tuple #[.string ⟨#[]⟩, .string ⟨#[]⟩, .bool false]) (by simp [results, Tryd.results73, go_sem]) rfl ⟨by rw [HN.out]; rfl, HB.out⟩
    · obtain ⟨i, hi⟩ : ∃ i : Nat, x = i := ⟨x.toNat, by omega⟩
      have hcase := text_case (hx.symm.trans hi)
      have hsp := (byte_split (hx.symm.trans hi)).1
      rw [← Go.Lib.size_eq] at hsp hcase
      subst hi
      have k0 : ¬ ((i : Int) < 0) := by omega
      have k0' : (0 : Int) ≤ (i : Int) := by omega
      have hcs : c.size ≤ 1000000000 := by have := HS.out; omega
      have k1 : IntKind.i64.wrap ((i : Int) + 1) = (i : Int) + 1 := by rw [IntKind.wrap_i64]; omega
      have k2 : IntKind.i64.wrap ((i : Int) + 2) = (i : Int) + 2 := by rw [IntKind.wrap_i64]; omega
      have hki : (i : Int) < (c.size : Int) := by omega
      have hcsi : (c.size : Int) ≤ 1000000000 := by omega
      rcases hcase with ⟨h1, h2⟩ | ⟨d, h1, h2, h3⟩
      · have HN := Lib.hid (show L = none from by rw [hl, h2]; rfl)
        have k3 : (((i : Int) + 1) == (c.size : Int)) = true := by simp; omega
        clear hx hge hl hlen hbl hb h1 h2 hn
        go_wp2_with fail
        refine (HI.out _).mono ?_
        rintro e w3 ⟨rfl, rfl⟩
        go_wp2_with fail
        exact bodyPost_ret (v := .tuple #[.string ⟨#[]⟩, .string ⟨#[]⟩, .bool false]) (by simp [results, Tryd.results73, go_sem]) rfl ⟨by rw [HN.out]; rfl, HB.out⟩
      · have k3 : (((i : Int) + 1) == (c.size : Int)) = false := by simp; omega
        have k4 : (i : Int) + 2 ≤ (c.size : Int) := by omega
        have HT := Lib.hid (show (c.extract 0 i).data.toList = c.data.toList.take i from by simp)
        have HTS := Lib.hid (show (c.extract 0 i).size = i from by rw [ByteArray.size_extract]; omega)
        have HD := Lib.hid (show (c.extract (i + 2) c.size).data.toList = c.data.toList.drop (i + 2) from by
          simp
          exact List.take_of_length_le (by rw [List.length_drop, ← Go.Lib.size_eq]; exact Nat.le_refl _))
        have HDS := Lib.hid (show (c.extract (i + 2) c.size).size + (i + 2) = c.size from by rw [ByteArray.size_extract]; omega)
        have hmk : c.extract (i + 1) (i + 2) = ⟨#[d]⟩ := list_eq (by
          obtain ⟨hq1, hq2⟩ := List.getElem?_eq_some_iff.1 h2
          rw [ByteArray.data_extract, Array.toList_extract, List.extract_eq_take_drop, show i + 2 - (i + 1) = 1 by omega, List.drop_eq_getElem_cons hq1, hq2]; rfl)
        have H3 := Lib.hid h3
        clear hx hge hl hlen hbl hb h1 h2 h3 hn
        go_wp2_with fail
        refine (HI.out _).mono ?_
        rintro e w3 ⟨rfl, rfl⟩
        go_wp2_with fail
        refine (write_any w.heap.size w.heap.size acc _ _ HBL.out (by have := HTS.out; have := HLEN.out; have := HS.out; omega) HB.out.size).mono ?_
        rintro e w4 ⟨rfl, hbl, hb⟩
        rw [HT.out] at hbl
        have HBL4 := Lib.hid hbl
        have HB4 := Lib.hid (HB.out.trans hb)
        clear hbl hb
        by_cases hd1 : d = 1
        · subst hd1
          have HN := Lib.hid (show L = some (acc ++ c.data.toList.take i, c.data.toList.drop (i + 2)) from by rw [HL.out, H3.out, if_pos rfl]; rfl)
          have HCE := Lib.hid (show c.extract (i + 2) c.size = ofBs (c.data.toList.drop (i + 2)) from list_eq HD.out)
          have e1 : (([1] : List UInt8) == ((⟨#[0, 1]⟩ : ByteArray).extract 1 2).toList) = true := by rw [end_one]; rfl
          go_wp2_with fail
          refine (string_any w.heap.size w.heap.size _ w4 HBL4.out HB4.out.size).mono ?_
          rintro e w5 ⟨rfl, hb⟩
          have HB5 := Lib.hid (HB4.out.trans hb)
          clear hb
          go_wp2_with fail
          exact bodyPost_ret (v := .tuple #[.string (ofBs (acc ++ c.data.toList.take i)), .string (c.extract (i + 2) c.size), .bool true]) (by simp [results, Tryd.results73, go_sem]) rfl ⟨by rw [HN.out, HCE.out]; rfl, HB5.out⟩
        · have e1 : ([d] == ((⟨#[0, 1]⟩ : ByteArray).extract 1 2).toList) = false := by
            rw [end_one, beq_eq_false_iff_ne]
            intro e; injection e with e; exact hd1 e
          by_cases hd2 : d = 255
          · subst hd2
            have HN := Lib.hid (show L = (readText (c.extract (i + 2) c.size).data.toList).map (fun x => ((acc ++ c.data.toList.take i ++ [0]) ++ x.1, x.2)) from by
              rw [HL.out, H3.out, if_neg hd1, if_pos rfl, HD.out]
              cases readText (c.data.toList.drop (i + 2)) with
              | none => rfl
              | some x => simp)
            clear hd1
            go_wp2_with fail
            refine (write_any w.heap.size w.heap.size _ ⟨#[0]⟩ w4 HBL4.out (by have e : (⟨#[0]⟩ : ByteArray).size = 1 := rfl; have := HLEN.out; have := HS.out; rw [e, List.length_append, List.length_take]; omega) HB4.out.size).mono ?_
            rintro e w5 ⟨rfl, hbl, hb⟩
            have HBL5 := Lib.hid hbl
            have HB5 := Lib.hid (HB4.out.trans hb)
            clear hbl hb
            go_wp2_with fail
            go_roundw
            case rel => exact ⟨c.extract (i + 2) c.size, acc ++ c.data.toList.take i ++ [0], rfl, HN.out, by have := HDS.out; have := HLEN.out; rw [List.length_append, List.length_append, List.length_take]; simp; omega, HBL5.out, HB5.out⟩
            case measure => have := HDS.out; simp only [lenS]; omega
          · have e2 : (d == 255) = false := by rw [beq_eq_false_iff_ne]; exact hd2
            have HN := Lib.hid (show L = none from by rw [HL.out, H3.out, if_neg hd1, if_neg hd2]; rfl)
            clear hd1 hd2
            go_wp2_with fail
            exact bodyPost_ret (v := .tuple #[.string ⟨#[]⟩, .string ⟨#[]⟩, .bool false]) (by simp [results, Tryd.results73, go_sem]) rfl ⟨by rw [HN.out]; rfl, HB4.out⟩
end Go.Proofs.Tryd.Ok

/- okey's Num, Str, Parts. -/
set_option linter.unusedVariables false
set_option linter.unusedSimpArgs false
set_option maxRecDepth 100000
namespace Go.Proofs.Tryd.Ok
open Go.RowKit Go.Cph Go.Cph.Ok Go.Proofs.Tryd.Nu
set_option maxHeartbeats 800000 in
theorem num_any (n : UInt64) (w : World) : Calls Tryd.prog 50 #[.int .u64 (n.toNat : Int)] w fun e w' => e = .returned (encP ⟨false, ⟨#[]⟩, n⟩) ∧ Below w.heap.size w w' := by
  have hc := box_cells (heap_alloc_new w (boxP ⟨false, ⟨#[]⟩, n⟩))
  have c0 := hc.c0
  have c1 := hc.c1
  have c2 := hc.c2
  have HB := Lib.hid (show Below w.heap.size w (w.alloc (boxP ⟨false, ⟨#[]⟩, n⟩)) from (Below.refl _ _).alloc (Nat.le_refl _) _)
  clear hc
  go_enter Tryd.func50, Tryd.ntmps50
  go_wp2_with fail
  exact bodyPost_ret (v := encP ⟨false, ⟨#[]⟩, n⟩) (by simp [results, Tryd.results50, go_sem, c0, c1, c2]) rfl ⟨rfl, HB.out⟩
set_option maxHeartbeats 800000 in
theorem str_any (s : ByteArray) (w : World) : Calls Tryd.prog 60 #[.string s] w fun e w' => e = .returned (encP ⟨true, s, 0⟩) ∧ Below w.heap.size w w' := by
  have hc := box_cells (heap_alloc_new w (boxP ⟨true, s, 0⟩))
  have c0 := hc.c0
  have c1 := hc.c1
  have c2 := hc.c2
  have HB := Lib.hid (show Below w.heap.size w (w.alloc (boxP ⟨true, s, 0⟩)) from (Below.refl _ _).alloc (Nat.le_refl _) _)
  clear hc
  go_enter Tryd.func60, Tryd.ntmps60
  go_wp2_with fail
  exact bodyPost_ret (v := encP ⟨true, s, 0⟩) (by simp [results, Tryd.results60, go_sem, c0, c1, c2]) rfl ⟨rfl, HB.out⟩
theorem cut_any (s p : ByteArray) (w : World) : Calls Tryd.prog 72 #[.string s, .string p] w fun e w' => e = .returned (.tuple #[.string (ofBs (Lib.trimPrefix s.data.toList p.data.toList)), .bool (Lib.hasPrefix s.data.toList p.data.toList)]) ∧ w' = w :=
  Tryd.strings_CutPrefix s p w
theorem cut_hit {d : UInt8} {t : Bs} : Lib.hasPrefix (d :: t) [d] = true ∧ Lib.trimPrefix (d :: t) [d] = t := by
  have h : Lib.hasPrefix (d :: t) [d] = true := by unfold Lib.hasPrefix; simp
  exact ⟨h, by unfold Lib.trimPrefix; rw [if_pos h]; rfl⟩
theorem cut_miss {c d : UInt8} {t : Bs} (h : d ≠ c) : Lib.hasPrefix (d :: t) [c] = false := by
  unfold Lib.hasPrefix
  rw [Bool.eq_false_iff, Ne, List.isPrefixOf_iff_prefix, List.cons_prefix_cons]
  exact fun e => h e.1.symm
/-- What Parts hands back. -/
def PartsPost (o : Option (List Pt)) (w : World) (e : Ending) (w' : World) : Prop :=
  (match o with
  | none => e = .returned (.tuple #[.slice none 0 0, .bool false])
  | some l => ∃ v, e = .returned (.tuple #[v, .bool true]) ∧ w'.ownsRow w.heap.size TP 3 v l.length (l.flatMap encC)) ∧ Below w.heap.size w w'
theorem step_push {ops : Array Oper} {o : Oper} {a : Act} {W w0 : World} {K : Act → World → Prop} {Q : Exit → Act → World → Prop} {E : Prop} {v : Value} {n : Nat} {xs : List Value} {p : Pt} {base : Nat}
    (hg : o.guard = none) (d x : Operand) (hop : o.op = Op.call { callee := Callee.builtin Builtin.append, args := #[d, x], argTypes := #[TPs, TPs] }) {b : Nat} {fr : Nat × Nat} {T : TypeId}
    (hd : a.eval d = v) (hx : a.eval x = .slice (some ⟨b, 0, none⟩) 1 1) (hb : W.heap[b]? = some (.cells #[.bool p.text, .string p.s, .int .u64 (p.n.toNat : Int)] T fr)) (ho : W.ownsRow base TP 3 v n xs) (HB : Below base w0 W) (hbase : base ≤ W.heap.size) (hn : n ≤ 1099511627000)
    (hK : ∀ v' W', W'.ownsRow base TP 3 v' (n + 1) (xs ++ encC p) → Below base w0 W' → base ≤ W'.heap.size → K (a.put o.dst v') W') :
    if Region.wanted o (yielded ops a.tmps) = true then Oper.wp Tryd.prog o a W K Q else E := by
  have hs : Seg W 3 (.slice (some ⟨b, 0, none⟩) 1 1) 1 (encC p) := ⟨⟨_, _, rfl, fun _ => ⟨b, 0, rfl, fun j hj => by rw [Nat.zero_add, blk_cell hb]; simp⟩⟩, rfl⟩
  obtain ⟨v', W', hr, ho', hgr, -⟩ := run_append_seg (P := Tryd.prog) W TPs o.type TP _ 3 32 Tryd.underlying82 infoP rfl (by decide) ho hs (encC_one1 p) (by omega) (by decide) hbase
  exact step_append hg d x TPs TPs hop _ _ hd hx hr (hK v' W' ho' (below_grown HB hgr ho (Nat.le_refl _) hbase) (Nat.le_trans hbase hgr.size))
end Go.Proofs.Tryd.Ok

/- okey's Parts: what is read of a key. -/
set_option linter.unusedVariables false
set_option linter.unusedSimpArgs false
set_option maxRecDepth 100000
namespace Go.Proofs.Tryd.Ok
open Go.RowKit Go.Cph Go.Cph.Ok Go.Proofs.Tryd.Nu
set_option maxHeartbeats 12800000 in
theorem parts_any (s : ByteArray) (w : World) (hs : s.size ≤ 1000000000) : Calls Tryd.prog 65 #[.string s] w (PartsPost (Cph.Ok.parts s.data.toList) w) := by
  have HS := Lib.hid hs
  obtain ⟨L, hL⟩ : ∃ L, L = Cph.Ok.parts s.data.toList := ⟨_, rfl⟩
  have HLL := Lib.hid hL
  rw [← hL]
  clear hs hL
  go_enter Tryd.func65, Tryd.ntmps65
  go_wp2_with fail
  go_loopw [0, 4] (fun vs vo W => ∃ (c : ByteArray) (out : List Pt), vs = .string c ∧ L = (Cph.Ok.parts c.data.toList).map (out ++ ·) ∧ W.ownsRow w.heap.size TP 3 vo out.length (out.flatMap encC) ∧ c.size + out.length ≤ s.size ∧ Below w.heap.size w W) (fun vs _ _ => lenS vs)
  case atStart => exact ⟨s, [], rfl, by rw [HLL.out]; cases Cph.Ok.parts s.data.toList <;> rfl, World.ownsRow_nil _ _ _ _, by simp, Below.refl _ _⟩
  case round =>
    obtain ⟨c, out, rfl, hl, ho, hlen, hb⟩ := hrel
    have HL := Lib.hid hl
    have HB := Lib.hid hb
    have HZ := Lib.hid hb.size
    have HLEN := Lib.hid hlen
    obtain ⟨n, hn⟩ : ∃ n, n = out.length := ⟨_, rfl⟩
    have HN := Lib.hid hn
    rw [← hn] at ho
    obtain ⟨oo, oc, hov⟩ := owns_slice1 ho
    subst hov
    have HO := Lib.hid ho
    have HNB := Lib.hid (show n ≤ 1000000000 from by have := HS.out; omega)
    clear hl ho hlen hb hn
    by_cases h0 : c.size = 0
    · have hse : c = ⟨#[]⟩ := by
        cases c with
        | mk d =>
          have : d = #[] := Array.eq_empty_of_size_eq_zero h0
          rw [this]
      subst hse
      have HQ := Lib.hid (show L = some out from by rw [HL.out]; show (Cph.Ok.parts []).map _ = _; rw [parts_nil]; simp)
      clear h0
      go_wp2_with fail
      exact bodyPost_ret (v := .tuple #[.slice oo n oc, .bool true]) (by simp [results, Tryd.results65, go_sem]) rfl (by rw [HQ.out]; exact ⟨⟨_, rfl, by rw [← HN.out]; exact HO.out⟩, HB.out⟩)
    · have hl := bytes_cons c (by omega)
      obtain ⟨d, hd⟩ : ∃ d, d = c[0]'(by omega) := ⟨_, rfl⟩
      rw [← hd] at hl
      obtain ⟨t, ht⟩ : ∃ t, t = ofBs (c.data.toList.drop 1) := ⟨_, rfl⟩
      have htl : t.data.toList = c.data.toList.drop 1 := by rw [ht]; rfl
      rw [← htl] at hl
      have HCL := Lib.hid hl
      have HTZ := Lib.hid (show t.size + 1 = c.size from by rw [Go.Lib.size_eq, Go.Lib.size_eq, hl]; rfl)
      have HTT := Lib.hid (show ofBs t.data.toList = t from ofBs_data t)
      have he : c.toList.isEmpty = false := by rw [ByteArray.toList_eq, hl]; rfl
      have HC1 := Lib.hid (fun W => cut_any c ⟨#[1]⟩ W)
      have HC2 := Lib.hid (fun W => cut_any c ⟨#[2]⟩ W)
      rw [HCL.out] at HC1 HC2
      have HP := Lib.hid (show Cph.Ok.parts c.data.toList = match readPart c.data.toList with
        | none => none
        | some (p, r) => (Cph.Ok.parts r).map (p :: ·) from by
          cases hr : readPart c.data.toList with
          | none => exact parts_none (by rw [hl]; simp) hr
          | some x => exact parts_some (by rw [hl]; simp) hr)
      have HRP := Lib.hid (show readPart c.data.toList = if d = 1 then (readRow t.data.toList).map fun x => (⟨false, ByteArray.empty, UInt64.ofNat x.1⟩, t.data.toList.drop x.2)
        else if d = 2 then (readText t.data.toList).map fun x => (⟨true, ofBs x.1, 0⟩, x.2) else none from by rw [hl, readPart_cons])
      clear hl htl ht hd h0
      by_cases h1 : d = 1
      · subst h1
        have hc1 := cut_hit (d := 1) (t := t.data.toList)
        have HC1 := Lib.hid (show ∀ W, Calls Tryd.prog 72 #[.string c, .string ⟨#[1]⟩] W fun e w' => e = .returned (.tuple #[.string t, .bool true]) ∧ w' = W from fun W => by
          have := HC1.out W
          rw [show (⟨#[1]⟩ : ByteArray).data.toList = [1] from rfl, hc1.1, hc1.2, HTT.out] at this
          exact this)
        have HRV := Lib.hid (fun W => readVar_any t W (by have := HTZ.out; have := HLEN.out; have := HS.out; omega))
        have HRP := Lib.hid (show readPart c.data.toList = (readRow t.data.toList).map fun x => (⟨false, ByteArray.empty, UInt64.ofNat x.1⟩, t.data.toList.drop x.2) from by rw [HRP.out, if_pos rfl])
        clear hc1 HC2
        cases hrr : readRow t.data.toList with
        | none =>
          rw [hrr] at HRV HRP
          have HQ := Lib.hid (show L = none from by rw [HL.out, HP.out, HRP.out]; rfl)
          clear hrr
          go_wp2_with fail
          refine (HC1.out _).mono ?_
          rintro e w3 ⟨rfl, rfl⟩
          go_wp2_with fail
          refine (HRV.out _).mono ?_
          rintro e w4 ⟨rfl, hb⟩
          have HB4 := Lib.hid (below_step HB.out hb HZ.out)
          clear hb
          unfold encRV
          go_wp2_with fail
          exact bodyPost_ret (v := .tuple #[.slice none 0 0, .bool false]) (by simp [results, Tryd.results65, go_sem]) rfl (by rw [HQ.out]; exact ⟨rfl, HB4.out⟩)
        | some x =>
          obtain ⟨num, k⟩ := x
          rw [hrr] at HRV HRP
          obtain ⟨hk1, hk2, hk3, hk4⟩ := row_read hrr
          rw [← Go.Lib.size_eq] at hk2
          obtain ⟨u, hu⟩ : ∃ u : UInt64, u.toNat = num := ⟨UInt64.ofNat num, by rw [UInt64.toNat_ofNat', Nat.mod_eq_of_lt hk4]⟩
          subst hu
          have HEX := Lib.hid (show (t.extract k t.size).data.toList = t.data.toList.drop k from by
            simp
            exact List.take_of_length_le (by rw [List.length_drop, ← Go.Lib.size_eq]; exact Nat.le_refl _))
          have HEZ := Lib.hid (show (t.extract k t.size).size + k = t.size from by rw [ByteArray.size_extract]; omega)
          have HQ := Lib.hid (show L = (Cph.Ok.parts (t.extract k t.size).data.toList).map ((out ++ [⟨false, ⟨#[]⟩, u⟩]) ++ ·) from by
            rw [HL.out, HP.out, HRP.out, HEX.out]
            show ((Cph.Ok.parts (t.data.toList.drop k)).map (_ :: ·)).map _ = _
            rw [Option.map_map, UInt64.ofNat_toNat]
            congr 1
            funext y
            simp; rfl)
          have HK1 := Lib.hid hk1
          have q1 : (0 : Int) ≤ (k : Int) := by omega
          have q2 : (k : Int) ≤ (t.size : Int) := by omega
          clear hrr hk1 hk2 hk3 hk4
          go_wp2_with fail
          refine (HC1.out _).mono ?_
          rintro e w3 ⟨rfl, rfl⟩
          go_wp2_with fail
          refine (HRV.out _).mono ?_
          rintro e w4 ⟨rfl, hb⟩
          have HB4 := Lib.hid (below_step HB.out hb HZ.out)
          have HO4 := Lib.hid (row_keptB HO.out hb)
          clear hb
          unfold encRV
          clear HRP HP HC1 HRV
          have HB4d := Lib.hid (show Below w.heap.size w w4.drew from HB4.out.drew)
          have HO4d := Lib.hid (show w4.drew.ownsRow w.heap.size TP 3 (.slice oo n oc) n (out.flatMap encC) from HO4.out.drew)
          go_upto_region 8 with (fail)
          go_region_held3 (fun W => True) (trivial)
            (first
              | (go_at_call 50; ((with_reducible refine (num_any u _).mono ?_); rintro e u1 ⟨rfl, hb⟩; have HB5 := Lib.hid (below_step HB4d.out hb HB4d.out.size); have HO5 := Lib.hid (row_keptB HO4d.out hb); clear hb))
              | ((refine step_push (p := ⟨false, ⟨#[]⟩, u⟩) (base := w.heap.size) (w0 := w) rfl (.tmp 29) (.tmp 32) rfl (by rfl) (by rfl) (heap_alloc_new u1 _) (HO5.out.alloc _) (HB5.out.alloc HB5.out.size _) (by rw [World.size_alloc]; exact Nat.le_succ_of_le HB5.out.size) (by have := HNB.out; omega) ?_); intro v6 w6 ho6 hb6 hz6; have HO6 := Lib.hid ho6; have HB6 := Lib.hid hb6; clear ho6 hb6 hz6))
          all_goals
            go_wp2_with fail
            go_roundw
            case rel => exact ⟨t.extract k t.size, out ++ [⟨false, ⟨#[]⟩, u⟩], rfl, HQ.out, by rw [List.length_append, List.flatMap_append, ← HN.out]; simpa using HO6.out, by have := HEZ.out; have := HTZ.out; have := HLEN.out; have := HK1.out; rw [List.length_append, List.length_singleton]; omega, HB6.out⟩
            case measure => have := HEZ.out; have := HTZ.out; simp only [lenS]; omega
      · have hc1 := cut_miss (c := 1) (t := t.data.toList) h1
        have HD1 := Lib.hid (show ∀ W, ∃ y, Calls Tryd.prog 72 #[.string c, .string ⟨#[1]⟩] W fun e w' => e = .returned (.tuple #[.string y, .bool false]) ∧ w' = W from fun W => ⟨_, by
          have := HC1.out W
          rw [show (⟨#[1]⟩ : ByteArray).data.toList = [1] from rfl, hc1] at this
          exact this⟩)
        by_cases h2 : d = 2
        · subst h2
          have hc2 := cut_hit (d := 2) (t := t.data.toList)
          have HD2 := Lib.hid (show ∀ W, Calls Tryd.prog 72 #[.string c, .string ⟨#[2]⟩] W fun e w' => e = .returned (.tuple #[.string t, .bool true]) ∧ w' = W from fun W => by
            have := HC2.out W
            rw [show (⟨#[2]⟩ : ByteArray).data.toList = [2] from rfl, hc2.1, hc2.2, HTT.out] at this
            exact this)
          have HRT := Lib.hid (fun W => readText_any t W (by have := HTZ.out; have := HLEN.out; have := HS.out; omega))
          have HRP := Lib.hid (show readPart c.data.toList = (readText t.data.toList).map fun x => (⟨true, ofBs x.1, 0⟩, x.2) from by rw [HRP.out, if_neg h1, if_pos rfl])
          clear hc1 hc2 h1
          cases hrr : readText t.data.toList with
          | none =>
            rw [hrr] at HRT HRP
            have HQ := Lib.hid (show L = none from by rw [HL.out, HP.out, HRP.out]; rfl)
            clear hrr
            go_wp2_with fail
            obtain ⟨y, hcy⟩ := HD1.out wr
            refine hcy.mono ?_
            clear hcy
            rintro e w3 ⟨rfl, rfl⟩
            go_wp2_with fail
            refine (HD2.out _).mono ?_
            rintro e w3 ⟨rfl, rfl⟩
            go_wp2_with fail
            refine (HRT.out _).mono ?_
            rintro e w4 ⟨rfl, hb⟩
            have HB4 := Lib.hid (below_step HB.out hb HZ.out)
            clear hb
            unfold encRT
            go_wp2_with fail
            exact bodyPost_ret (v := .tuple #[.slice none 0 0, .bool false]) (by simp [results, Tryd.results65, go_sem]) rfl (by rw [HQ.out]; exact ⟨rfl, HB4.out⟩)
          | some x =>
            obtain ⟨tx, r⟩ := x
            rw [hrr] at HRT HRP
            have hrd := text_read t.data.toList.length t.data.toList tx r (Nat.le_refl _) hrr
            have HRZ := Lib.hid (show (ofBs r).size + 2 ≤ t.size from by
              rw [ofBs_size, Go.Lib.size_eq, hrd, List.length_append, List.length_cons, List.length_cons]; omega)
            have HQ := Lib.hid (show L = (Cph.Ok.parts (ofBs r).data.toList).map ((out ++ [⟨true, ofBs tx, 0⟩]) ++ ·) from by
              rw [HL.out, HP.out, HRP.out]
              show ((Cph.Ok.parts r).map (_ :: ·)).map _ = _
              rw [Option.map_map]
              congr 1
              funext y
              simp)
            have HSA := Lib.hid (fun W => str_any (ofBs tx) W)
            clear hrr hrd
            go_wp2_with fail
            obtain ⟨y, hcy⟩ := HD1.out wr
            refine hcy.mono ?_
            clear hcy
            rintro e w3 ⟨rfl, rfl⟩
            go_wp2_with fail
            refine (HD2.out _).mono ?_
            rintro e w3 ⟨rfl, rfl⟩
            go_wp2_with fail
            refine (HRT.out _).mono ?_
            rintro e w4 ⟨rfl, hb⟩
            have HB4 := Lib.hid (below_step HB.out hb HZ.out)
            have HO4 := Lib.hid (row_keptB HO.out hb)
            clear hb
            unfold encRT
            go_wp2_with fail
            refine (HSA.out _).mono ?_
            rintro e w5 ⟨rfl, hb⟩
            have HB5 := Lib.hid (below_step HB4.out hb HB4.out.size)
            have HO5 := Lib.hid (row_keptB HO4.out hb)
            have HZ5 := Lib.hid HB5.out.size
            have HNB2 := Lib.hid (show n + 1 ≤ 1099511627776 from by have := HNB.out; omega)
            clear hb
            go_wp2_with (at_builtin; refine wpList_append1 rfl (.tmp 52) (.tmp 55) TPs rfl w.heap.size TP _ 3 32 Tryd.underlying82 infoP rfl (by decide) _ n (out.flatMap encC) (encC ⟨true, ofBs tx, 0⟩) rfl HO5.out _ 1 rfl rfl rfl (encC_one1 _) HNB2.out (by decide) HZ5.out w.heap.size w HB5.out (Nat.le_refl _) ?_; intro v6 w6 ho6 hg6 hb6 hs6; have HO6 := Lib.hid ho6; have HB6 := Lib.hid hb6; clear ho6 hg6 hb6 hs6)
            go_roundw
            case rel => exact ⟨ofBs r, out ++ [⟨true, ofBs tx, 0⟩], rfl, HQ.out, by rw [List.length_append, List.flatMap_append, ← HN.out]; simpa using HO6.out, by have := HRZ.out; have := HTZ.out; have := HLEN.out; rw [List.length_append, List.length_singleton]; omega, HB6.out⟩
            case measure => have := HRZ.out; have := HTZ.out; simp only [lenS]; omega
        · have hc2 := cut_miss (c := 2) (t := t.data.toList) h2
          have HD2 := Lib.hid (show ∀ W, ∃ y, Calls Tryd.prog 72 #[.string c, .string ⟨#[2]⟩] W fun e w' => e = .returned (.tuple #[.string y, .bool false]) ∧ w' = W from fun W => ⟨_, by
            have := HC2.out W
            rw [show (⟨#[2]⟩ : ByteArray).data.toList = [2] from rfl, hc2] at this
            exact this⟩)
          have HQ := Lib.hid (show L = none from by rw [HL.out, HP.out, HRP.out, if_neg h1, if_neg h2]; rfl)
          clear hc1 hc2 h1 h2
          go_wp2_with fail
          obtain ⟨y, hcy⟩ := HD1.out wr
          refine hcy.mono ?_
          clear hcy
          rintro e w3 ⟨rfl, rfl⟩
          go_wp2_with fail
          obtain ⟨y2, hcy⟩ := HD2.out _
          refine hcy.mono ?_
          clear hcy
          rintro e w3 ⟨rfl, rfl⟩
          go_wp2_with fail
          exact bodyPost_ret (v := .tuple #[.slice none 0 0, .bool false]) (by simp [results, Tryd.results65, go_sem]) rfl (by rw [HQ.out]; exact ⟨rfl, HB.out⟩)
end Go.Proofs.Tryd.Ok
