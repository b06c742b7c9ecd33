/- The laws of okey: OkeyKeys' walk. -/
import Derived.Test.YtfijbfnhjnbjeaaDoorOkI
set_option linter.unusedVariables false
set_option linter.unusedSimpArgs false
set_option maxRecDepth 100000
namespace Go.Proofs.Tryd.Ok
open Go.RowKit Go.Cph Go.Cph.Ok Go.Proofs.Tryd.Nu
/-- What Parts hands back, whatever it reads. -/
def PP (o : Option (List Pt)) (w : World) (e : Ending) (w' : World) : Prop := ∃ v, e = .returned (.tuple #[v, .bool o.isSome]) ∧ PtsAt w' v (o.getD []) ∧ Below w.heap.size w w'
theorem parts_pp (s : ByteArray) (w : World) (hs : s.size ≤ 1000000) : Calls Tryd.prog 12 #[.string s] w (PP (Cph.Ok.parts s.data.toList) w) := by
  refine (parts_any s w (by omega)).mono ?_
  cases Cph.Ok.parts s.data.toList with
  | none => rintro e w' ⟨h1, h2⟩; exact ⟨_, h1, Seg.of_owns (World.ownsRow_nil w' w.heap.size TP 3), h2⟩
  | some l => rintro e w' ⟨⟨v, h1, h3⟩, h2⟩; exact ⟨v, h1, Seg.of_owns h3, h2⟩
theorem rparts_pp (s : ByteArray) (w : World) (hs : s.size ≤ 1000000) : Calls Tryd.prog 13 #[.string s] w (PP (Cph.Ok.parts s.data.toList) w) := by
  refine (rparts_any s w hs).mono ?_
  cases Cph.Ok.parts s.data.toList with
  | none => rintro e w' ⟨h1, h2⟩; exact ⟨_, h1, Seg.of_owns (World.ownsRow_nil w' w.heap.size TR 3), h2⟩
  | some l => rintro e w' ⟨⟨v, h1, h3⟩, h2⟩; exact ⟨v, h1, Seg.of_owns h3, h2⟩
theorem parts_len (s : ByteArray) (hs : s.size ≤ 1000000) : ((Cph.Ok.parts s.data.toList).getD []).length ≤ 1000000 := by
  cases h : Cph.Ok.parts s.data.toList with
  | none => exact Nat.zero_le _
  | some l =>
    have k := (key_parts _ _ _ (Nat.le_refl _) h).1
    have := key_long l
    rw [k, ← ba_size] at this
    show l.length ≤ _
    omega
set_option maxHeartbeats 32000000 in
theorem keys_law (v : Value) (s : ByteArray) (x : List Pt) (m : Int) (w : World) (h : PtsAt w v x) (hx : x.length ≤ 9223372036854775807) (hm : MaxAt m w) :
    Calls Tryd.prog 3 #[v, .string s] w (AwPost w) := by
  obtain ⟨vo, vc, rfl⟩ := elems_slice h
  have X := Lib.hid h
  have HM := Lib.hid hm
  have BE := Lib.hid (Below.refl w.heap.size w)
  have HGX := Lib.hid (great_any _ x w h hx)
  clear h hx hm
  go_enter Tryd.func3, Tryd.ntmps3
  go_wp2_with fail
  refine HGX.out.mono ?_
  rintro e w1 ⟨r, rfl, hsx, rfl⟩
  cases r
  · have HSx := Lib.hid (hsx rfl)
    clear hsx HGX
    have hkx := HSx.out.key
    obtain ⟨K, hK⟩ : ∃ K, K = ofBs (key x) := ⟨_, rfl⟩
    have HKX := Lib.hid (fun W v (h : PtsAt W v x) (hm : MaxAt m W) => (show Calls Tryd.prog 16 #[v] W fun e w' => e = .returned (.string K) ∧ Below W.heap.size W w' from by
      rw [hK]; exact key_any v x m W h (by have := HSx.out.num; omega) (by omega) hm))
    have HRK := Lib.hid (fun W v (h : PtsAt W v x) => (show Calls Tryd.prog 11 #[v] W fun e w' => e = .returned (.string K) ∧ Below W.heap.size W w' from by
      rw [hK]; exact rkey_any v x W h (by have := HSx.out.num; omega) (by omega)))
    have ks : (K.toList == K.toList) = true := by simp
    have KS := Lib.hid ks
    clear hK hkx ks
    by_cases hs : s.size ≤ 5000
    · have k1 : ¬ (5000 : Int) < (s.size : Int) := by omega
      have HT := Lib.hid hs
      clear hs
      have HPT := Lib.hid (fun W => parts_pp (s) W (by have := HT.out; omega))
      have HRT := Lib.hid (fun W => rparts_pp (s) W (by have := HT.out; omega))
      have HLN := Lib.hid (show ((Cph.Ok.parts (s).data.toList).getD []).length ≤ 1000000 from parts_len _ (by have := HT.out; omega))
      obtain ⟨z, hz⟩ : ∃ z, z = (Cph.Ok.parts (s).data.toList).getD [] := ⟨_, rfl⟩
      obtain ⟨b, hb0⟩ : ∃ b, b = (Cph.Ok.parts (s).data.toList).isSome := ⟨_, rfl⟩
      unfold PP at HPT HRT
      rw [← hz, ← hb0] at HPT HRT
      rw [← hz] at HLN
      clear hz hb0
      go_wp2_with fail
      refine (HRK.out _ _ X.out).mono ?_
      rintro e x1 ⟨rfl, hb⟩
      have X_1 := Lib.hid (Seg.kept X.out hb)
      have HM_1 := Lib.hid (cell_kept hb HM.out)
      have BE_1 := Lib.hid (below_step BE.out hb BE.out.size)
      clear k1
      clear hb
      go_wp2_with fail
      refine (HPT.out _).mono ?_
      rintro e x2 ⟨v8, rfl, ho, hb⟩
      have X_2 := Lib.hid (Seg.kept X_1.out hb)
      have HM_2 := Lib.hid (cell_kept hb HM_1.out)
      have BE_2 := Lib.hid (below_step BE_1.out hb BE_1.out.size)
      obtain ⟨ao8, cap8, hv8⟩ := elems_slice ho
      subst hv8
      have G8 := Lib.hid ho
      clear ho
      clear hb
      go_wp2_with fail
      refine (HRT.out _).mono ?_
      rintro e x3 ⟨v9, rfl, ho, hb⟩
      have X_3 := Lib.hid (Seg.kept X_2.out hb)
      have HM_3 := Lib.hid (cell_kept hb HM_2.out)
      have BE_3 := Lib.hid (below_step BE_2.out hb BE_2.out.size)
      have G8_3 := Lib.hid (Seg.kept G8.out hb)
      obtain ⟨ao9, cap9, hv9⟩ := elems_slice ho
      subst hv9
      have G9 := Lib.hid ho
      clear ho
      clear hb
      go_wp2_with fail
      go_loopw [10] (fun vi W => ∃ i : Nat, i ≤ x.length ∧ vi = .int .i64 i ∧ Below x3.heap.size x3 W) (fun vi _ => x.length - (intOf vi).toNat)
      case atStart => exact ⟨0, Nat.zero_le _, rfl, Below.refl _ _⟩
      case round =>
        obtain ⟨i, hi, rfl, hb⟩ := hrel
        have HBW := Lib.hid hb
        by_cases hlt : i < x.length
        · have HLT := Lib.hid hlt
          obtain ⟨g, off, cap', hve, hcs⟩ := pts_cells (Seg.kept X_3.out hb) (by omega)
          injection hve with hx1 hx2 hx3
          subst hx1
          clear hx2 hx3
          have hcx := hcs i hlt
          obtain ⟨p, hp⟩ : ∃ p, p = x[i]'hlt := ⟨_, rfl⟩
          rw [← hp] at hcx
          have HNUM := Lib.hid (fun W => (show Calls Tryd.prog 14 #[.int .u64 (p.n.toNat : Int)] W fun e w' => e = .returned (.agg #[.bool false, .string ⟨#[]⟩, .int .u64 (p.n.toNat : Int)]) ∧ Below W.heap.size W w' from num_any p.n W))
          have HSTR := Lib.hid (fun W => (show Calls Tryd.prog 15 #[.string p.s] W fun e w' => e = .returned (.agg #[.bool true, .string p.s, .int .u64 0]) ∧ Below W.heap.size W w' from str_any p.s W))
          have hq1 : ∀ W, (binOp .neq 33 (.agg #[.bool false, .string ⟨#[]⟩, .int .u64 (p.n.toNat : Int)]) (.agg #[.bool false, .string ⟨#[]⟩, .int .u64 (p.n.toNat : Int)])).run Tryd.prog W = .ok (.bool false) W := fun W => by
            have := run_neqP ⟨false, ⟨#[]⟩, p.n⟩ ⟨false, ⟨#[]⟩, p.n⟩ W
            rw [eqP_refl] at this; exact this
          have hq2 : ∀ W, (binOp .neq 33 (.agg #[.bool true, .string p.s, .int .u64 0]) (.agg #[.bool true, .string p.s, .int .u64 0])).run Tryd.prog W = .ok (.bool false) W := fun W => by
            have := run_neqP ⟨true, p.s, 0⟩ ⟨true, p.s, 0⟩ W
            rw [eqP_refl] at this; exact this
          have d0 : ∀ zz : Later wr.heap.size wr, zz.val.cell? ⟨g, off + i * 3, none⟩ = some (.bool p.text) := fun zz => Later.cell hcx.c0 (World.block_lt_of_cell? _ _ hcx.c0) zz
          have d1 : ∀ zz : Later wr.heap.size wr, zz.val.cell? ⟨g, off + i * 3 + 1, none⟩ = some (.string p.s) := fun zz => Later.cell hcx.c1 (World.block_lt_of_cell? _ _ hcx.c1) zz
          have d2 : ∀ zz : Later wr.heap.size wr, zz.val.cell? ⟨g, off + i * 3 + 2, none⟩ = some (.int .u64 (p.n.toNat : Int)) := fun zz => Later.cell hcx.c2 (World.block_lt_of_cell? _ _ hcx.c2) zz
          have q1 : (0 : Int) ≤ (i : Int) := by omega
          have q2 : (i : Int) < (x.length : Int) := by omega
          have q4 : IntKind.i64.wrap ((i : Int) + 1) = (i : Int) + 1 := by rw [IntKind.wrap_i64]; have := HSx.out.num; omega
          clear hb hcs hcx hp hlt hi
          go_wp2_with fail
          refine wp_region_later wr.heap.size (by kernel_rfl) (by kernel_rfl) ?_
          repeat (go_big_quiet_step (first | (go_at_call 14; exact Later.calls (Nat.le_refl _) (HNUM.out _)) | (go_at_call 15; exact Later.calls (Nat.le_refl _) (HSTR.out _))))
          refine wpQuiet_nil ?_
          rintro wq ⟨zz, rfl⟩
          have HB3 := Lib.hid (below_step HBW.out zz.prop HBW.out.size)
          clear d0 d1 d2 hq1 hq2
          generalize zz.val = wq at *
          go_wp2_with fail
          go_roundw
          case rel => exact ⟨i + 1, HLT.out, by go_num, HB3.out⟩
          case measure => have := HLT.out; simp [intOf]; omega
        · have q2 : ¬ (i : Int) < (x.length : Int) := by omega
          have X_4 := Lib.hid (Seg.kept X_3.out hb)
          have HM_4 := Lib.hid (cell_kept hb HM_3.out)
          have BE_4 := Lib.hid (below_step BE_3.out hb BE_3.out.size)
          have G8_4 := Lib.hid (Seg.kept G8_3.out hb)
          have G9_4 := Lib.hid (Seg.kept G9.out hb)
          clear hb hlt hi
          go_wp2_with fail
          refine (given_any _ x _ X_4.out (by have := HSx.out.num; omega)).mono ?_
          rintro e x4 ⟨vG, rfl, ho, hb⟩
          have X_5 := Lib.hid (Seg.kept X_4.out hb)
          have HM_5 := Lib.hid (cell_kept hb HM_4.out)
          have BE_5 := Lib.hid (below_step BE_4.out hb BE_4.out.size)
          have G8_5 := Lib.hid (Seg.kept G8_4.out hb)
          have G9_5 := Lib.hid (Seg.kept G9_4.out hb)
          have G := Lib.hid (show PtsAt x4 vG x from Seg.of_owns ho)
          clear ho
          clear hb
          go_wp2_with fail
          refine (HKX.out _ _ G.out HM_5.out).mono ?_
          rintro e x5 ⟨rfl, hb⟩
          have X_6 := Lib.hid (Seg.kept X_5.out hb)
          have HM_6 := Lib.hid (cell_kept hb HM_5.out)
          have BE_6 := Lib.hid (below_step BE_5.out hb BE_5.out.size)
          have G8_6 := Lib.hid (Seg.kept G8_5.out hb)
          have G9_6 := Lib.hid (Seg.kept G9_5.out hb)
          have ks := KS.out
          clear hb
          go_wp2_with fail
          refine (same_self _ _ z _ G8_6.out G9_6.out HLN.out).mono ?_
          rintro e x6 ⟨rfl, hb⟩
          have X_7 := Lib.hid (Seg.kept X_6.out hb)
          have HM_7 := Lib.hid (cell_kept hb HM_6.out)
          have BE_7 := Lib.hid (below_step BE_6.out hb BE_6.out.size)
          have G8_7 := Lib.hid (Seg.kept G8_6.out hb)
          have G9_7 := Lib.hid (Seg.kept G9_6.out hb)
          clear hb
          cases b
          all_goals
            go_wp2_with fail
            refine (awake_any m _ HM_7.out).mono ?_
            rintro e x7 ⟨rfl, hb⟩
            have X_8 := Lib.hid (Seg.kept X_7.out hb)
            have HM_8 := Lib.hid (cell_kept hb HM_7.out)
            have BE_8 := Lib.hid (below_step BE_7.out hb BE_7.out.size)
            have G8_8 := Lib.hid (Seg.kept G8_7.out hb)
            have G9_8 := Lib.hid (Seg.kept G9_7.out hb)
            clear hb
            go_wp2_with fail
            go_ret
            exact ⟨rfl, BE_8.out⟩
    · have k1 : (5000 : Int) < (s.size : Int) := by omega
      have k2 : 5000 ≤ s.size := by omega
      have HT := Lib.hid (show (s.extract 0 5000).size ≤ 5000 from by simp; omega)
      clear hs
      have HPT := Lib.hid (fun W => parts_pp (s.extract 0 5000) W (by have := HT.out; omega))
      have HRT := Lib.hid (fun W => rparts_pp (s.extract 0 5000) W (by have := HT.out; omega))
      have HLN := Lib.hid (show ((Cph.Ok.parts (s.extract 0 5000).data.toList).getD []).length ≤ 1000000 from parts_len _ (by have := HT.out; omega))
      obtain ⟨z, hz⟩ : ∃ z, z = (Cph.Ok.parts (s.extract 0 5000).data.toList).getD [] := ⟨_, rfl⟩
      obtain ⟨b, hb0⟩ : ∃ b, b = (Cph.Ok.parts (s.extract 0 5000).data.toList).isSome := ⟨_, rfl⟩
      unfold PP at HPT HRT
      rw [← hz, ← hb0] at HPT HRT
      rw [← hz] at HLN
      clear hz hb0
      go_wp2_with fail
      refine (HRK.out _ _ X.out).mono ?_
      rintro e x1 ⟨rfl, hb⟩
      have X_1 := Lib.hid (Seg.kept X.out hb)
      have HM_1 := Lib.hid (cell_kept hb HM.out)
      have BE_1 := Lib.hid (below_step BE.out hb BE.out.size)
      clear k1
      clear hb
      go_wp2_with fail
      refine (HPT.out _).mono ?_
      rintro e x2 ⟨v8, rfl, ho, hb⟩
      have X_2 := Lib.hid (Seg.kept X_1.out hb)
      have HM_2 := Lib.hid (cell_kept hb HM_1.out)
      have BE_2 := Lib.hid (below_step BE_1.out hb BE_1.out.size)
      obtain ⟨ao8, cap8, hv8⟩ := elems_slice ho
      subst hv8
      have G8 := Lib.hid ho
      clear ho
      clear hb
      go_wp2_with fail
      refine (HRT.out _).mono ?_
      rintro e x3 ⟨v9, rfl, ho, hb⟩
      have X_3 := Lib.hid (Seg.kept X_2.out hb)
      have HM_3 := Lib.hid (cell_kept hb HM_2.out)
      have BE_3 := Lib.hid (below_step BE_2.out hb BE_2.out.size)
      have G8_3 := Lib.hid (Seg.kept G8.out hb)
      obtain ⟨ao9, cap9, hv9⟩ := elems_slice ho
      subst hv9
      have G9 := Lib.hid ho
      clear ho
      clear hb
      go_wp2_with fail
      go_loopw [10] (fun vi W => ∃ i : Nat, i ≤ x.length ∧ vi = .int .i64 i ∧ Below x3.heap.size x3 W) (fun vi _ => x.length - (intOf vi).toNat)
      case atStart => exact ⟨0, Nat.zero_le _, rfl, Below.refl _ _⟩
      case round =>
        obtain ⟨i, hi, rfl, hb⟩ := hrel
        have HBW := Lib.hid hb
        by_cases hlt : i < x.length
        · have HLT := Lib.hid hlt
          obtain ⟨g, off, cap', hve, hcs⟩ := pts_cells (Seg.kept X_3.out hb) (by omega)
          injection hve with hx1 hx2 hx3
          subst hx1
          clear hx2 hx3
          have hcx := hcs i hlt
          obtain ⟨p, hp⟩ : ∃ p, p = x[i]'hlt := ⟨_, rfl⟩
          rw [← hp] at hcx
          have HNUM := Lib.hid (fun W => (show Calls Tryd.prog 14 #[.int .u64 (p.n.toNat : Int)] W fun e w' => e = .returned (.agg #[.bool false, .string ⟨#[]⟩, .int .u64 (p.n.toNat : Int)]) ∧ Below W.heap.size W w' from num_any p.n W))
          have HSTR := Lib.hid (fun W => (show Calls Tryd.prog 15 #[.string p.s] W fun e w' => e = .returned (.agg #[.bool true, .string p.s, .int .u64 0]) ∧ Below W.heap.size W w' from str_any p.s W))
          have hq1 : ∀ W, (binOp .neq 33 (.agg #[.bool false, .string ⟨#[]⟩, .int .u64 (p.n.toNat : Int)]) (.agg #[.bool false, .string ⟨#[]⟩, .int .u64 (p.n.toNat : Int)])).run Tryd.prog W = .ok (.bool false) W := fun W => by
            have := run_neqP ⟨false, ⟨#[]⟩, p.n⟩ ⟨false, ⟨#[]⟩, p.n⟩ W
            rw [eqP_refl] at this; exact this
          have hq2 : ∀ W, (binOp .neq 33 (.agg #[.bool true, .string p.s, .int .u64 0]) (.agg #[.bool true, .string p.s, .int .u64 0])).run Tryd.prog W = .ok (.bool false) W := fun W => by
            have := run_neqP ⟨true, p.s, 0⟩ ⟨true, p.s, 0⟩ W
            rw [eqP_refl] at this; exact this
          have d0 : ∀ zz : Later wr.heap.size wr, zz.val.cell? ⟨g, off + i * 3, none⟩ = some (.bool p.text) := fun zz => Later.cell hcx.c0 (World.block_lt_of_cell? _ _ hcx.c0) zz
          have d1 : ∀ zz : Later wr.heap.size wr, zz.val.cell? ⟨g, off + i * 3 + 1, none⟩ = some (.string p.s) := fun zz => Later.cell hcx.c1 (World.block_lt_of_cell? _ _ hcx.c1) zz
          have d2 : ∀ zz : Later wr.heap.size wr, zz.val.cell? ⟨g, off + i * 3 + 2, none⟩ = some (.int .u64 (p.n.toNat : Int)) := fun zz => Later.cell hcx.c2 (World.block_lt_of_cell? _ _ hcx.c2) zz
          have q1 : (0 : Int) ≤ (i : Int) := by omega
          have q2 : (i : Int) < (x.length : Int) := by omega
          have q4 : IntKind.i64.wrap ((i : Int) + 1) = (i : Int) + 1 := by rw [IntKind.wrap_i64]; have := HSx.out.num; omega
          clear hb hcs hcx hp hlt hi
          go_wp2_with fail
          refine wp_region_later wr.heap.size (by kernel_rfl) (by kernel_rfl) ?_
          repeat (go_big_quiet_step (first | (go_at_call 14; exact Later.calls (Nat.le_refl _) (HNUM.out _)) | (go_at_call 15; exact Later.calls (Nat.le_refl _) (HSTR.out _))))
          refine wpQuiet_nil ?_
          rintro wq ⟨zz, rfl⟩
          have HB3 := Lib.hid (below_step HBW.out zz.prop HBW.out.size)
          clear d0 d1 d2 hq1 hq2
          generalize zz.val = wq at *
          go_wp2_with fail
          go_roundw
          case rel => exact ⟨i + 1, HLT.out, by go_num, HB3.out⟩
          case measure => have := HLT.out; simp [intOf]; omega
        · have q2 : ¬ (i : Int) < (x.length : Int) := by omega
          have X_4 := Lib.hid (Seg.kept X_3.out hb)
          have HM_4 := Lib.hid (cell_kept hb HM_3.out)
          have BE_4 := Lib.hid (below_step BE_3.out hb BE_3.out.size)
          have G8_4 := Lib.hid (Seg.kept G8_3.out hb)
          have G9_4 := Lib.hid (Seg.kept G9.out hb)
          clear hb hlt hi
          go_wp2_with fail
          refine (given_any _ x _ X_4.out (by have := HSx.out.num; omega)).mono ?_
          rintro e x4 ⟨vG, rfl, ho, hb⟩
          have X_5 := Lib.hid (Seg.kept X_4.out hb)
          have HM_5 := Lib.hid (cell_kept hb HM_4.out)
          have BE_5 := Lib.hid (below_step BE_4.out hb BE_4.out.size)
          have G8_5 := Lib.hid (Seg.kept G8_4.out hb)
          have G9_5 := Lib.hid (Seg.kept G9_4.out hb)
          have G := Lib.hid (show PtsAt x4 vG x from Seg.of_owns ho)
          clear ho
          clear hb
          go_wp2_with fail
          refine (HKX.out _ _ G.out HM_5.out).mono ?_
          rintro e x5 ⟨rfl, hb⟩
          have X_6 := Lib.hid (Seg.kept X_5.out hb)
          have HM_6 := Lib.hid (cell_kept hb HM_5.out)
          have BE_6 := Lib.hid (below_step BE_5.out hb BE_5.out.size)
          have G8_6 := Lib.hid (Seg.kept G8_5.out hb)
          have G9_6 := Lib.hid (Seg.kept G9_5.out hb)
          have ks := KS.out
          clear hb
          go_wp2_with fail
          refine (same_self _ _ z _ G8_6.out G9_6.out HLN.out).mono ?_
          rintro e x6 ⟨rfl, hb⟩
          have X_7 := Lib.hid (Seg.kept X_6.out hb)
          have HM_7 := Lib.hid (cell_kept hb HM_6.out)
          have BE_7 := Lib.hid (below_step BE_6.out hb BE_6.out.size)
          have G8_7 := Lib.hid (Seg.kept G8_6.out hb)
          have G9_7 := Lib.hid (Seg.kept G9_6.out hb)
          clear hb
          cases b
          all_goals
            go_wp2_with fail
            refine (awake_any m _ HM_7.out).mono ?_
            rintro e x7 ⟨rfl, hb⟩
            have X_8 := Lib.hid (Seg.kept X_7.out hb)
            have HM_8 := Lib.hid (cell_kept hb HM_7.out)
            have BE_8 := Lib.hid (below_step BE_7.out hb BE_7.out.size)
            have G8_8 := Lib.hid (Seg.kept G8_7.out hb)
            have G9_8 := Lib.hid (Seg.kept G9_7.out hb)
            clear hb
            go_wp2_with fail
            go_ret
            exact ⟨rfl, BE_8.out⟩
  · go_wp2_with fail
    refine (awake_any m _ HM.out).mono ?_
    rintro e x1 ⟨rfl, hb⟩
    have X_1 := Lib.hid (Seg.kept X.out hb)
    have HM_1 := Lib.hid (cell_kept hb HM.out)
    have BE_1 := Lib.hid (below_step BE.out hb BE.out.size)
    clear hb
    go_wp2_with fail
    go_ret
    exact ⟨rfl, BE_1.out⟩
end Go.Proofs.Tryd.Ok
