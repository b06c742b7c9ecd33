/- The text of an address, as the program writes it. -/
import Derived.Test.YtpikpfbpoihioaaDoorAu3
set_option linter.unusedVariables false
set_option linter.unusedSimpArgs false
set_option maxRecDepth 100000
namespace Go.Proofs.Tryd.Tx
open Go.RowKit Go.Cph Go.Cph.Tx
open Go.Cph.Ok (ofBs)
open Go.Cph.Px (Ad rightA bytesA)
open Go.Proofs.Tryd.Pfx (encA bcell)
theorem ofBs_size (l : Bs) : (ofBs l).size = l.length := by show l.toArray.size = _; simp
theorem itoa_any (c : UInt8) (w : World) (henv : Env w) : Calls Tryd.prog 33 #[.int .i64 (c.toNat : Int)] w fun e w' => e = .returned (.string (ofBs (digs 10 c.toNat))) ∧ Below w.heap.size w w' := by
  have hc := c.toNat_lt
  refine (Tryd.strconv_Itoa (c.toNat : Int) (by omega) (by omega) w henv.tab).mono ?_
  rintro e w' ⟨rfl, k, os, rfl⟩
  refine ⟨by rw [itoa_digs c.toNat hc]; rfl, ⟨rfl, rfl, rfl, ?_, fun b hb => ?_⟩⟩
  · show w.heap.size ≤ (w.heap ++ os).size
    rw [Array.size_append]; omega
  · show (w.heap ++ os)[b]? = w.heap[b]?
    rw [Array.getElem?_append_left hb]
abbrev strV (l : List Bs) : List Value := l.map fun x => Value.string (ofBs x)
theorem strV_one (l : List Bs) : ∀ u ∈ strV l, u.oneCell' = true := by
  intro u hu
  obtain ⟨b, -, rfl⟩ := List.mem_map.1 hu
  rfl
theorem infoS : (Tryd.prog.info? 9).map (fun i => (i.zero, i.size, i.bytes)) = some (some (.string ByteArray.empty), 1, 16) := by kernel_rfl
/-- Join of a part of an owned row of strings. -/
theorem lens_six (l : List Bs) (h : ∀ w ∈ l, w.length ≤ 6) : Lib.lens l ≤ 6 * l.length := by
  induction l with
  | nil => exact Nat.le_refl _
  | cons x r ih =>
    have h1 := h x (by simp)
    have h2 := ih (fun w hw => h w (by simp [hw]))
    unfold Lib.lens at h2 ⊢
    rw [List.map_cons, List.sum_cons, List.length_cons]; omega
theorem joinC_len (c : UInt8) (l : List Bs) (h : ∀ w ∈ l, w.length ≤ 6) : (joinC c l).length ≤ 7 * l.length := by
  rw [← join_joinC]
  cases l with
  | nil => exact Nat.zero_le _
  | cons x r =>
    rw [Lib.join_length]
    have := lens_six (x :: r) h
    simp only [List.length_cons, List.length_nil] at this ⊢
    omega
theorem join_any (ss : List Bs) (c : UInt8) (v : Value) (cap : Nat) (ao : Option Addr) (w : World) (hv : v = .slice ao ss.length cap) (hcap : ss.length ≤ cap) (hl : ss.length ≤ 16) (h6 : ∀ x ∈ ss, x.length ≤ 6)
    (hc : 0 < ss.length → ∃ b off, ao = some ⟨b, off, none⟩ ∧ ∀ j x, ss[j]? = some x → w.cell? ⟨b, off + j, none⟩ = some (.string (ofBs x))) :
    Calls Tryd.prog 34 #[v, .string ⟨#[c]⟩] w fun e w' => e = .returned (.string (ofBs (joinC c ss))) ∧ Below w.heap.size w w' := by
  subst hv
  rcases Nat.eq_zero_or_pos ss.length with h0 | h0
  · have : ss = [] := List.length_eq_zero_iff.1 h0
    subst this
    refine (Tryd.strings_Join_none ao cap ⟨#[c]⟩ w).mono ?_
    rintro e w' ⟨rfl, rfl⟩
    exact ⟨rfl, Below.refl _ _⟩
  · obtain ⟨b, off, rfl, hcell⟩ := hc h0
    have hm : (ss.map ofBs).map (·.data.toList) = ss := by rw [List.map_map]; exact List.map_id ss
    have hlen : (ss.map ofBs).length = ss.length := List.length_map ..
    have h7 := joinC_len c ss h6
    have hb : b < w.heap.size := by
      obtain ⟨x, hx⟩ : ∃ x, ss[0]? = some x := ⟨ss[0], List.getElem?_eq_getElem h0⟩
      exact World.block_lt_of_cell? w _ (hcell 0 x hx)
    have := Tryd.strings_Join b off cap (ss.map ofBs) ⟨#[c]⟩ w (fun j x hx => by
      rw [List.getElem?_map] at hx
      obtain ⟨y, hy, rfl⟩ := Option.map_eq_some_iff.1 hx
      exact hcell j y hy) hb (by rw [hlen]; omega) (by rw [hlen]; exact hcap) (by
      rw [hm, show (⟨#[c]⟩ : ByteArray).data.toList = [c] from rfl, join_joinC]; omega)
    rw [hm, hlen, show (⟨#[c]⟩ : ByteArray).data.toList = [c] from rfl, join_joinC] at this
    exact this
theorem owns_join {w : World} {base : Nat} {v : Value} {l : List Bs} (h : w.ownsRow base 9 1 v l.length (strV l)) (c : UInt8) (hl : l.length ≤ 16) (h6 : ∀ x ∈ l, x.length ≤ 6) :
    Calls Tryd.prog 34 #[v, .string ⟨#[c]⟩] w fun e w' => e = .returned (.string (ofBs (joinC c l))) ∧ Below w.heap.size w w' := by
  rcases Nat.eq_zero_or_pos l.length with h0 | h0
  · obtain ⟨ao, cap, rfl⟩ := owns_slice1 h
    have : l = [] := List.length_eq_zero_iff.1 h0
    subst this
    refine (Tryd.strings_Join_none ao cap ⟨#[c]⟩ w).mono ?_
    rintro e w' ⟨rfl, rfl⟩
    exact ⟨rfl, Below.refl _ _⟩
  · obtain ⟨g, cap, rfl, _, _, hn, hcell, _⟩ := owns_shape h h0
    refine join_any l c _ cap (some ⟨g, 0, none⟩) w rfl hn hl h6 fun _ => ⟨g, 0, rfl, fun j x hx => ?_⟩
    have hj : j < l.length := (List.getElem?_eq_some_iff.1 hx).1
    rw [Nat.zero_add, hcell j (by omega), List.getElem?_map, hx]; rfl
theorem slice_to (W0 : World) (g cap p : Nat) (h : p ≤ cap) : ∀ W, (Instr.sliceAt 36 (.slice (some ⟨g, 0, none⟩) 8 cap) none (some (.int .i64 (p : Int))) none).run Tryd.prog W = .ok (.slice (some ⟨g, 0, none⟩) p cap) W := by
  intro W
  have hel : Tryd.prog.underlying 36 = some (.slice (Tryd.prog.elem 36)) := by kernel_rfl
  rw [run_sliceAt_slice W 36 _ _ _ _ hel, run_slice_h W 36 _ 8 cap hel .i64 (p : Int) (by omega) (by omega)]
  have hsz : sizeOf (Tryd.prog.elem 36) = sizeOf 9 := by rfl
  rw [hsz]
  simp [go_sem, sliced, Addr.add]
theorem slice_from (g cap q : Nat) (h : q ≤ 8) : ∃ ao : Option Addr, (∀ W, (Instr.sliceAt 36 (.slice (some ⟨g, 0, none⟩) 8 cap) (some (.int .i64 (q : Int))) none none).run Tryd.prog W = .ok (.slice ao (8 - q) (cap - q)) W) ∧ (cap ≠ q → ao = some ⟨g, q, none⟩) := by
  refine ⟨if cap = q then some ⟨g, 0, none⟩ else some ⟨g, q, none⟩, fun W => ?_, fun h => by rw [if_neg h]⟩
  have hel : Tryd.prog.underlying 36 = some (.slice (Tryd.prog.elem 36)) := by kernel_rfl
  rw [run_sliceAt_slice W 36 _ _ _ _ hel, run_slice_l W 36 _ 8 cap hel .i64 (q : Int) (by omega) (by omega)]
  have hsz : sizeOf (Tryd.prog.elem 36) = sizeOf 9 := by rfl
  rw [hsz]
  by_cases hc : cap = q
  · simp [go_sem, sliced, Addr.add, hc]
  · simp [go_sem, sliced, Addr.add, hc]; omega
theorem ofBs_append (a b : Bs) : ofBs a ++ ofBs b = ofBs (a ++ b) := ByteArray.ext (Array.ext' (by rw [ByteArray.data_append, Array.toList_append]; show a.toArray.toList ++ b.toArray.toList = (a ++ b).toArray.toList; simp))
theorem cat_run (a b : Bs) (h : a.length + b.length ≤ 1000000000) : ∀ W, (Op.stringOp .add (ofBs a) (ofBs b)).run Tryd.prog W = .ok (.string (ofBs (a ++ b))) W := fun W => by
  rw [run_string_add_sum W (ofBs a) (ofBs b) (by rw [ofBs_size, ofBs_size]; omega), ofBs_append]
theorem row_kept1 {w w' : World} {base : Nat} {e : TypeId} {size : Nat} {v : Value} {n : Nat} {xs : List Value} (h : w.ownsRow base e size v n xs)
    (hk : ∀ k, v.ownBlock = some k → w'.heap[k]? = w.heap[k]?) : w'.ownsRow base e size v n xs := by
  obtain ⟨h1, h2⟩ := h
  refine ⟨h1, ?_⟩
  rcases h2 with h2 | ⟨g, cap, cur, rfl, h4, h5, r⟩
  · exact .inl h2
  · exact .inr ⟨g, cap, cur, rfl, h4, (hk g rfl).trans h5, r⟩
theorem words6_take (a : Ad) (k : Nat) (h : k < 8) : (words6 a).take (k + 1) = (words6 a).take k ++ [digs 16 (grp a k)] := by
  rw [List.take_succ_eq_append_getElem (by rw [words6_len]; exact h)]
  have := words6_at a k h
  rw [List.getElem?_eq_getElem (by rw [words6_len]; exact h)] at this
  rw [Option.some.inj this]; rfl
theorem words6_six (a : Ad) : ∀ x ∈ words6 a, x.length ≤ 6 := by
  intro x hx
  obtain ⟨i, _, rfl⟩ := List.mem_map.1 hx
  exact digs_len _ _
set_option maxHeartbeats 3200000 in
theorem text_any (a : Ad) (w : World) (henv : Env w) : Calls Tryd.prog 15 #[encA a] w fun e w' => e = .returned (.string (ofBs (textA a))) ∧ Below w.heap.size w w' := by
  obtain ⟨f, x, y⟩ := a
  have HB0 := Lib.hid (show Below w.heap.size w (w.alloc (boxA (f, x, y))) from (Below.refl _ _).alloc (Nat.le_refl _) _)
  have HX0 := Lib.hid (heap_alloc_new w (boxA (f, x, y)))
  have HSZ := Lib.hid (World.size_alloc w (boxA (f, x, y)))
  have hx := HX0.out
  have c0 : (w.alloc (boxA (f, x, y))).cell? ⟨w.heap.size, 0, none⟩ = some (.int .u8 (f.toNat : Int)) := by rw [blk_cell hx]; rfl
  have c1 : (w.alloc (boxA (f, x, y))).cell? ⟨w.heap.size, 1, none⟩ = some (.int .u64 (x.toNat : Int)) := by rw [blk_cell hx]; rfl
  have c2 : (w.alloc (boxA (f, x, y))).cell? ⟨w.heap.size, 2, none⟩ = some (.int .u64 (y.toNat : Int)) := by rw [blk_cell hx]; rfl
  have HE := Lib.hid henv
  have HBY := Lib.hid (fun W => Rows.abytes (f, x, y) W)
  have HBL := Lib.hid (show (bytesA (f, x, y)).length ≤ 16 from by unfold bytesA Px.sizeB; split; (rw [Px.bytesN_length]; split <;> omega); simp)
  have HTX := Lib.hid (show textA (f, x, y) = if rightA (f, x, y) = true then (if f = 6 then text6 (f, x, y) else joinC 46 ((bytesA (f, x, y)).map fun c => digs 10 c.toNat)) else [] from rfl)
  have HNR := Lib.hid (show rightA (f, x, y) = false → bytesA (f, x, y) = [] from fun h => by unfold bytesA; rw [h]; rfl)
  obtain ⟨bs, hbs⟩ : ∃ bs, bs = bytesA (f, x, y) := ⟨_, rfl⟩
  rw [← hbs] at HBY HBL HTX HNR
  clear hx henv hbs
  go_enter Tryd.func15, Tryd.ntmps15
  go_wp2_with fail
  refine (HBY.out _).mono ?_
  rintro e w1 ⟨rfl, hb⟩
  have HB1 := Lib.hid (below_step HB0.out hb HB0.out.size)
  have HX1 := Lib.hid (blk_kept hb HX0.out)
  obtain ⟨cap, cur, w2, hconv, hcap, hcs, hblk, hcur, hb2, hsz⟩ := conv_bytes (P := Tryd.prog) w1 9 45 5 (ofBs bs) Tryd.underlying9 Tryd.underlying45 Tryd.underlying5
  have HB2 := Lib.hid (below_step HB1.out hb2 HB1.out.size)
  have HX2 := Lib.hid (blk_kept hb2 HX1.out)
  have HCB := Lib.hid hblk
  have HL1 := Lib.hid (Nat.lt_of_lt_of_le (blk_lt HX1.out) hb2.size)
  have HLB := Lib.hid (blk_lt hblk)
  have HE2 := Lib.hid (HE.out.kept HB2.out)
  have hn := ofBs_size bs
  have HCU := Lib.hid (show ∀ (j : Nat) (h : j < bs.length), cur[j]? = some (.int .u8 ((bs[j]'h).toNat : Int)) from fun j h => by
    have := hcur j (by rw [hn]; exact h)
    rw [this]; rfl)
  clear hb hb2 hblk hcur c0 c1 c2 hcap hcs hsz
  rw [hn] at hconv
  clear hn
  obtain ⟨n, hn⟩ : ∃ n, n = bs.length := ⟨_, rfl⟩
  have HN := Lib.hid hn
  rw [← hn] at hconv HBL
  clear hn HBY
  go_wp2_with fail
  go_loopw [3, 13] (fun v3 v13 W => ∃ k : Nat, k ≤ n ∧ v13 = .int .i64 (k : Int) ∧ W.ownsRow w2.heap.size 9 1 v3 k (strV ((bs.take k).map fun c => digs 10 c.toNat)) ∧ Below w2.heap.size w2 W) (fun _ v13 _ => (n - intOf v13).toNat)
  case atStart => exact ⟨0, Nat.zero_le _, rfl, by simpa using World.ownsRow_nil _ _ _ _, Below.refl _ _⟩
  case round =>
    obtain ⟨k, hk, rfl, ho, hb⟩ := hrel
    have HO := Lib.hid ho
    have HB := Lib.hid hb
    have HEr := Lib.hid (HE2.out.kept hb)
    obtain ⟨oo, oc, hov⟩ := owns_slice1 ho
    subst hov
    clear ho hb
    by_cases hkn : k < n
    · have hki : (k : Int) < (n : Int) := by omega
      have hkb : k < bs.length := by rw [← HN.out]; exact hkn
      obtain ⟨c, hc⟩ : ∃ c, c = bs[k] := ⟨_, rfl⟩
      have hcell : wr.cell? ⟨w1.heap.size, k, none⟩ = some (.int .u8 (c.toNat : Int)) := by
        rw [HB.out.cell HLB.out, blk_cell HCB.out, HCU.out k hkb, hc]
      have HS := Lib.hid (show (bs.take (k + 1)).map (fun c => digs 10 c.toNat) = ((bs.take k).map fun c => digs 10 c.toNat) ++ [digs 10 c.toNat] from by
        rw [List.take_succ_eq_append_getElem hkb, List.map_append, ← hc]; rfl)
      have k1 : IntKind.i64.wrap ((k : Int) + 1) = ((k + 1 : Nat) : Int) := by have := HBL.out; rw [IntKind.wrap_i64]; omega
      have HL9 := Lib.hid (show k + 1 ≤ 1099511627776 by have := HBL.out; omega)
      clear hc hkb
      go_wp2_with fail
      refine (itoa_any c _ HEr.out).mono ?_
      rintro e w3 ⟨rfl, hb3⟩
      have HB3 := Lib.hid (below_step HB.out hb3 HB.out.size)
      have HO3 := Lib.hid (row_kept1 HO.out fun q hq => hb3.block q (HO.out.lt q hq).2)
      have HZ3 := Lib.hid HB3.out.size
      clear hb3
      go_wp2_with (at_builtin; refine wpList_append1 rfl (.tmp 17) (.tmp 21) 36 rfl w2.heap.size 9 _ 1 16 Tryd.underlying36 infoS rfl (by decide) _ k _ [.string (ofBs (digs 10 c.toNat))] rfl HO3.out _ 1 rfl rfl rfl (by simp [Value.oneCell']) HL9.out (by decide) HZ3.out w2.heap.size w2 HB3.out (Nat.le_refl _) ?_; intro v5 w5 ho5 hgr5 hb5 hsz5; have HO5 := Lib.hid ho5; have HB5 := Lib.hid hb5; clear ho5 hgr5 hb5 hsz5)
      go_roundw
      case rel => exact ⟨k + 1, by omega, rfl, by rw [HS.out]; simpa [strV] using HO5.out, HB5.out⟩
      case measure => simp [intOf]; omega
    · obtain rfl : k = n := by omega
      have HF := Lib.hid (show bs.take k = bs from List.take_of_length_le (by rw [HN.out]; exact Nat.le_refl _))
      have c0 : wr.cell? ⟨w.heap.size, 0, none⟩ = some (.int .u8 (f.toNat : Int)) := by rw [HB.out.cell HL1.out, blk_cell HX2.out]; rfl
      have c1 : wr.cell? ⟨w.heap.size, 1, none⟩ = some (.int .u64 (x.toNat : Int)) := by rw [HB.out.cell HL1.out, blk_cell HX2.out]; rfl
      have c2 : wr.cell? ⟨w.heap.size, 2, none⟩ = some (.int .u64 (y.toNat : Int)) := by rw [HB.out.cell HL1.out, blk_cell HX2.out]; rfl
      by_cases h6 : f = 6
      · have h6i : ((f.toNat : Int) != 6) = false := by rw [h6]; rfl
        obtain ⟨wA, hwA⟩ : ∃ wA, wA = wr := ⟨_, rfl⟩
        subst hwA
        have HV := Lib.hid (show textA (f, x, y) = text6 (f, x, y) from text_6 h6)
        clear h6
        have HBW := Lib.hid (below_step HB2.out HB.out HB2.out.size)
        have HLW := Lib.hid (Nat.lt_of_lt_of_le HL1.out HB.out.size)
        have HXW := Lib.hid (blk_below HB.out HX2.out HL1.out)
        clear HTX HNR HCU HCB HF
        go_wp2_with fail
        go_loopw [3, 29] (fun v3 v29 W => ∃ j : Nat, j ≤ 8 ∧ v29 = .int .i64 (j : Int) ∧ W.ownsRow wA.heap.size 9 1 v3 j (strV ((words6 (f, x, y)).take j)) ∧ Below wA.heap.size wA W) (fun _ v29 _ => (8 - intOf v29).toNat)
        case atStart => exact ⟨0, Nat.zero_le _, rfl, by simpa using World.ownsRow_nil _ _ _ _, Below.refl _ _⟩
        case round =>
          obtain ⟨j, hj, rfl, ho, hb⟩ := hrel
          have HO2 := Lib.hid ho
          have HBB := Lib.hid hb
          have HEq := Lib.hid (HEr.out.kept hb)
          obtain ⟨o2, oc2, hov⟩ := owns_slice1 ho
          subst hov
          clear ho hb c0 c1 c2
          have c0 : wr.cell? ⟨w.heap.size, 0, none⟩ = some (.int .u8 (f.toNat : Int)) := by rw [HBB.out.cell HLW.out, blk_cell HXW.out]; rfl
          have c1 : wr.cell? ⟨w.heap.size, 1, none⟩ = some (.int .u64 (x.toNat : Int)) := by rw [HBB.out.cell HLW.out, blk_cell HXW.out]; rfl
          have c2 : wr.cell? ⟨w.heap.size, 2, none⟩ = some (.int .u64 (y.toNat : Int)) := by rw [HBB.out.cell HLW.out, blk_cell HXW.out]; rfl
          by_cases h8 : j < 8
          · have h8i : (j : Int) < 8 := by omega
            have k2 : IntKind.i64.wrap ((j : Int) + 1) = ((j + 1 : Nat) : Int) := by rw [IntKind.wrap_i64]; omega
            have HS := Lib.hid (words6_take (f, x, y) j h8)
            have HG := Lib.hid (fun W => group_any (f, x, y) j h8 W)
            have HF := Lib.hid (fun W (he : Env W) => fmt16 (grp (f, x, y) j) (grp_lt _ _) W he)
            obtain ⟨g, hg⟩ : ∃ g, g = grp (f, x, y) j := ⟨_, rfl⟩
            rw [← hg] at HS HG HF
            clear hg
            go_wp2_with (first
              | (go_at_call 36; refine (HG.out _).mono ?_; rintro e w3 ⟨rfl, hb3⟩; have HB3 := Lib.hid (below_step HBB.out hb3 HBB.out.size); have HE3 := Lib.hid (HEq.out.kept hb3); have HO3 := Lib.hid (row_kept1 HO2.out fun q hq => hb3.block q (HO2.out.lt q hq).2); clear hb3)
              | (go_at_call 35; refine (HF.out _ HE3.out).mono ?_; rintro e w4 ⟨rfl, hb4⟩; have HB4 := Lib.hid (below_step HB3.out hb4 HB3.out.size); have HO4 := Lib.hid (row_kept1 HO3.out fun q hq => hb4.block q (HO3.out.lt q hq).2); have HZ4 := Lib.hid HB4.out.size; clear hb4)
              | (at_builtin; refine wpList_append1 rfl (.tmp 32) (.tmp 37) 36 rfl wA.heap.size 9 _ 1 16 Tryd.underlying36 infoS rfl (by decide) _ j _ [.string (ofBs (digs 16 g))] rfl HO4.out _ 1 rfl rfl rfl (by simp [Value.oneCell']) (by omega) (by decide) HZ4.out wA.heap.size wA HB4.out (Nat.le_refl _) ?_; intro v5 w5 ho5 hgr5 hb5 hsz5; have HO5 := Lib.hid ho5; have HB5 := Lib.hid hb5; clear ho5 hgr5 hb5 hsz5))
            go_roundw
            case rel => exact ⟨j + 1, by omega, rfl, by rw [HS.out]; simpa [strV] using HO5.out, HB5.out⟩
            case measure => simp [intOf]; omega
          · obtain rfl : j = 8 := by omega
            have HW6 := Lib.hid (show (words6 (f, x, y)).take 8 = words6 (f, x, y) from List.take_of_length_le (by rw [words6_len]; exact Nat.le_refl _))
            rw [HW6.out] at HO2
            have HR := Lib.hid (fun W => run_any (f, x, y) W)
            have HT0 := Lib.hid (text6_none (f, x, y))
            have HT1 := Lib.hid (text6_some (f, x, y))
            have HRL := Lib.hid (run_le (f, x, y))
            have HLN := Lib.hid (words6_len (f, x, y))
            have HSX := Lib.hid (words6_six (f, x, y))
            obtain ⟨ws, hws⟩ : ∃ ws, ws = words6 (f, x, y) := ⟨_, rfl⟩
            rw [← hws] at HO2 HT0 HT1 HLN HSX
            obtain ⟨p, m, hpm⟩ : ∃ p m, run (f, x, y) = (p, m) := ⟨_, _, rfl⟩
            rw [hpm] at HR HT0 HT1 HRL
            clear hws hpm HW6
            go_wp2_with fail
            refine (HR.out _).mono ?_
            rintro e w3 ⟨rfl, hb3⟩
            have HB3 := Lib.hid (below_step HBB.out hb3 HBB.out.size)
            have HO3 := Lib.hid (row_kept1 HO2.out fun q hq => hb3.block q (HO2.out.lt q hq).2)
            have HBT := Lib.hid (below_step HBW.out HB3.out HBW.out.size)
            clear hb3
            by_cases hm0 : m = 0
            · have HJ := Lib.hid (owns_join (l := ws) (by rw [HLN.out]; exact HO3.out) 58 (by rw [HLN.out]; omega) HSX.out)
              have HV2 := Lib.hid (show textA (f, x, y) = joinC 58 ws from HV.out.trans (HT0.out hm0))
              subst hm0
              go_wp2_with fail
              refine HJ.out.mono ?_
              rintro e w4 ⟨rfl, hb4⟩
              have HB4 := Lib.hid (below_step HBT.out hb4 HBT.out.size)
              clear hb4
              go_wp2_with fail
              go_ret
              exact ⟨ret_str (by rw [HV2.out]), HB4.out⟩
            · have HV2 := Lib.hid (show textA (f, x, y) = joinC 58 (ws.take p) ++ 58 :: 58 :: joinC 58 (ws.drop (p + m)) from HV.out.trans (HT1.out hm0))
              have hpm : p + m ≤ 8 := by have := HRL.out; omega
              have hmi : ¬ (m : Int) = 0 := by omega
              have k3 : IntKind.i64.wrap ((p : Int) + (m : Int)) = ((p + m : Nat) : Int) := by rw [IntKind.wrap_i64]; omega
              have k4 : ((p + m : Nat) : Int) ≤ 8 := by omega
              have k5 : (0 : Int) ≤ ((p + m : Nat) : Int) := by omega
              have k6 : (p : Int) ≤ 8 := by omega
              obtain ⟨g, cap2, hg, _, _, hcap2, hcell, _⟩ := owns_shape HO3.out (by omega)
              injection hg with hg1 hg2 hg3
              subst hg1
              subst hg3
              clear hg2 HRL hm0
              have HC3 := Lib.hid hcell
              have HLT := Lib.hid (World.block_lt_of_cell? w3 ⟨g, 0, none⟩ (by rw [hcell 0 (by omega), List.getElem?_map, List.getElem?_eq_getElem (by rw [HLN.out]; omega)]; rfl))
              obtain ⟨ao2, hao2⟩ : ∃ ao2 : Option Addr, ao2 = if oc2 = p + m then some ⟨g, 0, none⟩ else some ⟨g, p + m, none⟩ := ⟨_, rfl⟩
              have hao : oc2 ≠ p + m → ao2 = some ⟨g, p + m, none⟩ := fun h => by rw [hao2, if_neg h]
              have HJ1 : ∀ zz : Later w3.heap.size w3, Calls Tryd.prog 34 #[.slice (some ⟨g, 0, none⟩) p oc2, .string ⟨#[58]⟩] zz.val fun e w' => e = .returned (.string (ofBs (joinC 58 (ws.take p)))) ∧ Below zz.val.heap.size zz.val w' := fun zz => by
                have hl : (ws.take p).length = p := by rw [List.length_take, HLN.out]; omega
                refine join_any (ws.take p) 58 _ oc2 (some ⟨g, 0, none⟩) zz.val (by rw [hl]) (by rw [hl]; omega) (by rw [hl]; omega) (fun x hx => HSX.out x (List.mem_of_mem_take hx)) (fun _ => ⟨g, 0, rfl, fun j x' hx => ?_⟩)
                have hj : j < p := by have := (List.getElem?_eq_some_iff.1 hx).1; omega
                rw [Nat.zero_add, zz.prop.cell (p := ⟨g, j, none⟩) HLT.out, HC3.out j (by omega), List.getElem?_map]
                rw [List.getElem?_take, if_pos hj] at hx
                rw [hx]; rfl
              have HJ2 : ∀ zz : Later w3.heap.size w3, Calls Tryd.prog 34 #[.slice ao2 (8 - (p + m)) (oc2 - (p + m)), .string ⟨#[58]⟩] zz.val fun e w' => e = .returned (.string (ofBs (joinC 58 (ws.drop (p + m))))) ∧ Below zz.val.heap.size zz.val w' := fun zz => by
                have hl : (ws.drop (p + m)).length = 8 - (p + m) := by rw [List.length_drop, HLN.out]
                refine join_any (ws.drop (p + m)) 58 _ (oc2 - (p + m)) ao2 zz.val (by rw [hl]) (by rw [hl]; omega) (by rw [hl]; omega) (fun x hx => HSX.out x (List.mem_of_mem_drop hx)) (fun h0 => ⟨g, p + m, hao (by omega), fun j x' hx => ?_⟩)
                have hj : j < 8 - (p + m) := by have := (List.getElem?_eq_some_iff.1 hx).1; omega
                rw [zz.prop.cell (p := ⟨g, p + m + j, none⟩) HLT.out, HC3.out (p + m + j) (by omega), List.getElem?_map]
                rw [List.getElem?_drop] at hx
                rw [hx]; rfl
              have hA := joinC_len 58 (ws.take p) (fun x hx => HSX.out x (List.mem_of_mem_take hx))
              have hB := joinC_len 58 (ws.drop (p + m)) (fun x hx => HSX.out x (List.mem_of_mem_drop hx))
              have hA2 : (joinC 58 (ws.take p)).length ≤ 100 := by rw [List.length_take] at hA; omega
              have hB2 : (joinC 58 (ws.drop (p + m))).length ≤ 100 := by rw [List.length_drop] at hB; have := HLN.out; omega
              clear hA hB
              obtain ⟨A, hA⟩ : ∃ A, A = joinC 58 (ws.take p) := ⟨_, rfl⟩
              obtain ⟨B, hB⟩ : ∃ B, B = joinC 58 (ws.drop (p + m)) := ⟨_, rfl⟩
              rw [← hA] at HJ1 HV2 hA2
              rw [← hB] at HJ2 HV2 hB2
              have hk1 : ∀ W, (Op.stringOp .add (ofBs A) ⟨#[58, 58]⟩).run Tryd.prog W = .ok (.string (ofBs (A ++ [58, 58]))) W := cat_run A [58, 58] (by simp; omega)
              have hk2 := cat_run (A ++ [58, 58]) B (by simp; omega)
              rw [hao2] at HJ2
              have HJ1' := Lib.hid HJ1
              have HJ2' := Lib.hid HJ2
              have HV3 := Lib.hid (show textA (f, x, y) = A ++ [58, 58] ++ B from by rw [HV2.out]; simp)
              obtain ⟨AB, hAB⟩ : ∃ AB, AB = A ++ [58, 58] := ⟨_, rfl⟩
              rw [← hAB] at hk1 hk2 HV3
              obtain ⟨ABB, hABB⟩ : ∃ ABB, ABB = AB ++ B := ⟨_, rfl⟩
              rw [← hABB] at hk2 HV3
              clear hA hB hA2 hB2 HV2 hAB hABB
              clear HJ1 HJ2 hcell hao hao2
              go_wp2_with fail
              refine wp_region_later w3.heap.size (by kernel_rfl) (by kernel_rfl) ?_
              repeat (go_big_quiet_step ((go_at_call 34; first | with_reducible exact Later.calls (Nat.le_refl _) (HJ1'.out _) | with_reducible exact Later.calls (Nat.le_refl _) (HJ2'.out _))))
              refine wpQuiet_nil ?_
              rintro wq ⟨zz, rfl⟩
              have HZ := Lib.hid zz.prop
              generalize zz.val = wq at *
              have HBQ := Lib.hid (below_step HBT.out HZ.out HBT.out.size)
              go_wp2_with fail
              all_goals go_ret
              all_goals exact ⟨ret_str (by rw [HV3.out]), HBQ.out⟩
      · have h6i : ((f.toNat : Int) != 6) = true := by
          simp; intro e; apply h6; exact UInt8.toNat_inj.1 (by rw [show (6 : UInt8).toNat = 6 from rfl]; omega)
        have HJ := Lib.hid (owns_join (l := bs.map fun c => digs 10 c.toNat) (by have := HO.out; rw [HF.out] at this; rw [List.length_map, ← HN.out]; exact this) 46 (by rw [List.length_map, ← HN.out]; exact HBL.out) (by
          intro z hz
          obtain ⟨c, _, rfl⟩ := List.mem_map.1 hz
          exact digs_len _ _))
        have HV := Lib.hid (show textA (f, x, y) = joinC 46 (bs.map fun c => digs 10 c.toNat) from by
          rw [HTX.out]
          cases hr : rightA (f, x, y) with
          | true => rw [if_pos rfl, if_neg h6]
          | false => rw [HNR.out hr]; rfl)
        clear h6
        go_wp2_with fail
        refine HJ.out.mono ?_
        rintro e w3 ⟨rfl, hb3⟩
        have HB3 := Lib.hid (below_step (below_step HB2.out HB.out HB2.out.size) hb3 (Nat.le_trans HB2.out.size HB.out.size))
        clear hb3
        go_wp2_with fail
        go_ret
        exact ⟨ret_str (by rw [HV.out]), HB3.out⟩
end Go.Proofs.Tryd.Tx
