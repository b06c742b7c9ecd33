/- The laws' given. -/
import Derived.Test.YtkeaalacepjadaaDoorVu7
import Derived.Test.YtkeaalacepjadaaDoorVv1
set_option linter.unusedVariables false
set_option linter.unusedSimpArgs false
set_option maxRecDepth 100000
namespace Go.Proofs.Tryd.Vr
open Go.RowKit Go.Cph Go.Cph.Skip Go.Cph.So Go.Cph.Ve
open Go.Proofs.Tryd.Sq (row_kept1 grown_below grown_set encU encU_len TU TUs infoU)

abbrev TSr : TypeId := 41
theorem infoEr : (Tryd.prog.info? TEr).map (fun i => (i.zero, i.size, i.bytes)) = some (some (.agg #[.slice none 0 0, .slice none 0 0, .int .u64 0, .int .u64 0, .int .u64 0]), 5, 72) := by kernel_rfl
theorem one_slice (a : Option Addr) (n c : Nat) : (Value.slice a n c).oneCell' = true := rfl
def ShapeE (e : Es) : Prop := (∃ a n c, e.add = .slice a n c) ∧ ∃ a n c, e.drop = .slice a n c
theorem encEc_one1 {e : Es} (h : ShapeE e) : ∀ u ∈ encEc e, u.oneCell' = true := by
  obtain ⟨⟨a, n, c, h1⟩, ⟨a2, n2, c2, h2⟩⟩ := h
  intro u hu
  simp only [encEc, List.mem_cons, List.not_mem_nil, or_false] at hu
  rcases hu with rfl | rfl | rfl | rfl | rfl
  · rw [h1]; rfl
  · rw [h2]; rfl
  · rfl
  · rfl
  · rfl
theorem step_ownG {P : Program} {ops : Array Oper} {o : Oper} {a : Act} {W : World} {K : Act → World → Prop} {Q : Exit → Act → World → Prop} {E : Prop} (T e : TypeId) (z : Value) (size bytes : Nat) (ht : P.underlying T = some (.slice e)) (hinfo : (P.info? e).map (fun i => (i.zero, i.size, i.bytes)) = some (some z, size, bytes)) (hzs : z.cells.size = size) (hsz : 0 < size) (hby : bytes ≤ 128)
    (hg : o.guard = none) (d x : Operand) (hop : o.op = Op.call { callee := Callee.builtin Builtin.append, args := #[d, x], argTypes := #[T, T] })
    {base : Nat} {v src : Value} {n m : Nat} {xs us : List Value} (hd : a.eval d = v) (hx : a.eval x = src) (hown : W.ownsRow base e size v n xs) (hsrc : Seg W size src m us) (h1 : ∀ u ∈ us, u.oneCell' = true) (hn : n + m ≤ 1099511627776) (hbase : base ≤ W.heap.size)
    (hK : ∀ v' W', W'.ownsRow base e size v' (n + m) (xs ++ us) → W.grownBy W' v.ownBlock → K (a.put o.dst v') W') :
    if Region.wanted o (yielded ops a.tmps) = true then Oper.wp P o a W K Q else E := by
  obtain ⟨v', W', hr, ho, hgr, hwho⟩ := run_append_seg (P := P) W T o.type e z size bytes ht hinfo hzs hsz hown hsrc h1 hn hby hbase
  exact step_append hg d x T T hop _ _ hd hx hr (hK v' W' ho hgr)
theorem seg_oneG {W : World} {g size : Nat} {us : List Value} {e : TypeId} (hh : W.heap[g]? = some (.cells us.toArray e (0, 0))) (hl : us.length = size) : Seg W size (.slice (some ⟨g, 0, none⟩) 1 1) 1 us := by
  refine ⟨⟨_, _, rfl, fun _ => ⟨g, 0, rfl, fun j hj => ?_⟩⟩, by rw [hl, Nat.one_mul]⟩
  rw [Nat.zero_add, blk_cell hh]
  simp

set_option maxHeartbeats 16000000 in
theorem given_any (av : Value) (es : List Es) (ds : List Ed) (w : World) (hE : EdsAt w av es ds) (hn : ds.length ≤ 100000) :
    Calls Tryd.prog 11 #[av] w (fun e w' => ∃ v', e = .returned v' ∧ EdsAt w' v' es ds ∧ Below w.heap.size w w') := by
  obtain ⟨ao, cap, hav⟩ := elems_slice hE.row
  rw [hE.len] at hav
  have HE := Lib.hid hE
  have HAV := Lib.hid hav
  have HN := Lib.hid hn
  rw [hav]
  clear hE hav hn
  go_enter Tryd.func11, Tryd.ntmps11
  go_wp2_with fail
  go_loopw [3, 4] (fun vo vi W => ∃ i : Nat, i ≤ ds.length ∧ vi = .int .i64 (i : Int) ∧ W.ownsRow w.heap.size TEr 5 vo i ((es.take i).flatMap encEc) ∧ Hid (Below w.heap.size w W)) (fun _ vi _ => ds.length - (intOf vi).toNat)
  case atStart => exact ⟨0, Nat.zero_le _, rfl, World.ownsRow_nil _ _ _ _, Lib.hid (Below.refl _ _)⟩
  case round =>
    obtain ⟨i, hi, rfl, ho, HB⟩ := hrel
    obtain ⟨o1, q1, hv1⟩ := owns_slice1 ho
    subst hv1
    have HO := Lib.hid ho
    by_cases hlt : i < ds.length
    · have HE4 := Lib.hid (HE.out.kept HB.out)
      have hrow := HE4.out.row
      rw [HAV.out] at hrow
      obtain ⟨eb, eoff, ecap, hve, hcs⟩ := elems_shape encEc_len hrow (by rw [HE.out.len]; omega)
      injection hve with hx1 hx2 hx3
      subst hx1
      have hle : i < es.length := by rw [HE.out.len]; omega
      have hcx := hcs i hle
      obtain ⟨x, hx⟩ : ∃ x, x = es[i] := ⟨_, rfl⟩
      have HX := Lib.hid hx
      have hat := HE4.out.at' i hle hlt
      rw [← hx] at hcx hat
      obtain ⟨ea, edr, el, eq, en⟩ := x
      obtain ⟨tao, tc, hta⟩ := elems_slice hat.add
      obtain ⟨dao, dc, hda⟩ := elems_slice hat.drop
      dsimp only at hta hda
      subst hta hda
      obtain ⟨e, he⟩ : ∃ d, d = ds[i] := ⟨_, rfl⟩
      rw [← he] at hcx hx HX
      have HLE := Lib.hid hle
      have b0 : wr.cell? ⟨eb, eoff + i * 5, none⟩ = some (.slice tao e.1.length tc) := hcx 0 (by omega)
      have b1 : wr.cell? ⟨eb, eoff + i * 5 + 1, none⟩ = some (.slice dao e.2.1.length dc) := hcx 1 (by omega)
      have b2 : wr.cell? ⟨eb, eoff + i * 5 + 2, none⟩ = some (.int .u64 (el.toNat : Int)) := hcx 2 (by omega)
      have b3 : wr.cell? ⟨eb, eoff + i * 5 + 3, none⟩ = some (.int .u64 (eq.toNat : Int)) := hcx 3 (by omega)
      have b4 : wr.cell? ⟨eb, eoff + i * 5 + 4, none⟩ = some (.int .u64 (en.toNat : Int)) := hcx 4 (by omega)
      have HCLW := Lib.hid (show ∀ W, Below w.heap.size w W → W.cell? ⟨eb, eoff + i * 5, none⟩ = some (.slice tao e.1.length tc) ∧ W.cell? ⟨eb, eoff + i * 5 + 1, none⟩ = some (.slice dao e.2.1.length dc) ∧ W.cell? ⟨eb, eoff + i * 5 + 2, none⟩ = some (.int .u64 (el.toNat : Int)) ∧ W.cell? ⟨eb, eoff + i * 5 + 3, none⟩ = some (.int .u64 (eq.toNat : Int)) ∧ W.cell? ⟨eb, eoff + i * 5 + 4, none⟩ = some (.int .u64 (en.toNat : Int)) from fun W hb => by
        obtain ⟨eb2, eoff2, ecap2, hve2, hcs2⟩ := elems_shape encEc_len (show Elems encEc 5 W (.slice (some ⟨eb, eoff, none⟩) es.length cap) es from by have h := (HE.out.kept hb).row; rw [HAV.out] at h; rw [HE.out.len]; exact h) (by rw [HE.out.len]; omega)
        injection hve2 with h1 h2 h3
        injection h1 with h1
        injection h1 with h1 h4
        subst h1 h4
        have hcy := hcs2 i HLE.out
        rw [← HX.out] at hcy
        exact ⟨hcy 0 (by omega), hcy 1 (by omega), hcy 2 (by omega), hcy 3 (by omega), hcy 4 (by omega)⟩)
      have HOW := Lib.hid (show ∀ o : Obj, ((wr.alloc o).drew).ownsRow w.heap.size TEr 5 (.slice o1 i q1) i ((es.take i).flatMap encEc) from fun o => ho.alloc o)
      have j1 : (0 : Int) ≤ (i : Int) := by omega
      have j2 : (i : Int) < (ds.length : Int) := by omega
      have j4 : IntKind.i64.wrap ((i : Int) + 1) = (i : Int) + 1 := by have := HN.out; rw [IntKind.wrap_i64]; omega
      have HSN := Lib.hid (show (es.take (i + 1)).flatMap encEc = (es.take i).flatMap encEc ++ encEc ⟨.slice tao e.1.length tc, .slice dao e.2.1.length dc, el, eq, en⟩ from by
        rw [List.take_succ_eq_append_getElem HLE.out, ← HX.out, List.flatMap_append]; simp)
      have q1' : eb < wr.heap.size := World.block_lt_of_cell? _ _ b0
      have n2 : wr.heap.size ≠ eb := by omega
      have n4 : eb ≠ wr.heap.size := by omega
      have hsz := HB.out.size
      have HSG := Lib.hid (show Seg ((wr.alloc (.cells (encEc ⟨.slice tao e.1.length tc, .slice dao e.2.1.length dc, el, eq, en⟩).toArray TEr)).drew) 5 (.slice (some ⟨wr.heap.size, 0, none⟩) 1 1) 1 (encEc ⟨.slice tao e.1.length tc, .slice dao e.2.1.length dc, el, eq, en⟩) from seg_oneG (heap_alloc_new _ _) rfl)
      have HWS := Lib.hid (show w.heap.size ≤ ((wr.alloc (.cells (encEc ⟨.slice tao e.1.length tc, .slice dao e.2.1.length dc, el, eq, en⟩).toArray TEr)).drew).heap.size from by show _ ≤ (World.heap (wr.alloc _)).size; rw [World.size_alloc]; omega)
      have HNL := Lib.hid (show i + 1 ≤ 1099511627776 from by have := HN.out; omega)
      obtain ⟨v6, W6, hr6, ho6, hg6, -⟩ := run_append_seg (P := Tryd.prog) ((wr.alloc (.cells (encEc ⟨.slice tao e.1.length tc, .slice dao e.2.1.length dc, el, eq, en⟩).toArray TEr)).drew) TSr TSr TEr _ 5 72 Tryd.underlying41 infoEr rfl (by decide) (HOW.out _) HSG.out (encEc_one1 (e := ⟨.slice tao e.1.length tc, .slice dao e.2.1.length dc, el, eq, en⟩) ⟨⟨_, _, _, rfl⟩, ⟨_, _, _, rfl⟩⟩) HNL.out (by decide) HWS.out
      obtain ⟨o6, c6, hv6⟩ := owns_slice1 ho6
      subst hv6
      have HR6 := Lib.hid hr6
      have HO6 := Lib.hid ho6
      have HB6 := Lib.hid (show Below w.heap.size w W6 from grown_b (HB.out.alloc hsz _).drew hg6 (Nat.le_refl _) (fun p hp => (HO.out.lt p hp).1))
      clear hrow hx2 hx3 hcs hcx hx hat ho he hr6 ho6 hg6
      go_upto_region 5 with fail
      go_region_held3 (fun W => W.cell? ⟨eb, eoff + i * 5, none⟩ = some (.slice tao e.1.length tc) ∧ W.cell? ⟨eb, eoff + i * 5 + 1, none⟩ = some (.slice dao e.2.1.length dc) ∧ W.cell? ⟨eb, eoff + i * 5 + 2, none⟩ = some (.int .u64 (el.toNat : Int)) ∧ W.cell? ⟨eb, eoff + i * 5 + 3, none⟩ = some (.int .u64 (eq.toNat : Int)) ∧ W.cell? ⟨eb, eoff + i * 5 + 4, none⟩ = some (.int .u64 (en.toNat : Int)))
          (go_keep)
          ((refine step_append rfl (.tmp 11) (.tmp 38) TSr TSr rfl (.slice o1 i q1) (.slice (some ⟨wr.heap.size, 0, none⟩) 1 1) (by simp [Act.eval, Act.put]) (by simp [Act.eval, Act.put]) HR6.out ?_; obtain ⟨s0, s1, s2, s3, s4⟩ := HCLW.out W6 HB6.out))
      go_wp2_with fail
      go_roundw
      case rel => exact ⟨i + 1, hlt, by first | rfl | (congr 1), by rw [HSN.out]; exact HO6.out, HB6⟩
      case measure => simp [intOf]; omega
    · have hil : i = ds.length := by omega
      subst hil
      have i1 : ¬ (ds.length : Int) < (ds.length : Int) := by omega
      clear ho
      go_wp2_with fail
      go_ret
      have hl : es.take ds.length = es := by rw [← HE.out.len, List.take_length]
      exact ⟨_, rfl, ⟨HE.out.len, by
        have h := Seg.of_owns HO.out
        rw [hl] at h
        unfold Elems
        rw [HE.out.len]
        exact h, fun j hj hk => (HE.out.at' j hj hk).kept HB.out⟩, HB.out⟩
end Go.Proofs.Tryd.Vr
