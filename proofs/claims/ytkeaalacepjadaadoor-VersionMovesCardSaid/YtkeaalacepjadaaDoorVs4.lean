/- Two sorted rows of entries, one behind the other, are made one: symMerge. -/
import Derived.Test.YtkeaalacepjadaaDoorVs3
import Derived.Deep.DeepCutAuto
set_option linter.unusedVariables false
set_option linter.unusedSimpArgs false
set_option maxRecDepth 100000
namespace Go.Proofs.Tryd.Vr
open Go.RowKit Go.Cph Go.Cph.Skip Go.Cph.So Go.Cph.Ve
variable {C : Cap}

theorem lt_false {x y : Tb} {cc : Int} (h : cc < 0 ↔ (ltK C) x y = true) (hc : ¬ cc < 0) : (ltK C) x y = false := by
  cases hl : (ltK C) x y with
  | false => rfl
  | true => exact absurd (h.2 hl) hc
/-- The search in front: what is known of y against x. -/
structure Fro (C : Cap) (x : Tb) (y : List Tb) (i j : Nat) : Prop where
  le : i ≤ j
  top : j ≤ y.length
  lo : ∀ r (h : r < y.length), r < i → (ltK C) y[r] x = true
  hi : ∀ r (h : r < y.length), j ≤ r → (ltK C) y[r] x = false
theorem Fro.up {x : Tb} {y : List Tb} {i j h : Nat} (k : Fro C x y i j) (hs : Sorted (ltK C) y) (hij : h < j) (hi : i ≤ h) (hl : h < y.length) (hc : (ltK C) y[h] x = true) : Fro C x y (h + 1) j :=
  ⟨hij, k.top, fun r hr hrh => (weakK C).lt_of_le_lt (hs.at (i := r) (j := h) hr hl (by omega) (weakK C)) hc, k.hi⟩
theorem Fro.down {x : Tb} {y : List Tb} {i j h : Nat} (k : Fro C x y i j) (hs : Sorted (ltK C) y) (hij : h < j) (hi : i ≤ h) (hl : h < y.length) (hc : (ltK C) y[h] x = false) : Fro C x y i h :=
  ⟨hi, Nat.le_of_lt hl, k.lo, fun r hr hrh => (weakK C).trans hc (hs.at (i := h) (j := r) hl hr hrh (weakK C)) |> fun z => z⟩
structure Bac (C : Cap) (x : List Tb) (y : Tb) (i j : Nat) : Prop where
  le : i ≤ j
  top : j ≤ x.length
  lo : ∀ r (h : r < x.length), r < i → (ltK C) y x[r] = false
  hi : ∀ r (h : r < x.length), j ≤ r → (ltK C) y x[r] = true
theorem Bac.up {x : List Tb} {y : Tb} {i j h : Nat} (k : Bac C x y i j) (hs : Sorted (ltK C) x) (hij : h < j) (hi : i ≤ h) (hl : h < x.length) (hc : (ltK C) y x[h] = false) : Bac C x y (h + 1) j :=
  ⟨hij, k.top, fun r hr hrh => (weakK C).trans (hs.at (i := r) (j := h) hr hl (by omega) (weakK C)) hc, k.hi⟩
theorem Bac.down {x : List Tb} {y : Tb} {i j h : Nat} (k : Bac C x y i j) (hs : Sorted (ltK C) x) (hij : h < j) (hi : i ≤ h) (hl : h < x.length) (hc : (ltK C) y x[h] = true) : Bac C x y i h :=
  ⟨hi, Nat.le_of_lt hl, k.lo, fun r hr hrh => (weakK C).lt_of_lt_le hc (hs.at (i := h) (j := r) hl hr hrh (weakK C))⟩
theorem shifted_zero (s : List Tb) (x : Tb) : shifted s x 0 = x :: s := by simp [shifted]
theorem shifted_end (s : List Tb) (x : Tb) {j : Nat} (h : s.length ≤ j) : shifted s x j = s ++ [x] := by unfold shifted; rw [List.take_of_length_le h, List.drop_of_length_le h]
theorem shifted_next (s : List Tb) (x : Tb) {j : Nat} (hj : j < s.length) : (shifted s x j)[j + 1]? = some s[j] := by
  unfold shifted
  rw [List.getElem?_append_right (by rw [List.length_take]; omega), List.length_take, Nat.min_eq_left (by omega), show j + 1 - j = 1 by omega, List.getElem?_cons_succ, List.drop_eq_getElem_cons hj]
  rfl
theorem shifted_up (s : List Tb) (x : Tb) {j : Nat} (hj : j < s.length) : ((shifted s x j).set j s[j]).set (j + 1) x = shifted s x (j + 1) := by
  unfold shifted
  have hl : (s.take j).length = j := by simp; omega
  rw [List.set_append_right _ _ (by omega), hl, Nat.sub_self, List.set_cons_zero, List.set_append_right _ _ (by omega), hl, show j + 1 - j = 1 by omega, List.drop_eq_getElem_cons hj, List.set_cons_succ, List.set_cons_zero, List.take_succ_eq_append_getElem hj, List.append_assoc]
  rfl
theorem mid_at (p l q : List Tb) (j : Nat) (hj : j < l.length) : (p ++ (l ++ q))[p.length + j]? = l[j]? := by rw [get_mid p l q j hj]; exact (List.getElem?_eq_getElem hj).symm

set_option maxHeartbeats 6000000 in
theorem sym_front {base g n cap : Nat} (a m b : Nat) (p : List Tb) (x : Tb) (y q : List Tb) (w0 w : World) (h : Row C w0 base g n cap (p ++ (([x] ++ y) ++ q)) w) (ha : p.length = a) (hm : a + 1 = m) (hb : m + y.length = b) (hy0 : 0 < y.length) (hys : Sorted (ltK C) y) (hn : n ≤ 1000000) :
    Calls Tryd.prog 78 #[.slice (some ⟨g, 0, none⟩) n cap, .int .i64 a, .int .i64 m, .int .i64 b, (CMP C)] w (RowPost C w0 base g n cap (p ++ (sortL (ltK C) ([x] ++ y) ++ q))) := by
  have hbn : b ≤ n := by rw [← h.len]; simp; omega
  have HR := Lib.hid h
  have HA := Lib.hid ha
  have HM := Lib.hid hm
  have HB := Lib.hid hb
  have HS := Lib.hid hys
  have hmn : m ≤ n := by omega
  have han : a < n := by omega
  have e1 : ((m : Int) - (a : Int) == 1) = true := by simp; omega
  have e2 : (m : Int) - (a : Int) = 1 := by omega
  clear h ha hm hb hys
  go_enter Tryd.func78, Tryd.ntmps78
  go_wp2_with fail
  clear e1 e2
  go_loopw [10, 11] (fun vi vj wr => ∃ i j : Nat, m ≤ i ∧ m ≤ j ∧ vi = .int .i64 i ∧ vj = .int .i64 j ∧ Fro C x y (i - m) (j - m) ∧ Row C w0 base g n cap (p ++ (([x] ++ y) ++ q)) wr) (fun vi vj _ => (intOf vj - intOf vi).toNat)
  case atStart =>
    have hB := HB.out
    exact ⟨m, b, Nat.le_refl _, by omega, rfl, rfl, ⟨by omega, by omega, fun r _ hr => by omega, fun r hr1 hr => by omega⟩, HR.out⟩
  case round =>
    obtain ⟨i, j, hmi, hmj, rfl, rfl, hfr, hr⟩ := hrel
    have HF := Lib.hid hfr
    have HR1 := Lib.hid hr
    have hB := HB.out
    have hle := hfr.le
    have htop := hfr.top
    clear hfr hr HR
    by_cases hlt : i < j
    · obtain ⟨h, hh⟩ : ∃ h, h = (i + j) / 2 := ⟨_, rfl⟩
      have hhi : i ≤ h := by omega
      have hhj : h < j := by omega
      have hhn : h < n := by omega
      have eh : ((i : Int) + (j : Int)) / 2 = (h : Int) := by omega
      have hin : h < n := hhn
      have hjn : a < n := han
      have HYL := Lib.hid (show h - m < y.length by omega)
      obtain ⟨z, hz⟩ : ∃ z, z = y[h - m]'(HYL.out) := ⟨_, rfl⟩
      have hx : (p ++ (([x] ++ y) ++ q))[h]? = some z := by
        have e : h = p.length + (1 + (h - m)) := by have := HA.out; have := HM.out; omega
        rw [e, mid_at _ _ _ _ (by simp; omega), List.getElem?_append_right (by simp), hz]
        simp
      have hy : (p ++ (([x] ++ y) ++ q))[a]? = some x := by
        have e : a = p.length + 0 := by have := HA.out; omega
        rw [e, mid_at _ _ _ _ (by simp)]; rfl
      have HZ := Lib.hid hz
      have HLT := Lib.hid hlt
      clear hz hh hB hle htop
      have hsum : (i : Int) + (j : Int) ≤ 2000000 := by omega
      go_wp2_with fail

      clear eh hsum
      have hcx := HR1.out.cells hin hx
      have hcy := HR1.out.cells hjn hy
      have hord := order_any C z x
      have hbef := cmpK_neg C z x
      have HBF := Lib.hid hbef
      generalize cmpK C z x = cc at hord HBF
      have HO := Lib.hid hord
      clear hord hbef hx hy
      have y1 : (h : Int) < (n : Int) := by omega
      have y2 : (a : Int) < (n : Int) := by omega
      have y3 : (0 : Int) ≤ (h : Int) := by omega
      have y4 : (0 : Int) ≤ (a : Int) := by omega
      have d0 : ∀ zz : Later wr.heap.size wr, zz.val.cell? ⟨g, h * 8, none⟩ = some (.int .u64 (z.1.toNat : Int)) := fun zz => Later.cell hcx.c0 (World.block_lt_of_cell? _ _ hcx.c0) zz
      have d1 : ∀ zz : Later wr.heap.size wr, zz.val.cell? ⟨g, h * 8 + 1, none⟩ = some (.int .i64 z.2.1) := fun zz => Later.cell hcx.c1 (World.block_lt_of_cell? _ _ hcx.c1) zz
      have d2 : ∀ zz : Later wr.heap.size wr, zz.val.cell? ⟨g, h * 8 + 2, none⟩ = some (.int .i64 z.2.2.1) := fun zz => Later.cell hcx.c2 (World.block_lt_of_cell? _ _ hcx.c2) zz
      have d3 : ∀ zz : Later wr.heap.size wr, zz.val.cell? ⟨g, h * 8 + 3, none⟩ = some (.int .i64 z.2.2.2.1) := fun zz => Later.cell hcx.c3 (World.block_lt_of_cell? _ _ hcx.c3) zz
      have d4 : ∀ zz : Later wr.heap.size wr, zz.val.cell? ⟨g, h * 8 + 4, none⟩ = some (.string z.2.2.2.2.1) := fun zz => Later.cell hcx.c4 (World.block_lt_of_cell? _ _ hcx.c4) zz
      have d5 : ∀ zz : Later wr.heap.size wr, zz.val.cell? ⟨g, h * 8 + 5, none⟩ = some (.string z.2.2.2.2.2.1) := fun zz => Later.cell hcx.c5 (World.block_lt_of_cell? _ _ hcx.c5) zz
      have d6 : ∀ zz : Later wr.heap.size wr, zz.val.cell? ⟨g, h * 8 + 6, none⟩ = some (.int .u64 (z.2.2.2.2.2.2.1.toNat : Int)) := fun zz => Later.cell hcx.c6 (World.block_lt_of_cell? _ _ hcx.c6) zz
      have d7 : ∀ zz : Later wr.heap.size wr, zz.val.cell? ⟨g, h * 8 + 7, none⟩ = some (.int .u64 (z.2.2.2.2.2.2.2.toNat : Int)) := fun zz => Later.cell hcx.c7 (World.block_lt_of_cell? _ _ hcx.c7) zz
      have f0 : ∀ zz : Later wr.heap.size wr, zz.val.cell? ⟨g, a * 8, none⟩ = some (.int .u64 (x.1.toNat : Int)) := fun zz => Later.cell hcy.c0 (World.block_lt_of_cell? _ _ hcy.c0) zz
      have f1 : ∀ zz : Later wr.heap.size wr, zz.val.cell? ⟨g, a * 8 + 1, none⟩ = some (.int .i64 x.2.1) := fun zz => Later.cell hcy.c1 (World.block_lt_of_cell? _ _ hcy.c1) zz
      have f2 : ∀ zz : Later wr.heap.size wr, zz.val.cell? ⟨g, a * 8 + 2, none⟩ = some (.int .i64 x.2.2.1) := fun zz => Later.cell hcy.c2 (World.block_lt_of_cell? _ _ hcy.c2) zz
      have f3 : ∀ zz : Later wr.heap.size wr, zz.val.cell? ⟨g, a * 8 + 3, none⟩ = some (.int .i64 x.2.2.2.1) := fun zz => Later.cell hcy.c3 (World.block_lt_of_cell? _ _ hcy.c3) zz
      have f4 : ∀ zz : Later wr.heap.size wr, zz.val.cell? ⟨g, a * 8 + 4, none⟩ = some (.string x.2.2.2.2.1) := fun zz => Later.cell hcy.c4 (World.block_lt_of_cell? _ _ hcy.c4) zz
      have f5 : ∀ zz : Later wr.heap.size wr, zz.val.cell? ⟨g, a * 8 + 5, none⟩ = some (.string x.2.2.2.2.2.1) := fun zz => Later.cell hcy.c5 (World.block_lt_of_cell? _ _ hcy.c5) zz
      have f6 : ∀ zz : Later wr.heap.size wr, zz.val.cell? ⟨g, a * 8 + 6, none⟩ = some (.int .u64 (x.2.2.2.2.2.2.1.toNat : Int)) := fun zz => Later.cell hcy.c6 (World.block_lt_of_cell? _ _ hcy.c6) zz
      have f7 : ∀ zz : Later wr.heap.size wr, zz.val.cell? ⟨g, a * 8 + 7, none⟩ = some (.int .u64 (x.2.2.2.2.2.2.2.toNat : Int)) := fun zz => Later.cell hcy.c7 (World.block_lt_of_cell? _ _ hcy.c7) zz
      clear hcx hcy
      refine wp_region_later wr.heap.size (by kernel_rfl) (by kernel_rfl) ?_
      repeat (go_big_quiet_step ((go_at_call 46; exact Later.calls (Nat.le_refl _) (HO.out _ (blk_kept (Later.prop _) HR1.out.key)))))
      refine wpQuiet_nil ?_
      rintro w2 ⟨zz, rfl⟩
      have HR2 := Lib.hid (HR1.out.later zz.prop)
      clear d0 d1 d2 d3 d4 d5 d6 d7 f0 f1 f2 f3 f4 f5 f6 f7 HO y1 y2 y3 y4
      generalize zz.val = w2 at *
      by_cases hc : cc < 0
      · have HF2 := Lib.hid (show Fro C x y (h + 1 - m) (j - m) from by
          have := HF.out.up HS.out (h := h - m) (by omega) (by omega) HYL.out (by rw [← HZ.out]; exact HBF.out.1 hc)
          rwa [show h - m + 1 = h + 1 - m by omega] at this)
        go_wp2_with fail
        go_roundw
        case rel => exact ⟨h + 1, j, by omega, hmj, by go_num, rfl, HF2.out, HR2.out⟩
        case measure => have := HLT.out; simp [intOf]; omega
      · have HF2 := Lib.hid (show Fro C x y (i - m) (h - m) from HF.out.down HS.out (by omega) (by omega) HYL.out (by rw [← HZ.out]; exact lt_false HBF.out hc))
        go_wp2_with fail
        go_roundw
        case rel => exact ⟨i, h, hmi, by omega, rfl, rfl, HF2.out, HR2.out⟩
        case measure => have := HLT.out; simp [intOf]; omega
    · obtain rfl : i = j := by omega
      have HT := Lib.hid (show ∃ d, d = p ++ (shifted y x 0 ++ q) ∧ Row C w0 base g n cap d wr from ⟨_, by rw [shifted_zero], by simpa using HR1.out⟩)
      have him : m ≤ i := hmi
      have hin0 : i ≤ n := by omega
      have HTOP := Lib.hid htop
      clear hle htop hB hlt hmi hmj
      go_wp2_with fail
      go_loopw [13] (fun vk wr2 => ∃ t k : Nat, k = a + t ∧ t ≤ i - m ∧ vk = .int .i64 k ∧ Row C w0 base g n cap (p ++ (shifted y x t ++ q)) wr2) (fun vk _ => i - (intOf vk).toNat)
      case atStart => exact ⟨0, a, rfl, Nat.zero_le _, rfl, by obtain ⟨d, rfl, h⟩ := HT.out; exact h⟩
      case round =>
        obtain ⟨wo, rfl⟩ : ∃ wo : World, wo = wr := ⟨_, rfl⟩
        obtain ⟨t, k, hk, ht, rfl, hr⟩ := hrel
        have HR2 := Lib.hid hr
        have HK := Lib.hid hk
        clear hr HT
        have hM := HM.out
        have hB := HB.out
        have hA := HA.out
        by_cases hlt : k + 1 < i
        · obtain ⟨l, hl⟩ : ∃ l, l = k + 1 := ⟨_, rfl⟩
          have HYL := Lib.hid (show t < y.length by have := HTOP.out; omega)
          obtain ⟨z, hz⟩ : ∃ z, z = y[t]'(HYL.out) := ⟨_, rfl⟩
          have hkn : k < n := by omega
          have hln : l < n := by omega
          have e1 : k = p.length + t := by omega
          have e2 : l = p.length + (t + 1) := by omega
          have lsh := shifted_length y x (j := t) (Nat.le_of_lt HYL.out)
          have hx : (p ++ (shifted y x t ++ q))[k]? = some x := by
            rw [e1, mid_at _ _ _ _ (by rw [lsh]; have := HYL.out; omega)]; exact shifted_at y x (Nat.le_of_lt HYL.out)
          have hy : (p ++ (shifted y x t ++ q))[l]? = some z := by
            rw [e2, mid_at _ _ _ _ (by rw [lsh]; have := HYL.out; omega), hz]; exact shifted_next y x HYL.out
          have hst : ((p ++ (shifted y x t ++ q)).set k z).set l x = p ++ (shifted y x (t + 1) ++ q) := by
            rw [e1, e2, set_mid _ _ _ _ (by rw [lsh]; have := HYL.out; omega), set_mid _ _ _ _ (by rw [List.length_set, lsh]; have := HYL.out; omega), hz, shifted_up y x HYL.out]
          have HST := Lib.hid hst
          have hcx := HR2.out.cells hkn hx
          have hcy := HR2.out.cells hln hy
          have HAN := Lib.hid hkn
          have HBN := Lib.hid hln
          have z1 : (k : Int) + 1 = (l : Int) := by omega
          have z2 : (k : Int) < (i : Int) - 1 := by omega
          have z3 : (k : Int) < (n : Int) := by omega
          have z4 : (l : Int) < (n : Int) := by omega
          have z5 : IntKind.i64.wrap (l : Int) = (l : Int) := by rw [IntKind.wrap_i64]; omega
          have z6 : k < l := by omega
          have z7 : (0 : Int) ≤ (l : Int) := by omega
          have z8 : (0 : Int) ≤ (k : Int) := by omega
          have HLT := Lib.hid hlt
          clear hst hx hy lsh e1 e2 hz hl hA hB hM hk
          have d0 := hcx.c0
          have d1 := hcx.c1
          have d2 := hcx.c2
          have d3 := hcx.c3
          have d4 := hcx.c4
          have d5 := hcx.c5
          have d6 := hcx.c6
          have d7 := hcx.c7
          have f0 := hcy.c0
          have f1 := hcy.c1
          have f2 := hcy.c2
          have f3 := hcy.c3
          have f4 := hcy.c4
          have f5 := hcy.c5
          have f6 := hcy.c6
          have f7 := hcy.c7
          have fz : ∀ o, wo.frozen? ⟨g, o, none⟩ = false := fun o => HR2.out.free o
          clear hcx hcy
          go_wp2_with fail
          go_region
          have HR3 := Lib.hid ((HR2.out.put k HAN.out z).put l HBN.out x).drew
          clear d0 d1 d2 d3 d4 d5 d6 d7 f0 f1 f2 f3 f4 f5 f6 f7 fz
          clear z5
          go_wp2_with fail
          go_roundw
          case rel => exact ⟨t + 1, l, by have := HK.out; omega, by have := HK.out; have := HM.out; have := HLT.out; omega, rfl, HR3.out.to HST.out⟩
          case measure => simp [intOf]; omega
        · have ht2 : t = i - m := by omega
          have HE := Lib.hid (show Row C w0 base g n cap (p ++ (sortL (ltK C) ([x] ++ y) ++ q)) wo from by
            have := front_one (weakK C) HS.out (x := x) (t := i - m) HTOP.out HF.out.lo HF.out.hi
            rw [this, ← ht2]; exact HR2.out)
          have z2 : ¬ (k : Int) < (i : Int) - 1 := by omega
          clear ht2 hA hB hM hlt hk
          go_wp2_with fail
          go_end0
          exact ⟨rfl, HE.out⟩

set_option maxHeartbeats 6000000 in
theorem sym_back {base g n cap : Nat} (a m b : Nat) (p x : List Tb) (y : Tb) (q : List Tb) (w0 w : World) (h : Row C w0 base g n cap (p ++ ((x ++ [y]) ++ q)) w) (ha : p.length = a) (hm : a + x.length = m) (hb : m + 1 = b) (hx0 : 1 < x.length) (hxs : Sorted (ltK C) x) (hn : n ≤ 1000000) :
    Calls Tryd.prog 78 #[.slice (some ⟨g, 0, none⟩) n cap, .int .i64 a, .int .i64 m, .int .i64 b, (CMP C)] w (RowPost C w0 base g n cap (p ++ (sortL (ltK C) (x ++ [y]) ++ q))) := by
  have hbn : b ≤ n := by rw [← h.len]; simp; omega
  have HR := Lib.hid h
  have HA := Lib.hid ha
  have HM := Lib.hid hm
  have HB := Lib.hid hb
  have HS := Lib.hid hxs
  have hmn : m < n := by omega
  have han : a < n := by omega
  have e0 : ((m : Int) - (a : Int) == 1) = false := by simp; omega
  have e1 : ((b : Int) - (m : Int) == 1) = true := by simp; omega
  have e2 : (b : Int) - (m : Int) = 1 := by omega
  clear h ha hm hb hxs hx0
  go_enter Tryd.func78, Tryd.ntmps78
  go_wp2_with fail
  clear e0 e1 e2
  go_loopw [14, 15] (fun vi vj wr => ∃ i j : Nat, a ≤ i ∧ a ≤ j ∧ vi = .int .i64 i ∧ vj = .int .i64 j ∧ Bac C x y (i - a) (j - a) ∧ Row C w0 base g n cap (p ++ ((x ++ [y]) ++ q)) wr) (fun vi vj _ => (intOf vj - intOf vi).toNat)
  case atStart =>
    have hM := HM.out
    exact ⟨a, m, Nat.le_refl _, by omega, rfl, rfl, ⟨by omega, by omega, fun r _ hr => by omega, fun r hr1 hr => by omega⟩, HR.out⟩
  case round =>
    obtain ⟨i, j, hmi, hmj, rfl, rfl, hfr, hr⟩ := hrel
    have HF := Lib.hid hfr
    have HR1 := Lib.hid hr
    have hM := HM.out
    have hle := hfr.le
    have htop := hfr.top
    clear hfr hr HR
    by_cases hlt : i < j
    · obtain ⟨h, hh⟩ : ∃ h, h = (i + j) / 2 := ⟨_, rfl⟩
      have hhi : i ≤ h := by omega
      have hhj : h < j := by omega
      have hhn : h < n := by omega
      have eh : ((i : Int) + (j : Int)) / 2 = (h : Int) := by omega
      have hjn : h < n := hhn
      have hin : m < n := hmn
      have HYL := Lib.hid (show h - a < x.length by omega)
      obtain ⟨z, hz⟩ : ∃ z, z = x[h - a]'(HYL.out) := ⟨_, rfl⟩
      have hy : (p ++ ((x ++ [y]) ++ q))[h]? = some z := by
        have e : h = p.length + (h - a) := by have := HA.out; omega
        have := HYL.out
        rw [e, mid_at _ _ _ _ (by simp; omega), List.getElem?_append_left (by omega), hz]
        simp
      have hx : (p ++ ((x ++ [y]) ++ q))[m]? = some y := by
        have e : m = p.length + x.length := by have := HA.out; omega
        rw [e, mid_at _ _ _ _ (by simp)]; simp
      have HZ := Lib.hid hz
      have HLT := Lib.hid hlt
      clear hz hh hM hle htop
      have hsum : (i : Int) + (j : Int) ≤ 2000000 := by omega
      go_wp2_with fail

      clear eh hsum
      have hcx := HR1.out.cells hin hx
      have hcy := HR1.out.cells hjn hy
      have hord := order_any C y z
      have hbef := cmpK_neg C y z
      have HBF := Lib.hid hbef
      generalize cmpK C y z = cc at hord HBF
      have HO := Lib.hid hord
      clear hord hbef hx hy
      have y1 : (m : Int) < (n : Int) := by omega
      have y2 : (h : Int) < (n : Int) := by omega
      have y3 : (0 : Int) ≤ (m : Int) := by omega
      have y4 : (0 : Int) ≤ (h : Int) := by omega
      have d0 : ∀ zz : Later wr.heap.size wr, zz.val.cell? ⟨g, m * 8, none⟩ = some (.int .u64 (y.1.toNat : Int)) := fun zz => Later.cell hcx.c0 (World.block_lt_of_cell? _ _ hcx.c0) zz
      have d1 : ∀ zz : Later wr.heap.size wr, zz.val.cell? ⟨g, m * 8 + 1, none⟩ = some (.int .i64 y.2.1) := fun zz => Later.cell hcx.c1 (World.block_lt_of_cell? _ _ hcx.c1) zz
      have d2 : ∀ zz : Later wr.heap.size wr, zz.val.cell? ⟨g, m * 8 + 2, none⟩ = some (.int .i64 y.2.2.1) := fun zz => Later.cell hcx.c2 (World.block_lt_of_cell? _ _ hcx.c2) zz
      have d3 : ∀ zz : Later wr.heap.size wr, zz.val.cell? ⟨g, m * 8 + 3, none⟩ = some (.int .i64 y.2.2.2.1) := fun zz => Later.cell hcx.c3 (World.block_lt_of_cell? _ _ hcx.c3) zz
      have d4 : ∀ zz : Later wr.heap.size wr, zz.val.cell? ⟨g, m * 8 + 4, none⟩ = some (.string y.2.2.2.2.1) := fun zz => Later.cell hcx.c4 (World.block_lt_of_cell? _ _ hcx.c4) zz
      have d5 : ∀ zz : Later wr.heap.size wr, zz.val.cell? ⟨g, m * 8 + 5, none⟩ = some (.string y.2.2.2.2.2.1) := fun zz => Later.cell hcx.c5 (World.block_lt_of_cell? _ _ hcx.c5) zz
      have d6 : ∀ zz : Later wr.heap.size wr, zz.val.cell? ⟨g, m * 8 + 6, none⟩ = some (.int .u64 (y.2.2.2.2.2.2.1.toNat : Int)) := fun zz => Later.cell hcx.c6 (World.block_lt_of_cell? _ _ hcx.c6) zz
      have d7 : ∀ zz : Later wr.heap.size wr, zz.val.cell? ⟨g, m * 8 + 7, none⟩ = some (.int .u64 (y.2.2.2.2.2.2.2.toNat : Int)) := fun zz => Later.cell hcx.c7 (World.block_lt_of_cell? _ _ hcx.c7) zz
      have f0 : ∀ zz : Later wr.heap.size wr, zz.val.cell? ⟨g, h * 8, none⟩ = some (.int .u64 (z.1.toNat : Int)) := fun zz => Later.cell hcy.c0 (World.block_lt_of_cell? _ _ hcy.c0) zz
      have f1 : ∀ zz : Later wr.heap.size wr, zz.val.cell? ⟨g, h * 8 + 1, none⟩ = some (.int .i64 z.2.1) := fun zz => Later.cell hcy.c1 (World.block_lt_of_cell? _ _ hcy.c1) zz
      have f2 : ∀ zz : Later wr.heap.size wr, zz.val.cell? ⟨g, h * 8 + 2, none⟩ = some (.int .i64 z.2.2.1) := fun zz => Later.cell hcy.c2 (World.block_lt_of_cell? _ _ hcy.c2) zz
      have f3 : ∀ zz : Later wr.heap.size wr, zz.val.cell? ⟨g, h * 8 + 3, none⟩ = some (.int .i64 z.2.2.2.1) := fun zz => Later.cell hcy.c3 (World.block_lt_of_cell? _ _ hcy.c3) zz
      have f4 : ∀ zz : Later wr.heap.size wr, zz.val.cell? ⟨g, h * 8 + 4, none⟩ = some (.string z.2.2.2.2.1) := fun zz => Later.cell hcy.c4 (World.block_lt_of_cell? _ _ hcy.c4) zz
      have f5 : ∀ zz : Later wr.heap.size wr, zz.val.cell? ⟨g, h * 8 + 5, none⟩ = some (.string z.2.2.2.2.2.1) := fun zz => Later.cell hcy.c5 (World.block_lt_of_cell? _ _ hcy.c5) zz
      have f6 : ∀ zz : Later wr.heap.size wr, zz.val.cell? ⟨g, h * 8 + 6, none⟩ = some (.int .u64 (z.2.2.2.2.2.2.1.toNat : Int)) := fun zz => Later.cell hcy.c6 (World.block_lt_of_cell? _ _ hcy.c6) zz
      have f7 : ∀ zz : Later wr.heap.size wr, zz.val.cell? ⟨g, h * 8 + 7, none⟩ = some (.int .u64 (z.2.2.2.2.2.2.2.toNat : Int)) := fun zz => Later.cell hcy.c7 (World.block_lt_of_cell? _ _ hcy.c7) zz
      clear hcx hcy
      refine wp_region_later wr.heap.size (by kernel_rfl) (by kernel_rfl) ?_
      repeat (go_big_quiet_step ((go_at_call 46; exact Later.calls (Nat.le_refl _) (HO.out _ (blk_kept (Later.prop _) HR1.out.key)))))
      refine wpQuiet_nil ?_
      rintro w2 ⟨zz, rfl⟩
      have HR2 := Lib.hid (HR1.out.later zz.prop)
      clear d0 d1 d2 d3 d4 d5 d6 d7 f0 f1 f2 f3 f4 f5 f6 f7 HO y1 y2 y3 y4
      generalize zz.val = w2 at *
      by_cases hc : cc < 0
      · rw [show (!decide (cc < 0)) = false by rw [decide_eq_true hc]; rfl]
        have HF2 := Lib.hid (show Bac C x y (i - a) (h - a) from HF.out.down HS.out (by omega) (by omega) HYL.out (by rw [← HZ.out]; exact HBF.out.1 hc))
        go_wp2_with fail
        go_roundw
        case rel => exact ⟨i, h, hmi, by omega, rfl, rfl, HF2.out, HR2.out⟩
        case measure => have := HLT.out; simp [intOf]; omega
      · rw [show (!decide (cc < 0)) = true by rw [decide_eq_false hc]; rfl]
        have HF2 := Lib.hid (show Bac C x y (h + 1 - a) (j - a) from by
          have := HF.out.up HS.out (h := h - a) (by omega) (by omega) HYL.out (by rw [← HZ.out]; exact lt_false HBF.out hc)
          rwa [show h - a + 1 = h + 1 - a by omega] at this)
        go_wp2_with fail
        go_roundw
        case rel => exact ⟨h + 1, j, by omega, hmj, by go_num, rfl, HF2.out, HR2.out⟩
        case measure => have := HLT.out; simp [intOf]; omega
    · obtain rfl : i = j := by omega
      have HT := Lib.hid (show Row C w0 base g n cap (p ++ (shifted x y (m - a) ++ q)) wr from HR1.out.to (by rw [shifted_end _ _ (by omega)]))
      have him : a ≤ i := hmi
      have him2 : i ≤ m := by omega
      have HTOP := Lib.hid htop
      clear hle htop hM hlt hmi hmj
      go_wp2_with fail
      go_loopw [17] (fun vk wr2 => ∃ k : Nat, i ≤ k ∧ k ≤ m ∧ vk = .int .i64 k ∧ Row C w0 base g n cap (p ++ (shifted x y (k - a) ++ q)) wr2) (fun vk _ => (intOf vk).toNat)
      case atStart => exact ⟨m, him2, Nat.le_refl _, rfl, HT.out⟩
      case round =>
        obtain ⟨wo, rfl⟩ : ∃ wo : World, wo = wr := ⟨_, rfl⟩
        obtain ⟨k, hik, hkm, rfl, hr⟩ := hrel
        have HR2 := Lib.hid hr
        clear hr HT
        have hM := HM.out
        have hA := HA.out
        by_cases hlt : i < k
        · obtain ⟨l, hl⟩ : ∃ l, l = k - 1 := ⟨_, rfl⟩
          obtain ⟨t, ht⟩ : ∃ t, t = k - 1 - a := ⟨_, rfl⟩
          have HYL := Lib.hid (show t < x.length by omega)
          obtain ⟨z, hz⟩ : ∃ z, z = x[t]'(HYL.out) := ⟨_, rfl⟩
          have hkn : k < n := by omega
          have hln : l < n := by omega
          have e1 : k = p.length + (t + 1) := by omega
          have e2 : l = p.length + t := by omega
          have e3 : k - a = t + 1 := by omega
          have lsh := shifted_length x y (j := t + 1) HYL.out
          have hx : (p ++ (shifted x y (k - a) ++ q))[k]? = some y := by
            rw [e3, e1, mid_at _ _ _ _ (by rw [lsh]; have := HYL.out; omega)]; exact shifted_at x y HYL.out
          have hy : (p ++ (shifted x y (k - a) ++ q))[l]? = some z := by
            rw [e3, e2, mid_at _ _ _ _ (by rw [lsh]; have := HYL.out; omega), hz]; exact shifted_prev x y HYL.out
          have hst : ((p ++ (shifted x y (k - a) ++ q)).set k z).set l y = p ++ (shifted x y (l - a) ++ q) := by
            have e4 : l - a = t := by omega
            rw [e3, e4, e1, e2, set_mid _ _ _ _ (by rw [lsh]; have := HYL.out; omega), set_mid _ _ _ _ (by rw [List.length_set, lsh]; have := HYL.out; omega), hz, shifted_down x y HYL.out]
          have HST := Lib.hid hst
          have hcx := HR2.out.cells hkn hx
          have hcy := HR2.out.cells hln hy
          have HAN := Lib.hid hkn
          have HBN := Lib.hid hln
          have z1 : (k : Int) - 1 = (l : Int) := by omega
          have z3 : (k : Int) < (n : Int) := by omega
          have z4 : (l : Int) < (n : Int) := by omega
          have z5 : IntKind.i64.wrap (l : Int) = (l : Int) := by rw [IntKind.wrap_i64]; omega
          have z6 : l < k := by omega
          have z7 : (0 : Int) ≤ (l : Int) := by omega
          have z8 : (0 : Int) ≤ (k : Int) := by omega
          have z9 : i ≤ l := by omega
          have z10 : l ≤ m := by omega
          clear hst hx hy lsh e1 e2 e3 hz hl hA hM ht
          have d0 := hcx.c0
          have d1 := hcx.c1
          have d2 := hcx.c2
          have d3 := hcx.c3
          have d4 := hcx.c4
          have d5 := hcx.c5
          have d6 := hcx.c6
          have d7 := hcx.c7
          have f0 := hcy.c0
          have f1 := hcy.c1
          have f2 := hcy.c2
          have f3 := hcy.c3
          have f4 := hcy.c4
          have f5 := hcy.c5
          have f6 := hcy.c6
          have f7 := hcy.c7
          have fz : ∀ o, wo.frozen? ⟨g, o, none⟩ = false := fun o => HR2.out.free o
          clear hcx hcy
          go_wp2_with fail
          go_region
          have HR3 := Lib.hid ((HR2.out.put k HAN.out z).put l HBN.out y).drew
          clear d0 d1 d2 d3 d4 d5 d6 d7 f0 f1 f2 f3 f4 f5 f6 f7 fz
          clear z5
          go_wp2_with fail
          go_roundw
          case rel => exact ⟨l, z9, z10, rfl, HR3.out.to HST.out⟩
          case measure => simp [intOf]; omega
        · have HE := Lib.hid (show Row C w0 base g n cap (p ++ (sortL (ltK C) (x ++ [y]) ++ q)) wo from by
            have := behind_one (weakK C) HS.out (x := y) (j := i - a) HTOP.out HF.out.lo HF.out.hi
            rw [this, show i = k by omega]; exact HR2.out)
          clear hA hM
          go_wp2_with fail
          go_end0
          exact ⟨rfl, HE.out⟩
end Go.Proofs.Tryd.Vr
