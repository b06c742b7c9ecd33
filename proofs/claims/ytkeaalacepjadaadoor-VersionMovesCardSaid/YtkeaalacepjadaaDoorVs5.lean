/- Two sorted rows of entries are made one: symMerge, whole. -/
import Derived.Test.YtkeaalacepjadaaDoorVs4
set_option linter.unusedVariables false
set_option linter.unusedSimpArgs false
set_option maxRecDepth 100000
namespace Go.Proofs.Tryd.Vr
open Go.RowKit Go.Cph Go.Cph.Skip Go.Cph.So Go.Cph.Ve
variable {C : Cap}

/-- The search for the place where two rows part. -/
structure Sy (C : Cap) (x y : List Tb) (hh i j : Nat) : Prop where
  le : i ≤ j
  lo : hh - y.length ≤ i
  hi : j ≤ min x.length hh
  f : hh - y.length < i → symF (ltK C) x y hh (i - 1)
  t : j < min x.length hh → symT (ltK C) x y hh j
theorem Sy.done {x y : List Tb} {hh s : Nat} (h : Sy C x y hh s s) (hx : Sorted (ltK C) x) (hy : Sorted (ltK C) y) (hl : hh ≤ x.length + y.length) :
    sortL (ltK C) (x ++ y) = sortL (ltK C) (x.take s ++ y.take (hh - s)) ++ sortL (ltK C) (x.drop s ++ y.drop (hh - s)) := by
  have h0 := h.lo
  have h3 := h.hi
  refine sym_split (weakK C) hx hy (by omega) (by omega) (fun a b => ?_) (fun a b => ?_)
  · have := h.t (by omega) a (by omega)
    have e : hh - s - 1 = hh - 1 - s := by omega
    simp only [e]
    exact this
  · have := h.f (by omega) (by omega) (by omega)
    have e : hh - 1 - (s - 1) = hh - s := by omega
    simp only [e] at this
    exact this
def SymOK (C : Cap) (N : Nat) : Prop := ∀ (base g n cap a m b : Nat) (p x y q : List Tb) (w0 w : World), Row C w0 base g n cap (p ++ ((x ++ y) ++ q)) w → p.length = a → a + x.length = m → m + y.length = b → 0 < x.length → 0 < y.length → Sorted (ltK C) x → Sorted (ltK C) y → n ≤ 1000000 → x.length + y.length ≤ N →
    Calls Tryd.prog 78 #[.slice (some ⟨g, 0, none⟩) n cap, .int .i64 a, .int .i64 m, .int .i64 b, (CMP C)] w (RowPost C w0 base g n cap (p ++ (sortL (ltK C) (x ++ y) ++ q)))
theorem take_drop4 (x y q : List Tb) (s e : Nat) : (x ++ y) ++ q = x.take s ++ (x.drop s ++ (y.take e ++ (y.drop e ++ q))) := by
  conv => lhs; rw [← List.take_append_drop s x, ← List.take_append_drop e y]
  simp only [List.append_assoc]

set_option maxHeartbeats 12000000 in
theorem sym_step {N base g n cap : Nat} (ih : SymOK C N) (a m b : Nat) (p x y q : List Tb) (w0 w : World) (h : Row C w0 base g n cap (p ++ ((x ++ y) ++ q)) w) (ha : p.length = a) (hm : a + x.length = m) (hb : m + y.length = b) (hx0 : 1 < x.length) (hy0 : 1 < y.length) (hxs : Sorted (ltK C) x) (hys : Sorted (ltK C) y) (hn : n ≤ 1000000) (hN : x.length + y.length ≤ N + 1) :
    Calls Tryd.prog 78 #[.slice (some ⟨g, 0, none⟩) n cap, .int .i64 a, .int .i64 m, .int .i64 b, (CMP C)] w (RowPost C w0 base g n cap (p ++ (sortL (ltK C) (x ++ y) ++ q))) := by
  have hbn : b ≤ n := by rw [← h.len]; simp; omega
  have HR := Lib.hid h
  have HA := Lib.hid ha
  have HM := Lib.hid hm
  have HB := Lib.hid hb
  have HX := Lib.hid hxs
  have HY := Lib.hid hys
  have IH := Lib.hid ih
  have hmn : m < n := by omega
  have han : a < n := by omega
  have e0 : ((m : Int) - (a : Int) == 1) = false := by simp; omega
  have e1 : ((b : Int) - (m : Int) == 1) = false := by simp; omega
  obtain ⟨hh, hhh⟩ : ∃ k, k = (b - a) / 2 := ⟨_, rfl⟩
  obtain ⟨mid, hmid⟩ : ∃ k, k = a + hh := ⟨_, rfl⟩
  obtain ⟨nn, hnn⟩ : ∃ k, k = mid + m := ⟨_, rfl⟩
  obtain ⟨s0, hs0⟩ : ∃ k, k = a + (hh - y.length) := ⟨_, rfl⟩
  obtain ⟨r0, hr0⟩ : ∃ k, k = a + min x.length hh := ⟨_, rfl⟩
  have HH := Lib.hid hhh
  have HMID := Lib.hid hmid
  have HNN := Lib.hid hnn
  have HS0 := Lib.hid hs0
  have HR0 := Lib.hid hr0
  have m1 : ((a : Int) + (b : Int)) / 2 = (mid : Int) := by omega
  have m2 : (mid : Int) + (m : Int) = (nn : Int) := by omega
  have m3 : (a : Int) + (b : Int) ≤ 2000000 := by omega
  have m4 : mid < b := by omega
  have m5 : a < mid := by omega
  have hnb : nn ≤ 2000000 := by omega
  have HX0 := Lib.hid hx0
  have HY0 := Lib.hid hy0
  have HNM := Lib.hid hN
  clear h ha hm hb hxs hys ih hhh hmid hnn hs0 hr0 hx0 hy0 hN
  go_enter Tryd.func78, Tryd.ntmps78
  go_upto_if 140 with (fail)
  clear m1 e0 e1
  go_cut [20, 21] (fun s20 s21 wx => s20 = .int .i64 s0 ∧ s21 = .int .i64 r0 ∧ wx = w)
  case first => as_aux_lemma =>
    have hHH := HH.out
    have hM := HM.out
    have hB := HB.out
    have hS0 := HS0.out
    have hR0 := HR0.out
    have hN := HNN.out
    have hI := HMID.out
    have hX0 := HX0.out
    have hY0 := HY0.out
    by_cases hc : mid < m
    · have c1 : (nn : Int) - (b : Int) = (s0 : Int) := by omega
      have c2 : r0 = mid := by omega
      clear hHH hM hB hS0 hR0 hN hI hX0 hY0
      subst c2
      go_wp2_with fail
      go_meet
      case rel => exact ⟨rfl, rfl, rfl⟩
    · have c1 : s0 = a := by omega
      have c2 : r0 = m := by omega
      clear hHH hM hB hS0 hR0 hN hI hX0 hY0
      subst c1 c2
      go_wp2_with fail
      go_meet
      case rel => exact ⟨rfl, rfl, rfl⟩
  case rest => as_aux_lemma =>
    obtain ⟨rfl, rfl, rfl⟩ := hcut
    have hsr : s0 ≤ r0 := by
      have hHH := HH.out
      have hM := HM.out
      have hB := HB.out
      have hS0 := HS0.out
      have hR0 := HR0.out
      have hX0 := HX0.out
      have hY0 := HY0.out
      omega
    obtain ⟨pp, hpp⟩ : ∃ k, k = nn - 1 := ⟨_, rfl⟩
    have HPP := Lib.hid hpp
    have m6 : (nn : Int) - 1 = (pp : Int) := by have := HNN.out; omega
    have hr0b : r0 ≤ n := by have := HR0.out; have := HM.out; omega
    clear hpp
    go_wp2_with fail
    clear m6
    go_loopw [20, 21] (fun vi vj wr => ∃ s r : Nat, s0 ≤ s ∧ s ≤ r ∧ r ≤ r0 ∧ vi = .int .i64 s ∧ vj = .int .i64 r ∧ Sy C x y hh (s - a) (r - a) ∧ Row C w0 base g n cap (p ++ ((x ++ y) ++ q)) wr) (fun vi vj _ => (intOf vj - intOf vi).toNat)
    case atStart =>
      have hS0 := HS0.out
      have hR0 := HR0.out
      exact ⟨s0, r0, Nat.le_refl _, hsr, Nat.le_refl _, rfl, rfl, ⟨by omega, by omega, by omega, fun k => by omega, fun k => by omega⟩, HR.out⟩
    case round =>
      obtain ⟨s, r, h0s, hsr1, hr0', rfl, rfl, hsy, hr⟩ := hrel
      have HSY := Lib.hid hsy
      have HR1 := Lib.hid hr
      clear hsy hr HR
      by_cases hlt : s < r
      · obtain ⟨c, hc0⟩ : ∃ h, h = (s + r) / 2 := ⟨_, rfl⟩
        have hhi : s ≤ c := by omega
        have hhj : c < r := by omega
        have eh : ((s : Int) + (r : Int)) / 2 = (c : Int) := by omega
        obtain ⟨d, hd⟩ : ∃ d, d = pp - c := ⟨_, rfl⟩
        have hM := HM.out
        have hB := HB.out
        have hA := HA.out
        have hP := HPP.out
        have hN := HNN.out
        have hI := HMID.out
        have hS0 := HS0.out
        have hR0 := HR0.out
        have HCX := Lib.hid (show c - a < x.length by omega)
        have HCY := Lib.hid (show hh - 1 - (c - a) < y.length by omega)
        obtain ⟨z, hz⟩ : ∃ z, z = x[c - a]'(HCX.out) := ⟨_, rfl⟩
        obtain ⟨v, hv⟩ : ∃ v, v = y[hh - 1 - (c - a)]'(HCY.out) := ⟨_, rfl⟩
        have hin : d < n := by omega
        have hjn : c < n := by omega
        have hy : (p ++ ((x ++ y) ++ q))[c]? = some z := by
          have e : c = p.length + (c - a) := by omega
          have := HCX.out
          rw [e, mid_at _ _ _ _ (by simp; omega), List.getElem?_append_left (by omega), hz]
          simp [hA]
        have hx : (p ++ ((x ++ y) ++ q))[d]? = some v := by
          have e : d = p.length + (x.length + (hh - 1 - (c - a))) := by omega
          have := HCY.out
          rw [e, mid_at _ _ _ _ (by simp; omega), List.getElem?_append_right (by omega), hv, show x.length + (hh - 1 - (c - a)) - x.length = hh - 1 - (c - a) by omega]
          exact List.getElem?_eq_getElem _
        have HZ := Lib.hid hz
        have HV := Lib.hid hv
        have HLT := Lib.hid hlt
        have eh2 : (pp : Int) - (c : Int) = (d : Int) := by omega
        have z5 : IntKind.i64.wrap (d : Int) = (d : Int) := by rw [IntKind.wrap_i64]; omega
        have hsum : (s : Int) + (r : Int) ≤ 2000000 := by omega
        clear hz hv hc0 hM hB hA hP hN hI hS0 hR0 hd
        go_wp2_with fail
        clear eh hsum
        have hcx := HR1.out.cells hin hx
        have hcy := HR1.out.cells hjn hy
        have hord := order_any C v z
        have hbef := cmpK_neg C v z
        have HBF := Lib.hid hbef
        generalize cmpK C v z = cc at hord HBF
        have HO := Lib.hid hord
        clear hord hbef hx hy
        have y1 : (d : Int) < (n : Int) := by omega
        have y2 : (c : Int) < (n : Int) := by omega
        have y3 : (0 : Int) ≤ (d : Int) := by omega
        have y4 : (0 : Int) ≤ (c : Int) := by omega
        have d0 : ∀ zz : Later wr.heap.size wr, zz.val.cell? ⟨g, d * 8, none⟩ = some (.int .u64 (v.1.toNat : Int)) := fun zz => Later.cell hcx.c0 (World.block_lt_of_cell? _ _ hcx.c0) zz
        have d1 : ∀ zz : Later wr.heap.size wr, zz.val.cell? ⟨g, d * 8 + 1, none⟩ = some (.int .i64 v.2.1) := fun zz => Later.cell hcx.c1 (World.block_lt_of_cell? _ _ hcx.c1) zz
        have d2 : ∀ zz : Later wr.heap.size wr, zz.val.cell? ⟨g, d * 8 + 2, none⟩ = some (.int .i64 v.2.2.1) := fun zz => Later.cell hcx.c2 (World.block_lt_of_cell? _ _ hcx.c2) zz
        have d3 : ∀ zz : Later wr.heap.size wr, zz.val.cell? ⟨g, d * 8 + 3, none⟩ = some (.int .i64 v.2.2.2.1) := fun zz => Later.cell hcx.c3 (World.block_lt_of_cell? _ _ hcx.c3) zz
        have d4 : ∀ zz : Later wr.heap.size wr, zz.val.cell? ⟨g, d * 8 + 4, none⟩ = some (.string v.2.2.2.2.1) := fun zz => Later.cell hcx.c4 (World.block_lt_of_cell? _ _ hcx.c4) zz
        have d5 : ∀ zz : Later wr.heap.size wr, zz.val.cell? ⟨g, d * 8 + 5, none⟩ = some (.string v.2.2.2.2.2.1) := fun zz => Later.cell hcx.c5 (World.block_lt_of_cell? _ _ hcx.c5) zz
        have d6 : ∀ zz : Later wr.heap.size wr, zz.val.cell? ⟨g, d * 8 + 6, none⟩ = some (.int .u64 (v.2.2.2.2.2.2.1.toNat : Int)) := fun zz => Later.cell hcx.c6 (World.block_lt_of_cell? _ _ hcx.c6) zz
        have d7 : ∀ zz : Later wr.heap.size wr, zz.val.cell? ⟨g, d * 8 + 7, none⟩ = some (.int .u64 (v.2.2.2.2.2.2.2.toNat : Int)) := fun zz => Later.cell hcx.c7 (World.block_lt_of_cell? _ _ hcx.c7) zz
        have f0 : ∀ zz : Later wr.heap.size wr, zz.val.cell? ⟨g, c * 8, none⟩ = some (.int .u64 (z.1.toNat : Int)) := fun zz => Later.cell hcy.c0 (World.block_lt_of_cell? _ _ hcy.c0) zz
        have f1 : ∀ zz : Later wr.heap.size wr, zz.val.cell? ⟨g, c * 8 + 1, none⟩ = some (.int .i64 z.2.1) := fun zz => Later.cell hcy.c1 (World.block_lt_of_cell? _ _ hcy.c1) zz
        have f2 : ∀ zz : Later wr.heap.size wr, zz.val.cell? ⟨g, c * 8 + 2, none⟩ = some (.int .i64 z.2.2.1) := fun zz => Later.cell hcy.c2 (World.block_lt_of_cell? _ _ hcy.c2) zz
        have f3 : ∀ zz : Later wr.heap.size wr, zz.val.cell? ⟨g, c * 8 + 3, none⟩ = some (.int .i64 z.2.2.2.1) := fun zz => Later.cell hcy.c3 (World.block_lt_of_cell? _ _ hcy.c3) zz
        have f4 : ∀ zz : Later wr.heap.size wr, zz.val.cell? ⟨g, c * 8 + 4, none⟩ = some (.string z.2.2.2.2.1) := fun zz => Later.cell hcy.c4 (World.block_lt_of_cell? _ _ hcy.c4) zz
        have f5 : ∀ zz : Later wr.heap.size wr, zz.val.cell? ⟨g, c * 8 + 5, none⟩ = some (.string z.2.2.2.2.2.1) := fun zz => Later.cell hcy.c5 (World.block_lt_of_cell? _ _ hcy.c5) zz
        have f6 : ∀ zz : Later wr.heap.size wr, zz.val.cell? ⟨g, c * 8 + 6, none⟩ = some (.int .u64 (z.2.2.2.2.2.2.1.toNat : Int)) := fun zz => Later.cell hcy.c6 (World.block_lt_of_cell? _ _ hcy.c6) zz
        have f7 : ∀ zz : Later wr.heap.size wr, zz.val.cell? ⟨g, c * 8 + 7, none⟩ = some (.int .u64 (z.2.2.2.2.2.2.2.toNat : Int)) := fun zz => Later.cell hcy.c7 (World.block_lt_of_cell? _ _ hcy.c7) zz
        clear hcx hcy
        refine wp_region_later wr.heap.size (by kernel_rfl) (by kernel_rfl) ?_
        repeat (go_big_quiet_step ((go_at_call 46; exact Later.calls (Nat.le_refl _) (HO.out _ (blk_kept (Later.prop _) HR1.out.key)))))
        refine wpQuiet_nil ?_
        rintro w2 ⟨zz, rfl⟩
        have HR2 := Lib.hid (HR1.out.later zz.prop)
        clear d0 d1 d2 d3 d4 d5 d6 d7 f0 f1 f2 f3 f4 f5 f6 f7 HO y1 y2 y3 y4
        generalize zz.val = w2 at *
        by_cases hc : cc < 0
        · rw [show (!decide (cc < 0)) = false by rw [decide_eq_true hc]; rfl]
          have HF2 := Lib.hid (show Sy C x y hh (s - a) (c - a) from by
            have hS0 := HS0.out
            have hR0 := HR0.out
            have k := HSY.out
            refine ⟨by omega, k.lo, by omega, k.f, fun _ => ?_⟩
            intro h1 h2
            have := HBF.out.1 hc
            rw [HZ.out, HV.out] at this
            exact this)
          clear eh2 z5
          go_wp2_with fail
          go_roundw
          case rel => exact ⟨s, c, h0s, hhi, by omega, rfl, rfl, HF2.out, HR2.out⟩
          case measure => have := HLT.out; simp [intOf]; omega
        · rw [show (!decide (cc < 0)) = true by rw [decide_eq_false hc]; rfl]
          have HF2 := Lib.hid (show Sy C x y hh (c + 1 - a) (r - a) from by
            have hS0 := HS0.out
            have hR0 := HR0.out
            have k := HSY.out
            refine ⟨by omega, by omega, k.hi, fun _ => ?_, k.t⟩
            have e : c + 1 - a - 1 = c - a := by omega
            rw [e]
            intro h1 h2
            have := lt_false HBF.out hc
            rw [HZ.out, HV.out] at this
            exact this)
          clear eh2 z5
          go_wp2_with fail
          go_roundw
          case rel => exact ⟨c + 1, r, by omega, hhj, hr0', by go_num, rfl, HF2.out, HR2.out⟩
          case measure => have := HLT.out; simp [intOf]; omega
      · obtain rfl : s = r := by omega
        obtain ⟨t, ht⟩ : ∃ t, t = s - a := ⟨_, rfl⟩
        obtain ⟨e, he⟩ : ∃ e, e = hh - t := ⟨_, rfl⟩
        obtain ⟨en, hen⟩ : ∃ k, k = nn - s := ⟨_, rfl⟩
        have hM := HM.out
        have hB := HB.out
        have hA := HA.out
        have hP := HPP.out
        have hN := HNN.out
        have hI := HMID.out
        have hS0 := HS0.out
        have hR0 := HR0.out
        have hHH := HH.out
        have ht1 : t ≤ x.length := by omega
        have he1 : e ≤ y.length := by omega
        have hst : s = a + t := by omega
        have hee : en = m + e := by omega
        have hme : mid = a + (t + e) := by omega
        have HD := Lib.hid (show sortL (ltK C) (x ++ y) = sortL (ltK C) (x.take t ++ y.take e) ++ sortL (ltK C) (x.drop t ++ y.drop e) from by
          have := HSY.out
          rw [← ht] at this
          rw [he]
          exact this.done HX.out HY.out (by omega))
        have hen0 : (nn : Int) - (s : Int) = (en : Int) := by omega
        obtain ⟨u, hu⟩ : ∃ u, u = x.take t := ⟨_, rfl⟩
        obtain ⟨u', hu'⟩ : ∃ u, u = x.drop t := ⟨_, rfl⟩
        obtain ⟨v, hv⟩ : ∃ u, u = y.take e := ⟨_, rfl⟩
        obtain ⟨v', hv'⟩ : ∃ u, u = y.drop e := ⟨_, rfl⟩
        have lu : u.length = t := by rw [hu, List.length_take]; omega
        have lu' : u'.length = x.length - t := by rw [hu', List.length_drop]
        have lv : v.length = e := by rw [hv, List.length_take]; omega
        have lv' : v'.length = y.length - e := by rw [hv', List.length_drop]
        have HU := Lib.hid (show Sorted (ltK C) u from by rw [hu]; exact HX.out.take _)
        have HU' := Lib.hid (show Sorted (ltK C) u' from by rw [hu']; exact HX.out.drop _)
        have HV := Lib.hid (show Sorted (ltK C) v from by rw [hv]; exact HY.out.take _)
        have HV' := Lib.hid (show Sorted (ltK C) v' from by rw [hv']; exact HY.out.drop _)
        have HR2 := Lib.hid (HR1.out.to (show p ++ ((x ++ y) ++ q) = (p ++ u) ++ (u' ++ (v ++ (v' ++ q))) from by rw [take_drop4 x y q t e, ← hu, ← hu', ← hv, ← hv', List.append_assoc]))
        rw [← hu, ← hv, ← hu', ← hv'] at HD
        -- the four numbers
        have HQ := Lib.hid (show p.length + t = s ∧ s + u'.length = m ∧ m + v.length = en ∧ en + v'.length = b ∧ s + v.length = mid ∧ mid + u'.length = en ∧ t + e ≤ N ∧ u'.length + v'.length ≤ N from by
          have := HNM.out; have := HX0.out; have := HY0.out
          refine ⟨by omega, by omega, by omega, by omega, by omega, by omega, by omega, by omega⟩)
        have HLU := Lib.hid lu
        have HLV := Lib.hid lv
        have b1 : s ≤ m := by omega
        have b2 : m ≤ en := by omega
        have b3 : en ≤ b := by omega
        have b4 : s ≤ mid := by omega
        have b5 : mid ≤ en := by omega
        have b6 : a ≤ s := by omega
        clear hM hB hA hP hN hI hS0 hR0 hHH ht1 he1 hst hee hme hu hu' hv hv' lu lu' lv lv' ht he hen hlt h0s hsr1 hr0'
        have en1 : (en : Int) ≤ 2000000 := by omega
        obtain ⟨r1, hr1⟩ : ∃ r : Bool, r = (decide (s < m) && decide (m < en)) := ⟨_, rfl⟩
        have Hr1 := Lib.hid hr1
        clear hr1
        go_upto_region 39 with (fail)
        go_cut [185] (fun sx wx => sx = .bool r1 ∧ wx = wr)
        case first => as_aux_lemma =>
          have hr := Hr1.out
          by_cases c1 : s < m
          · by_cases c2 : m < en
            · obtain rfl : r1 = true := by rw [hr]; simp [c1, c2]
              have d1 : decide (s < m) = true := by simpa using c1
              have d2 : decide (m < en) = true := by simpa using c2
              have d3 : (s : Int) < (m : Int) := by omega
              have d4 : (m : Int) < (en : Int) := by omega
              clear hr
              go_wp2_with fail
              go_meet
              case rel => exact ⟨rfl, rfl⟩
            · obtain rfl : r1 = false := by rw [hr]; simp [c1, c2]
              have d1 : decide (s < m) = true := by simpa using c1
              have d2 : decide (m < en) = false := by simpa using c2
              have d3 : (s : Int) < (m : Int) := by omega
              have d4 : ¬ (m : Int) < (en : Int) := by omega
              clear hr
              go_wp2_with fail
              go_meet
              case rel => exact ⟨rfl, rfl⟩
          · obtain rfl : r1 = false := by rw [hr]; simp [c1]
            have d1 : decide (s < m) = false := by simpa using c1
            have d3 : ¬ (s : Int) < (m : Int) := by omega
            clear hr
            go_wp2_with fail
            go_meet
            case rel => exact ⟨rfl, rfl⟩
        case rest => as_aux_lemma =>
          obtain ⟨rfl, rfl⟩ := hcut
          go_upto_if 185 with (fail)
          go_cut [24] (fun s24 wx => s24 = .int .i64 en ∧ Row C w0 base g n cap (p ++ ((u ++ v) ++ ((u' ++ v') ++ q))) wx)
          case first => as_aux_lemma =>
            obtain ⟨q1, q2, q3, q4, q5, q6, q7, q8⟩ := HQ.out
            cases r1
            · have HR3 := Lib.hid (HR2.out.to (show _ = p ++ ((u ++ v) ++ ((u' ++ v') ++ q)) from by
                have h := Hr1.out
                by_cases c1 : s < m
                · have hv0 : v = [] := List.eq_nil_of_length_eq_zero (by
                    by_cases c2 : m < en
                    · simp [c1, c2] at h
                    · omega)
                  rw [hv0]; simp
                · have hv0 : u' = [] := List.eq_nil_of_length_eq_zero (by omega)
                  rw [hv0]; simp))
              clear q1 q2 q3 q4 q5 q6 q7 q8
              go_wp2_with fail
              go_meet
              case rel => exact ⟨rfl, HR3.out⟩
            · have hx := Hr1.out
              simp only [Bool.true_eq, Bool.and_eq_true, decide_eq_true_eq] at hx
              have HC := Lib.hid (rotate s m en (p ++ u) u' v (v' ++ q) w0 _ HR2.out (by rw [List.length_append, HLU.out]; exact q1) (by rw [List.length_append, HLU.out]; omega) (by rw [List.length_append, HLU.out]; omega) (by omega) (by omega) hn)
              clear q1 q2 q3 q4 q5 q6 q7 q8 hx
              go_wp2_with fail
              refine HC.out.mono ?_
              rintro e w2 ⟨rfl, hr⟩
              have HR3 := Lib.hid (hr.to (show _ = p ++ ((u ++ v) ++ ((u' ++ v') ++ q)) by simp))
              clear hr
              go_wp2_with fail
              go_meet
              case rel => exact ⟨rfl, HR3.out⟩
          case rest => as_aux_lemma =>
            obtain ⟨rfl, hr⟩ := hcut
            have HR3 := Lib.hid hr
            clear hr HR1 HR2
            obtain ⟨wk, rfl⟩ : ∃ z : World, z = wc := ⟨_, rfl⟩
            obtain ⟨r2, hr2⟩ : ∃ r : Bool, r = (decide (a < s) && decide (s < mid)) := ⟨_, rfl⟩
            have Hr2 := Lib.hid hr2
            clear hr2
            go_upto_region 41 with (fail)
            go_cut [199] (fun sx wx => sx = .bool r2 ∧ wx = wk)
            case first => as_aux_lemma =>
              have hr := Hr2.out
              by_cases c1 : a < s
              · by_cases c2 : s < mid
                · obtain rfl : r2 = true := by rw [hr]; simp [c1, c2]
                  have d1 : decide (a < s) = true := by simpa using c1
                  have d2 : decide (s < mid) = true := by simpa using c2
                  have d3 : (a : Int) < (s : Int) := by omega
                  have d4 : (s : Int) < (mid : Int) := by omega
                  clear hr
                  go_wp2_with fail
                  go_meet
                  case rel => exact ⟨rfl, rfl⟩
                · obtain rfl : r2 = false := by rw [hr]; simp [c1, c2]
                  have d1 : decide (a < s) = true := by simpa using c1
                  have d2 : decide (s < mid) = false := by simpa using c2
                  have d3 : (a : Int) < (s : Int) := by omega
                  have d4 : ¬ (s : Int) < (mid : Int) := by omega
                  clear hr
                  go_wp2_with fail
                  go_meet
                  case rel => exact ⟨rfl, rfl⟩
              · obtain rfl : r2 = false := by rw [hr]; simp [c1]
                have d1 : decide (a < s) = false := by simpa using c1
                have d3 : ¬ (a : Int) < (s : Int) := by omega
                clear hr
                go_wp2_with fail
                go_meet
                case rel => exact ⟨rfl, rfl⟩
            case rest => as_aux_lemma =>
              obtain ⟨rfl, rfl⟩ := hcut
              go_upto_if 199 with (fail)
              go_cut [24] (fun s24 wx => s24 = .int .i64 en ∧ Row C w0 base g n cap (p ++ (sortL (ltK C) (u ++ v) ++ ((u' ++ v') ++ q))) wx)
              case first => as_aux_lemma =>
                obtain ⟨q1, q2, q3, q4, q5, q6, q7, q8⟩ := HQ.out
                cases r2
                · have HR4 := Lib.hid (HR3.out.to (show _ = p ++ (sortL (ltK C) (u ++ v) ++ ((u' ++ v') ++ q)) from by
                    have h := Hr2.out
                    by_cases c1 : a < s
                    · have hv0 : v = [] := List.eq_nil_of_length_eq_zero (by
                        by_cases c2 : s < mid
                        · simp [c1, c2] at h
                        · omega)
                      rw [hv0, List.append_nil, sortL_sorted (weakK C) HU.out]
                    · have hv0 : u = [] := List.eq_nil_of_length_eq_zero (by have := HLU.out; have := HA.out; omega)
                      rw [hv0, List.nil_append, sortL_sorted (weakK C) HV.out]))
                  clear q1 q2 q3 q4 q5 q6 q7 q8
                  go_wp2_with fail
                  go_meet
                  case rel => exact ⟨rfl, HR4.out⟩
                · have hx := Hr2.out
                  simp only [Bool.true_eq, Bool.and_eq_true, decide_eq_true_eq] at hx
                  have HC := Lib.hid (IH.out base g n cap a s mid p u v ((u' ++ v') ++ q) w0 _ HR3.out HA.out (by have := HLU.out; have := HA.out; omega) (by omega) (by have := HLU.out; have := HA.out; omega) (by omega) HU.out HV.out hn (by have := HLU.out; have := HLV.out; omega))
                  clear q1 q2 q3 q4 q5 q6 q7 q8 hx
                  go_wp2_with fail
                  refine HC.out.mono ?_
                  rintro e w2 ⟨rfl, hr⟩
                  have HR4 := Lib.hid hr
                  clear hr
                  go_wp2_with fail
                  go_meet
                  case rel => exact ⟨rfl, HR4.out⟩
              case rest => as_aux_lemma =>
                obtain ⟨rfl, hr⟩ := hcut
                have HR4 := Lib.hid (hr.to (show _ = (p ++ sortL (ltK C) (u ++ v)) ++ ((u' ++ v') ++ q) by simp))
                have HE := Lib.hid (show (p ++ sortL (ltK C) (u ++ v)) ++ (sortL (ltK C) (u' ++ v') ++ q) = p ++ (sortL (ltK C) (x ++ y) ++ q) from by rw [HD.out]; simp)
                have HLS := Lib.hid (show (p ++ sortL (ltK C) (u ++ v)).length = mid from by
                  obtain ⟨q1, q2, q3, q4, q5, q6, q7, q8⟩ := HQ.out
                  have := HLU.out; have := HA.out
                  rw [List.length_append, sortL_length (weakK C), List.length_append]; omega)
                clear hr HR3
                obtain ⟨q1, q2, q3, q4, q5, q6, q7, q8⟩ := HQ.out
                by_cases c1 : mid < en
                · by_cases c2 : en < b
                  · have HC := Lib.hid (IH.out base g n cap mid en b (p ++ sortL (ltK C) (u ++ v)) u' v' q w0 _ HR4.out HLS.out q6 q4 (by omega) (by omega) HU'.out HV'.out hn q8)
                    have d1 : decide (mid < en) = true := by simpa using c1
                    have d2 : decide (en < b) = true := by simpa using c2
                    have d3 : (mid : Int) < (en : Int) := by omega
                    have d4 : (en : Int) < (b : Int) := by omega
                    clear q1 q2 q3 q4 q5 q6 q7 q8
                    go_wp2_with fail
                    refine HC.out.mono ?_
                    rintro e w2 ⟨rfl, hr⟩
                    have HR5 := Lib.hid (hr.to HE.out)
                    clear hr
                    go_wp2_with fail
                    go_end0
                    exact ⟨rfl, HR5.out⟩
                  · have hv0 : v' = [] := List.eq_nil_of_length_eq_zero (by omega)
                    have HR5 := Lib.hid (HR4.out.to (show _ = p ++ (sortL (ltK C) (x ++ y) ++ q) by rw [← HE.out, hv0, List.append_nil, sortL_sorted (weakK C) HU'.out]))
                    have d1 : decide (mid < en) = true := by simpa using c1
                    have d2 : decide (en < b) = false := by simpa using c2
                    have d3 : (mid : Int) < (en : Int) := by omega
                    have d4 : ¬ (en : Int) < (b : Int) := by omega
                    clear q1 q2 q3 q4 q5 q6 q7 q8 hv0
                    go_wp2_with fail
                    go_end0
                    exact ⟨rfl, HR5.out⟩
                · have hv0 : u' = [] := List.eq_nil_of_length_eq_zero (by omega)
                  have HR5 := Lib.hid (HR4.out.to (show _ = p ++ (sortL (ltK C) (x ++ y) ++ q) by rw [← HE.out, hv0, List.nil_append, sortL_sorted (weakK C) HV'.out]))
                  have d1 : decide (mid < en) = false := by simpa using c1
                  have d3 : ¬ (mid : Int) < (en : Int) := by omega
                  clear q1 q2 q3 q4 q5 q6 q7 q8 hv0
                  go_wp2_with fail
                  go_end0
                  exact ⟨rfl, HR5.out⟩
theorem sym_ok : ∀ N : Nat, SymOK C N
  | 0 => fun base g n cap a m b p x y q w0 w h ha hm hb hx0 hy0 hxs hys hn hN => by omega
  | N + 1 => fun base g n cap a m b p x y q w0 w h ha hm hb hx0 hy0 hxs hys hn hN => by
    by_cases h1 : x.length = 1
    · obtain ⟨x1, rfl⟩ : ∃ z, x = [z] := List.length_eq_one_iff.1 h1
      exact sym_front a m b p x1 y q w0 w h ha hm hb hy0 hys hn
    · by_cases h2 : y.length = 1
      · obtain ⟨y1, rfl⟩ : ∃ z, y = [z] := List.length_eq_one_iff.1 h2
        exact sym_back a m b p x y1 q w0 w h ha hm hb (by omega) hxs hn
      · exact sym_step (sym_ok N) a m b p x y q w0 w h ha hm hb (by omega) (by omega) hxs hys hn hN
end Go.Proofs.Tryd.Vr
