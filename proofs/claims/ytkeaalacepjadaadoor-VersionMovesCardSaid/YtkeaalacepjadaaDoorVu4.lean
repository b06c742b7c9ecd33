/- The document's levels. -/
import Derived.Test.YtkeaalacepjadaaDoorVu2
import Derived.Test.YtkeaalacepjadaaDoorVu3
import Derived.Test.YtkeaalacepjadaaDoorVH
set_option linter.unusedVariables false
set_option linter.unusedSimpArgs false
set_option maxRecDepth 100000
namespace Go.Proofs.Tryd.Vr
open Go.RowKit Go.Cph Go.Cph.Skip Go.Cph.So Go.Cph.Ve
open Go.Proofs.Tryd.Sq (row_kept1 grown_below grown_set)

def onZ (z : Int) (t : Tb) : Bool := decide (tV t = z)
def insE (l : List Tb) (t : Tb) : List Tb := l.takeWhile (befD · t) ++ t :: l.dropWhile (befD · t)
def levelZ (L : List Tb) (z : Int) : List Tb := (L.filter (onZ z)).foldl insE []
theorem insE_perm (l : List Tb) (t : Tb) : (insE l t).Perm (t :: l) := by
  unfold insE
  refine List.perm_middle.trans ?_
  rw [List.takeWhile_append_dropWhile]
theorem foldE_perm : ∀ (l s : List Tb), (l.foldl insE s).Perm (l ++ s)
  | [], s => List.Perm.refl _
  | t :: l, s => by
    rw [List.foldl_cons]
    refine (foldE_perm l (insE s t)).trans ?_
    refine ((insE_perm s t).append_left l).trans ?_
    exact List.perm_middle
theorem levelZ_perm (L : List Tb) (z : Int) : (levelZ L z).Perm (L.filter (onZ z)) := by
  have := foldE_perm (L.filter (onZ z)) []
  rwa [List.append_nil] at this
theorem levelZ_le (L : List Tb) (z : Int) : (levelZ L z).length ≤ L.length := by
  rw [(levelZ_perm L z).length_eq]
  exact List.length_filter_le _ _
theorem levelZ_mem {L : List Tb} {z : Int} {t : Tb} (h : t ∈ levelZ L z) : t ∈ L ∧ tV t = z := by
  have := List.mem_filter.1 ((levelZ_perm L z).mem_iff.1 h)
  unfold onZ at this
  exact ⟨this.1, by simpa using this.2⟩
theorem levelZ_out {L : List Tb} {z : Int} (hi : Inside L) (hz : z < 0 ∨ 4 ≤ z) : levelZ L z = [] := by
  have e : L.filter (onZ z) = [] := by
    rw [List.filter_eq_nil_iff]
    intro t ht
    unfold onZ
    rw [decide_eq_true_eq]
    have := hi t ht
    omega
  unfold levelZ
  rw [e]
  rfl
theorem levelZ_D (L : List Tb) (k : Nat) : levelZ L (k : Int) = levelD L k := by
  have key : ∀ (l s : List Tb), (∀ x ∈ s, tV x = (k : Int)) → (∀ x ∈ l, tV x = (k : Int)) → l.foldl insE s = l.foldl (insD k) s := by
    intro l
    induction l with
    | nil => intro s _ _; rfl
    | cons t l ih =>
      intro s hs hl
      have e : insE s t = insD k s t := by
        have : ∀ (s : List Tb), (∀ x ∈ s, tV x = (k : Int)) → s.takeWhile (befD · t) = s.takeWhile (bef k · t) ∧ s.dropWhile (befD · t) = s.dropWhile (bef k · t) := by
          intro s
          induction s with
          | nil => intro _; exact ⟨rfl, rfl⟩
          | cons a s ih2 =>
            intro h
            obtain ⟨i1, i2⟩ := ih2 fun x hx => h x (List.mem_cons_of_mem _ hx)
            have e := befD_level (b := t) (h a List.mem_cons_self)
            rw [List.takeWhile_cons, List.takeWhile_cons, List.dropWhile_cons, List.dropWhile_cons, e, i1, i2]
            exact ⟨rfl, rfl⟩
        obtain ⟨h1, h2⟩ := this s hs
        unfold insE insD
        rw [h1, h2]
      rw [List.foldl_cons, List.foldl_cons, e]
      refine ih _ (fun x hx => ?_) fun x hx => hl x (List.mem_cons_of_mem _ hx)
      rcases List.mem_cons.1 ((insD_perm k s t).mem_iff.1 hx) with rfl | h
      · exact hl _ List.mem_cons_self
      · exact hs x h
  unfold levelZ levelD
  have e : onZ (k : Int) = onL k := rfl
  rw [e]
  exact key _ _ (fun x hx => by cases hx) fun x hx => by
    have := (List.mem_filter.1 hx).2
    unfold onL at this
    simpa using this
theorem levelZ_skip {L : List Tb} {z : Int} {i : Nat} (h : i < L.length) (hz : tV L[i] ≠ z) : levelZ (L.take (i + 1)) z = levelZ (L.take i) z := by
  unfold levelZ
  rw [List.take_succ_eq_append_getElem h, List.filter_append, List.filter_cons_of_neg (by unfold onZ; simpa using hz), List.filter_nil, List.append_nil]
theorem levelZ_next {L : List Tb} {z : Int} {i : Nat} (h : i < L.length) (hz : tV L[i] = z) : levelZ (L.take (i + 1)) z = insE (levelZ (L.take i) z) L[i] := by
  unfold levelZ
  rw [List.take_succ_eq_append_getElem h, List.filter_append, List.filter_cons_of_pos (by unfold onZ; simpa using hz), List.filter_nil, List.foldl_append]
  rfl
theorem ins_at {l : List Tb} {t : Tb} {k : Nat} (hk : k ≤ l.length) (h1 : ∀ j (hj : j < l.length), j < k → befD l[j] t = true) (h2 : ∀ h : k < l.length, befD l[k] t = false) : insE l t = l.take k ++ t :: l.drop k := by
  have key : ∀ (l : List Tb) (k : Nat), k ≤ l.length → (∀ j (hj : j < l.length), j < k → befD l[j] t = true) → (∀ h : k < l.length, befD l[k] t = false) → l.takeWhile (befD · t) = l.take k ∧ l.dropWhile (befD · t) = l.drop k := by
    intro l
    induction l with
    | nil => intro k hk _ _; have : k = 0 := by simpa using hk
             subst this; exact ⟨rfl, rfl⟩
    | cons a l ih =>
      intro k hk h1 h2
      cases k with
      | zero =>
        have : befD a t = false := h2 (by simp)
        rw [List.takeWhile_cons, List.dropWhile_cons, this]
        exact ⟨rfl, rfl⟩
      | succ k =>
        have ha : befD a t = true := h1 0 (by simp) (by omega)
        obtain ⟨i1, i2⟩ := ih k (by simpa using hk) (fun j hj hjk => h1 (j + 1) (by simpa using hj) (by omega)) fun h => h2 (by simpa using h)
        rw [List.takeWhile_cons, List.dropWhile_cons, ha, List.take_succ_cons, List.drop_succ_cons, if_pos rfl, if_pos rfl, i1, i2]
        exact ⟨rfl, rfl⟩
  obtain ⟨e1, e2⟩ := key l k hk h1 h2
  unfold insE
  rw [e1, e2]
theorem owns_cap {w : World} {base : Nat} {e : TypeId} {size : Nat} {ao : Option Addr} {n c : Nat} {xs : List Value} (h : w.ownsRow base e size (.slice ao n c) n xs) : n ≤ c := by
  rcases h.2 with ⟨h1, h2⟩ | ⟨g, cap, cur, h1, _, _, h2, _⟩
  · omega
  · cases h1; exact h2
theorem elems_first {w : World} {ao : Option Addr} {c : Nat} {l : List Tb} (h : TbsAt w (.slice ao l.length c) l) (j : Nat) (hj : j ≤ l.length) : TbsAt w (.slice ao j c) (l.take j) := by
  rcases Nat.eq_zero_or_pos l.length with h0 | h0
  · have : j = 0 := by omega
    subst this
    rw [List.take_zero]
    exact ⟨⟨ao, c, rfl, fun h => absurd h (by simp)⟩, rfl⟩
  · obtain ⟨b, off, cap, hv, _⟩ := tbs_cells h h0
    cases hv
    exact elems_take h h0 j hj
theorem elems_drop {w : World} {b off c c2 : Nat} {l : List Tb} (h : TbsAt w (.slice (some ⟨b, off, none⟩) l.length c) l) (j : Nat) (hj : j < l.length) : TbsAt w (.slice (some ⟨b, off + j * 8, none⟩) (l.length - j) c2) (l.drop j) := by
  have hlen : (l.drop j).length = l.length - j := List.length_drop
  obtain ⟨b2, off2, cap2, hv, hc⟩ := tbs_cells h (by omega)
  cases hv
  refine ⟨⟨some ⟨b, off + j * 8, none⟩, c2, by rw [hlen], fun _ => ⟨b, off + j * 8, rfl, fun i hi => ?_⟩⟩, by rw [flat_length encC_len]⟩
  have hi : i < (l.drop j).length * 8 := hi
  rw [hlen] at hi
  have hq : i / 8 < l.length - j := by omega
  have hr : i % 8 < 8 := Nat.mod_lt _ (by decide)
  have g := hc (j + i / 8) (by omega)
  have e2 := flat_at encC_len (l.drop j) (i / 8) (by omega) (i % 8) hr
  have e0 : i / 8 * 8 + i % 8 = i := by omega
  rw [e0] at e2
  rw [e2, List.getElem_drop]
  have eo : off + j * 8 + i = off + (j + i / 8) * 8 + i % 8 := by omega
  rw [eo]
  rcases (show i % 8 = 0 ∨ i % 8 = 1 ∨ i % 8 = 2 ∨ i % 8 = 3 ∨ i % 8 = 4 ∨ i % 8 = 5 ∨ i % 8 = 6 ∨ i % 8 = 7 by omega) with e | e | e | e | e | e | e | e <;> rw [e]
  · exact g.c0
  · exact g.c1
  · exact g.c2
  · exact g.c3
  · exact g.c4
  · exact g.c5
  · exact g.c6
  · exact g.c7
theorem elems_none (w : World) (a : Option Addr) (c : Nat) : Seg w 8 (.slice a 0 c) 0 [] := ⟨⟨a, c, rfl, fun h => absurd h (by omega)⟩, rfl⟩
theorem below_of_grown {w w' : World} {base : Nat} {v : Value} {n : Nat} {xs : List Value} {a : World} (h : Below base a w) (hg : w.grownBy w' v.ownBlock) (ho : w.ownsRow base TE 8 v n xs) (hb : base ≤ w.heap.size) : Below base a w' := h.grown hg hb fun k hk => (ho.lt k hk).1

set_option maxHeartbeats 16000000 in
theorem level14_any (d : Dn) (L : List Tb) (z : Int) (w : World) (h : TbsAt w d.l L) (hn : L.length ≤ 1000000) (hs : SmallL L) : Calls Tryd.prog 33 #[encD d, .int .i64 z] w (NewRow w (levelZ L z)) := by
  obtain ⟨ao, cap, hv⟩ := elems_slice h
  obtain ⟨dl, log, seq, nxt⟩ := d
  dsimp only at hv h
  subst hv
  have HT := Lib.hid h
  have HN := Lib.hid hn
  have HS := Lib.hid hs
  have HB := Lib.hid (below_of_alloc (w := w) (boxD ⟨.slice ao L.length cap, log, seq, nxt⟩))
  have HX := Lib.hid (heap_alloc_new w (boxD ⟨.slice ao L.length cap, log, seq, nxt⟩))
  clear h hn hs
  go_enter Tryd.func33, Tryd.ntmps33
  go_wp2_with fail
  go_loopw [5, 6] (fun vo vi W => ∃ i : Nat, i ≤ L.length ∧ vi = .int .i64 (i : Int) ∧ W.ownsRow (w.heap.size + 1) TE 8 vo (levelZ (L.take i) z).length ((levelZ (L.take i) z).flatMap encC) ∧ Hid (W.heap[w.heap.size]? = some (boxD ⟨.slice ao L.length cap, log, seq, nxt⟩)) ∧ Hid (Below w.heap.size w W)) (fun _ vi _ => L.length - (intOf vi).toNat)
  case atStart => exact ⟨0, Nat.zero_le _, rfl, World.ownsRow_nil _ _ _ _, HX, HB⟩
  case round =>
    obtain ⟨i, hi, rfl, ho, HX2, HB2⟩ := hrel
    clear HX HB
    obtain ⟨o1, q1, hv1⟩ := owns_slice1 ho
    subst hv1
    obtain ⟨out, hout⟩ : ∃ out, out = levelZ (L.take i) z := ⟨_, rfl⟩
    have HOUT := Lib.hid hout
    rw [← hout] at ho ⊢
    have hle : out.length ≤ L.length := by
      rw [hout]
      have := levelZ_le (L.take i) z
      rw [List.length_take] at this
      omega
    have HLE := Lib.hid hle
    have HO := Lib.hid ho
    have c0 : wr.cell? ⟨w.heap.size, 0, none⟩ = some (.slice ao L.length cap) := by rw [blk_cell HX2.out]; rfl
    by_cases hlt : i < L.length
    · obtain ⟨b, off, cap', hve, hcs⟩ := tbs_cells (HT.out.kept HB2.out) (by omega)
      injection hve with hx1 hx2 hx3
      subst hx1
      clear hx2 hx3
      have hcx := hcs i hlt
      have HLT := Lib.hid hlt
      obtain ⟨x, hx⟩ : ∃ x, x = L[i]'(HLT.out) := ⟨_, rfl⟩
      have HXX := Lib.hid hx
      rw [← hx] at hcx
      have HCX := Lib.hid hcx
      have d1 := hcx.c1
      have j1 : (0 : Int) ≤ (i : Int) := by omega
      have j2 : (i : Int) < (L.length : Int) := by omega
      have j4 : IntKind.i64.wrap ((i : Int) + 1) = (i : Int) + 1 := by have := HN.out; rw [IntKind.wrap_i64]; omega
      have HSX := Lib.hid (show SmallT x from by rw [hx]; exact HS.out _ (List.getElem_mem _))
      clear hcs hcx hx ho hout hle
      by_cases p1 : x.2.1 = z
      · have z1 : (x.2.1 == z) = true := by simpa using p1
        have z1b : (x.2.1 != z) = false := by simpa using p1
        have HNX := Lib.hid (show levelZ (L.take (i + 1)) z = insE out x from by rw [levelZ_next HLT.out (by rw [← HXX.out]; exact p1), ← HXX.out, ← HOUT.out])
        clear p1
        go_wp2_with fail
        go_loopw [7] (fun vk W => ∃ k : Nat, k ≤ out.length ∧ vk = .int .i64 (k : Int) ∧ Hid (∀ j (hj : j < out.length), j < k → befD out[j] x = true) ∧ Hid (Below wr.heap.size wr W)) (fun vk _ => out.length - (intOf vk).toNat)
        case atStart => exact ⟨0, Nat.zero_le _, rfl, Lib.hid (fun j hj h0 => absurd h0 (Nat.not_lt_zero _)), Lib.hid (Below.refl _ _)⟩
        case round =>
          clear c0 d1
          obtain ⟨k, hk, rfl, HA, HBI⟩ := hrel
          have HX3 := Lib.hid (blk_kept HBI.out HX2.out)
          have HO3 := Lib.hid (row_kept1 HO.out (fun p hp => HBI.out.block p (HO.out.lt p hp).2))
          have HCX3 := Lib.hid (HCX.out.kept HBI.out)
          have j5 : IntKind.i64.wrap ((k : Int) + 1) = (k : Int) + 1 := by have := HLE.out; have := HN.out; rw [IntKind.wrap_i64]; omega
          obtain ⟨c, hc⟩ : ∃ c : Bool, c = (if h : k < out.length then befD out[k] x else false) := ⟨_, rfl⟩
          have HCC := Lib.hid hc
          clear hc
          go_upto_region 7 with fail
          go_cut [39] (fun v39 W => v39 = .bool c ∧ Hid (Below wr.heap.size wr W))
          case first =>
            by_cases hk2 : k < out.length
            · obtain ⟨ob, ooff, ocap, hve, hoc⟩ := tbs_cells (Seg.of_owns HO3.out) (by omega)
              injection hve with hx1 hx2 hx3
              have hcy := hoc k hk2
              obtain ⟨y, hy⟩ : ∃ y, y = out[k]'hk2 := ⟨_, rfl⟩
              rw [← hy] at hcy
              have HCY := Lib.hid hcy
              have HSY := Lib.hid (show SmallT y from by
                have hm : y ∈ levelZ (L.take i) z := by rw [← HOUT.out, hy]; exact List.getElem_mem _
                exact HS.out _ (List.mem_of_mem_take (levelZ_mem hm).1))
              obtain ⟨r, hr⟩ : ∃ r, r = befD y x := ⟨_, rfl⟩
              have HBF := Lib.hid (fun W => before_any y x W HSY.out HSX.out)
              rw [← hr] at HBF
              have HCR := Lib.hid (show c = r from by rw [HCC.out, dif_pos hk2, hr, hy])
              have k1 : (0 : Int) ≤ (k : Int) := by omega
              have k2 : (k : Int) < (out.length : Int) := by omega
              have k3 : decide ((k : Int) < (out.length : Int)) = true := decide_eq_true k2
              have k4 : decide (k < out.length) = true := decide_eq_true hk2
              subst hx1
              clear hx2 hx3 hoc hcy hr hy
              have ey0 : ∀ zz : Later wr.heap.size wr, zz.val.cell? ⟨ob, ooff + k * 8, none⟩ = some (.int .u64 (y.1.toNat : Int)) := fun zz => cell_kept zz.prop HCY.out.c0
              have ey1 : ∀ zz : Later wr.heap.size wr, zz.val.cell? ⟨ob, ooff + k * 8 + 1, none⟩ = some (.int .i64 y.2.1) := fun zz => cell_kept zz.prop HCY.out.c1
              have ey2 : ∀ zz : Later wr.heap.size wr, zz.val.cell? ⟨ob, ooff + k * 8 + 2, none⟩ = some (.int .i64 y.2.2.1) := fun zz => cell_kept zz.prop HCY.out.c2
              have ey3 : ∀ zz : Later wr.heap.size wr, zz.val.cell? ⟨ob, ooff + k * 8 + 3, none⟩ = some (.int .i64 y.2.2.2.1) := fun zz => cell_kept zz.prop HCY.out.c3
              have ey4 : ∀ zz : Later wr.heap.size wr, zz.val.cell? ⟨ob, ooff + k * 8 + 4, none⟩ = some (.string y.2.2.2.2.1) := fun zz => cell_kept zz.prop HCY.out.c4
              have ey5 : ∀ zz : Later wr.heap.size wr, zz.val.cell? ⟨ob, ooff + k * 8 + 5, none⟩ = some (.string y.2.2.2.2.2.1) := fun zz => cell_kept zz.prop HCY.out.c5
              have ey6 : ∀ zz : Later wr.heap.size wr, zz.val.cell? ⟨ob, ooff + k * 8 + 6, none⟩ = some (.int .u64 (y.2.2.2.2.2.2.1.toNat : Int)) := fun zz => cell_kept zz.prop HCY.out.c6
              have ey7 : ∀ zz : Later wr.heap.size wr, zz.val.cell? ⟨ob, ooff + k * 8 + 7, none⟩ = some (.int .u64 (y.2.2.2.2.2.2.2.toNat : Int)) := fun zz => cell_kept zz.prop HCY.out.c7
              have ex0 : ∀ zz : Later wr.heap.size wr, zz.val.cell? ⟨b, off + i * 8, none⟩ = some (.int .u64 (x.1.toNat : Int)) := fun zz => cell_kept zz.prop HCX3.out.c0
              have ex1 : ∀ zz : Later wr.heap.size wr, zz.val.cell? ⟨b, off + i * 8 + 1, none⟩ = some (.int .i64 x.2.1) := fun zz => cell_kept zz.prop HCX3.out.c1
              have ex2 : ∀ zz : Later wr.heap.size wr, zz.val.cell? ⟨b, off + i * 8 + 2, none⟩ = some (.int .i64 x.2.2.1) := fun zz => cell_kept zz.prop HCX3.out.c2
              have ex3 : ∀ zz : Later wr.heap.size wr, zz.val.cell? ⟨b, off + i * 8 + 3, none⟩ = some (.int .i64 x.2.2.2.1) := fun zz => cell_kept zz.prop HCX3.out.c3
              have ex4 : ∀ zz : Later wr.heap.size wr, zz.val.cell? ⟨b, off + i * 8 + 4, none⟩ = some (.string x.2.2.2.2.1) := fun zz => cell_kept zz.prop HCX3.out.c4
              have ex5 : ∀ zz : Later wr.heap.size wr, zz.val.cell? ⟨b, off + i * 8 + 5, none⟩ = some (.string x.2.2.2.2.2.1) := fun zz => cell_kept zz.prop HCX3.out.c5
              have ex6 : ∀ zz : Later wr.heap.size wr, zz.val.cell? ⟨b, off + i * 8 + 6, none⟩ = some (.int .u64 (x.2.2.2.2.2.2.1.toNat : Int)) := fun zz => cell_kept zz.prop HCX3.out.c6
              have ex7 : ∀ zz : Later wr.heap.size wr, zz.val.cell? ⟨b, off + i * 8 + 7, none⟩ = some (.int .u64 (x.2.2.2.2.2.2.2.toNat : Int)) := fun zz => cell_kept zz.prop HCX3.out.c7
              have ec : ∀ zz : Later wr.heap.size wr, zz.val.cell? ⟨w.heap.size, 0, none⟩ = some (.slice (some ⟨b, off, none⟩) L.length cap) := fun zz => cell_kept zz.prop (by rw [blk_cell HX3.out]; rfl)
              go_wp2_with fail
              refine wp_region_later wr.heap.size (by kernel_rfl) (by kernel_rfl) ?_
              repeat (go_big_quiet_step ((go_at_call 52; exact Later.calls (Nat.le_refl _) (HBF.out _))))
              refine wpQuiet_nil ?_
              rintro w3 ⟨zz, rfl⟩
              have HZ := Lib.hid zz.prop
              generalize zz.val = w3 at *
              go_wp2_with fail
              go_meet
              case rel => exact ⟨by rw [HCR.out], HZ⟩
            · have HCR := Lib.hid (show c = false from by rw [HCC.out, dif_neg hk2])
              have k2 : ¬ (k : Int) < (out.length : Int) := by omega
              have k3 : decide ((k : Int) < (out.length : Int)) = false := decide_eq_false k2
              have k4 : decide (k < out.length) = false := decide_eq_false hk2
              go_wp2_with fail
              refine wp_region_later wr.heap.size (by kernel_rfl) (by kernel_rfl) ?_
              repeat (go_big_quiet_step (fail))
              refine wpQuiet_nil ?_
              rintro w3 ⟨zz, rfl⟩
              have HZ := Lib.hid zz.prop
              generalize zz.val = w3 at *
              go_wp2_with fail
              go_meet
              case rel => exact ⟨by rw [HCR.out], HZ⟩
          case rest =>
            rename World => w5
            obtain ⟨rfl, HB4⟩ := hcut
            have HX5 := Lib.hid (blk_kept HB4.out HX3.out)
            have HO5 := Lib.hid (row_kept1 HO3.out (fun p hp => HB4.out.block p (HO3.out.lt p hp).2))
            have HCX5 := Lib.hid (HCX3.out.kept HB4.out)
            have HB5 := Lib.hid (below_step (below_step HB2.out HBI.out HB2.out.size) HB4.out (below_step HB2.out HBI.out HB2.out.size).size)
            have HBI5 := Lib.hid (below_step HBI.out HB4.out HBI.out.size)
            clear HX3 HO3 HCX3 HB4 HBI
            cases c
            · have HIN := Lib.hid (show insE out x = out.take k ++ x :: out.drop k from ins_at hk HA.out fun h => by have := HCC.out; rw [dif_pos h] at this; exact this.symm)
              have hq := owns_cap HO5.out
              have k0 : (0 : Int) ≤ (k : Int) := by omega
              have k1 : (k : Int) ≤ (q1 : Int) := by omega
              have k2 : (k : Int) ≤ (out.length : Int) := by omega
              have k3 : (out.length : Int) ≤ (q1 : Int) := by omega
              have HTK := Lib.hid (show Seg (w5.alloc (.cells #[] TE)) 8 (.slice o1 k q1) k ((out.take k).flatMap encC) from by
                have h := (elems_first (Seg.of_owns HO5.out) k hk).kept (below_of_alloc (w := w5) (.cells #[] TE))
                have hl : (out.take k).length = k := by rw [List.length_take]; omega
                unfold Elems at h
                rw [hl] at h
                exact h)
              have hos := HO5.out.2
              rcases hos with ⟨hn1, hn2⟩ | ⟨g, cp, cur, hn1, hn2, _⟩
              · injection hn1 with e1 e2 e3
                subst e1 e3
                have hk0 : k = 0 := by omega
                subst hk0
                clear k0 k1 k2 k3 HTK hq
                rw [hn2]
                have HN2 := Lib.hid hn2
                have HTK := Lib.hid (show Seg (w5.alloc (.cells #[] TE)) 8 (.slice none 0 0) 0 ((out.take 0).flatMap encC) from by rw [List.take_zero]; exact elems_none _ _ _)
                clear hn2
                have HDR0 : ∀ W, Below w5.heap.size w5 W → Seg W 8 (.slice none 0 0) 0 ((out.drop 0).flatMap encC) := fun W hW => by
                  rw [List.drop_eq_nil_of_le (by have := HN2.out; omega)]; exact elems_none _ _ _
                have HDR := Lib.hid (show ∀ W, Below w5.heap.size w5 W → Seg W 8 (.slice none 0 0) (out.length - 0) ((out.drop 0).flatMap encC) from fun W hW => by
                  have e : out.length - 0 = 0 := by have := HN2.out; omega
                  rw [e, List.drop_eq_nil_of_le (by have := HN2.out; omega)]; exact elems_none _ _ _)
                go_wp2_with (first | (at_builtin; refine wpList_append_seg rfl (.tmp 42) (.tmp 45) TS rfl w5.heap.size TE _ 8 80 Tryd.underlying25 infoE rfl (by decide) _ 0 [] rfl (owns_empty (heap_alloc_new w5 _) (Nat.le_refl _) 8) _ 0 _ rfl HTK.out encC_one (by have := HLE.out; have := HN.out; omega) (by decide) (by rw [World.size_alloc]; omega) ?_; intro v6 w6 ho6 hg6 _; have HB6 := Lib.hid (below_of_grown (below_of_alloc (w := w5) _) hg6 (owns_empty (heap_alloc_new w5 _) (Nat.le_refl _) 8) (by rw [World.size_alloc]; omega)); obtain ⟨o6, q6, hv6⟩ := owns_slice1 ho6; subst hv6; rw [Nat.zero_add] at ho6 ⊢; have HO6 := Lib.hid ho6; have hc6 := HCX5.out.kept HB6.out; have HC6 := Lib.hid hc6; have b0 : w6.cell? ⟨w.heap.size, 0, none⟩ = some (.slice (some ⟨b, off, none⟩) L.length cap) := (by rw [blk_cell (blk_kept HB6.out HX5.out)]; rfl); have f0 := hc6.c0; have f1 := hc6.c1; have f2 := hc6.c2; have f3 := hc6.c3; have f4 := hc6.c4; have f5 := hc6.c5; have f6 := hc6.c6; have f7 := hc6.c7; clear ho6 hg6 hc6) | (at_builtin; refine wpList_append1 rfl (.tmp 47) (.tmp 53) TS rfl w5.heap.size TE _ 8 80 Tryd.underlying25 infoE rfl (by decide) _ 0 _ (encC x) rfl HO6.out _ 1 rfl rfl rfl (encC_one1 x) (by have := HLE.out; have := HN.out; omega) (by decide) HB6.out.size w5.heap.size w5 HB6.out (Nat.le_refl _) ?_; intro v7 w7 ho7 hgr7 hb7 hsz7; clear f0 f1 f2 f3 f4 f5 f6 f7 b0; have HB7 := Lib.hid hb7; obtain ⟨o7, q7, hv7⟩ := owns_slice1 ho7; subst hv7; have HO7 := Lib.hid ho7; clear ho7 hgr7 hb7 hsz7) | (at_builtin; refine wpList_append_seg rfl (.tmp 55) (.tmp 58) TS rfl w5.heap.size TE _ 8 80 Tryd.underlying25 infoE rfl (by decide) _ (0 + 1) _ rfl HO7.out _ 0 _ rfl (HDR0 w7 HB7.out) encC_one (by have := HLE.out; have := HN.out; omega) (by decide) HB7.out.size ?_; intro v8 w8 ho8 hg8 _; have HB8 := Lib.hid (below_of_grown HB7.out hg8 HO7.out HB7.out.size); obtain ⟨o8, q8, hv8⟩ := owns_slice1 ho8; subst hv8; have HO8 := Lib.hid ho8; clear ho8 hg8))
                go_roundw
                case rel => exact ⟨i + 1, hlt, by first | rfl | (congr 1), by
                  have hl : (insE out x).length = 0 + 1 + 0 := by have := HN2.out; rw [HIN.out, List.length_append, List.length_cons, List.length_take, List.length_drop]; omega
                  have hf : (insE out x).flatMap encC = [] ++ (out.take 0).flatMap encC ++ encC x ++ (out.drop 0).flatMap encC := by rw [HIN.out, List.flatMap_append, List.flatMap_cons]; simp
                  rw [HNX.out, hl, hf]; exact owns_mono HO8.out (by have := blk_lt HX5.out; omega), Lib.hid (blk_below HB8.out HX5.out (blk_lt HX5.out)), Lib.hid (below_step HB5.out HB8.out HB5.out.size)⟩
                case measure => simp [intOf]; omega
              · injection hn1 with hn3 hn4 hn5
                subst hn3
                clear hn4 hn5 hn2
                by_cases hkq : q1 = k
                · skip
                  subst hkq
                  have HDR := Lib.hid (show ∀ W, Below w5.heap.size w5 W → Seg W 8 (.slice (some ⟨g, 0, none⟩) (out.length - q1) 0) (out.length - q1) ((out.drop q1).flatMap encC) from fun W hW => by
                    have e : out.length - q1 = 0 := by omega
                    rw [e, List.drop_eq_nil_of_le (by omega)]; exact elems_none _ _ _)
                  clear hq
                  go_wp2_with (first | (at_builtin; refine wpList_append_seg rfl (.tmp 42) (.tmp 45) TS rfl w5.heap.size TE _ 8 80 Tryd.underlying25 infoE rfl (by decide) _ 0 [] rfl (owns_empty (heap_alloc_new w5 _) (Nat.le_refl _) 8) _ q1 _ rfl HTK.out encC_one (by have := HLE.out; have := HN.out; omega) (by decide) (by rw [World.size_alloc]; omega) ?_; intro v6 w6 ho6 hg6 _; have HB6 := Lib.hid (below_of_grown (below_of_alloc (w := w5) _) hg6 (owns_empty (heap_alloc_new w5 _) (Nat.le_refl _) 8) (by rw [World.size_alloc]; omega)); obtain ⟨o6, q6, hv6⟩ := owns_slice1 ho6; subst hv6; rw [Nat.zero_add] at ho6 ⊢; have HO6 := Lib.hid ho6; have hc6 := HCX5.out.kept HB6.out; have HC6 := Lib.hid hc6; have b0 : w6.cell? ⟨w.heap.size, 0, none⟩ = some (.slice (some ⟨b, off, none⟩) L.length cap) := (by rw [blk_cell (blk_kept HB6.out HX5.out)]; rfl); have f0 := hc6.c0; have f1 := hc6.c1; have f2 := hc6.c2; have f3 := hc6.c3; have f4 := hc6.c4; have f5 := hc6.c5; have f6 := hc6.c6; have f7 := hc6.c7; clear ho6 hg6 hc6) | (at_builtin; refine wpList_append1 rfl (.tmp 47) (.tmp 53) TS rfl w5.heap.size TE _ 8 80 Tryd.underlying25 infoE rfl (by decide) _ q1 _ (encC x) rfl HO6.out _ 1 rfl rfl rfl (encC_one1 x) (by have := HLE.out; have := HN.out; omega) (by decide) HB6.out.size w5.heap.size w5 HB6.out (Nat.le_refl _) ?_; intro v7 w7 ho7 hgr7 hb7 hsz7; clear f0 f1 f2 f3 f4 f5 f6 f7 b0; have HB7 := Lib.hid hb7; obtain ⟨o7, q7, hv7⟩ := owns_slice1 ho7; subst hv7; have HO7 := Lib.hid ho7; clear ho7 hgr7 hb7 hsz7) | (at_builtin; refine wpList_append_seg rfl (.tmp 55) (.tmp 58) TS rfl w5.heap.size TE _ 8 80 Tryd.underlying25 infoE rfl (by decide) _ (q1 + 1) _ rfl HO7.out _ (out.length - q1) _ rfl (HDR.out w7 HB7.out) encC_one (by have := HLE.out; have := HN.out; omega) (by decide) HB7.out.size ?_; intro v8 w8 ho8 hg8 _; have HB8 := Lib.hid (below_of_grown HB7.out hg8 HO7.out HB7.out.size); obtain ⟨o8, q8, hv8⟩ := owns_slice1 ho8; subst hv8; have HO8 := Lib.hid ho8; clear ho8 hg8))
                  go_roundw
                  case rel => exact ⟨i + 1, hlt, by first | rfl | (congr 1), by
                    have hl : (insE out x).length = q1 + 1 + (out.length - q1) := by rw [HIN.out, List.length_append, List.length_cons, List.length_take, List.length_drop]; omega
                    have hf : (insE out x).flatMap encC = [] ++ (out.take q1).flatMap encC ++ encC x ++ (out.drop q1).flatMap encC := by rw [HIN.out, List.flatMap_append, List.flatMap_cons]; simp
                    rw [HNX.out, hl, hf]; exact owns_mono HO8.out (by have := blk_lt HX5.out; omega), Lib.hid (blk_below HB8.out HX5.out (blk_lt HX5.out)), Lib.hid (below_step HB5.out HB8.out HB5.out.size)⟩
                  case measure => simp [intOf]; omega
                · skip
                  have HDR := Lib.hid (show ∀ W, Below w5.heap.size w5 W → Seg W 8 (.slice (some ⟨g, k * 8, none⟩) (out.length - k) (q1 - k)) (out.length - k) ((out.drop k).flatMap encC) from fun W hW => by
                    rcases Nat.lt_or_eq_of_le hk with h | h
                    · have h2 := (elems_drop (Seg.of_owns HO5.out) k h (c2 := q1 - k)).kept hW
                      have hl : (out.drop k).length = out.length - k := List.length_drop
                      unfold Elems at h2
                      rw [hl, Nat.zero_add] at h2
                      exact h2
                    · have e : out.length - k = 0 := by omega
                      rw [e, List.drop_eq_nil_of_le (by omega)]; exact elems_none _ _ _)
                  clear hq
                  go_wp2_with (first | (at_builtin; refine wpList_append_seg rfl (.tmp 42) (.tmp 45) TS rfl w5.heap.size TE _ 8 80 Tryd.underlying25 infoE rfl (by decide) _ 0 [] rfl (owns_empty (heap_alloc_new w5 _) (Nat.le_refl _) 8) _ k _ rfl HTK.out encC_one (by have := HLE.out; have := HN.out; omega) (by decide) (by rw [World.size_alloc]; omega) ?_; intro v6 w6 ho6 hg6 _; have HB6 := Lib.hid (below_of_grown (below_of_alloc (w := w5) _) hg6 (owns_empty (heap_alloc_new w5 _) (Nat.le_refl _) 8) (by rw [World.size_alloc]; omega)); obtain ⟨o6, q6, hv6⟩ := owns_slice1 ho6; subst hv6; rw [Nat.zero_add] at ho6 ⊢; have HO6 := Lib.hid ho6; have hc6 := HCX5.out.kept HB6.out; have HC6 := Lib.hid hc6; have b0 : w6.cell? ⟨w.heap.size, 0, none⟩ = some (.slice (some ⟨b, off, none⟩) L.length cap) := (by rw [blk_cell (blk_kept HB6.out HX5.out)]; rfl); have f0 := hc6.c0; have f1 := hc6.c1; have f2 := hc6.c2; have f3 := hc6.c3; have f4 := hc6.c4; have f5 := hc6.c5; have f6 := hc6.c6; have f7 := hc6.c7; clear ho6 hg6 hc6) | (at_builtin; refine wpList_append1 rfl (.tmp 47) (.tmp 53) TS rfl w5.heap.size TE _ 8 80 Tryd.underlying25 infoE rfl (by decide) _ k _ (encC x) rfl HO6.out _ 1 rfl rfl rfl (encC_one1 x) (by have := HLE.out; have := HN.out; omega) (by decide) HB6.out.size w5.heap.size w5 HB6.out (Nat.le_refl _) ?_; intro v7 w7 ho7 hgr7 hb7 hsz7; clear f0 f1 f2 f3 f4 f5 f6 f7 b0; have HB7 := Lib.hid hb7; obtain ⟨o7, q7, hv7⟩ := owns_slice1 ho7; subst hv7; have HO7 := Lib.hid ho7; clear ho7 hgr7 hb7 hsz7) | (at_builtin; refine wpList_append_seg rfl (.tmp 55) (.tmp 58) TS rfl w5.heap.size TE _ 8 80 Tryd.underlying25 infoE rfl (by decide) _ (k + 1) _ rfl HO7.out _ (out.length - k) _ rfl (HDR.out w7 HB7.out) encC_one (by have := HLE.out; have := HN.out; omega) (by decide) HB7.out.size ?_; intro v8 w8 ho8 hg8 _; have HB8 := Lib.hid (below_of_grown HB7.out hg8 HO7.out HB7.out.size); obtain ⟨o8, q8, hv8⟩ := owns_slice1 ho8; subst hv8; have HO8 := Lib.hid ho8; clear ho8 hg8))
                  go_roundw
                  case rel => exact ⟨i + 1, hlt, by first | rfl | (congr 1), by
                    have hl : (insE out x).length = k + 1 + (out.length - k) := by rw [HIN.out, List.length_append, List.length_cons, List.length_take, List.length_drop]; omega
                    have hf : (insE out x).flatMap encC = [] ++ (out.take k).flatMap encC ++ encC x ++ (out.drop k).flatMap encC := by rw [HIN.out, List.flatMap_append, List.flatMap_cons]; simp
                    rw [HNX.out, hl, hf]; exact owns_mono HO8.out (by have := blk_lt HX5.out; omega), Lib.hid (blk_below HB8.out HX5.out (blk_lt HX5.out)), Lib.hid (below_step HB5.out HB8.out HB5.out.size)⟩
                  case measure => simp [intOf]; omega
            · go_wp2_with fail
              go_roundw
              case rel => exact ⟨k + 1, (by have := HCC.out; by_cases h : k < out.length; exact h; rw [dif_neg h] at this; cases this), by first | rfl | (congr 1), Lib.hid (fun j hj hjk => by
                rcases Nat.lt_or_eq_of_le (show j ≤ k by omega) with h | h
                · exact HA.out j hj h
                · subst h; have := HCC.out; rw [dif_pos hj] at this; exact this.symm), HBI5⟩
              case measure => have h : k < out.length := (by have := HCC.out; by_cases h : k < out.length; exact h; rw [dif_neg h] at this; cases this); simp [intOf]; omega
      · have z1 : (x.2.1 == z) = false := by simpa using p1
        have z1b : (x.2.1 != z) = true := by simpa using p1
        have HNX := Lib.hid (show levelZ (L.take (i + 1)) z = out from by rw [levelZ_skip HLT.out (by rw [← HXX.out]; exact p1), ← HOUT.out])
        clear p1
        go_wp2_with fail
        go_roundw
        case rel => exact ⟨i + 1, hlt, by first | rfl | (congr 1), by rw [HNX.out]; exact HO.out, HX2, HB2⟩
        case measure => simp [intOf]; omega
    · have hil : i = L.length := by omega
      subst hil
      have i1 : ¬ (L.length : Int) < (L.length : Int) := by omega
      clear ho hout hle
      go_wp2_with fail
      go_ret
      exact ⟨_, rfl, by rw [List.take_length] at HOUT; rw [← HOUT.out]; exact owns_mono HO.out (Nat.le_succ _), HB2.out⟩
end Go.Proofs.Tryd.Vr
