/- slices.Insert of one prefix into a row of the call's own. -/
import Derived.Test.YtbhnpndkdhhpfaaPxG
import Derived.Test.YtbhnpndkdhhpfaaCop
import Derived.Lib.Overlaps
import Derived.Laws.Externs
import Derived.Deep.RegionLaw
set_option linter.unusedVariables false
set_option linter.unusedSimpArgs false
namespace Go.Proofs.Try.Pfx
open Go.RowKit Go.Cph Go.Cph.Px

abbrev TP : TypeId := 27
abbrev TPs : TypeId := 22
theorem infoP : (Try.prog.info? 27).map (fun i => (i.zero, i.size, i.bytes)) = some (some (.agg #[.int .u8 0, .int .u64 0, .int .u64 0, .int .i64 0]), 4, 32) := by kernel_rfl
theorem sizeP : (Try.prog.info? 27).map (·.size) = some 4 := by kernel_rfl
def InsPost (base : Nat) (n i : Nat) (xs us : List Value) (w : World) (e : Ending) (w' : World) : Prop :=
  ∃ v', e = .returned v' ∧ w'.ownsRow base TP 4 v' (n + 1) (xs.take (i * 4) ++ (us ++ xs.drop (i * 4))) ∧ Below base w w'

theorem seg_one {w : World} {vb : Nat} {us : List Value} {E : TypeId} {fr : Nat × Nat} (hv : w.heap[vb]? = some (.cells us.toArray E fr)) {size : Nat} (hu : us.length = size) (c : Nat) : Seg w size (.slice (some ⟨vb, 0, none⟩) 1 c) 1 us :=
  ⟨⟨_, _, rfl, fun _ => ⟨vb, 0, rfl, fun j hj => by rw [Nat.zero_add, blk_cell hv]; simp⟩⟩, by rw [hu, Nat.one_mul]⟩

theorem row_kept1 {w w' : World} {base : Nat} {e : TypeId} {size : Nat} {v : Value} {n : Nat} {xs : List Value} (h : w.ownsRow base e size v n xs)
    (hk : ∀ k, v.ownBlock = some k → w'.heap[k]? = w.heap[k]?) : w'.ownsRow base e size v n xs := by
  obtain ⟨h1, h2⟩ := h
  refine ⟨h1, ?_⟩
  rcases h2 with h2 | ⟨g, cap, cur, rfl, hb, hg, r⟩
  · exact .inl h2
  · exact .inr ⟨g, cap, cur, rfl, hb, (hk g rfl).trans hg, r⟩
set_option maxRecDepth 100000 in
set_option maxHeartbeats 4000000 in
theorem insert_any {base : Nat} {s : Value} {n i : Nat} {xs us : List Value} (vb : Nat) (w : World) (hown : w.ownsRow base TP 4 s n xs) (hi : i ≤ n) (hn : n ≤ 1000000) (hv : w.heap[vb]? = some (.cells us.toArray TP (0, 0))) (hu : us.length = 4)
    (h1 : ∀ u ∈ us, u.oneCell' = true) (hx1 : ∀ u ∈ xs, u.oneCell' = true) (hne : s.ownBlock ≠ some vb) (hbase : base ≤ w.heap.size) :
    Calls Try.prog 46 #[s, .int .i64 i, .slice (some ⟨vb, 0, none⟩) 1 1] w (InsPost base n i xs us w) := by
  have hseg := seg_one hv hu 1
  rcases Nat.lt_or_ge i n with hlt | hge
  · obtain ⟨g, cap, rfl, hgb, hgl, hnc, hcell, hfz⟩ := owns_shape hown (by omega)
    have hvl : vb < w.heap.size := blk_lt hv
    have hgv : g ≠ vb := fun e => hne (by rw [e]; rfl)
    have hlx : xs.length = n * 4 := hown.1
    have hcm : cap ≤ 9223372036854775807 := by obtain ⟨_, _, _, _, h, _⟩ := owns_block hown; unfold maxLen at h; omega
    have k1 : ((i : Int) == (n : Int)) = false := by have : (i : Int) ≠ n := by omega
                                                     simpa using this
    have k2 : (i : Int) ≤ (n : Int) := by omega
    have k3 : ¬ (cap = i) := by omega
    have dl : (xs.drop (i * 4)).length = (n - i) * 4 := by rw [List.length_drop, hlx]; omega
    have hd1 : ∀ u ∈ xs.drop (i * 4), u.oneCell' = true := fun u hm => hx1 u (List.mem_of_mem_drop hm)
    have hsv : ∀ (W : World), W.heap[vb]? = some (.cells us.toArray TP (0, 0)) → ∀ j u, us[j]? = some u → W.cell? ((⟨vb, 0, none⟩ : Addr).add j) = some u := fun W hW j u hj => by
      have hadd : (⟨vb, 0, none⟩ : Addr).add j = ⟨vb, j, none⟩ := by unfold Addr.add; split <;> simp_all
      rw [hadd, blk_cell hW]; simpa using hj
    have hss : ∀ (W : World), W.ownsRow base TP 4 (.slice (some ⟨g, 0, none⟩) n cap) n xs → ∀ j u, (xs.drop (i * 4))[j]? = some u → W.cell? ((⟨g, i * 4, none⟩ : Addr).add j) = some u := fun W hW j u hj => by
      have hadd : (⟨g, i * 4, none⟩ : Addr).add j = ⟨g, i * 4 + j, none⟩ := by unfold Addr.add; split <;> simp_all
      rw [hadd]
      rw [List.getElem?_drop] at hj
      exact (hW.cellAt _ (by rw [← hlx]; exact (List.getElem?_eq_some_iff.1 hj).1)).trans hj
    rcases Nat.lt_or_ge cap (n + 1) with hc | hc
    · -- no room: a new row
      obtain ⟨G, zs, w1, hr1, ho1, hz1, hb1, hsz1, hG, hGm⟩ := run_append_make (P := Try.prog) w 22 3 27 _ 4 32 .i64 .i64 Try.underlying22 Try.underlying3 infoP rfl (by decide) hown i (n + 1 - i) (by omega) (by omega) (by omega) (by omega) (by decide)
      have hik : i + (n + 1 - i) = n + 1 := by omega
      rw [hik] at hr1 ho1 hG
      have hkk : ((n + 1 - i : Nat) : Int) = (n : Int) + 1 - (i : Int) := by omega
      rw [hkk] at hr1
      have m1 : Nat.min 1 (n + 1 - i) = 1 := Nat.min_eq_left (by omega)
      have m2 : Nat.min (n - i) (n + 1 - (i + 1)) = n - i := Nat.min_eq_left (by omega)
      obtain ⟨w2, hr2, ho2, hg2, hsz2⟩ := run_copy_own (P := Try.prog) w1 22 22 27 4 Try.underlying22 sizeP ho1 i (n + 1 - i) ⟨vb, 0, none⟩ 1 us (by omega) (by rw [hu, m1]) (hsv w1 (blk_kept hb1 hv)) h1
      have hk1 : w1.ownsRow base TP 4 (.slice (some ⟨g, 0, none⟩) n cap) n xs := row_kept1 hown fun k hk => hb1.block k (by cases hk; exact hgl)
      have hk2 : w2.drew.ownsRow base TP 4 (.slice (some ⟨g, 0, none⟩) n cap) n xs := row_kept1 hk1 fun k hk => hg2.block k (by cases hk; show g < w1.heap.size; omega) (by cases hk; simp; omega)
      obtain ⟨w3, hr3, ho3, hg3, hsz3⟩ := run_copy_own (P := Try.prog) w2.drew 22 22 27 4 Try.underlying22 sizeP (ho2 : w2.drew.ownsRow _ _ _ _ _ _) (i + 1) (n + 1 - (i + 1)) ⟨g, i * 4, none⟩ (n - i) (xs.drop (i * 4)) (by omega) (by rw [dl, m2]) (hss _ hk2) hd1
      have hfin : splice (splice (xs.take (i * 4) ++ zs) (i * 4) us) ((i + 1) * 4) (xs.drop (i * 4)) = xs.take (i * 4) ++ (us ++ xs.drop (i * 4)) := by
        have := splice_fill (xs.take (i * 4)) zs us (xs.drop (i * 4)) (i * 4) 4 (by rw [List.length_take, hlx]; omega) hu (by rw [hz1, dl]; omega)
        rw [Nat.add_mul, Nat.one_mul]; exact this
      have hbel : Below base w w3 := ((((Below.refl base w).trans (hb1.mono hbase)).grown hg2 (Nat.le_trans hbase hb1.size) (fun k hk => by cases hk; exact hbase)).drew.grown hg3 (by show base ≤ w2.heap.size; rw [hsz2, hsz1]; omega) (fun k hk => by cases hk; exact hbase))
      have HF := Lib.hid (show w3.ownsRow base TP 4 (.slice (some ⟨w.heap.size, 0, none⟩) (n + 1) G) (n + 1) (xs.take (i * 4) ++ (us ++ xs.drop (i * 4))) by rw [← hfin]; exact owns_mono ho3 hbase)
      have HB := Lib.hid hbel
      have HR1 := Lib.hid hr1
      have HR2 := Lib.hid hr2
      have HR3 := Lib.hid hr3
      have k4 : ¬ (G = i) := by omega
      have k5 : ¬ (G = i + 1) := by omega
      have k6 : (cap : Int) < (n : Int) + 1 := by omega
      have k7 : (i : Int) + 1 ≤ (n : Int) + 1 := by omega
      have k8 : IntKind.i64.wrap ((i : Int) + 1) = (i : Int) + 1 := by rw [IntKind.wrap_i64]; omega
      have k9 : (0 : Int) ≤ (i : Int) + 1 := by omega
      have k10 : ((i : Int) + 1).toNat = i + 1 := by omega
      have k11 : G ≤ 9223372036854775807 := by unfold maxLen at hGm; omega
      clear hr1 hr2 hr3 ho1 ho2 ho3 hfin hbel hk1 hk2 hg2 hg3 hsz1 hsz2 hsz3 hb1 hik hkk hz1 hss hsv hd1 dl hcell hfz hv hown hu h1 hx1 hne hseg hG hGm hlx
      go_enter Try.func46, Try.ntmps46
      have hr2 := HR2.out
      go_wp2_with (at_builtin; refine Lib.wpList_append_run _ rfl (.tmp 34) (.tmp 39) 22 3 rfl _ _ rfl rfl _ _ (HR1.out _) ?_)
      clear hr2
      go_region_law (refine step_copyK rfl (.tmp 50) (.tmp 53) 22 22 rfl (.slice (some ⟨w.heap.size, (i + 1) * 4, none⟩) (n + 1 - (i + 1)) (G - (i + 1))) (.slice (some ⟨g, i * 4, none⟩) (n - i) (cap - i)) (by simp [Act.eval, Act.put]) (by simp [Act.eval, Act.put]) (HR3.out _ _ _) ?_)
      go_wp2_with fail
      go_ret
      exact ⟨_, rfl, HF.out, HB.out⟩
    · -- room: in place
      obtain ⟨ys, hy, ho0⟩ := owns_reslice hown (m := n + 1) (by omega) hc
      have hy4 : ys.length = 4 := by omega
      have m1 : Nat.min (n + 1 - i) (n + 1 - (i + 1)) = n - i := (Nat.min_eq_right (by omega)).trans (by omega)
      have m2 : Nat.min 1 (n + 1 - i) = 1 := Nat.min_eq_left (by omega)
      obtain ⟨cur, _, hgc, _, _, hcs, _⟩ := owns_block hown
      have hov : ∀ lb cb, (callFunc 62 #[.slice (some ⟨vb, 0, none⟩) 1 1, .slice (some ⟨g, (i + 1) * 4, none⟩) lb cb]).run Try.prog w = .ok (.value (.bool false)) w := fun lb cb => by
        rw [run_callFunc_extern Try.func62 (by kernel_rfl) (by kernel_rfl) (by kernel_rfl) (e := Extern.SlicesOverlaps.overlaps #[22, 22] #[4]) (by kernel_rfl),
          Lib.run_overlaps_apart w 22 4 27 Try.underlying22 4 (fun w => by kernel_rfl) ⟨vb, 0, none⟩ ⟨g, (i + 1) * 4, none⟩ 1 1 lb cb (fun e => hgv e.symm) TP TP 4 (cap * 4) (by simp [World.shape?, hv, hu]) (by simp [World.shape?, hgc, hcs]) (by omega) (by rw [blk_frozen hv]; simp) (by show w.frozen? ⟨vb, 4, none⟩ = false; rw [blk_frozen hv]; simp)]
        rfl
      obtain ⟨w2, hr2, ho2, hg2, hsz2⟩ := run_copy_own (P := Try.prog) w.drew 22 22 27 4 Try.underlying22 sizeP (ho0 : w.drew.ownsRow _ _ _ _ _ _) (i + 1) (n + 1 - (i + 1)) ⟨g, i * 4, none⟩ (n + 1 - i) (xs.drop (i * 4)) (by omega) (by rw [dl, m1]) (hss _ (hown : w.drew.ownsRow _ _ _ _ _ _)) hd1
      have hv2 : w2.heap[vb]? = some (.cells us.toArray TP (0, 0)) := (hg2.block vb hvl (by simp; omega)).trans hv
      obtain ⟨w3, hr3, ho3, hg3, hsz3⟩ := run_copy_own (P := Try.prog) w2 22 22 27 4 Try.underlying22 sizeP ho2 i (n + 1 - i) ⟨vb, 0, none⟩ 1 us (by omega) (by rw [hu, m2]) (hsv w2 hv2) h1
      have hfin : splice (splice (xs ++ ys) ((i + 1) * 4) (xs.drop (i * 4))) (i * 4) us = xs.take (i * 4) ++ (us ++ xs.drop (i * 4)) := by
        have := splice_shift xs ys us (i * 4) 4 (by rw [hlx]; omega) hu hy4
        rw [Nat.add_mul, Nat.one_mul]; exact this
      have hbel : Below base w w3 := (((Below.refl base w).drew.grown hg2 hbase (fun k hk => by cases hk; exact hgb)).grown hg3 (by rw [hsz2]; exact hbase) (fun k hk => by cases hk; exact hgb))
      have HF := Lib.hid (show w3.ownsRow base TP 4 (.slice (some ⟨g, 0, none⟩) (n + 1) cap) (n + 1) (xs.take (i * 4) ++ (us ++ xs.drop (i * 4))) by rw [← hfin]; exact ho3)
      have HB := Lib.hid hbel
      have HR2 := Lib.hid hr2
      have HR3 := Lib.hid hr3
      have k5 : ¬ (cap = i + 1) := by omega
      have k6 : ¬ (cap : Int) < (n : Int) + 1 := by omega
      have k7 : (i : Int) + 1 ≤ (n : Int) + 1 := by omega
      have k8 : IntKind.i64.wrap ((i : Int) + 1) = (i : Int) + 1 := by rw [IntKind.wrap_i64]; omega
      have k9 : (0 : Int) ≤ (i : Int) + 1 := by omega
      have k10 : ((i : Int) + 1).toNat = i + 1 := by omega
      have k12 : (i : Int) ≤ (n : Int) + 1 := by omega
      have k13 : (n : Int) + 1 ≤ (cap : Int) := by omega
      have HOV := Lib.hid hov
      clear hov hr2 hr3 ho2 ho3 hfin hbel hg2 hg3 hsz2 hsz3 hss hsv hd1 dl hcell hfz hv hown hu h1 hx1 hne hseg hlx hgc hcs hv2 ho0 hy4 hy
      have hov := HOV.out
      go_enter Try.func46, Try.ntmps46
      go_wp2_with (simp only [hov])
      clear hov
      go_region_law (refine step_copyK rfl (.tmp 73) (.tmp 76) 22 22 rfl (.slice (some ⟨g, (i + 1) * 4, none⟩) (n + 1 - (i + 1)) (cap - (i + 1))) (.slice (some ⟨g, i * 4, none⟩) (n + 1 - i) (cap - i)) (by simp [Act.eval, Act.put]) (by simp [Act.eval, Act.put]) (HR2.out _ _ _) ?_)
      have hr3 := HR3.out
      go_wp2_with fail
      clear hr3
      go_ret
      exact ⟨_, rfl, HF.out, HB.out⟩
  · obtain rfl : i = n := by omega
    obtain ⟨ao, cap, hs⟩ := owns_slice1 hown
    subst hs
    have hcap : i ≤ cap := by
      have := hown.2
      rcases this with ⟨h, rfl⟩ | ⟨g, c, cur, h, _, _, h4, _⟩
      · omega
      · cases h; exact h4
    have HO := Lib.hid hown
    have HS := Lib.hid hseg
    have H1 := Lib.hid h1
    have HX := Lib.hid (show xs.take (i * 4) ++ (us ++ xs.drop (i * 4)) = xs ++ us by rw [List.take_of_length_le (by rw [hown.1]; exact Nat.le_refl _), List.drop_eq_nil_of_le (by rw [hown.1]; exact Nat.le_refl _), List.append_nil])
    have z1 : ((i : Int) == (i : Int)) = true := by simp
    clear hown hseg h1 hv hu hx1 hne
    by_cases hic : cap = i
    all_goals
      go_enter Try.func46, Try.ntmps46
      go_wp2_with (at_builtin; refine wpList_append_seg rfl (.tmp 23) (.tmp 24) 22 rfl base 27 _ 4 32 Try.underlying22 infoP rfl (by decide) _ i xs rfl HO.out _ 1 us rfl HS.out H1.out (by omega) (by decide) hbase ?_; intro v' w' ho hgr hob; have HO2 := Lib.hid ho; have HG := Lib.hid hgr; clear ho hgr hob)
      go_ret
      refine ⟨_, rfl, by rw [HX.out]; exact HO2.out, (Below.refl base w).grown HG.out hbase fun k hk => (HO.out.lt k hk).1⟩
end Go.Proofs.Try.Pfx
