/- SkipPlays: row. -/
import Derived.Test.YthcakgnendnekaaRf10
import Derived.Test.YthcakgnendnekaaApp
open Go.RowKit Go.Cph Go.Cph.Skip
set_option linter.unusedVariables false
set_option linter.unusedSimpArgs false
namespace Go.Proofs.Try.SkS

def strsV (keys : List ByteArray) : List Value := keys.map .string
theorem strsV_at (keys : List ByteArray) (j : Nat) (h : j < keys.length) : (strsV keys)[j]? = some (.string keys[j]) := by simp [strsV, h]

set_option maxHeartbeats 2000000 in
theorem lawRow (B : Nat) (u v : Value) (keys : List ByteArray) (l : List It) (level : Int) (w : World) (hu : w.ownsRow B 9 1 u keys.length (strsV keys)) (hB : B ≤ w.heap.size) (h : ItemsAt w v l) (hs : SmallIts l) (hk : keys.length ≤ 1000)
    (hneg : level < 0 → keys = []) (hkey : 0 ≤ level → ∀ pre, Goes l pre → Done (kvIt l) ByteArray.empty (kvIt pre) → (rowsIt level pre).map (·.1) = keys) :
    Calls Try.prog 48 #[u, v, .int .i64 level] w fun e w' => e = .returned (.bool true) ∧ Below B w w' := by
  obtain ⟨ao, cap, hv⟩ := elems_slice h
  subst hv
  have HI := Lib.hid h
  have HS := Lib.hid hs
  have HU := Lib.hid hu
  have HKEY := Lib.hid hkey
  clear h hs hkey
  obtain ⟨au, cu, hu'⟩ := owns_slice hu
  by_cases hneg' : level < 0
  · obtain rfl := hneg hneg'
    subst hu'
    have hr := rRowNeg (.slice ao l.length cap) level w hneg'
    clear hneg hu
    go_enter Try.func48, Try.ntmps48
    go_wp2_with fail
    refine hr.mono ?_
    rintro e w1 ⟨rfl, rfl⟩
    go_wp2_with fail
    refine wp_loop_rounds 1 ?_
    rw [rounds_succ]
    go_wp2_with fail
    go_ret
    exact ⟨rfl, Below.refl _ _⟩
  · have hlev : 0 ≤ level := by omega
    have hr := rRow (.slice ao l.length cap) l level w HI.out HS.out hlev
    clear hneg
    subst hu'
    go_enter Try.func48, Try.ntmps48
    go_wp2_with fail
    refine hr.mono ?_
    rintro e w1 ⟨⟨z, pre, n, rfl, hg, hd, hn, hz⟩, hb⟩
    have hk2 := HKEY.out hlev pre hg hd
    have hn' : n = keys.length := by rw [hn, ← hk2, List.length_map]
    subst hn'
    have HK2 := Lib.hid hk2
    have HZ := Lib.hid hz
    have HB1 := Lib.hid (hb.mono hB)
    have HU1 := Lib.hid (row_kept HU.out (w' := w1) fun k hk => hb.block k (HU.out.lt k hk).2)
    have HN := Lib.hid hn
    obtain ⟨az, cz, hz'⟩ := owns_slice hz
    subst hz'
    clear hg hd hn hz hb hk2 hr hu
    go_wp2_with fail
    go_loopw [8] (fun i wr => ∃ (k : Nat) (xs : List Value), k ≤ keys.length ∧ i = .int .i64 k ∧ wr.ownsRow B 9 1 (.slice au keys.length cu) keys.length xs ∧ (∀ j, k ≤ j → j < keys.length → xs[j]? = (strsV keys)[j]?) ∧
        wr.ownsRow w.heap.size 43 3 (.slice az keys.length cz) keys.length ((rowsIt level pre).flatMap encIt) ∧ Below B w wr)
      (fun i _ => keys.length - (intOf i).toNat)
    case atStart => exact ⟨0, _, by omega, rfl, HU1.out, fun _ _ _ => rfl, HZ.out, HB1.out⟩
    case round =>
      obtain ⟨k, xs, hkl, rfl, ho, hxs, hz, hbw⟩ := hrel
      have HO := Lib.hid ho
      have HXS := Lib.hid hxs
      have HZ2 := Lib.hid hz
      have HBW := Lib.hid hbw
      by_cases hlt : k < keys.length
      · have hlr : keys.length = (rowsIt level pre).length := by rw [← HN.out]
        obtain ⟨g, cg, hgv, hg1, hg2, _, hgc, hgf⟩ := owns_shape ho (by omega)
        cases hgv
        obtain ⟨g', cg', hgv', hg1', hg2', _, hgc', _⟩ := owns_shape hz (by omega)
        cases hgv'
        have c1 : wr.cell? ⟨g, k, none⟩ = some (.string keys[k]) := by rw [hgc k (by omega), hxs k (Nat.le_refl _) hlt, strsV_at _ _ hlt]
        have f1 := hgf k
        have hk3 : (rowsIt level pre)[k].1 = keys[k] := by
          have := HK2.out
          have h1 : ((rowsIt level pre).map (·.1))[k]? = some keys[k] := by rw [this]; simp [hlt]
          rw [List.getElem?_map, List.getElem?_eq_getElem (by omega)] at h1
          simpa using h1
        have c2 : wr.cell? ⟨g', k * 3, none⟩ = some (.string keys[k]) := by
          have := hgc' (k * 3 + 0) (by omega)
          rw [flat_at encIt_len _ k (by omega) 0 (by omega)] at this
          rw [Nat.add_zero] at this
          rw [this, ← hk3]; rfl
        have k0 : (0 : Int) ≤ (k : Int) := by omega
        have k1 : (k : Int) < (keys.length : Int) := by omega
        have hlt' := (HZ2.out.lt g' rfl).1
        have hne : g < w.heap.size := (HU.out.lt g rfl).2
        generalize keys[k] = kk at *
        have z1 : (kk.toList == kk.toList) = true := by simp
        clear ho hxs hz hbw hgc hgf hgc' hk3
        go_wp2_with fail
        go_quiet (fail)
        go_wp2_with fail
        go_roundw
        case rel =>
          refine ⟨k + 1, _, by omega, by go_num, (owns_drewN HO.out _).stored k (.string ⟨#[116, 117, 114, 110, 101, 100]⟩) |>.1, fun j h1 h2 => ?_, ownsRow_setCell_other (owns_drewN HZ2.out _) (by simp [Value.ownBlock]; omega) _, (below_drewN HBW.out _).setCell (p := ⟨g, k, none⟩) hg1 _⟩
          rw [List.getElem?_set_ne (by omega)]
          exact HXS.out j (by omega) h2
        case measure => simp [intOf]; omega
      · have k1 : ¬ (k : Int) < (keys.length : Int) := by omega
        clear ho hxs hz hbw
        go_wp2_with fail
        go_ret
        exact ⟨rfl, HBW.out⟩
end Go.Proofs.Try.SkS
