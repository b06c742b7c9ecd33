/- SkipRows: the walk. -/
import Derived.Test.YthcakgnendnekaaSkM
open Go.RowKit Go.Cph Go.Cph.Skip
set_option linter.unusedVariables false
set_option linter.unusedSimpArgs false
namespace Go.Proofs.Try.SkS

/-- A slice of one-cell elements that is read alone. -/
def RowV (w : World) (v : Value) (n : Nat) (vals : List Value) : Prop :=
  ∃ ao cap, v = .slice ao n cap ∧ (0 < n → ∃ g, ao = some ⟨g, 0, none⟩ ∧ ∀ j, j < n → w.cell? ⟨g, j, none⟩ = vals[j]?)
theorem RowV.kept {w w' : World} {v : Value} {n : Nat} {vals : List Value} (h : RowV w v n vals) (hn : vals.length = n) (hb : Below w.heap.size w w') : RowV w' v n vals := by
  obtain ⟨ao, cap, rfl, h⟩ := h
  refine ⟨ao, cap, rfl, fun h0 => ?_⟩
  obtain ⟨g, rfl, hc⟩ := h h0
  refine ⟨g, rfl, fun j hj => ?_⟩
  have hv : vals[j]? = some vals[j] := List.getElem?_eq_getElem (by omega)
  rw [hv]
  exact cell_kept hb ((hc j hj).trans hv)
theorem rowV_of {w : World} {base : Nat} {e : TypeId} {v : Value} {n : Nat} {vals : List Value} (h : w.ownsRow base e 1 v n vals) : RowV w v n vals := by
  rcases Nat.eq_zero_or_pos n with h0 | h0
  · obtain ⟨_, h2⟩ := h
    rcases h2 with ⟨h2, h3⟩ | ⟨g, cap, cur, h2, _⟩
    · exact ⟨none, 0, by rw [h2, h0], fun h => by omega⟩
    · exact ⟨_, cap, h2, fun h => by omega⟩
  · obtain ⟨g, cap, hv, _, _, _, hc, _⟩ := owns_shape h h0
    exact ⟨_, cap, hv, fun _ => ⟨g, rfl, fun j hj => hc j (by omega)⟩⟩
theorem keysV_length (xs : List (Nd V)) : (keysV xs).length = xs.length := by simp [keysV]
theorem htsV_length (xs : List (Nd V)) : (htsV xs).length = xs.length := by simp [htsV]

set_option maxRecDepth 100000 in
set_option maxHeartbeats 4000000 in
theorem rows (v0 : Value) (acts : List Ac) (w : World) (hv : ActsAt w v0 acts) (hs : ∀ a ∈ acts, a.key.size ≤ maxLen ∧ a.val.size ≤ maxLen) :
    Calls Try.prog 6 #[v0] w (AwakePost w) := by
  have HV := Lib.hid hv
  have hgr := great v0 acts w hv hs
  obtain ⟨ao, cap, rfl, hv'⟩ := hv
  have HVC := Lib.hid hv'
  clear hv'
  go_enter Try.func6, Try.ntmps6
  go_wp2_with fail
  refine hgr.mono ?_
  rintro e w1 ⟨⟨g, rfl, hg⟩, hb⟩
  have HV1 := Lib.hid (HV.out.kept hb)
  have HB1 := Lib.hid hb
  clear hb hgr
  have haw := awake w1
  cases g with
  | true =>
    clear hg
    go_wp2_with (go_at_call 10; refine haw.mono ?_; rintro e w2 ⟨rfl, hb⟩)
    go_ret
    exact ⟨rfl, below_step HB1.out hb HB1.out.size⟩
  | false =>
    have hsm := Lib.hid (hg rfl)
    have hmade : Calls Try.prog 11 #[.slice ao acts.length cap, .int .i64 0] w1 _ := made _ acts 0 w1 HV1.out hsm.out.1
    clear hg haw
    go_wp2_with (go_at_call 11; refine hmade.mono ?_; rintro e w2 ⟨⟨p, nx, nodes, v, rfl, hat, hln, hkv, hlen, hft⟩, hb⟩)
    have HA := Lib.hid hat
    have HL := Lib.hid hln
    have HKV := Lib.hid hkv
    have HB2 := Lib.hid (below_step HB1.out hb HB1.out.size)
    have h120 := hsm.out.1
    clear hat hln hkv hb hmade hft
    have hrow : Calls Try.prog 21 #[ptr p, .int .i64 0] w2 _ := cRow 0 w2 HA.out HL.out (by omega) (by omega)
    go_wp2_with (go_at_call 21; refine hrow.mono ?_; rintro e w3 ⟨u0, xs, rfl, hch, _, hown, hb⟩)
    have HX := Lib.hid hch
    have HR0 := Lib.hid (rowV_of hown)
    have HA3 := Lib.hid (HA.out.kept hb)
    have HB3 := Lib.hid (below_step HB2.out hb HB2.out.size)
    clear hch hown hb hrow
    go_wp2_with fail
    refine (cTowers w3 HA3.out HL.out (by omega)).mono ?_
    rintro e w4 ⟨u1, xs', rfl, hch, _, hown, hb⟩
    obtain rfl := chain_ext HX.out hch
    have HR1 := Lib.hid (rowV_of hown)
    have HR0 := Lib.hid (HR0.out.kept (keysV_length xs) hb)
    have HA4 := Lib.hid (HA3.out.kept hb)
    have HB4 := Lib.hid (below_step HB3.out hb HB3.out.size)
    clear hch hown hb HA3
    have hxl := chain_length HL.out HX.out
    have hln4 := cLen w4 HA4.out
    rw [← hxl] at hln4
    have hr0 := HR0.out
    have hr1 := HR1.out
    obtain ⟨a0, cap0, rfl, hc0⟩ := hr0
    obtain ⟨a1, cap1, rfl, hc1⟩ := hr1
    have HC0 := Lib.hid hc0
    have HC1 := Lib.hid hc1
    have HXL := Lib.hid hxl
    have hx120 : xs.length ≤ 120 := by omega
    clear hc0 hc1 hxl
    go_wp2_with (go_at_call 20; refine hln4.mono ?_; rintro e w5 ⟨rfl, rfl⟩)
    clear hln4
    go_loopw [6] (fun i wr => ∃ k : Nat, k ≤ xs.length ∧ i = .int .i64 k ∧ Below w4.heap.size w4 wr) (fun i _ => xs.length - (intOf i).toNat)
    case atStart => exact ⟨0, by omega, rfl, Below.refl _ _⟩
    case round =>
      obtain ⟨k, hk, rfl, hbel⟩ := hrel
      by_cases hlt : k < xs.length
      · obtain ⟨g0, rfl, d0⟩ := HC0.out (by omega)
        obtain ⟨g1, rfl, d1⟩ := HC1.out (by omega)
        have c0 : wr.cell? ⟨g0, k, none⟩ = some (.string xs[k].key) := (cell_kept hbel ((d0 k hlt).trans (by simp [keysV, hlt])))
        have c1 : wr.cell? ⟨g1, k, none⟩ = some (.int .i64 xs[k].ht) := (cell_kept hbel ((d1 k hlt).trans (by simp [htsV, hlt])))
        have hht0 := HL.out.hts _ (HX.out.mem _ (List.getElem_mem hlt)).1
        have hht : (1 : Int) ≤ (xs[k].ht : Int) ∧ (xs[k].ht : Int) ≤ 12 := by omega
        clear hht0
        have k0 : (0 : Int) ≤ (k : Int) := by omega
        have k1 : (k : Int) < (xs.length : Int) := by omega
        have HBEL := Lib.hid hbel
        cases k with
        | zero =>
          clear d0 d1 hbel
          generalize xs[0].key = kk at c0
          generalize ((xs[0].ht : Nat) : Int) = hh at c1 hht
          obtain ⟨hh1, hh2⟩ := hht
          have b1 : decide (hh < 1) = false := by simp; omega
          have b2 : decide (12 < hh) = false := by simp; omega
          go_wp2_with fail
          refine wp_region_quiet_lit (by kernel_rfl) (by kernel_rfl) ?_
          repeat (go_big_quiet_step (fail))
          refine wpQuiet_nil ?_
          rintro w9 ⟨nq, rfl⟩
          go_wp2_with fail
          go_roundw
          case rel => exact ⟨1, by omega, by go_num, below_drewN HBEL.out _⟩
          case measure => simp [intOf]; omega
        | succ m =>
          have c2 : wr.cell? ⟨g0, m, none⟩ = some (.string xs[m].key) := (cell_kept hbel ((d0 m (by omega)).trans (by simp [keysV, show m < xs.length by omega])))
          have hlt2 : klt xs[m].key xs[m + 1].key = true := List.pairwise_iff_getElem.1 HX.out.sorted m (m + 1) (by omega) hlt (by omega)
          have q1 : Op.bytesLess xs[m + 1].key.toList xs[m].key.toList = false := klt_asymm hlt2
          have q2 : (xs[m + 1].key.toList == xs[m].key.toList) = false := neq_of fun e => by rw [e, klt_irrefl] at hlt2; exact absurd hlt2 (by simp)
          clear d0 d1 hbel hlt2
          generalize xs[m + 1].key = kk at c0 q1 q2
          generalize xs[m].key = kj at c2 q1 q2
          generalize ((xs[m + 1].ht : Nat) : Int) = hh at c1 hht
          obtain ⟨hh1, hh2⟩ := hht
          have b1 : decide (hh < 1) = false := by simp; omega
          have b2 : decide (12 < hh) = false := by simp; omega
          have m0 : (0 : Int) ≤ (m : Int) := by omega
          have m1 : (m : Int) < (xs.length : Int) := by omega
          have m2 : IntKind.i64.wrap ((m : Int) + 1 - 1) = m := by rw [IntKind.wrap_i64]; omega
          have m3 : (0 : Int) ≤ (m : Int) + 1 := by omega
          have m4 : (m : Int) + 1 < (xs.length : Int) := by omega
          have m5 : ((m : Int) + 1).toNat = m + 1 := by omega
          go_wp2_with fail
          refine wp_region_quiet_lit (by kernel_rfl) (by kernel_rfl) ?_
          repeat (go_big_quiet_step (fail))
          refine wpQuiet_nil ?_
          rintro w9 ⟨nq, rfl⟩
          go_wp2_with fail
          clear m2 m5
          go_roundw
          case rel => exact ⟨m + 1 + 1, by omega, by go_num, below_drewN HBEL.out _⟩
          case measure => simp [intOf]; omega
      · have hkn : k = xs.length := by omega
        subst hkn
        clear hlt hk
        go_wp2_with fail
        have HBEL := Lib.hid hbel
        clear hbel
        obtain ⟨wo, rfl⟩ : ∃ wo : World, wo = wr := ⟨_, rfl⟩
        go_loopw [7] (fun i wr => ∃ l : Nat, 1 ≤ l ∧ l ≤ 12 ∧ i = .int .i64 l ∧ Below w4.heap.size w4 wr) (fun i _ => 12 - (intOf i).toNat)
        case atStart => exact ⟨1, by omega, by omega, rfl, HBEL.out⟩
        case round =>
          obtain ⟨l, hl1, hl2, rfl, hbel⟩ := hrel
          by_cases hlt : l < 12
          · have hrow := cRow l wr (HA4.out.kept hbel) HL.out hlt (by rw [← HXL.out]; omega)
            have HBL := Lib.hid hbel
            clear hbel
            have hll : (l : Int) < 12 := by omega
            go_wp2_with (go_at_call 21; refine hrow.mono ?_; rintro e w6 ⟨u2, ys, rfl, hch, _, hown, hb⟩)
            have HY := Lib.hid (chain_filter HL.out HX.out hch)
            have hr2 := rowV_of hown
            have HB6 := Lib.hid (below_step HBL.out hb HBL.out.size)
            clear hch hown hb hrow
            obtain ⟨a2, cap2, rfl, hc2⟩ := hr2
            have HC2 := Lib.hid hc2
            clear hc2
            go_wp2_with fail
            go_loopw [9, 10] (fun n i wr => ∃ j : Nat, j ≤ xs.length ∧ i = .int .i64 j ∧ n = .int .i64 (upTo xs l j) ∧ Below w6.heap.size w6 wr) (fun _ i _ => xs.length - (intOf i).toNat)
            case atStart => exact ⟨0, by omega, rfl, rfl, Below.refl _ _⟩
            case round =>
              obtain ⟨j, hj, rfl, rfl, hbel⟩ := hrel
              by_cases hjl : j < xs.length
              · obtain ⟨g0, rfl, d0⟩ := HC0.out (by omega)
                obtain ⟨g1, rfl, d1⟩ := HC1.out (by omega)
                have hb4 : Below w4.heap.size w4 wr := below_step HB6.out hbel HB6.out.size
                have c0 : wr.cell? ⟨g0, j, none⟩ = some (.string xs[j].key) := cell_kept hb4 ((d0 j hjl).trans (by simp [keysV, hjl]))
                have c1 : wr.cell? ⟨g1, j, none⟩ = some (.int .i64 xs[j].ht) := cell_kept hb4 ((d1 j hjl).trans (by simp [htsV, hjl]))
                have k0 : (0 : Int) ≤ (j : Int) := by omega
                have k1 : (j : Int) < (xs.length : Int) := by omega
                have HBJ := Lib.hid hbel
                by_cases hup : l < xs[j].ht
                · have hfa := filter_at (fun x : Nd V => decide (l < x.ht)) xs j hjl (by simpa using hup)
                  rw [← HY.out] at hfa
                  have hlen2 : upTo xs l j < ys.length := (List.getElem?_eq_some_iff.1 hfa).1
                  obtain ⟨g2, rfl, d2⟩ := HC2.out (by omega)
                  have c2 : wr.cell? ⟨g2, upTo xs l j, none⟩ = some (.string xs[j].key) := cell_kept hbel ((d2 _ hlen2).trans (by simp only [keysV, List.getElem?_map]; rw [show ys[upTo xs l j]? = some xs[j] from hfa]; rfl))
                  have HUP := Lib.hid (upTo_succ_pos xs l j hjl hup)
                  have t1 : ¬ ((xs[j].ht : Nat) : Int) ≤ (l : Int) := by omega
                  clear d0 d1 d2 hfa hbel hb4 hup
                  generalize ((xs[j].ht : Nat) : Int) = hh at c1 t1
                  generalize xs[j].key = kk at c0 c2
                  generalize hq : upTo xs l j = q at *
                  have u0 : (0 : Int) ≤ (q : Int) := by omega
                  have u1 : (q : Int) < (ys.length : Int) := by omega
                  have t2 : decide ((ys.length : Int) ≤ (q : Int)) = false := by simp; omega
                  have t3 : (kk.toList == kk.toList) = true := by simp
                  have t4 : decide (ys.length ≤ q) = false := by simp; omega
                  have t5 : decide ((q : Int) ≥ (ys.length : Int)) = false := by simp; omega
                  have HQ := Lib.hid hq
                  clear hq
                  go_wp2_with fail
                  refine wp_region_quiet_lit (by kernel_rfl) (by kernel_rfl) ?_
                  repeat (go_big_quiet_step (fail))
                  refine wpQuiet_nil ?_
                  rintro w9 ⟨nq, rfl⟩
                  go_wp2_with fail
                  go_roundw
                  case rel => exact ⟨j + 1, by omega, by go_num, by rw [HUP.out]; go_num, below_drewN HBJ.out _⟩
                  case measure => simp [intOf]; omega
                · have HUP := Lib.hid (upTo_succ_neg xs l j hjl hup)
                  have t1 : ((xs[j].ht : Nat) : Int) ≤ (l : Int) := by omega
                  clear d0 d1 hbel hb4 hup c0
                  generalize ((xs[j].ht : Nat) : Int) = hh at c1 t1
                  go_wp2_with fail
                  go_roundw
                  case rel => exact ⟨j + 1, by omega, by go_num, by rw [HUP.out], HBJ.out⟩
                  case measure => simp [intOf]; omega
              · have hjn : j = xs.length := by omega
                subst hjn
                have hq : upTo xs l xs.length = ys.length := by rw [HY.out]; simp [upTo]
                rw [hq]
                have HBJ := Lib.hid (below_step HB6.out hbel HB6.out.size)
                clear hbel hq
                go_wp2_with fail
                go_roundw
                case rel => exact ⟨l + 1, by omega, by omega, by go_num, HBJ.out⟩
                case measure => simp [intOf]; omega
          · have hl12 : ¬ (l : Int) < 12 := by omega
            have HBL := Lib.hid hbel
            clear hbel
            go_wp2_with fail
            obtain ⟨wo, rfl⟩ : ∃ wo : World, wo = wr := ⟨_, rfl⟩
            go_loopw [11] (fun i wr => ∃ i0 : Nat, i0 ≤ acts.length ∧ i = .int .i64 i0 ∧ Below w4.heap.size w4 wr) (fun i _ => acts.length - (intOf i).toNat)
            case atStart => exact ⟨0, by omega, rfl, HBL.out⟩
            case round =>
              obtain ⟨i0, hi0, rfl, hbel⟩ := hrel
              have HBI := Lib.hid hbel
              clear hbel
              by_cases hil : i0 < acts.length
              · have i1 : (i0 : Int) < (acts.length : Int) := by omega
                go_wp2_with fail
                obtain ⟨wo2, rfl⟩ : ∃ wo2 : World, wo2 = wr := ⟨_, rfl⟩
                go_loopw [12, 13] (fun a i wr => ∃ lst kk : Nat, i0 ≤ lst ∧ lst < kk ∧ kk ≤ acts.length ∧ a = .int .i64 lst ∧ i = .int .i64 kk ∧ Below w4.heap.size w4 wr ∧
                    (∀ h : lst < acts.length, acts[lst].key = acts[i0].key) ∧ ∀ m (h : m < acts.length), lst < m → m < kk → ¬ (acts[m].what = 0 ∧ acts[m].key = acts[i0].key)) (fun _ i _ => acts.length - (intOf i).toNat)
                case atStart => exact ⟨i0, i0 + 1, by omega, by omega, by omega, rfl, by go_num, HBI.out, fun _ => rfl, fun m h a b => by omega⟩
                case round =>
                  obtain ⟨lst, kk, q1, q2, q3, rfl, rfl, hbel, hkey, hno⟩ := hrel
                  have HK := Lib.hid hkey
                  have HN := Lib.hid hno
                  clear hkey hno
                  obtain ⟨b, off, rfl, dc⟩ := HVC.out (by omega)
                  have hbw : Below w.heap.size w wr := below_step HB4.out hbel HB4.out.size
                  have HBK := Lib.hid hbel
                  have k0 : (0 : Int) ≤ (i0 : Int) := by omega
                  have l0 : (0 : Int) ≤ (lst : Int) := by omega
                  have l1 : (lst : Int) < (acts.length : Int) := by omega
                  have ci := cell_kept hbw (dc i0 hil).2.1
                  clear hbel
                  by_cases hkl : kk < acts.length
                  · have m0 : (0 : Int) ≤ (kk : Int) := by omega
                    have m1 : (kk : Int) < (acts.length : Int) := by omega
                    have cw := cell_kept hbw (dc kk hkl).1
                    have ck := cell_kept hbw (dc kk hkl).2.1
                    clear hbw dc
                    by_cases hw : acts[kk].what = 0
                    · have hwb : (acts[kk].what == 0) = true := by simpa using hw
                      by_cases hke : acts[kk].key = acts[i0].key
                      · have hkb : (acts[kk].key.toList == acts[i0].key.toList) = true := by rw [hke]; simp
                        have HKE := Lib.hid hke
                        clear hw hke
                        generalize acts[kk].what = wh at cw hwb
                        generalize acts[kk].key = kx at ck hkb
                        obtain ⟨ky, hky⟩ : ∃ ky, ky = acts[i0].key := ⟨_, rfl⟩
                        rw [← hky] at ci hkb
                        clear hky
                        go_wp2_with fail
                        refine wp_region_quiet_lit (by kernel_rfl) (by kernel_rfl) ?_
                        repeat (go_big_quiet_step (fail))
                        refine wpQuiet_nil ?_
                        rintro w9 ⟨nq, rfl⟩
                        go_wp2_with fail
                        go_roundw
                        case rel => exact ⟨kk, kk + 1, by omega, by omega, by omega, rfl, by go_num, below_drewN HBK.out _, fun _ => HKE.out, fun m h a b => by omega⟩
                        case measure => simp [intOf]; omega
                      · have hkb : (acts[kk].key.toList == acts[i0].key.toList) = false := neq_of hke
                        have HKE := Lib.hid hke
                        clear hw hke
                        generalize acts[kk].what = wh at cw hwb
                        generalize acts[kk].key = kx at ck hkb
                        obtain ⟨ky, hky⟩ : ∃ ky, ky = acts[i0].key := ⟨_, rfl⟩
                        rw [← hky] at ci hkb
                        clear hky
                        go_wp2_with fail
                        refine wp_region_quiet_lit (by kernel_rfl) (by kernel_rfl) ?_
                        repeat (go_big_quiet_step (fail))
                        refine wpQuiet_nil ?_
                        rintro w9 ⟨nq, rfl⟩
                        go_wp2_with fail
                        go_roundw
                        case rel =>
                          refine ⟨lst, kk + 1, q1, by omega, by omega, rfl, by go_num, below_drewN HBK.out _, HK.out, fun m h a b => ?_⟩
                          by_cases hm : m = kk
                          · subst hm; exact fun hh => HKE.out hh.2
                          · exact HN.out m h a (by omega)
                        case measure => simp [intOf]; omega
                    · have hwb : (acts[kk].what == 0) = false := by simpa using hw
                      have HW := Lib.hid hw
                      clear hw ck ci
                      generalize acts[kk].what = wh at cw hwb
                      go_wp2_with fail
                      refine wp_region_quiet_lit (by kernel_rfl) (by kernel_rfl) ?_
                      repeat (go_big_quiet_step (fail))
                      refine wpQuiet_nil ?_
                      rintro w9 ⟨nq, rfl⟩
                      go_wp2_with fail
                      go_roundw
                      case rel =>
                        refine ⟨lst, kk + 1, q1, by omega, by omega, rfl, by go_num, below_drewN HBK.out _, HK.out, fun m h a b => ?_⟩
                        by_cases hm : m = kk
                        · subst hm; exact fun hh => HW.out hh.1
                        · exact HN.out m h a (by omega)
                      case measure => simp [intOf]; omega
                  · have hkk : kk = acts.length := by omega
                    subst hkk
                    have cl := cell_kept hbw (dc lst (by omega)).1
                    have cv := cell_kept hbw (dc lst (by omega)).2.2.1
                    have hget := cGet acts[i0].key wr (HA4.out.kept (below_step (Below.refl _ _) HBK.out (Nat.le_refl _))) HL.out
                    have hlook : acts[lst].what = 0 → look (kv nodes) acts[i0].key = some acts[lst].val := fun hw => by
                      rw [HKV.out]
                      exact look_last acts acts.length lst (by omega) (Nat.le_refl _) _ (HK.out (by omega)) hw HN.out
                    have HLK := Lib.hid hlook
                    have cl' : ∀ w9, Below wr.heap.size wr w9 → w9.cell? ⟨b, off + lst * 4, none⟩ = some (.int .u8 acts[lst].what) ∧ w9.cell? ⟨b, off + lst * 4 + 2, none⟩ = some (.string acts[lst].val) := fun w9 hb => ⟨cell_kept hb cl, cell_kept hb cv⟩
                    clear hbw dc hlook cl cv
                    obtain ⟨ky, hky⟩ : ∃ ky, ky = acts[i0].key := ⟨_, rfl⟩
                    rw [← hky] at ci hget HLK
                    clear hky
                    go_wp2_with fail
                    refine hget.mono ?_
                    rintro e w8 ⟨⟨n8, k8, x8, ok8, rfl, h8, t8⟩, hb⟩
                    obtain ⟨cl, cv⟩ := cl' w8 hb
                    have HB8 := Lib.hid (below_step HBK.out hb HBK.out.size)
                    clear cl' hb ci
                    by_cases hw : acts[lst].what = 0
                    · obtain ⟨rfl, rfl⟩ := look_get (HLK.out hw) HL.out.keys h8 t8
                      have hwb : (acts[lst].what == 0) = true := by simpa using hw
                      have hvb : (acts[lst].val.toList == acts[lst].val.toList) = true := by simp
                      clear hw h8 t8
                      generalize acts[lst].what = wh at cl hwb
                      generalize acts[lst].val = vv at cv hvb
                      go_wp2_with fail
                      go_roundw
                      case rel => exact ⟨i0 + 1, by omega, by go_num, HB8.out⟩
                      case measure => simp [intOf]; omega
                    · have hwb : (acts[lst].what == 0) = false := by simpa using hw
                      clear hw h8 t8 cv
                      generalize acts[lst].what = wh at cl hwb
                      go_wp2_with fail
                      go_roundw
                      case rel => exact ⟨i0 + 1, by omega, by go_num, HB8.out⟩
                      case measure => simp [intOf]; omega
              · have hin : i0 = acts.length := by omega
                subst hin
                have haw := awake wr
                have HBZ := Lib.hid (below_step HB4.out HBI.out HB4.out.size)
                go_wp2_with (go_at_call 10; refine haw.mono ?_; rintro e w9 ⟨rfl, hb⟩)
                go_ret
                exact ⟨rfl, below_step HBZ.out hb HBZ.out.size⟩
end Go.Proofs.Try.SkS
