/- The laws' Great. -/
import Derived.Test.YtkeaalacepjadaaDoorVH
import Derived.Test.YtkeaalacepjadaaDoorVu1
set_option linter.unusedVariables false
set_option linter.unusedSimpArgs false
set_option maxRecDepth 100000
namespace Go.Proofs.Tryd.Vr
open Go.RowKit Go.Cph Go.Cph.Skip Go.Cph.So Go.Cph.Ve
open Go.Proofs.Tryd.Sq (encU encU_len)

def OkE (e : Ed) : Prop := e.1.length ≤ 30 ∧ e.2.1.length ≤ 30 ∧ ∀ t ∈ e.1, (tF t).size ≤ 1000 ∧ (tL t).size ≤ 1000
def GreatPost (ds : List Ed) (ks : List ByteArray) (w : World) (e : Ending) (w' : World) : Prop := ∃ b, e = .returned (.bool b) ∧ (b = false → ds.length ≤ 20 ∧ (∀ e ∈ ds, OkE e) ∧ ∀ s ∈ ks, s.size ≤ 1000) ∧ w = w'

set_option maxHeartbeats 16000000 in
theorem great_any (av kv : Value) (es : List Es) (ds : List Ed) (ks : List ByteArray) (w : World) (hE : EdsAt w av es ds) (hK : StrsAt w kv ks) (hn : ks.length ≤ 10) :
    Calls Tryd.prog 6 #[av, kv] w (GreatPost ds ks w) := by
  obtain ⟨ao, cap, hav⟩ := elems_slice hE.row
  rw [hE.len] at hav
  obtain ⟨ko, kcap, hkv, hkc⟩ := hK
  have HE := Lib.hid hE
  have HAV := Lib.hid hav
  have HKC := Lib.hid hkc
  have HN := Lib.hid hn
  subst hkv
  rw [hav]
  clear hE hav hkc hn
  go_enter Tryd.func6, Tryd.ntmps6
  by_cases h20 : ds.length ≤ 20
  · have y1 : ¬ (ds.length : Int) > 20 := by omega
    have H20 := Lib.hid h20
    go_wp2_with fail
    go_loopw [5] (fun vi W => ∃ i : Nat, i ≤ ds.length ∧ vi = .int .i64 (i : Int) ∧ Hid (∀ j (hj : j < ds.length), j < i → OkE ds[j]) ∧ W = w) (fun vi _ => ds.length - (intOf vi).toNat)
    case atStart => exact ⟨0, Nat.zero_le _, rfl, Lib.hid (fun j hj h0 => absurd h0 (Nat.not_lt_zero _)), rfl⟩
    case round =>
      obtain ⟨i, hi, rfl, HA, rfl⟩ := hrel
      by_cases hlt : i < ds.length
      · have hrow := HE.out.row
        rw [HAV.out] at hrow
        obtain ⟨eb, eoff, ecap, hve, hcs⟩ := elems_shape encEc_len hrow (by rw [HE.out.len]; omega)
        injection hve with hx1 hx2 hx3
        subst hx1
        have hle : i < es.length := by rw [HE.out.len]; omega
        have hcx := hcs i hle
        obtain ⟨x, hx⟩ : ∃ x, x = es[i] := ⟨_, rfl⟩
        have hat := HE.out.at' i hle hlt
        rw [← hx] at hcx hat
        obtain ⟨ea, edr, el, eq, en⟩ := x
        obtain ⟨tao, tc, hta⟩ := elems_slice hat.add
        obtain ⟨dao, dc, hda⟩ := elems_slice hat.drop
        dsimp only at hta hda
        subst hta hda
        obtain ⟨e, he⟩ : ∃ d, d = ds[i] := ⟨_, rfl⟩
        have HDE := Lib.hid he
        rw [← he] at hat hcx
        have HAT := Lib.hid hat
        have b0 : wr.cell? ⟨eb, eoff + i * 5, none⟩ = some (.slice tao e.1.length tc) := hcx 0 (by omega)
        have b1 : wr.cell? ⟨eb, eoff + i * 5 + 1, none⟩ = some (.slice dao e.2.1.length dc) := hcx 1 (by omega)
        have j1 : (0 : Int) ≤ (i : Int) := by omega
        have j2 : (i : Int) < (ds.length : Int) := by omega
        have j4 : IntKind.i64.wrap ((i : Int) + 1) = (i : Int) + 1 := by have := H20.out; rw [IntKind.wrap_i64]; omega
        have HLT := Lib.hid hlt
        clear hrow hx2 hx3 hcs hcx hx hat he
        by_cases h1 : e.1.length ≤ 30
        · have y2 : ¬ (e.1.length : Int) > 30 := by omega
          by_cases h2 : e.2.1.length ≤ 30
          · have y3 : ¬ (e.2.1.length : Int) > 30 := by omega
            have H1 := Lib.hid h1
            have H2 := Lib.hid h2
            clear h1 h2
            go_wp2_with fail
            go_loopw [6] (fun vk W => ∃ k : Nat, k ≤ e.1.length ∧ vk = .int .i64 (k : Int) ∧ Hid (∀ q (hq : q < e.1.length), q < k → (tF e.1[q]).size ≤ 1000 ∧ (tL e.1[q]).size ≤ 1000) ∧ W = wr) (fun vk _ => e.1.length - (intOf vk).toNat)
            case atStart => exact ⟨0, Nat.zero_le _, rfl, Lib.hid (fun q hq h0 => absurd h0 (Nat.not_lt_zero _)), rfl⟩
            case round =>
              obtain ⟨k, hk, rfl, HK, rfl⟩ := hrel
              by_cases hkl : k < e.1.length
              · obtain ⟨tb, toff, tcap, hve, hts⟩ := tbs_cells HAT.out.add (by show 0 < e.1.length; omega)
                injection hve with hx1 hx2 hx3
                subst hx1
                have hty := hts k hkl
                obtain ⟨t, ht⟩ : ∃ t, t = e.1[k] := ⟨_, rfl⟩
                have HTT := Lib.hid ht
                rw [← ht] at hty
                have x4 := hty.c4
                have x5 := hty.c5
                have k1 : (0 : Int) ≤ (k : Int) := by omega
                have k2 : (k : Int) < (e.1.length : Int) := by omega
                have k4 : IntKind.i64.wrap ((k : Int) + 1) = (k : Int) + 1 := by have := H1.out; rw [IntKind.wrap_i64]; omega
                clear hx2 hx3 hts hty ht
                by_cases p1 : t.2.2.2.2.1.size ≤ 1000
                · have z1 : ¬ (t.2.2.2.2.1.size : Int) > 1000 := by omega
                  by_cases p2 : t.2.2.2.2.2.1.size ≤ 1000
                  · have z2 : ¬ (t.2.2.2.2.2.1.size : Int) > 1000 := by omega
                    have HK2 := Lib.hid (show ∀ q (hq : q < e.1.length), q < k + 1 → (tF e.1[q]).size ≤ 1000 ∧ (tL e.1[q]).size ≤ 1000 from fun q hq hqk => by
                      rcases Nat.lt_or_eq_of_le (show q ≤ k by omega) with h | h
                      · exact HK.out q hq h
                      · subst h; rw [← HTT.out]; exact ⟨p1, p2⟩)
                    clear p1 p2
                    go_wp2_with fail
                    go_roundw
                    case rel => exact ⟨k + 1, hkl, by first | rfl | (congr 1), HK2, by first | rfl | trivial⟩
                    case measure => simp [intOf]; omega
                  · have z2 : (t.2.2.2.2.2.1.size : Int) > 1000 := by omega
                    go_wp2_with fail
                    go_ret
                    exact ⟨true, rfl, fun h => (by cases h), rfl⟩
                · have z1 : (t.2.2.2.2.1.size : Int) > 1000 := by omega
                  go_wp2_with fail
                  go_ret
                  exact ⟨true, rfl, fun h => (by cases h), rfl⟩
              · have hke : k = e.1.length := by omega
                subst hke
                have k2 : ¬ (e.1.length : Int) < (e.1.length : Int) := by omega
                have HA2 := Lib.hid (show ∀ j (hj : j < ds.length), j < i + 1 → OkE ds[j] from fun j hj hji => by
                  rcases Nat.lt_or_eq_of_le (show j ≤ i by omega) with h | h
                  · exact HA.out j hj h
                  · subst h
                    rw [← HDE.out]
                    exact ⟨H1.out, H2.out, fun t ht => by
                      obtain ⟨q, hq, rfl⟩ := List.getElem_of_mem ht
                      exact HK.out q hq hq⟩)
                go_wp2_with fail
                go_roundw
                case rel => exact ⟨i + 1, hlt, by first | rfl | (congr 1), HA2, by first | rfl | trivial⟩
                case measure => simp [intOf]; omega
          · have y3 : (e.2.1.length : Int) > 30 := by omega
            go_wp2_with fail
            go_ret
            exact ⟨true, rfl, fun h => (by cases h), rfl⟩
        · have y2 : (e.1.length : Int) > 30 := by omega
          go_wp2_with fail
          go_ret
          exact ⟨true, rfl, fun h => (by cases h), rfl⟩
      · have hil : i = ds.length := by omega
        subst hil
        have i1 : ¬ (ds.length : Int) < (ds.length : Int) := by omega
        have HALL := Lib.hid (show ∀ e ∈ ds, OkE e from fun e he => by
          obtain ⟨j, hj, rfl⟩ := List.getElem_of_mem he
          exact HA.out j hj hj)
        go_wp2_with fail
        go_loopw [7] (fun vi W => ∃ i : Nat, i ≤ ks.length ∧ vi = .int .i64 (i : Int) ∧ Hid (∀ j (hj : j < ks.length), j < i → ks[j].size ≤ 1000) ∧ W = wr) (fun vi _ => ks.length - (intOf vi).toNat)
        case atStart => exact ⟨0, Nat.zero_le _, rfl, Lib.hid (fun j hj h0 => absurd h0 (Nat.not_lt_zero _)), rfl⟩
        case round =>
          obtain ⟨i, hi, rfl, HB, rfl⟩ := hrel
          by_cases hkl : i < ks.length
          · obtain ⟨kb, koff, hko, hkk⟩ := HKC.out (by omega)
            subst hko
            have x0 := hkk i hkl
            obtain ⟨s, hs⟩ : ∃ s, s = ks[i] := ⟨_, rfl⟩
            have HSS := Lib.hid hs
            rw [← hs] at x0
            have j1 : (0 : Int) ≤ (i : Int) := by omega
            have j2 : (i : Int) < (ks.length : Int) := by omega
            have j4 : IntKind.i64.wrap ((i : Int) + 1) = (i : Int) + 1 := by have := HN.out; rw [IntKind.wrap_i64]; omega
            clear hkk hs
            by_cases p1 : s.size ≤ 1000
            · have z1 : ¬ (s.size : Int) > 1000 := by omega
              have HB2 := Lib.hid (show ∀ j (hj : j < ks.length), j < i + 1 → ks[j].size ≤ 1000 from fun j hj hji => by
                rcases Nat.lt_or_eq_of_le (show j ≤ i by omega) with h | h
                · exact HB.out j hj h
                · subst h; rw [← HSS.out]; exact p1)
              clear p1
              go_wp2_with fail
              go_roundw
              case rel => exact ⟨i + 1, hkl, by first | rfl | (congr 1), HB2, by first | rfl | trivial⟩
              case measure => simp [intOf]; omega
            · have z1 : (s.size : Int) > 1000 := by omega
              go_wp2_with fail
              go_ret
              exact ⟨true, rfl, fun h => (by cases h), rfl⟩
          · have hik : i = ks.length := by omega
            subst hik
            have i1 : ¬ (ks.length : Int) < (ks.length : Int) := by omega
            have HKS := Lib.hid (show ∀ s ∈ ks, s.size ≤ 1000 from fun s hs => by
              obtain ⟨j, hj, rfl⟩ := List.getElem_of_mem hs
              exact HB.out j hj hj)
            go_wp2_with fail
            go_ret
            exact ⟨false, rfl, fun _ => ⟨H20.out, HALL.out, HKS.out⟩, rfl⟩
  · have y1 : (ds.length : Int) > 20 := by omega
    go_wp2_with fail
    go_ret
    exact ⟨true, rfl, fun h => (by cases h), rfl⟩
end Go.Proofs.Tryd.Vr
