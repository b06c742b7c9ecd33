/- The document's Least. -/
import Derived.Test.YtmnfddmjlkkcoaaGr2
import Derived.Deep.DeepCutAuto
set_option linter.unusedVariables false
set_option linter.unusedSimpArgs false
namespace Go.Proofs.Try.Gp
open Go.RowKit Go.Cph Go.Cph.Px Go.Cph.Gp Go.Cph.So
open Pfx (encA)
/-- The boxes of Least's call: from, to, the result's, the span, the best one. -/
structure St5 (w : World) (n : Nat) (a b e : Ad) (W : World) : Prop where
  ga : W.heap[n]? = some (boxAr a)
  gb : W.heap[n + 1]? = some (boxAr b)
  gr : W.heap[n + 1 + 1]? = some box0r
  gs : W.heap[n + 1 + 1 + 1]? = some (boxSr (a, b))
  gc : W.heap[n + 1 + 1 + 1 + 1]? = some (boxAr e)
  bel : Below n w W
theorem St5.later {w W W' : World} {n : Nat} {a b e : Ad} (h : St5 w n a b e W) (hb : Below W.heap.size W W') : St5 w n a b e W' :=
  ⟨blk_kept hb h.ga, blk_kept hb h.gb, blk_kept hb h.gr, blk_kept hb h.gs, blk_kept hb h.gc, below_step h.bel hb (by have := blk_lt h.gc; omega)⟩
theorem St5.put {w W : World} {n : Nat} {a b e : Ad} (h : St5 w n a b e W) (c : Ad) : St5 w n a b c (putA W (n + 1 + 1 + 1 + 1) 0 c) :=
  ⟨put_other h.ga (by omega) c, put_other h.gb (by omega) c, put_other h.gr (by omega) c, put_other h.gs (by omega) c, put_boxR h.gc c, put_below h.bel (by omega) c⟩
def LeastPost (a b : Ad) (l : List Sp) (w : World) (e : Ending) (w' : World) : Prop := (∃ r, e = .returned (encAB r) ∧ LeastIs a b (covS l) r) ∧ Below w.heap.size w w'

set_option maxRecDepth 100000 in
set_option maxHeartbeats 16000000 in
theorem rleast_any (v : Value) (l : List Sp) (a b : Ad) (w : World) (h : SpsAt w v l) (hl : l.length ≤ 3000000) :
    Calls Try.prog 22 #[encA a, encA b, v] w (LeastPost a b l w) := by
  obtain ⟨ao, cap, rfl⟩ := elems_slice h
  have HE := Lib.hid (fun W (hb : Below w.heap.size w W) => h.kept hb)
  have HCV := Lib.hid (fun (c : Ad) W (hb : Below w.heap.size w W) => covered_any _ l c W (h.kept hb) hl)
  have HLS := Lib.hid (Ls.start (a := a) (b := b) (l := l))
  have HDN := Lib.hid (fun (e : Ad) (is : Bool) (h : Ls a b l l.length e is) => h.done)
  have HST := Lib.hid (show St5 w w.heap.size a b a (((((w.alloc (boxAr a)).alloc (boxAr b)).alloc box0r).alloc (boxSr (a, b))).alloc (boxAr a)) from by
    have h0 := heap_alloc_new w (boxAr a)
    have h1 := heap_alloc_new (w.alloc (boxAr a)) (boxAr b)
    have h2 := heap_alloc_new ((w.alloc (boxAr a)).alloc (boxAr b)) box0r
    have h3 := heap_alloc_new (((w.alloc (boxAr a)).alloc (boxAr b)).alloc box0r) (boxSr (a, b))
    have h4 := heap_alloc_new ((((w.alloc (boxAr a)).alloc (boxAr b)).alloc box0r).alloc (boxSr (a, b))) (boxAr a)
    simp only [World.size_alloc, Nat.add_assoc] at h1 h2 h3 h4
    exact ⟨blk_alloc (blk_alloc (blk_alloc (blk_alloc h0 _) _) _) _, blk_alloc (blk_alloc (blk_alloc h1 _) _) _, blk_alloc (blk_alloc h2 _) _, blk_alloc h3 _, h4, (((((Below.refl _ _).alloc (Nat.le_refl _) _).alloc (by simp) _).alloc (by simp; omega) _).alloc (by simp; omega) _).alloc (by simp; omega) _⟩)
  have HR := Lib.hid (fun W => rright_sp (a, b) W)
  obtain ⟨n, hn⟩ : ∃ n, n = w.heap.size := ⟨_, rfl⟩
  have HN := Lib.hid hn
  have HC0 := Lib.hid (fun W (hb : Below w.heap.size w W) => HCV.out a W hb)
  obtain ⟨is0, his⟩ : ∃ is, is = (rightS (a, b) && !coveredD l a) := ⟨_, rfl⟩
  rw [← his] at HLS
  have HIS := Lib.hid his
  obtain ⟨p, hp⟩ : ∃ p, p = rightS (a, b) := ⟨_, rfl⟩
  obtain ⟨q, hq⟩ : ∃ q, q = coveredD l a := ⟨_, rfl⟩
  rw [← hp] at HR HIS
  rw [← hq] at HC0 HIS
  have HLL := Lib.hid hl
  clear hn his hp hq h
  go_enter Try.func22, Try.ntmps22
  go_upto_region 3 with (fail)
  generalize ((((w.alloc (boxAr a)).alloc (boxAr b)).alloc box0r).alloc (boxSr (a, b))).alloc (boxAr a) = w1 at *
  rw [← HN.out] at HE HCV HST HC0 ⊢
  go_cut [10] (fun s wx => s = .bool is0 ∧ St5 w n a b a wx)
  case first => as_aux_lemma =>
    have d0 := rbox_s0 HST.out.gs
    have d1 := rbox_s1 HST.out.gs
    have d2 := rbox_s2 HST.out.gs
    have d3 := rbox_s3 HST.out.gs
    have d4 := rbox_s4 HST.out.gs
    have d5 := rbox_s5 HST.out.gs
    go_wp2_with fail
    clear d0 d1 d2 d3 d4 d5
    refine (HR.out _).mono ?_
    rintro e w2 ⟨rfl, hb⟩
    have HS2 := Lib.hid (HST.out.later hb)
    clear hb
    cases p
    · go_wp2_with fail
      go_meet
      case rel => exact ⟨by rw [HIS.out]; rfl, HS2.out⟩
    · have f0 := rbox_n0 HS2.out.ga
      have f1 := rbox_n1 HS2.out.ga
      have f2 := rbox_n2 HS2.out.ga
      go_wp2_with fail
      clear f0 f1 f2
      refine (HC0.out _ HS2.out.bel).mono ?_
      rintro e w3 ⟨rfl, hb⟩
      have HS3 := Lib.hid (HS2.out.later hb)
      clear hb
      cases q
      · go_wp2_with fail
        go_meet
        case rel => exact ⟨by rw [HIS.out]; rfl, HS3.out⟩
      · go_wp2_with fail
        go_meet
        case rel => exact ⟨by rw [HIS.out]; rfl, HS3.out⟩
  case rest => as_aux_lemma =>
    obtain ⟨rfl, hst0⟩ := hcut
    have HST1 := Lib.hid hst0
    clear hst0 HST HC0 HR HIS
    go_wp2_with fail
    go_loopw [10, 11] (fun vs vi W => ∃ (i : Nat) (e : Ad) (is : Bool), i ≤ l.length ∧ vi = .int .i64 i ∧ vs = .bool is ∧ St5 w n a b e W ∧ Ls a b l i e is) (fun _ vi _ => l.length - (intOf vi).toNat)
    case atStart => exact ⟨0, a, is0, Nat.zero_le _, rfl, rfl, HST1.out, HLS.out⟩
    case round =>
      obtain ⟨i, e, is, hi, rfl, rfl, hst, hls⟩ := hrel
      have HS := Lib.hid hst
      by_cases hlt : i < l.length
      · have HLT := Lib.hid hlt
        have HSK := Lib.hid (fun hh => hls.skip hlt hh)
        have HTK := Lib.hid (fun h1 h2 h3 h4 h5 => hls.take hlt h1 h2 h3 h4 h5)
        obtain ⟨b', off, cap', hve, hcs⟩ := sps_cells (HE.out _ hst.bel) (by omega)
        injection hve with hx1 hx2 hx3
        subst hx1
        clear hx2 hx3
        have hcx := hcs i hlt
        obtain ⟨x, hx⟩ : ∃ x, x = l[i]'hlt := ⟨_, rfl⟩
        rw [← hx] at hcx
        rw [← hx] at HSK
        rw [← hx] at HTK
        have HXE := Lib.hid (show ∀ h : i < l.length, x = l[i]'h from fun _ => hx)
        have d0 := hcx.c0
        have d1 := hcx.c1
        have d2 := hcx.c2
        have d3 := hcx.c3
        have d4 := hcx.c4
        have d5 := hcx.c5
        have HR := Lib.hid (fun W => rright_sp x W)
        have HL := Lib.hid (fun W => rlast x.2 W)
        have HX := Lib.hid (fun W => rnext x.2 W)
        have HH := Lib.hid (fun W => rhas_any (a, b) (nextD x.2) W)
        have HCC := Lib.hid (fun W (hb : Below n w W) => HCV.out (nextD x.2) W hb)
        have HLE := Lib.hid (fun W => rless (nextD x.2) e W)
        obtain ⟨p, hp⟩ : ∃ p, p = rightS x := ⟨_, rfl⟩
        obtain ⟨q, hq⟩ : ∃ q, q = lastD x.2 := ⟨_, rfl⟩
        obtain ⟨y, hy⟩ : ∃ y, y = hasS (a, b) (nextD x.2) := ⟨_, rfl⟩
        obtain ⟨z, hz⟩ : ∃ z, z = coveredD l (nextD x.2) := ⟨_, rfl⟩
        obtain ⟨u, hu⟩ : ∃ u, u = lessA (nextD x.2) e := ⟨_, rfl⟩
        rw [← hp] at HR
        rw [← hq] at HL
        rw [← hy] at HH
        rw [← hz] at HCC
        rw [← hu] at HLE
        have HP := Lib.hid hp
        have HLA := Lib.hid hq
        have HHA := Lib.hid hy
        have HCO := Lib.hid hz
        have HLU := Lib.hid hu
        have k1 : (0 : Int) ≤ (i : Int) := by omega
        have k2 : (i : Int) < (l.length : Int) := by omega
        have k4 : IntKind.i64.wrap ((i : Int) + 1) = (i : Int) + 1 := by rw [IntKind.wrap_i64]; omega
        clear hst hls hcs hcx hx hp hq hy hz hu hi hlt
        go_wp2_with fail
        clear d0 d1 d2 d3 d4 d5
        refine (HR.out _).mono ?_
        rintro e w2 ⟨rfl, hb⟩
        have HS2 := Lib.hid (HS.out.later hb)
        clear hb
        cases p
        · go_wp2_with fail
          go_roundw
          case rel => exact ⟨i + 1, e, is, HLT.out, by go_num, rfl, HS2.out, HSK.out (Or.inl HP.out.symm)⟩
          case measure => have := HLT.out; simp [intOf]; omega
        · obtain ⟨b2, off2, cap2, hve, hcs⟩ := sps_cells (HE.out _ HS2.out.bel) (Nat.lt_of_le_of_lt (Nat.zero_le _) HLT.out)
          injection hve with hx1 hx2 hx3
          injection hx1 with hx1
          injection hx1 with hx1 hx4 hx5
          subst hx1 hx4
          clear hx2 hx3 hx5
          have hcx := hcs i HLT.out
          rw [← HXE.out HLT.out] at hcx
          have d3 := hcx.c3
          have d4 := hcx.c4
          have d5 := hcx.c5
          clear hcx hcs
          go_wp2_with fail
          clear d3 d4 d5
          refine (HL.out _).mono ?_
          rintro e w3 ⟨rfl, hb⟩
          have HS3 := Lib.hid (HS2.out.later hb)
          clear hb
          cases q
          · obtain ⟨b2, off2, cap2, hve, hcs⟩ := sps_cells (HE.out _ HS3.out.bel) (Nat.lt_of_le_of_lt (Nat.zero_le _) HLT.out)
            injection hve with hx1 hx2 hx3
            injection hx1 with hx1
            injection hx1 with hx1 hx4 hx5
            subst hx1 hx4
            clear hx2 hx3 hx5
            have hcx := hcs i HLT.out
            rw [← HXE.out HLT.out] at hcx
            have d3 := hcx.c3
            have d4 := hcx.c4
            have d5 := hcx.c5
            clear hcx hcs
            go_wp2_with fail
            clear d3 d4 d5
            refine (HX.out _).mono ?_
            rintro e w4 ⟨rfl, hb⟩
            have HS4 := Lib.hid (HS3.out.later hb)
            clear hb
            have HBN := Lib.hid (show Below w4.heap.size w4 (w4.alloc (boxAr (nextD x.2))) from (Below.refl _ _).alloc (Nat.le_refl _) _)
            have HNX5 := Lib.hid (heap_alloc_new w4 (boxAr (nextD x.2)))
            have HS5 := Lib.hid (HS4.out.later HBN.out)
            have d0 := rbox_s0 HS5.out.gs
            have d1 := rbox_s1 HS5.out.gs
            have d2 := rbox_s2 HS5.out.gs
            have d3 := rbox_s3 HS5.out.gs
            have d4 := rbox_s4 HS5.out.gs
            have d5 := rbox_s5 HS5.out.gs
            go_wp2_with fail
            clear d0 d1 d2 d3 d4 d5
            refine (HH.out _).mono ?_
            rintro e w6 ⟨rfl, hb⟩
            have HS6 := Lib.hid (HS5.out.later hb)
            have HNX6 := Lib.hid (blk_kept hb HNX5.out)
            clear hb
            cases y
            · go_wp2_with fail
              go_roundw
              case rel => exact ⟨i + 1, e, is, HLT.out, by go_num, rfl, HS6.out, HSK.out (Or.inr (Or.inr (Or.inl HHA.out.symm)))⟩
              case measure => have := HLT.out; simp [intOf]; omega
            · have f0 := rbox_n0 HNX6.out
              have f1 := rbox_n1 HNX6.out
              have f2 := rbox_n2 HNX6.out
              go_wp2_with fail
              clear f0 f1 f2
              refine (HCC.out _ HS6.out.bel).mono ?_
              rintro e w7 ⟨rfl, hb⟩
              have HS7 := Lib.hid (HS6.out.later hb)
              have HNX7 := Lib.hid (blk_kept hb HNX6.out)
              clear hb
              cases z
              · cases is
                · have g0 := rbox_n0 HS7.out.gc
                  have g1 := rbox_n1 HS7.out.gc
                  have g2 := rbox_n2 HS7.out.gc
                  have f0 := rbox_n0 HNX7.out
                  have f1 := rbox_n1 HNX7.out
                  have f2 := rbox_n2 HNX7.out
                  have fz : ∀ j, w7.frozen? ⟨n + 1 + 1 + 1 + 1, j, none⟩ = false := fun j => by rw [blk_frozen HS7.out.gc]; simp
                  have HS9 := Lib.hid (HS7.out.put (nextD x.2))
                  go_wp2_with fail
                  clear g0 g1 g2 f0 f1 f2 fz
                  go_roundw
                  case rel => exact ⟨i + 1, nextD x.2, true, HLT.out, by go_num, rfl, HS9.out, HTK.out HP.out.symm HLA.out.symm HHA.out.symm HCO.out.symm (Or.inl (by first | rfl | trivial))⟩
                  case measure => have := HLT.out; simp [intOf]; omega
                · have f0 := rbox_n0 HNX7.out
                  have f1 := rbox_n1 HNX7.out
                  have f2 := rbox_n2 HNX7.out
                  have g0 := rbox_n0 HS7.out.gc
                  have g1 := rbox_n1 HS7.out.gc
                  have g2 := rbox_n2 HS7.out.gc
                  go_wp2_with fail
                  clear f0 f1 f2 g0 g1 g2
                  refine (HLE.out _).mono ?_
                  rintro e w8 ⟨rfl, hb⟩
                  have HS8 := Lib.hid (HS7.out.later hb)
                  have HNX8 := Lib.hid (blk_kept hb HNX7.out)
                  clear hb
                  cases u
                  · go_wp2_with fail
                    go_roundw
                    case rel => exact ⟨i + 1, e, true, HLT.out, by go_num, rfl, HS8.out, HSK.out (Or.inr (Or.inr (Or.inr (Or.inr ⟨(by first | rfl | trivial), HLU.out.symm⟩))))⟩
                    case measure => have := HLT.out; simp [intOf]; omega
                  · have g0 := rbox_n0 HS8.out.gc
                    have g1 := rbox_n1 HS8.out.gc
                    have g2 := rbox_n2 HS8.out.gc
                    have f0 := rbox_n0 HNX8.out
                    have f1 := rbox_n1 HNX8.out
                    have f2 := rbox_n2 HNX8.out
                    have fz : ∀ j, w8.frozen? ⟨n + 1 + 1 + 1 + 1, j, none⟩ = false := fun j => by rw [blk_frozen HS8.out.gc]; simp
                    have HS9 := Lib.hid (HS8.out.put (nextD x.2))
                    go_wp2_with fail
                    clear g0 g1 g2 f0 f1 f2 fz
                    go_roundw
                    case rel => exact ⟨i + 1, nextD x.2, true, HLT.out, by go_num, rfl, HS9.out, HTK.out HP.out.symm HLA.out.symm HHA.out.symm HCO.out.symm (Or.inr HLU.out.symm)⟩
                    case measure => have := HLT.out; simp [intOf]; omega
              · go_wp2_with fail
                go_roundw
                case rel => exact ⟨i + 1, e, is, HLT.out, by go_num, rfl, HS7.out, HSK.out (Or.inr (Or.inr (Or.inr (Or.inl HCO.out.symm))))⟩
                case measure => have := HLT.out; simp [intOf]; omega
          · go_wp2_with fail
            go_roundw
            case rel => exact ⟨i + 1, e, is, HLT.out, by go_num, rfl, HS3.out, HSK.out (Or.inr (Or.inl HLA.out.symm))⟩
            case measure => have := HLT.out; simp [intOf]; omega
      · obtain rfl : i = l.length := by omega
        have k2 : ¬ (l.length : Int) < (l.length : Int) := by omega
        have HD := Lib.hid (HDN.out e is hls)
        have fz : ∀ j, wr.frozen? ⟨n + 1 + 1, j, none⟩ = false := fun j => by rw [blk_frozen HS.out.gr]; simp
        have r0 : wr.cell? ⟨n + 1 + 1, 0, none⟩ = some (.int .u8 0) := by rw [blk_cell HS.out.gr]; rfl
        have r1 : wr.cell? ⟨n + 1 + 1, 1, none⟩ = some (.int .u64 0) := by rw [blk_cell HS.out.gr]; rfl
        have r2 : wr.cell? ⟨n + 1 + 1, 2, none⟩ = some (.int .u64 0) := by rw [blk_cell HS.out.gr]; rfl
        clear hst hls hi hlt
        cases is
        · go_wp2_with fail
          have HQ := Lib.hid (show (((wr.setCell ⟨n + 1 + 1, 0, none⟩ (.int .u8 0)).setCell ⟨n + 1 + 1, 1, none⟩ (.int .u64 0)).setCell ⟨n + 1 + 1, 2, none⟩ (.int .u64 0)).heap[n + 1 + 1]? = some (boxAr zeroA) from put_box0 HS.out.gr zeroA)
          have HBQ := Lib.hid (show Below n w (((wr.setCell ⟨n + 1 + 1, 0, none⟩ (.int .u8 0)).setCell ⟨n + 1 + 1, 1, none⟩ (.int .u64 0)).setCell ⟨n + 1 + 1, 2, none⟩ (.int .u64 0)) from put_below (o := 0) HS.out.bel (show n ≤ n + 1 + 1 by omega) zeroA)
          clear r0 r1 r2 fz
          generalize ((wr.setCell ⟨n + 1 + 1, 0, none⟩ (.int .u8 0)).setCell ⟨n + 1 + 1, 1, none⟩ (.int .u64 0)).setCell ⟨n + 1 + 1, 2, none⟩ (.int .u64 0) = w9 at *
          have c0 : w9.cell? ⟨n + 1 + 1, 0, none⟩ = some (.int .u8 0) := rbox_n0 HQ.out
          have c1 : w9.cell? ⟨n + 1 + 1, 1, none⟩ = some (.int .u64 0) := rbox_n1 HQ.out
          have c2 : w9.cell? ⟨n + 1 + 1, 2, none⟩ = some (.int .u64 0) := rbox_n2 HQ.out
          exact bodyPost_ret (v := .tuple #[.agg #[.int .u8 0, .int .u64 0, .int .u64 0], .bool false]) (by simp [results, Try.results22, go_sem, c0, c1, c2]) rfl ⟨⟨(zeroA, false), rfl, HD.out⟩, by rw [← HN.out]; exact HBQ.out⟩
        · have g0 := rbox_n0 HS.out.gc
          have g1 := rbox_n1 HS.out.gc
          have g2 := rbox_n2 HS.out.gc
          go_wp2_with fail
          have HQ := Lib.hid (show (((wr.setCell ⟨n + 1 + 1, 0, none⟩ (.int .u8 (e.1.toNat : Int))).setCell ⟨n + 1 + 1, 1, none⟩ (.int .u64 (e.2.1.toNat : Int))).setCell ⟨n + 1 + 1, 2, none⟩ (.int .u64 (e.2.2.toNat : Int))).heap[n + 1 + 1]? = some (boxAr e) from put_box0 HS.out.gr e)
          have HBQ := Lib.hid (show Below n w (((wr.setCell ⟨n + 1 + 1, 0, none⟩ (.int .u8 (e.1.toNat : Int))).setCell ⟨n + 1 + 1, 1, none⟩ (.int .u64 (e.2.1.toNat : Int))).setCell ⟨n + 1 + 1, 2, none⟩ (.int .u64 (e.2.2.toNat : Int))) from put_below (o := 0) HS.out.bel (show n ≤ n + 1 + 1 by omega) e)
          clear r0 r1 r2 fz
          generalize ((wr.setCell ⟨n + 1 + 1, 0, none⟩ (.int .u8 (e.1.toNat : Int))).setCell ⟨n + 1 + 1, 1, none⟩ (.int .u64 (e.2.1.toNat : Int))).setCell ⟨n + 1 + 1, 2, none⟩ (.int .u64 (e.2.2.toNat : Int)) = w9 at *
          have c0 : w9.cell? ⟨n + 1 + 1, 0, none⟩ = some (.int .u8 (e.1.toNat : Int)) := rbox_n0 HQ.out
          have c1 : w9.cell? ⟨n + 1 + 1, 1, none⟩ = some (.int .u64 (e.2.1.toNat : Int)) := rbox_n1 HQ.out
          have c2 : w9.cell? ⟨n + 1 + 1, 2, none⟩ = some (.int .u64 (e.2.2.toNat : Int)) := rbox_n2 HQ.out
          exact bodyPost_ret (v := .tuple #[.agg #[.int .u8 (e.1.toNat : Int), .int .u64 (e.2.1.toNat : Int), .int .u64 (e.2.2.toNat : Int)], .bool true]) (by simp [results, Try.results22, go_sem, c0, c1, c2]) rfl ⟨⟨(e, true), rfl, HD.out⟩, by rw [← HN.out]; exact HBQ.out⟩
end Go.Proofs.Try.Gp
