/- The document's Parts: first. -/
import Derived.Test.YtccopljpceolcaaDoorOkE
set_option linter.unusedVariables false
set_option linter.unusedSimpArgs false
set_option maxRecDepth 100000
namespace Go.Proofs.Tryd.Ok
open Go.RowKit Go.Cph Go.Cph.Ok Go.Proofs.Tryd.Nu
def FirstPost (s : ByteArray) (w : World) (e : Ending) (w' : World) : Prop :=
  ∃ (P : Pt) (k : Nat), e = .returned (.tuple #[encP P, .int .i64 (k : Int)]) ∧ ((k = 0 ∧ readPart s.data.toList = none) ∨ (0 < k ∧ k ≤ s.size ∧ readPart s.data.toList = some (P, s.data.toList.drop k))) ∧ Below w.heap.size w w'
theorem rt_step {c : UInt8} (h : c ≠ 0) (t : Bs) : readText (c :: t) = (readText t).map fun x => (c :: x.1, x.2) := by
  cases t with
  | nil => rfl
  | cons d r => rw [readText, if_neg h]
theorem rt_zero (d : UInt8) (r : Bs) : readText (0 :: d :: r) = if d = 1 then some ([], r) else if d = 255 then (readText r).map fun x => (0 :: x.1, x.2) else none := by
  rw [readText, if_pos rfl]
theorem drop_cons (s : ByteArray) (i : Nat) (h : i < s.size) : s.data.toList.drop i = s[i] :: s.data.toList.drop (i + 1) := by
  have hl : i < s.data.toList.length := h
  rw [List.drop_eq_getElem_cons hl]; rfl
theorem ext_one (s : ByteArray) (i : Nat) (h : i < s.size) : (s.extract i (i + 1)).data.toList = [s[i]] := by
  have hl : i < s.data.toList.length := h
  simp only [ByteArray.data_extract, Array.toList_extract]
  rw [List.extract_eq_take_drop, List.drop_eq_getElem_cons hl, show i + 1 - i = 1 by omega]
  rfl
theorem ext_from (s : ByteArray) (i : Nat) : (s.extract i s.size).data.toList = s.data.toList.drop i := by
  simp
  exact List.take_of_length_le (by rw [List.length_drop, ← Go.Lib.size_eq]; exact Nat.le_refl _)
theorem put_boxR {W : World} {g : Nat} {b : Pt} (h : W.heap[g]? = some (boxR b)) (a : Pt) : (((W.setCell ⟨g, 0, none⟩ (.bool a.text)).setCell ⟨g, 1, none⟩ (.string a.s)).setCell ⟨g, 2, none⟩ (.int .u64 (a.n.toNat : Int))).heap[g]? = some (boxR a) := blk_set (blk_set (blk_set h 0 _) 1 _) 2 _
theorem put_belowR {B : Nat} {w W : World} {g o : Nat} (h : Below B w W) (hg : B ≤ g) (a : Pt) : Below B w (((W.setCell ⟨g, o, none⟩ (.bool a.text)).setCell ⟨g, o + 1, none⟩ (.string a.s)).setCell ⟨g, o + 2, none⟩ (.int .u64 (a.n.toNat : Int))) :=
  ((h.setCell (p := ⟨g, o, none⟩) hg _).setCell (p := ⟨g, o + 1, none⟩) hg _).setCell (p := ⟨g, o + 2, none⟩) hg _
abbrev Z0 : Pt := ⟨false, ⟨#[]⟩, 0⟩
set_option maxHeartbeats 6400000 in
theorem first_any (s : ByteArray) (w : World) (h0 : 0 < s.size) (hs : s.size ≤ 1000000) :
    Calls Tryd.prog 97 #[.string s] w (FirstPost s w) := by
  have hl := drop_cons s 0 h0
  rw [List.drop_zero, Nat.zero_add] at hl
  obtain ⟨c, hc⟩ : ∃ c, c = s[0]'h0 := ⟨_, rfl⟩
  have hcr : (s[0]'h0).toNat = c.toNat := by rw [hc]
  rw [← hc] at hl
  have hz : (0 : Int) < (s.size : Int) := by omega
  have he : s.toList.isEmpty = false := by rw [ByteArray.toList_eq, hl]; rfl
  have HS := Lib.hid hs
  have HB := Lib.hid (show Below w.heap.size w (w.alloc (boxR Z0)) from (Below.refl _ _).alloc (Nat.le_refl _) _)
  have HG := Lib.hid (heap_alloc_new w (boxR Z0))
  have hrp := readPart_cons c (s.data.toList.drop 1)
  rw [← hl] at hrp
  have HRP := Lib.hid hrp
  clear hc hl hrp
  by_cases h1 : c = 1
  · subst h1
    have hcr : (s[0]'h0).toNat = 1 := hcr
    rw [if_pos rfl] at HRP
    have HEX := Lib.hid (ext_from s 1)
    have hts : (s.extract 1 s.size).size ≤ 1000000 := by rw [ByteArray.size_extract]; omega
    have HC := Lib.hid (fun W => (show Calls Tryd.prog 84 #[.string (s.extract 1 s.size)] W fun e w' => e = .returned (encRV (readRow (s.data.toList.drop 1))) ∧ Below W.heap.size W w' from by
      rw [← HEX.out]; exact rreadVar_any _ W (by omega)))
    have k1 : (1 : Int) ≤ (s.size : Int) := by omega
    cases hr : readRow (s.data.toList.drop 1) with
    | none =>
      rw [hr] at HRP HC
      have HN := Lib.hid (show readPart s.data.toList = none from HRP.out)
      clear hr hts
      go_enter Tryd.func97, Tryd.ntmps97
      go_wp2_with fail
      refine (HC.out _).mono ?_
      rintro e w1 ⟨rfl, hb⟩
      have HB1 := Lib.hid (below_step HB.out hb HB.out.size)
      have g1 := blk_kept hb HG.out
      clear hb
      unfold encRV
      have f0 : ∀ j, w1.frozen? ⟨w.heap.size, j, none⟩ = false := fun j => by rw [blk_frozen g1]; simp
      have c0 : w1.cell? ⟨w.heap.size, 0, none⟩ = some (.bool false) := (box_cells g1).c0
      have c1 : w1.cell? ⟨w.heap.size, 1, none⟩ = some (.string ⟨#[]⟩) := (box_cells g1).c1
      have c2 : w1.cell? ⟨w.heap.size, 2, none⟩ = some (.int .u64 0) := (box_cells g1).c2
      have G1 := Lib.hid g1
      clear g1
      go_wp2_with fail
      have HQ := Lib.hid (show (((w1.setCell ⟨w.heap.size, 0, none⟩ (.bool false)).setCell ⟨w.heap.size, 1, none⟩ (.string ⟨#[]⟩)).setCell ⟨w.heap.size, 2, none⟩ (.int .u64 0)).heap[w.heap.size]? = some (boxR Z0) from put_boxR G1.out Z0)
      have HBQ := Lib.hid (show Below w.heap.size w (((w1.setCell ⟨w.heap.size, 0, none⟩ (.bool false)).setCell ⟨w.heap.size, 1, none⟩ (.string ⟨#[]⟩)).setCell ⟨w.heap.size, 2, none⟩ (.int .u64 0)) from put_belowR (o := 0) HB1.out (Nat.le_refl _) Z0)
      clear c0 c1 c2 f0
      generalize (((w1.setCell ⟨w.heap.size, 0, none⟩ (.bool false)).setCell ⟨w.heap.size, 1, none⟩ (.string ⟨#[]⟩)).setCell ⟨w.heap.size, 2, none⟩ (.int .u64 0)) = w9 at *
      have c0 : w9.cell? ⟨w.heap.size, 0, none⟩ = some (.bool false) := (box_cells HQ.out).c0
      have c1 : w9.cell? ⟨w.heap.size, 1, none⟩ = some (.string ⟨#[]⟩) := (box_cells HQ.out).c1
      have c2 : w9.cell? ⟨w.heap.size, 2, none⟩ = some (.int .u64 0) := (box_cells HQ.out).c2
      exact bodyPost_ret (v := .tuple #[encP Z0, .int .i64 0]) (by simp [results, Tryd.results97, go_sem, c0, c1, c2]) rfl ⟨Z0, 0, rfl, Or.inl ⟨rfl, HN.out⟩, HBQ.out⟩
    | some nk =>
      obtain ⟨n, k⟩ := nk
      obtain ⟨j1, j2, -, j4⟩ := row_read hr
      rw [List.length_drop, ← ba_size] at j2
      obtain ⟨m, hm⟩ : ∃ m : UInt64, m.toNat = n := ⟨UInt64.ofNat n, by rw [UInt64.toNat_ofNat', Nat.mod_eq_of_lt j4]⟩
      subst hm
      rw [hr] at HRP HC
      have HN := Lib.hid (show readPart s.data.toList = some (⟨false, ⟨#[]⟩, m⟩, s.data.toList.drop (1 + k)) from by
        rw [HRP.out]
        show some ((⟨false, ByteArray.empty, UInt64.ofNat m.toNat⟩ : Pt), (s.data.toList.drop 1).drop k) = _
        rw [UInt64.ofNat_toNat, List.drop_drop]; rfl)
      have HK := Lib.hid (show 0 < 1 + k ∧ 1 + k ≤ s.size from by omega)
      have q6 : IntKind.i64.wrap (1 + (k : Int)) = ((1 + k : Nat) : Int) := by rw [IntKind.wrap_i64]; omega
      clear hr hts j1 j2 j4
      go_enter Tryd.func97, Tryd.ntmps97
      go_wp2_with fail
      refine (HC.out _).mono ?_
      rintro e w1 ⟨rfl, hb⟩
      have HB1 := Lib.hid (below_step HB.out hb HB.out.size)
      have g1 := blk_kept hb HG.out
      clear hb
      unfold encRV
      have f0 : ∀ j, w1.frozen? ⟨w.heap.size, j, none⟩ = false := fun j => by rw [blk_frozen g1]; simp
      have c0 : w1.cell? ⟨w.heap.size, 0, none⟩ = some (.bool false) := (box_cells g1).c0
      have c1 : w1.cell? ⟨w.heap.size, 1, none⟩ = some (.string ⟨#[]⟩) := (box_cells g1).c1
      have c2 : w1.cell? ⟨w.heap.size, 2, none⟩ = some (.int .u64 0) := (box_cells g1).c2
      have G1 := Lib.hid g1
      clear g1
      go_wp2_with fail
      have HQ := Lib.hid (show (((w1.setCell ⟨w.heap.size, 0, none⟩ (.bool false)).setCell ⟨w.heap.size, 1, none⟩ (.string ⟨#[]⟩)).setCell ⟨w.heap.size, 2, none⟩ (.int .u64 (m.toNat : Int))).heap[w.heap.size]? = some (boxR ⟨false, ⟨#[]⟩, m⟩) from put_boxR G1.out ⟨false, ⟨#[]⟩, m⟩)
      have HBQ := Lib.hid (show Below w.heap.size w (((w1.setCell ⟨w.heap.size, 0, none⟩ (.bool false)).setCell ⟨w.heap.size, 1, none⟩ (.string ⟨#[]⟩)).setCell ⟨w.heap.size, 2, none⟩ (.int .u64 (m.toNat : Int))) from put_belowR (o := 0) HB1.out (Nat.le_refl _) ⟨false, ⟨#[]⟩, m⟩)
      clear c0 c1 c2 f0
      generalize (((w1.setCell ⟨w.heap.size, 0, none⟩ (.bool false)).setCell ⟨w.heap.size, 1, none⟩ (.string ⟨#[]⟩)).setCell ⟨w.heap.size, 2, none⟩ (.int .u64 (m.toNat : Int))) = w9 at *
      have c0 : w9.cell? ⟨w.heap.size, 0, none⟩ = some (.bool false) := (box_cells HQ.out).c0
      have c1 : w9.cell? ⟨w.heap.size, 1, none⟩ = some (.string ⟨#[]⟩) := (box_cells HQ.out).c1
      have c2 : w9.cell? ⟨w.heap.size, 2, none⟩ = some (.int .u64 (m.toNat : Int)) := (box_cells HQ.out).c2
      exact bodyPost_ret (v := .tuple #[encP ⟨false, ⟨#[]⟩, m⟩, .int .i64 ((1 + k : Nat) : Int)]) (by simp [results, Tryd.results97, go_sem, c0, c1, c2]) rfl ⟨⟨false, ⟨#[]⟩, m⟩, 1 + k, rfl, Or.inr ⟨HK.out.1, HK.out.2, HN.out⟩, HBQ.out⟩
  · have h1n : ¬ (c.toNat : Int) = 1 := by
      intro e; apply h1; rw [← UInt8.toNat_inj]; show c.toNat = 1; omega
    by_cases h2 : c = 2
    · subst h2
      have hcr : (s[0]'h0).toNat = 2 := hcr
      rw [if_neg h1, if_pos rfl] at HRP
      obtain ⟨RT, hRT⟩ : ∃ RT, RT = readText (s.data.toList.drop 1) := ⟨_, rfl⟩
      have HRT := Lib.hid hRT
      rw [← hRT] at HRP
      have HNONE := Lib.hid (show RT = none → readPart s.data.toList = none from fun h => by rw [HRP.out, h]; rfl)
      have HSOME := Lib.hid (show ∀ t r, RT = some (t, r) → readPart s.data.toList = some (⟨true, ofBs t, 0⟩, r) from fun t r h => by rw [HRP.out, h]; rfl)
      clear hRT h1 h1n
      go_enter Tryd.func97, Tryd.ntmps97
      go_wp2_with fail
      clear hcr
      go_loopw [7, 8] (fun vy vi W => ∃ (i : Nat) (y : ByteArray), 1 ≤ i ∧ i ≤ s.size ∧ vy = .string y ∧ vi = .int .i64 i ∧ RT = (readText (s.data.toList.drop i)).map (fun x => (y.data.toList ++ x.1, x.2)) ∧ y.size ≤ i ∧ W = w.alloc (boxR Z0)) (fun _ vi _ => s.size - (intOf vi).toNat)
      case atStart => exact ⟨1, ⟨#[]⟩, Nat.le_refl _, h0, rfl, rfl, by rw [HRT.out]; cases readText (s.data.toList.drop 1) <;> rfl, Nat.zero_le _, rfl⟩
      case round =>
        obtain ⟨i, y, hi1, hi, rfl, rfl, hrt, hy, rfl⟩ := hrel
        have HY := Lib.hid hy
        have hy1 : y.size ≤ 1000000 := by have := HS.out; omega
        have hy2 : (y.size : Int) ≤ 1000000 := by omega
        by_cases hlt : i < s.size
        · have HLT := Lib.hid hlt
          have hdc := drop_cons s i hlt
          have hex := ext_one s i hlt
          have hz1 : (s.extract i (i + 1)).size = 1 := by rw [ba_size, hex]; rfl
          have hz2 : min (i + 1) s.size - i = 1 := by omega
          obtain ⟨x, hx⟩ : ∃ x, x = s[i]'hlt := ⟨_, rfl⟩
          have hcn : (s[i]'hlt).toNat = x.toNat := by rw [hx]
          rw [← hx] at hex hdc
          rw [hdc] at hrt
          have HRT2 := Lib.hid hrt
          have q0 : (0 : Int) ≤ (i : Int) := by omega
          have q2 : (i : Int) < (s.size : Int) := by omega
          have q3 : IntKind.i64.wrap ((i : Int) + 1) = ((i + 1 : Nat) : Int) := by rw [IntKind.wrap_i64]; have := HS.out; omega
          have q6 : IntKind.i64.wrap ((i : Int) + 2) = ((i + 2 : Nat) : Int) := by rw [IntKind.wrap_i64]; have := HS.out; omega
          by_cases hx0 : x = 0
          · subst hx0
            have hcn : (s[i]'hlt).toNat = 0 := hcn
            by_cases hl2 : i + 1 < s.size
            · have HL2 := Lib.hid hl2
              have hd2 := drop_cons s (i + 1) hl2
              obtain ⟨x2, hx2⟩ : ∃ x2, x2 = s[i + 1]'hl2 := ⟨_, rfl⟩
              have hcn2 : (s[i + 1]'hl2).toNat = x2.toNat := by rw [hx2]
              rw [← hx2] at hd2
              rw [hd2, rt_zero] at hrt
              have q4 : ¬ (s.size : Int) ≤ ((i + 1 : Nat) : Int) := by omega
              have q7 : ((i + 1 : Nat) : Int) < (s.size : Int) := by omega
              have q8 : (0 : Int) ≤ ((i + 1 : Nat) : Int) := by omega
              by_cases he1 : x2 = 1
              · subst he1
                have hcn2 : (s[i + 1]'hl2).toNat = 1 := hcn2
                rw [if_pos rfl] at hrt
                have HP := Lib.hid (HSOME.out _ _ hrt)
                have HQ := Lib.hid (show ofBs (y.data.toList ++ []) = y from by rw [List.append_nil, ofBs_data])
                have HB2 := Lib.hid (show Below w.heap.size w (w.alloc (boxR ⟨true, y, 0⟩)) from (Below.refl _ _).alloc (Nat.le_refl _) _)
                clear hrt hd2 hdc hex hx hx2 hi hi1 hy
                go_wp2_with fail
                exact bodyPost_ret (v := .tuple #[encP ⟨true, y, 0⟩, .int .i64 ((i + 2 : Nat) : Int)]) (by simp [results, Tryd.results97, go_sem]) rfl ⟨⟨true, y, 0⟩, i + 2, rfl, Or.inr ⟨by omega, HL2.out, by have h := HP.out; rw [HQ.out] at h; exact h⟩, HB2.out⟩
              · rw [if_neg he1] at hrt
                have h2n : ¬ (x2.toNat : Int) = 1 := by
                  intro e; apply he1; rw [← UInt8.toNat_inj]; show x2.toNat = 1; omega
                by_cases he2 : x2 = 255
                · subst he2
                  have hcn2 : (s[i + 1]'hl2).toNat = 255 := hcn2
                  rw [if_pos rfl] at hrt
                  have HR3 := Lib.hid (show RT = (readText (s.data.toList.drop (i + 2))).map (fun x => ((y ++ ⟨#[0]⟩).data.toList ++ x.1, x.2)) from by
                    rw [hrt, cat_list]
                    cases readText (s.data.toList.drop (i + 1 + 1)) with
                    | none => rfl
                    | some x => simp)
                  have HSZ := Lib.hid (show (y ++ ⟨#[0]⟩).size ≤ i + 2 from by rw [ba_size, cat_list, List.length_append, ← ba_size]; have : ([0] : Bs).length = 1 := rfl; have e : (⟨#[0]⟩ : ByteArray).data.toList = [0] := rfl; rw [e]; omega)
                  clear hrt hd2 hdc hex hx hx2 hi hi1 hy
                  go_wp2_with fail
                  go_roundw
                  case rel => exact ⟨i + 2, _, by omega, HL2.out, rfl, by go_num, HR3.out, HSZ.out, by first | rfl | trivial⟩
                  case measure => have := HLT.out; simp [intOf]; omega
                · rw [if_neg he2] at hrt
                  have HP := Lib.hid (HNONE.out hrt)
                  have h3n : ¬ (x2.toNat : Int) = 255 := by
                    intro e; apply he2; rw [← UInt8.toNat_inj]; show x2.toNat = 255; omega
                  obtain ⟨d, hd⟩ : ∃ d, d = x2.toNat := ⟨_, rfl⟩
                  rw [← hd] at hcn2 h2n h3n
                  clear hrt hd2 hdc hex hx hx2 hi hi1 hy hd he1 he2
                  go_wp2_with fail
                  exact bodyPost_ret (v := .tuple #[encP Z0, .int .i64 0]) (by simp [results, Tryd.results97, go_sem]) rfl ⟨Z0, 0, rfl, Or.inl ⟨rfl, HP.out⟩, HB.out⟩
            · have hde : s.data.toList.drop (i + 1) = [] := List.drop_of_length_le (by rw [← ba_size]; omega)
              rw [hde] at hrt
              have HP := Lib.hid (HNONE.out hrt)
              have q4 : (s.size : Int) ≤ ((i + 1 : Nat) : Int) := by omega
              clear hrt hde hdc hex hx hi hi1 hy hl2
              go_wp2_with fail
              exact bodyPost_ret (v := .tuple #[encP Z0, .int .i64 0]) (by simp [results, Tryd.results97, go_sem]) rfl ⟨Z0, 0, rfl, Or.inl ⟨rfl, HP.out⟩, HB.out⟩
          · rw [rt_step hx0] at hrt
            have HR3 := Lib.hid (show RT = (readText (s.data.toList.drop (i + 1))).map (fun x => ((y ++ s.extract i (i + 1)).data.toList ++ x.1, x.2)) from by
              rw [hrt, cat_list, hex]
              cases readText (s.data.toList.drop (i + 1)) with
              | none => rfl
              | some x => simp)
            have HSZ := Lib.hid (show (y ++ s.extract i (i + 1)).size ≤ i + 1 from by rw [ba_size, cat_list, List.length_append, ← ba_size, hex]; have : [x].length = 1 := rfl; omega)
            have h2n : ¬ (x.toNat : Int) = 0 := by
              intro e; apply hx0; rw [← UInt8.toNat_inj]; show x.toNat = 0; omega
            have q4 : ((i + 1 : Nat) : Int) ≤ (s.size : Int) := by omega
            have q5 : (i : Int) ≤ ((i + 1 : Nat) : Int) := by omega
            obtain ⟨d, hd⟩ : ∃ d, d = x.toNat := ⟨_, rfl⟩
            rw [← hd] at hcn h2n
            clear hrt hdc hex hx hi hi1 hy hd hx0
            go_wp2_with fail
            go_roundw
            case rel => exact ⟨i + 1, _, by omega, HLT.out, rfl, by go_num, HR3.out, HSZ.out, by first | rfl | trivial⟩
            case measure => have := HLT.out; simp [intOf]; omega
        · have hde : s.data.toList.drop i = [] := List.drop_of_length_le (by rw [← ba_size]; omega)
          rw [hde] at hrt
          have HP := Lib.hid (HNONE.out hrt)
          have q2 : ¬ (i : Int) < (s.size : Int) := by omega
          clear hrt hde hi hi1 hy hlt
          go_wp2_with fail
          exact bodyPost_ret (v := .tuple #[encP Z0, .int .i64 0]) (by simp [results, Tryd.results97, go_sem]) rfl ⟨Z0, 0, rfl, Or.inl ⟨rfl, HP.out⟩, HB.out⟩
    · have h2n : ¬ (c.toNat : Int) = 2 := by
        intro e; apply h2; rw [← UInt8.toNat_inj]; show c.toNat = 2; omega
      have HN := Lib.hid (show readPart s.data.toList = none from by rw [HRP.out, if_neg h1, if_neg h2])
      obtain ⟨d, hd⟩ : ∃ d, d = c.toNat := ⟨_, rfl⟩
      rw [← hd] at hcr h1n h2n
      clear hd h1 h2
      go_enter Tryd.func97, Tryd.ntmps97
      go_wp2_with fail
      exact bodyPost_ret (v := .tuple #[encP Z0, .int .i64 0]) (by simp [results, Tryd.results97, go_sem]) rfl ⟨Z0, 0, rfl, Or.inl ⟨rfl, HN.out⟩, HB.out⟩
end Go.Proofs.Tryd.Ok
