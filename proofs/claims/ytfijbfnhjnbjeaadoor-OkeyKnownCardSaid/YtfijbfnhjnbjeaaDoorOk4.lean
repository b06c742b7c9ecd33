/- okey's readText. -/
import Derived.Test.YtfijbfnhjnbjeaaDoorOk2
import Derived.Test.YtfijbfnhjnbjeaaDoorOx5
import Derived.Test.YtfijbfnhjnbjeaaDoorNr2
set_option linter.unusedVariables false
set_option linter.unusedSimpArgs false
set_option maxRecDepth 100000
namespace Go.Proofs.Tryd.Ok
open Go.RowKit Go.Cph Go.Cph.Ok Go.Proofs.Tryd.Nu
def lenS : Value → Nat
  | .string s => s.size
  | _ => 0
def encRT : Option (Bs × Bs) → Value
  | none => .tuple #[.string ⟨#[]⟩, .string ⟨#[]⟩, .bool false]
  | some (t, r) => .tuple #[.string (ofBs t), .string (ofBs r), .bool true]
theorem end_one : ((⟨#[0, 1]⟩ : ByteArray).extract 1 2).toList = [1] := by rw [ByteArray.toList_eq, ByteArray.data_extract]; rfl
theorem index_any (s : ByteArray) (w : World) : Calls Tryd.prog 40 #[.string s, .int .u8 0] w fun e w' => e = .returned (.int .i64 (Lib.indexByte s.data.toList 0)) ∧ w' = w :=
  Tryd.strings_IndexByte s 0 w
set_option maxHeartbeats 6400000 in
theorem readText_any (s : ByteArray) (w : World) (hs : s.size ≤ 1000000000) :
    Calls Tryd.prog 27 #[.string s] w fun e w' => e = .returned (encRT (readText s.data.toList)) ∧ Below w.heap.size w w' := by
  have HS := Lib.hid hs
  have HF := Lib.hid (show Bld w.heap.size w.heap.size [] (w.alloc (.cells #[.pointer none, .slice none 0 0] 60)) from Lib.fresh_isBuilder TBd T8 w)
  have HB0 := Lib.hid (show Below w.heap.size w (w.alloc (.cells #[.pointer none, .slice none 0 0] 60)) from (Below.refl _ _).alloc (Nat.le_refl _) _)
  obtain ⟨L, hL⟩ : ∃ L, L = readText s.data.toList := ⟨_, rfl⟩
  have HLL := Lib.hid hL
  rw [← hL]
  clear hs hL
  go_enter Tryd.func27, Tryd.ntmps27
  go_wp2_with fail
  go_loopw [0] (fun vs W => ∃ (c : ByteArray) (acc : Bs), vs = .string c ∧ L = (readText c.data.toList).map (fun x => (acc ++ x.1, x.2)) ∧ acc.length + c.size ≤ s.size ∧ Bld w.heap.size w.heap.size acc W ∧ Below w.heap.size w W) (fun vs _ => lenS vs)
  case atStart => exact ⟨s, [], rfl, by rw [HLL.out]; cases readText s.data.toList <;> rfl, by simp, HF.out, HB0.out⟩
  case round =>
    obtain ⟨c, acc, rfl, hl, hlen, hbl, hb⟩ := hrel
    have HL := Lib.hid hl
    have HLEN := Lib.hid hlen
    have HBL := Lib.hid hbl
    have HB := Lib.hid hb
    have HI := Lib.hid (fun W => index_any c W)
    obtain ⟨x, hx⟩ : ∃ x, x = Lib.indexByte c.data.toList 0 := ⟨_, rfl⟩
    rw [← hx] at HI
    have hge := Lib.indexByte_ge c.data.toList 0
    rw [← hx] at hge
    by_cases hn : x = -1
    · have HN := Lib.hid (show L = none from by rw [hl, text_none (byte_none (hx.symm.trans hn))]; rfl)
      subst hn
      clear hx hge hl hlen hbl hb
      go_wp2_with fail
      refine (HI.out _).mono ?_
      rintro e w3 ⟨rfl, rfl⟩
      go_wp2_with fail
      exact bodyPost_ret (v := .tuple #[.string ⟨#[]⟩, .string ⟨#[]⟩, .bool false]) (by simp [results, Tryd.results27, go_sem]) rfl ⟨by rw [HN.out]; rfl, HB.out⟩
    · obtain ⟨i, hi⟩ : ∃ i : Nat, x = i := ⟨x.toNat, by omega⟩
      have hcase := text_case (hx.symm.trans hi)
      have hsp := (byte_split (hx.symm.trans hi)).1
      rw [← Go.Lib.size_eq] at hsp hcase
      subst hi
      have k0 : ¬ ((i : Int) < 0) := by omega
      have k0' : (0 : Int) ≤ (i : Int) := by omega
      have hcs : c.size ≤ 1000000000 := by have := HS.out; omega
      have k1 : IntKind.i64.wrap ((i : Int) + 1) = (i : Int) + 1 := by rw [IntKind.wrap_i64]; omega
      have k2 : IntKind.i64.wrap ((i : Int) + 2) = (i : Int) + 2 := by rw [IntKind.wrap_i64]; omega
      have hki : (i : Int) < (c.size : Int) := by omega
      have hcsi : (c.size : Int) ≤ 1000000000 := by omega
      rcases hcase with ⟨h1, h2⟩ | ⟨d, h1, h2, h3⟩
      · have HN := Lib.hid (show L = none from by rw [hl, h2]; rfl)
        have k3 : (((i : Int) + 1) == (c.size : Int)) = true := by simp; omega
        clear hx hge hl hlen hbl hb h1 h2 hn
        go_wp2_with fail
        refine (HI.out _).mono ?_
        rintro e w3 ⟨rfl, rfl⟩
        go_wp2_with fail
        exact bodyPost_ret (v := .tuple #[.string ⟨#[]⟩, .string ⟨#[]⟩, .bool false]) (by simp [results, Tryd.results27, go_sem]) rfl ⟨by rw [HN.out]; rfl, HB.out⟩
      · have k3 : (((i : Int) + 1) == (c.size : Int)) = false := by simp; omega
        have k4 : (i : Int) + 2 ≤ (c.size : Int) := by omega
        have HT := Lib.hid (show (c.extract 0 i).data.toList = c.data.toList.take i from by simp)
        have HTS := Lib.hid (show (c.extract 0 i).size = i from by rw [ByteArray.size_extract]; omega)
        have HD := Lib.hid (show (c.extract (i + 2) c.size).data.toList = c.data.toList.drop (i + 2) from by
          simp
          exact List.take_of_length_le (by rw [List.length_drop, ← Go.Lib.size_eq]; exact Nat.le_refl _))
        have HDS := Lib.hid (show (c.extract (i + 2) c.size).size + (i + 2) = c.size from by rw [ByteArray.size_extract]; omega)
        have hmk : c.extract (i + 1) (i + 2) = ⟨#[d]⟩ := list_eq (by
          obtain ⟨hq1, hq2⟩ := List.getElem?_eq_some_iff.1 h2
          rw [ByteArray.data_extract, Array.toList_extract, List.extract_eq_take_drop, show i + 2 - (i + 1) = 1 by omega, List.drop_eq_getElem_cons hq1, hq2]; rfl)
        have H3 := Lib.hid h3
        clear hx hge hl hlen hbl hb h1 h2 h3 hn
        go_wp2_with fail
        refine (HI.out _).mono ?_
        rintro e w3 ⟨rfl, rfl⟩
        go_wp2_with fail
        refine (write_any w.heap.size w.heap.size acc _ _ HBL.out (by have := HTS.out; have := HLEN.out; have := HS.out; omega) HB.out.size).mono ?_
        rintro e w4 ⟨rfl, hbl, hb⟩
        rw [HT.out] at hbl
        have HBL4 := Lib.hid hbl
        have HB4 := Lib.hid (HB.out.trans hb)
        clear hbl hb
        by_cases hd1 : d = 1
        · subst hd1
          have HN := Lib.hid (show L = some (acc ++ c.data.toList.take i, c.data.toList.drop (i + 2)) from by rw [HL.out, H3.out, if_pos rfl]; rfl)
          have HCE := Lib.hid (show c.extract (i + 2) c.size = ofBs (c.data.toList.drop (i + 2)) from list_eq HD.out)
          have e1 : (([1] : List UInt8) == ((⟨#[0, 1]⟩ : ByteArray).extract 1 2).toList) = true := by rw [end_one]; rfl
          go_wp2_with fail
          refine (string_any w.heap.size w.heap.size _ w4 HBL4.out HB4.out.size).mono ?_
          rintro e w5 ⟨rfl, hb⟩
          have HB5 := Lib.hid (HB4.out.trans hb)
          clear hb
          go_wp2_with fail
          exact bodyPost_ret (v := .tuple #[.string (ofBs (acc ++ c.data.toList.take i)), .string (c.extract (i + 2) c.size), .bool true]) (by simp [results, Tryd.results27, go_sem]) rfl ⟨by rw [HN.out, HCE.out]; rfl, HB5.out⟩
        · have e1 : ([d] == ((⟨#[0, 1]⟩ : ByteArray).extract 1 2).toList) = false := by
            rw [end_one, beq_eq_false_iff_ne]
            intro e; injection e with e; exact hd1 e
          by_cases hd2 : d = 255
          · subst hd2
            have HN := Lib.hid (show L = (readText (c.extract (i + 2) c.size).data.toList).map (fun x => ((acc ++ c.data.toList.take i ++ [0]) ++ x.1, x.2)) from by
              rw [HL.out, H3.out, if_neg hd1, if_pos rfl, HD.out]
              cases readText (c.data.toList.drop (i + 2)) with
              | none => rfl
              | some x => simp)
            clear hd1
            go_wp2_with fail
            refine (write_any w.heap.size w.heap.size _ ⟨#[0]⟩ w4 HBL4.out (by have e : (⟨#[0]⟩ : ByteArray).size = 1 := rfl; have := HLEN.out; have := HS.out; rw [e, List.length_append, List.length_take]; omega) HB4.out.size).mono ?_
            rintro e w5 ⟨rfl, hbl, hb⟩
            have HBL5 := Lib.hid hbl
            have HB5 := Lib.hid (HB4.out.trans hb)
            clear hbl hb
            go_wp2_with fail
            go_roundw
            case rel => exact ⟨c.extract (i + 2) c.size, acc ++ c.data.toList.take i ++ [0], rfl, HN.out, by have := HDS.out; have := HLEN.out; rw [List.length_append, List.length_append, List.length_take]; simp; omega, HBL5.out, HB5.out⟩
            case measure => have := HDS.out; simp only [lenS]; omega
          · have e2 : (d == 255) = false := by rw [beq_eq_false_iff_ne]; exact hd2
            have HN := Lib.hid (show L = none from by rw [HL.out, H3.out, if_neg hd1, if_neg hd2]; rfl)
            clear hd1 hd2
            go_wp2_with fail
            exact bodyPost_ret (v := .tuple #[.string ⟨#[]⟩, .string ⟨#[]⟩, .bool false]) (by simp [results, Tryd.results27, go_sem]) rfl ⟨by rw [HN.out]; rfl, HB4.out⟩
end Go.Proofs.Tryd.Ok
