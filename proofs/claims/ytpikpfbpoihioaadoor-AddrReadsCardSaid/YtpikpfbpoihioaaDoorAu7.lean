/- The address of a text, as the program reads it. -/
import Derived.Test.YtpikpfbpoihioaaDoorAu6
import Derived.Deep.DeepCutAuto
set_option linter.unusedVariables false
set_option linter.unusedSimpArgs false
set_option maxRecDepth 100000
namespace Go.Proofs.Tryd.Tx
open Go.RowKit Go.Cph Go.Cph.Tx
open Go.Cph.Ok (ofBs)
open Go.Cph.Px (Ad rightA bytesA zeroA)
open Go.Proofs.Tryd.Pfx (encA bcell)
open Go.Proofs.Tryd.Rows (boxZ below_set3)
theorem encO_pair (r : Option Ad) : ∃ a b, encO r = .tuple #[encA a, .bool b] ∧ ((b = true ∧ r = some a) ∨ (b = false ∧ r = none)) := by
  cases r with
  | none => exact ⟨zeroA, false, rfl, .inr ⟨rfl, rfl⟩⟩
  | some a => exact ⟨a, true, rfl, .inl ⟨rfl, rfl⟩⟩
theorem loose_pair (f : FuncId) (v : Value) (r : Option Ad) (w : World) (h : Calls Tryd.prog f #[v] w fun e w' => e = .returned (encO r) ∧ Below w.heap.size w w') :
    ∃ a b, (Calls Tryd.prog f #[v] w fun e w' => e = .returned (.tuple #[encA a, .bool b]) ∧ Below w.heap.size w w') ∧ ((b = true ∧ r = some a) ∨ (b = false ∧ r = none)) := by
  obtain ⟨a, b, h1, h2⟩ := encO_pair r
  rw [h1] at h
  exact ⟨a, b, h, h2⟩
theorem mem_index (c : UInt8) : ∀ s : Bs, decide (0 ≤ Lib.indexByte s c) = decide (c ∈ s) := by
  intro s
  induction s with
  | nil => rfl
  | cons b r ih =>
    unfold Lib.indexByte
    by_cases h : b = c
    · subst h
      rw [if_pos (by simp)]; simp
    · rw [if_neg (by simpa using h)]
      have hge := Lib.indexByte_ge r c
      by_cases h2 : Lib.indexByte r c = -1
      · rw [if_pos (by simp [h2])]
        rw [h2] at ih
        have : c ∉ r := by simpa using ih
        simp [this]; exact fun e => h e.symm
      · rw [if_neg (by simpa using h2)]
        have : c ∈ r := by
          have h3 : (0 : Int) ≤ Lib.indexByte r c := by omega
          rw [decide_eq_true h3] at ih
          exact (of_decide_eq_true ih.symm)
        rw [decide_eq_true (by omega)]
        simp [this]
theorem contains_any (s : Bs) (w : World) : Calls Tryd.prog 39 #[.string (ofBs s), .string ⟨#[58]⟩] w fun e w' => e = .returned (.bool (decide ((58 : UInt8) ∈ s))) ∧ w' = w := by
  have := Tryd.strings_Contains_one (ofBs s) 58 w
  rw [mem_index] at this
  exact this
def encE (r : Option Ad) : Value := match r with
  | some a => .tuple #[encA a, .int .i64 0]
  | none => .tuple #[.agg #[.int .u8 0, .int .u64 0, .int .u64 0], .int .i64 8]
theorem str_eq (a b : Bs) : ((ofBs a).toList == (ofBs b).toList) = decide (a = b) := by
  rw [ByteArray.toList_eq, ByteArray.toList_eq]
  show (a == b) = _
  by_cases h : a = b
  · simp [h]
  · simp [h]
set_option maxHeartbeats 6400000 in
theorem parse_any (s : Bs) (hs : s.length ≤ 1000000) (w : World) (henv : Env w) : Calls Tryd.prog 16 #[.string (ofBs s)] w fun e w' => e = .returned (encE (progParse s)) ∧ Below w.heap.size w w' := by
  have HB1 := Lib.hid (show Below w.heap.size w (w.alloc boxZ) from (Below.refl _ _).alloc (Nat.le_refl _) _)
  have HX1 := Lib.hid (heap_alloc_new w boxZ)
  have HE1 := Lib.hid (henv.kept HB1.out)
  have HL1 := Lib.hid (blk_lt HX1.out)
  obtain ⟨a4, b4, hc4, hr4⟩ := loose_pair _ _ _ _ (parse4 (ofBs s) (by rw [ofBs_size]; exact hs) (w.alloc boxZ) HE1.out)
  have HC4 := Lib.hid hc4
  have HR4 := Lib.hid (show (b4 = true ∧ loose4 s = some a4) ∨ (b4 = false ∧ loose4 s = none) from hr4)
  have HP6 := Lib.hid (fun W he => loose_pair _ _ _ _ (parse6 s hs W he))
  have HCO := Lib.hid (contains_any s)
  have HTX := Lib.hid (fun a W he => text_any a W he)
  have HPV := Lib.hid (show progParse s = (loose s).bind fun a => if textA a = s then some a else none from rfl)
  have HLV := Lib.hid (show loose s = if (58 : UInt8) ∈ s then loose6 s else loose4 s from rfl)
  have HSE := Lib.hid (fun a => str_eq (textA a) s)
  have HEw := Lib.hid henv
  obtain ⟨sb, hsb⟩ : ∃ sb, sb = ofBs s := ⟨_, rfl⟩
  rw [← hsb] at HC4 HP6 HCO HSE ⊢
  clear henv hc4 hr4 hs hsb
  obtain ⟨f4, x4, y4⟩ := a4
  go_enter Tryd.func16, Tryd.ntmps16
  go_wp2_with (go_at_call 38; refine HC4.out.mono ?_; rintro e w2 ⟨rfl, hb2⟩; have HB2 := Lib.hid (below_step HB1.out hb2 HB1.out.size); have HX2 := Lib.hid (blk_kept hb2 HX1.out); clear hb2)
  have HB3 := Lib.hid (show Below w.heap.size w (w2.alloc (boxA (f4, x4, y4))) from HB2.out.alloc HB2.out.size _)
  have HX3 := Lib.hid (show (w2.alloc (boxA (f4, x4, y4))).heap[w.heap.size]? = some boxZ from blk_alloc HX2.out _)
  have HY3 := Lib.hid (heap_alloc_new w2 (boxA (f4, x4, y4)))
  have HE3 := Lib.hid (HEw.out.kept HB3.out)
  have HNE := Lib.hid (show w.heap.size < w2.heap.size from blk_lt HX2.out)
  obtain ⟨w3, hw3⟩ : ∃ w3, w3 = w2.alloc (boxA (f4, x4, y4)) := ⟨_, rfl⟩
  rw [← hw3] at HB3 HX3 HY3 HE3
  rw [show (w2.alloc (.cells #[.int .u8 (f4.toNat : Int), .int .u64 (x4.toNat : Int), .int .u64 (y4.toNat : Int)] 24)) = w3 from hw3.symm]
  obtain ⟨g, hg⟩ : ∃ g, g = w2.heap.size := ⟨_, rfl⟩
  rw [← hg] at HY3 HNE ⊢
  clear hw3 hg HX2 HB2 HE1 HX1 HB1 HL1 HC4
  obtain ⟨cb, hcb⟩ : ∃ cb, cb = decide ((58 : UInt8) ∈ s) := ⟨_, rfl⟩
  have HCB := Lib.hid hcb
  rw [← hcb] at HCO
  clear hcb
  refine (HCO.out _).mono ?_
  rintro e w4 ⟨rfl, hw4⟩
  subst hw4
  go_upto_if 12 with (fail)
  go_cut [5] (fun s5 wx => ∃ (a : Ad) (b : Bool), s5 = .bool b ∧ ((b = true ∧ loose s = some a) ∨ (b = false ∧ loose s = none)) ∧ wx.heap[g]? = some (boxA a) ∧ Below w.heap.size w wx ∧ wx.heap[w.heap.size]? = some boxZ)
  case first =>
    cases cb
    · have HL := Lib.hid (show loose s = loose4 s from by rw [HLV.out, if_neg (by simpa using HCB.out)])
      go_wp2_with fail
      go_meet
      case rel => exact ⟨(f4, x4, y4), b4, rfl, by rw [HL.out]; exact HR4.out, HY3.out, HB3.out, HX3.out⟩
    · have HL := Lib.hid (show loose s = loose6 s from by rw [HLV.out, if_pos (by simpa using HCB.out)])
      obtain ⟨⟨f6, x6, y6⟩, b6, hc6, hr6⟩ := HP6.out w4 HE3.out
      have HC6 := Lib.hid hc6
      have HR6 := Lib.hid hr6
      clear hc6 hr6
      go_wp2_with fail
      refine HC6.out.mono ?_
      rintro e w5 ⟨rfl, hb5⟩
      have HB5 := Lib.hid (below_step HB3.out hb5 HB3.out.size)
      have HX5 := Lib.hid (blk_kept hb5 HX3.out)
      have HY5 := Lib.hid (blk_kept hb5 HY3.out)
      clear hb5
      have c0 : w5.cell? ⟨g, 0, none⟩ = some (.int .u8 (f4.toNat : Int)) := by rw [blk_cell HY5.out]; rfl
      have c1 : w5.cell? ⟨g, 1, none⟩ = some (.int .u64 (x4.toNat : Int)) := by rw [blk_cell HY5.out]; rfl
      have c2 : w5.cell? ⟨g, 2, none⟩ = some (.int .u64 (y4.toNat : Int)) := by rw [blk_cell HY5.out]; rfl
      have f0 : w5.frozen? ⟨g, 0, none⟩ = false := by rw [blk_frozen HY5.out]; rfl
      have f1 : w5.frozen? ⟨g, 1, none⟩ = false := by rw [blk_frozen HY5.out]; rfl
      have f2 : w5.frozen? ⟨g, 2, none⟩ = false := by rw [blk_frozen HY5.out]; rfl
      go_wp2_with fail
      go_meet
      case rel =>
        refine ⟨(f6, x6, y6), b6, rfl, by rw [HL.out]; exact HR6.out, ?_, ?_, ?_⟩
        · rw [blk_set (blk_set (blk_set HY5.out 0 _) 1 _) 2 _]; rfl
        · exact ((HB5.out.setCell (Nat.le_of_lt HNE.out) _).setCell (Nat.le_of_lt HNE.out) _).setCell (Nat.le_of_lt HNE.out) _
        · have hne : w.heap.size ≠ g := by have := HNE.out; omega
          exact ((blk_set_other hne).trans ((blk_set_other hne).trans (blk_set_other hne))).trans HX5.out
  case rest =>
    obtain ⟨⟨f, x, y⟩, b, rfl, hr, hy, hb, hx⟩ := hcut
    have HR := Lib.hid hr
    have HY := Lib.hid hy
    have HB := Lib.hid hb
    have HX := Lib.hid hx
    have HE := Lib.hid (HEw.out.kept hb)
    have d0 : wc.cell? ⟨g, 0, none⟩ = some (.int .u8 (f.toNat : Int)) := by rw [blk_cell hy]; rfl
    have d1 : wc.cell? ⟨g, 1, none⟩ = some (.int .u64 (x.toNat : Int)) := by rw [blk_cell hy]; rfl
    have d2 : wc.cell? ⟨g, 2, none⟩ = some (.int .u64 (y.toNat : Int)) := by rw [blk_cell hy]; rfl
    have HTX2 := Lib.hid (HTX.out (f, x, y) wc HE.out)
    clear hr hy hb hx
    cases b
    · have HN := Lib.hid (show progParse s = none from by
        rcases HR.out with h | h
        · cases h.1
        · rw [HPV.out, h.2]; rfl)
      have c0 : wc.cell? ⟨w.heap.size, 0, none⟩ = some (.int .u8 0) := by rw [blk_cell HX.out]; rfl
      have c1 : wc.cell? ⟨w.heap.size, 1, none⟩ = some (.int .u64 0) := by rw [blk_cell HX.out]; rfl
      have c2 : wc.cell? ⟨w.heap.size, 2, none⟩ = some (.int .u64 0) := by rw [blk_cell HX.out]; rfl
      have f0 : wc.frozen? ⟨w.heap.size, 0, none⟩ = false := by rw [blk_frozen HX.out]; rfl
      have f1 : wc.frozen? ⟨w.heap.size, 1, none⟩ = false := by rw [blk_frozen HX.out]; rfl
      have f2 : wc.frozen? ⟨w.heap.size, 2, none⟩ = false := by rw [blk_frozen HX.out]; rfl
      go_wp2_with fail
      exact bodyPost_ret (v := .tuple #[.agg #[.int .u8 0, .int .u64 0, .int .u64 0], .int .i64 8]) (by simp [results, Tryd.results16, go_sem, c0, c1, c2]) rfl ⟨by rw [HN.out]; rfl, below_set3 HB.out _ _ _⟩
    · have HLS := Lib.hid (show loose s = some (f, x, y) from by
        rcases HR.out with h | h
        · exact h.2
        · cases h.1)
      have HSE2 := Lib.hid (HSE.out (f, x, y))
      obtain ⟨eq, heq⟩ : ∃ eq, eq = decide (textA (f, x, y) = s) := ⟨_, rfl⟩
      have HEQ := Lib.hid heq
      rw [← heq] at HSE2
      obtain ⟨tx, htx⟩ : ∃ tx, tx = ofBs (textA (f, x, y)) := ⟨_, rfl⟩
      rw [← htx] at HSE2 HTX2
      clear heq htx
      go_wp2_with fail
      refine HTX2.out.mono ?_
      rintro e w6 ⟨rfl, hb6⟩
      have HB6 := Lib.hid (below_step HB.out hb6 HB.out.size)
      have HX6 := Lib.hid (blk_kept hb6 HX.out)
      have HY6 := Lib.hid (blk_kept hb6 HY.out)
      clear hb6 d0 d1 d2
      have d0 : w6.cell? ⟨g, 0, none⟩ = some (.int .u8 (f.toNat : Int)) := by rw [blk_cell HY6.out]; rfl
      have d1 : w6.cell? ⟨g, 1, none⟩ = some (.int .u64 (x.toNat : Int)) := by rw [blk_cell HY6.out]; rfl
      have d2 : w6.cell? ⟨g, 2, none⟩ = some (.int .u64 (y.toNat : Int)) := by rw [blk_cell HY6.out]; rfl
      have c0 : w6.cell? ⟨w.heap.size, 0, none⟩ = some (.int .u8 0) := by rw [blk_cell HX6.out]; rfl
      have c1 : w6.cell? ⟨w.heap.size, 1, none⟩ = some (.int .u64 0) := by rw [blk_cell HX6.out]; rfl
      have c2 : w6.cell? ⟨w.heap.size, 2, none⟩ = some (.int .u64 0) := by rw [blk_cell HX6.out]; rfl
      have f0 : w6.frozen? ⟨w.heap.size, 0, none⟩ = false := by rw [blk_frozen HX6.out]; rfl
      have f1 : w6.frozen? ⟨w.heap.size, 1, none⟩ = false := by rw [blk_frozen HX6.out]; rfl
      have f2 : w6.frozen? ⟨w.heap.size, 2, none⟩ = false := by rw [blk_frozen HX6.out]; rfl
      have hse := HSE2.out
      cases eq
      · have HN := Lib.hid (show progParse s = none from by rw [HPV.out, HLS.out]; show (if textA (f, x, y) = s then _ else _) = _; rw [if_neg (of_decide_eq_false HEQ.out.symm)])
        have hse2 : (tx.toList != sb.toList) = true := by rw [bne, hse]; rfl
        go_wp2_with fail
        exact bodyPost_ret (v := .tuple #[.agg #[.int .u8 0, .int .u64 0, .int .u64 0], .int .i64 8]) (by simp [results, Tryd.results16, go_sem, c0, c1, c2]) rfl ⟨by rw [HN.out]; rfl, below_set3 HB6.out _ _ _⟩
      · have HN := Lib.hid (show progParse s = some (f, x, y) from by rw [HPV.out, HLS.out]; show (if textA (f, x, y) = s then _ else _) = _; rw [if_pos (of_decide_eq_true HEQ.out.symm)])
        have hse2 : (tx.toList != sb.toList) = false := by rw [bne, hse]; rfl
        go_wp2_with fail
        exact bodyPost_ret (v := .tuple #[.agg #[.int .u8 (f.toNat : Int), .int .u64 (x.toNat : Int), .int .u64 (y.toNat : Int)], .int .i64 0]) (by simp [results, Tryd.results16, go_sem, c0, c1, c2]) rfl ⟨by rw [HN.out]; rfl, below_set3 HB6.out _ _ _⟩
end Go.Proofs.Tryd.Tx
