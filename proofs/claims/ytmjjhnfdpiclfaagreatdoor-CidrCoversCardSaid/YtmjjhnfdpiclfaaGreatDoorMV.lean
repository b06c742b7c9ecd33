/- MV: texts put together: Aa1 Au5 Au6 Au7. -/
import Derived.Test.YtmjjhnfdpiclfaaGreatDoorMC
import Derived.Test.YtmjjhnfdpiclfaaGreatDoorMU
import Derived.Deep.DeepCutAuto
/- rows: addr.FromBytes. -/
set_option linter.unusedVariables false
set_option linter.unusedSimpArgs false
set_option maxRecDepth 100000
namespace Go.Proofs.Tryz.Rows
open Go.RowKit Go.Cph Go.Cph.Ok Go.Proofs.Tryz.Nu
open Go.Cph.Px (Ad Pf rightA bytesA rightP fromB fromOk)
open Go.Proofs.Tryz.Pfx (encA bcell)
abbrev boxZ : Obj := .cells #[.int .u8 0, .int .u64 0, .int .u64 0] 24 (0, 0)
structure ZeroA (w : World) (b : Nat) : Prop where
  c0 : w.cell? ⟨b, 0, none⟩ = some (.int .u8 0)
  c1 : w.cell? ⟨b, 1, none⟩ = some (.int .u64 0)
  c2 : w.cell? ⟨b, 2, none⟩ = some (.int .u64 0)
  f0 : w.frozen? ⟨b, 0, none⟩ = false
  f1 : w.frozen? ⟨b, 1, none⟩ = false
  f2 : w.frozen? ⟨b, 2, none⟩ = false
theorem zeroA_of {w : World} {b : Nat} (h : w.heap[b]? = some boxZ) : ZeroA w b := ⟨by rw [blk_cell h]; rfl, by rw [blk_cell h]; rfl, by rw [blk_cell h]; rfl, by rw [blk_frozen h]; rfl, by rw [blk_frozen h]; rfl, by rw [blk_frozen h]; rfl⟩
theorem zeroA_kept {w W : World} (hb : Below (w.alloc boxZ).heap.size (w.alloc boxZ) W) : ZeroA W w.heap.size := zeroA_of (blk_kept hb (heap_alloc_new w boxZ))
theorem below_set3 {w W : World} (h : Below w.heap.size w W) (x y z : Value) : Below w.heap.size w (((W.setCell ⟨w.heap.size, 0, none⟩ x).setCell ⟨w.heap.size, 1, none⟩ y).setCell ⟨w.heap.size, 2, none⟩ z) :=
  ((h.setCell (p := ⟨w.heap.size, 0, none⟩) (Nat.le_refl _) _).setCell (p := ⟨w.heap.size, 1, none⟩) (Nat.le_refl _) _).setCell (p := ⟨w.heap.size, 2, none⟩) (Nat.le_refl _) _
/-- What FromBytes answers. -/
def encFB (fam : UInt8) (s : ByteArray) : Value := .tuple #[encA (fromB fam s.data.toList), .bool (fromOk fam s.size)]
theorem val_two (x y : Bs) : val (x ++ y) = val x * 256 ^ y.length + val y := by
  suffices k : ∀ (y : Bs) (x : Bs), val (x ++ y.reverse) = val x * 256 ^ y.reverse.length + val y.reverse by simpa using k y.reverse x
  intro y
  induction y with
  | nil => intro x; simp [val]
  | cons b y ih =>
    intro x
    rw [List.reverse_cons, ← List.append_assoc, val_snoc, ih x, val_snoc, List.length_append, List.length_singleton, Nat.pow_succ, Nat.mul_add, ← Nat.mul_assoc]
    rw [Nat.mul_comm 256 (val x), Nat.mul_assoc (val x), Nat.mul_comm 256, Nat.add_assoc]
theorem fromB_4 (s : ByteArray) (h : s.size = 4) : fromB 4 s.data.toList = (4, 0, UInt64.ofNat (val (s.data.toList.take 4))) := by
  have hl : s.data.toList.length = 4 := h
  have hv := val_lt s.data.toList
  rw [hl] at hv
  unfold fromB
  rw [if_pos (by rw [hl]; rfl), List.take_of_length_le (by omega)]
  show ((4 : UInt8), UInt64.ofNat (val s.data.toList / 18446744073709551616), UInt64.ofNat (val s.data.toList)) = _
  rw [Nat.div_eq_of_lt (by omega)]; rfl
theorem fromB_6 (s : ByteArray) (h : s.size = 16) : fromB 6 s.data.toList = (6, UInt64.ofNat (val (s.data.toList.take 8)), UInt64.ofNat (val ((s.data.toList.drop 8).take 8))) := by
  have hl : s.data.toList.length = 16 := h
  have h1 : (s.data.toList.take 8).length = 8 := by rw [List.length_take]; omega
  have h2 : (s.data.toList.drop 8).length = 8 := by rw [List.length_drop]; omega
  have hv2 := val_lt (s.data.toList.drop 8)
  rw [h2] at hv2
  unfold fromB
  rw [if_pos (by rw [hl]; rfl), List.take_of_length_le (l := s.data.toList.drop 8) (by omega)]
  have hv := val_two (s.data.toList.take 8) (s.data.toList.drop 8)
  rw [List.take_append_drop, h2] at hv
  show ((6 : UInt8), UInt64.ofNat (val s.data.toList / 18446744073709551616), UInt64.ofNat (val s.data.toList)) = _
  have e1 : val s.data.toList / 18446744073709551616 = val (s.data.toList.take 8) := by omega
  have e2 : UInt64.ofNat (val s.data.toList) = UInt64.ofNat (val (s.data.toList.drop 8)) := by
    apply UInt64.toNat_inj.1
    rw [UInt64.toNat_ofNat', UInt64.toNat_ofNat']; omega
  rw [e1, e2]
theorem fromB_no (fam : UInt8) (s : ByteArray) (h : fromOk fam s.size = false) : fromB fam s.data.toList = (0, 0, 0) := by
  unfold fromB
  rw [if_neg (by rw [show s.data.toList.length = s.size from rfl, h]; exact Bool.false_ne_true)]; rfl
theorem u64_val {l : Bs} (h : l.length ≤ 8) : ((UInt64.ofNat (val l)).toNat : Int) = (val l : Int) := by
  have := val_lt l
  have h2 : 256 ^ l.length ≤ 256 ^ 8 := Nat.pow_le_pow_right (by omega) h
  rw [UInt64.toNat_ofNat']; omega
end Go.Proofs.Tryz.Rows

/- Reading a text of V4, loosely. -/
set_option linter.unusedVariables false
set_option linter.unusedSimpArgs false
set_option maxRecDepth 100000
namespace Go.Proofs.Tryz.Tx
open Go.RowKit Go.Cph Go.Cph.Tx
open Go.Cph.Ok (ofBs)
open Go.Cph.Px (Ad rightA bytesA)
open Go.Proofs.Tryz.Pfx (encA bcell)
open Go.Proofs.Tryz.Rows (boxZ below_set3)
def encO : Option Ad → Value
  | some a => .tuple #[encA a, .bool true]
  | none => .tuple #[.agg #[.int .u8 0, .int .u64 0, .int .u64 0], .bool false]
theorem mapM_stop {α β : Type} {f : α → Option β} : ∀ {l : List α} {k : Nat} {x : α}, l[k]? = some x → f x = none → l.mapM f = none := by
  intro l
  induction l with
  | nil => intro k x h; simp at h
  | cons a l ih =>
    intro k x h hx
    rw [List.mapM_cons]
    cases k with
    | zero =>
      have : a = x := by simpa using h
      subst this
      rw [hx]; rfl
    | succ k =>
      rw [ih (by simpa using h) hx]
      cases f a <;> rfl
theorem mapM_next {α β : Type} {f : α → Option β} {l : List α} {k : Nat} {x : α} {v : List β} {u : β} (h : l[k]? = some x) (hv : (l.take k).mapM f = some v) (hu : f x = some u) : (l.take (k + 1)).mapM f = some (v ++ [u]) := by
  have hk : k < l.length := (List.getElem?_eq_some_iff.1 h).1
  rw [List.take_succ_eq_append_getElem hk, List.mapM_append, hv]
  have : l[k] = x := by rw [List.getElem?_eq_getElem hk] at h; exact Option.some.inj h
  rw [this, List.mapM_cons, hu]
  rfl
/-- What Split lays. -/
structure Pieces (c : UInt8) (s : ByteArray) (ss : List ByteArray) : Prop where
  data : ss.map (·.data.toList) = splitC c s.data.toList
  count : ss.length = Lib.countB s ⟨#[c]⟩ + 1
  small : ∀ x ∈ ss, x.size ≤ s.size
theorem split_small (c : UInt8) : ∀ s : Bs, ∀ w ∈ splitC c s, w.length ≤ s.length := by
  intro s
  induction s with
  | nil => intro w hw; simp [splitC] at hw; subst hw; exact Nat.le_refl _
  | cons b r ih =>
    intro w hw
    by_cases h : b = c
    · subst h
      rw [show splitC b (b :: r) = [] :: splitC b r from by show (if b = b then [] :: splitC b r else _) = _; rw [if_pos rfl]] at hw
      rcases List.mem_cons.1 hw with rfl | hw
      · exact Nat.zero_le _
      · have := ih w hw; rw [List.length_cons]; omega
    · cases hs : splitC c r with
      | nil => exact absurd hs (split_ne _ _)
      | cons x t =>
        rw [split_cons c h hs] at hw
        rw [hs] at ih
        rcases List.mem_cons.1 hw with rfl | hw
        · have := ih x (by simp); simp; omega
        · have := ih w (by simp [hw]); rw [List.length_cons]; omega
theorem pieces (c : UInt8) (s : ByteArray) : Pieces c s (Lib.splitB ⟨#[c]⟩ 0 (Lib.countB s ⟨#[c]⟩) s) := by
  obtain ⟨h1, h2⟩ := splitB_splitC c s
  refine ⟨h1, ?_, fun x hx => ?_⟩
  · rw [← h2, ← h1, List.length_map]
  · have hm : x.data.toList ∈ splitC c s.data.toList := by rw [← h1]; exact List.mem_map.2 ⟨x, hx, rfl⟩
    have := split_small c _ _ hm
    exact this
theorem split_any (c : UInt8) (s : ByteArray) (w : World) (henv : Env w) (hs : s.size ≤ 1000000000) :
    Calls Tryz.prog 77 #[.string s, .string ⟨#[c]⟩] w fun e w' => ∃ ss : List ByteArray, Pieces c s ss ∧ e = .returned (.slice (some ⟨w.heap.size, 0, none⟩) ss.length ss.length) ∧ w'.heap[w.heap.size]? = some (.cells (ss.map Value.string).toArray 9 (0, 0)) ∧ Below w.heap.size w w' := by
  obtain ⟨m, hm⟩ := henv.len
  refine (Tryz.strings_Split s ⟨#[c]⟩ m w (by omega) hm (Nat.le_refl 1)).mono ?_
  rintro e w' ⟨rfl, rfl⟩
  have hp := pieces c s
  exact ⟨_, hp, by rw [hp.count], heap_alloc_new w _, (Below.refl _ _).alloc (Nat.le_refl _) _⟩
theorem shl8 (n : Nat) (h : n < 16777216) : IntKind.u64.wrap ((n : Int) * 256) = ((n * 256 : Nat) : Int) := by rw [IntKind.wrap_u64]; omega
theorem or8 (n u : Nat) (h : n < 16777216) (hu : u ≤ 255) : Go.bits .or .u64 ((n : Int) * 256) (u : Int) = ((256 * n + u : Nat) : Int) := by
  rw [show (n : Int) * 256 = ((n * 256 : Nat) : Int) by simp]
  rw [u64_or_nat _ _ (by omega) (by omega)]
  congr 1
  rw [show n * 256 = n * 2 ^ 8 from rfl, Nat.mul_comm, ← Nat.two_pow_add_eq_or_of_lt (by omega)]
abbrev boxF (f : UInt8) (hi lo : Nat) : Obj := .cells #[.int .u8 (f.toNat : Int), .int .u64 (hi : Int), .int .u64 (lo : Int)] 24 (0, 0)
set_option maxHeartbeats 3200000 in
theorem parse4 (s : ByteArray) (hs : s.size ≤ 1000000) (w : World) (henv : Env w) : Calls Tryz.prog 56 #[.string s] w fun e w' => e = .returned (encO (loose4 s.data.toList)) ∧ Below w.heap.size w w' := by
  have HC0 := Lib.hid (show ∀ W, W = w.alloc boxZ → W.cell? ⟨w.heap.size, 0, none⟩ = some (.int .u8 0) ∧ W.frozen? ⟨w.heap.size, 0, none⟩ = false from fun W h => by rw [h, blk_cell (heap_alloc_new w boxZ), blk_frozen (heap_alloc_new w boxZ)]; exact ⟨rfl, rfl⟩)
  have c0 := (HC0.out _ rfl).1
  have f0 := (HC0.out _ rfl).2
  obtain ⟨w1, hw1⟩ : ∃ w1, w1 = w.alloc (.cells #[.int .u8 4, .int .u64 0, .int .u64 0] 24 (0, 0)) := ⟨_, rfl⟩
  have HB1 := Lib.hid (show Below w.heap.size w w1 from by rw [hw1]; exact (Below.refl _ _).alloc (Nat.le_refl _) _)
  have HX1 := Lib.hid (show w1.heap[w.heap.size]? = some (boxF 4 0 0) from by rw [hw1, heap_alloc_new w]; rfl)
  have HE1 := Lib.hid (henv.kept HB1.out)
  have HSP := Lib.hid (split_any 46 s w1 HE1.out (by omega))
  have HL1 := Lib.hid (show w.heap.size < w1.heap.size from blk_lt HX1.out)
  have HEw := Lib.hid henv
  clear henv HC0
  go_enter Tryz.func56, Tryz.ntmps56
  go_wp2_with fail
  rw [← hw1]
  refine HSP.out.mono ?_
  rintro e w2 ⟨ss, hp, rfl, hblk, hb⟩
  have HP := Lib.hid hp
  have HB2 := Lib.hid (below_step HB1.out hb HB1.out.size)
  have HX2 := Lib.hid (blk_kept hb HX1.out)
  have HS2 := Lib.hid hblk
  have HE2 := Lib.hid (HE1.out.kept hb)
  have HL2 := Lib.hid (show w.heap.size < w2.heap.size ∧ w1.heap.size < w2.heap.size from ⟨Nat.lt_of_lt_of_le HL1.out hb.size, blk_lt hblk⟩)
  obtain ⟨n, hn⟩ : ∃ n, n = ss.length := ⟨_, rfl⟩
  have HN := Lib.hid hn
  have HV := Lib.hid (show loose4 s.data.toList = if n = 4 then ((ss.map (·.data.toList)).mapM small10).map of4 else none from by
    unfold loose4
    rw [← hp.data, List.length_map, ← hn])
  have HSM := Lib.hid (show ∀ x ∈ ss, x.size ≤ 1000000 from fun x hx => Nat.le_trans (hp.small x hx) hs)
  obtain ⟨b, hbb⟩ : ∃ b, b = w1.heap.size := ⟨_, rfl⟩
  rw [← hbb] at HS2 HL2
  rw [← hn, ← hbb]
  have HNEQ := Lib.hid (show b ≠ w.heap.size from by have := HL1.out; omega)
  clear hp hblk hb hn c0 f0 hw1 hbb HSP
  by_cases h4 : n = 4
  · subst h4
    have HV2 := Lib.hid (show loose4 s.data.toList = ((ss.map (·.data.toList)).mapM small10).map of4 from by rw [HV.out, if_pos rfl])
    go_wp2_with fail
    go_loopw [18] (fun v18 W => ∃ (k : Nat) (vals : List Nat), k ≤ 4 ∧ v18 = .int .i64 (k : Int) ∧ Hid (((ss.map (·.data.toList)).take k).mapM small10 = some vals) ∧ W.heap[w.heap.size]? = some (boxF 4 0 (natV 256 vals)) ∧ W.heap[b]? = some (.cells (ss.map Value.string).toArray 9 (0, 0)) ∧ Below w.heap.size w W) (fun v18 _ => (4 - intOf v18).toNat)
    case atStart => exact ⟨0, [], Nat.zero_le _, rfl, Lib.hid rfl, HX2.out, HS2.out, HB2.out⟩
    case round =>
      obtain ⟨k, vals, hk, rfl, HM, hbox, hblk, hb⟩ := hrel
      have HX := Lib.hid hbox
      have HS := Lib.hid hblk
      have HB := Lib.hid hb
      have HE := Lib.hid (HEw.out.kept hb)
      have HMA := Lib.hid (mapM_some (P := fun n => n ≤ 255) (fun _ _ => small10_le) HM.out)
      by_cases hk4 : k < 4
      · have hki : (k : Int) < 4 := by omega
        have hkl : k < ss.length := by rw [← HN.out]; exact hk4
        obtain ⟨x, hx⟩ : ∃ x, x = ss[k] := ⟨_, rfl⟩
        have hxg : ss[k]? = some x := by rw [List.getElem?_eq_getElem hkl, hx]
        have hcell : wr.cell? ⟨b, k, none⟩ = some (.string x) := by
          rw [blk_cell hblk]; simp [hxg]
        have HXS := Lib.hid (HSM.out x (by rw [hx]; exact List.getElem_mem _))
        have HG := Lib.hid (show (ss.map (·.data.toList))[k]? = some x.data.toList from by rw [List.getElem?_map, hxg]; rfl)
        have k1 : IntKind.i64.wrap ((k : Int) + 1) = ((k + 1 : Nat) : Int) := by rw [IntKind.wrap_i64]; omega
        have HSml := Lib.hid (fun W he => small_10 x (by have := HXS.out; omega) W he)
        obtain ⟨r, hr0⟩ : ∃ r, r = small10 x.data.toList := ⟨_, rfl⟩
        have HR := Lib.hid hr0.symm
        rw [← hr0] at HSml
        clear hr0
        have HLEN := Lib.hid (show vals.length = k from by have := HMA.out.1; rw [List.length_take, List.length_map, ← HN.out] at this; omega)
        have HNV := Lib.hid (show natV 256 vals < 16777216 from by
          have h1 := natV_lt 256 (by omega) vals (fun x hx => by have := HMA.out.2 x hx; omega)
          rw [HLEN.out] at h1
          have h2 : 256 ^ k ≤ 256 ^ 3 := Nat.pow_le_pow_right (by omega) (by omega)
          omega)
        clear hx hxg hkl hblk hbox hb
        go_wp2_with fail
        refine (HSml.out _ HE.out).mono ?_
        rintro e w4 ⟨⟨u, rfl, hu⟩, hb4⟩
        have HB4 := Lib.hid (below_step HB.out hb4 HB.out.size)
        have HX4 := Lib.hid (blk_kept hb4 HX.out)
        have HS4 := Lib.hid (blk_kept hb4 HS.out)
        have HU := Lib.hid hu
        clear hb4 hu hcell
        obtain ⟨N, hN⟩ : ∃ N, N = natV 256 vals := ⟨_, rfl⟩
        have HNN := Lib.hid hN
        rw [← hN] at HX4 HNV
        have c0 : w4.cell? ⟨w.heap.size, 0, none⟩ = some (.int .u8 4) := by rw [blk_cell HX4.out]; rfl
        have c1 : w4.cell? ⟨w.heap.size, 1, none⟩ = some (.int .u64 0) := by rw [blk_cell HX4.out]; rfl
        have c2 : w4.cell? ⟨w.heap.size, 2, none⟩ = some (.int .u64 (N : Int)) := by rw [blk_cell HX4.out]; rfl
        have f0 : w4.frozen? ⟨w.heap.size, 0, none⟩ = false := by rw [blk_frozen HX4.out]; rfl
        have f1 : w4.frozen? ⟨w.heap.size, 1, none⟩ = false := by rw [blk_frozen HX4.out]; rfl
        have f2 : w4.frozen? ⟨w.heap.size, 2, none⟩ = false := by rw [blk_frozen HX4.out]; rfl
        clear hN
        cases r with
        | none =>
          have HV3 := Lib.hid (show loose4 s.data.toList = none from by rw [HV2.out, mapM_stop HG.out HR.out]; rfl)
          go_wp2_with fail
          exact bodyPost_ret (v := .tuple #[.agg #[.int .u8 0, .int .u64 0, .int .u64 0], .bool false]) (by simp [results, Tryz.results56, go_sem, c0, c1, c2]) rfl ⟨by rw [HV3.out]; rfl, below_set3 HB4.out _ _ _⟩
        | some v =>
          have hue := HU.out v rfl
          subst hue
          have HNX := Lib.hid (show ((ss.map (·.data.toList)).take (k + 1)).mapM small10 = some (vals ++ [v]) from mapM_next HG.out HM.out HR.out)
          have hv := small10_le HR.out
          have b1 := shl8 N HNV.out
          have B2 := Lib.hid (or8 N v HNV.out hv)
          go_wp2_with fail
          go_roundw
          case rel =>
            refine ⟨k + 1, vals ++ [v], by omega, rfl, Lib.hid HNX.out, ?_, ?_, ?_⟩
            · rw [natV_snoc, ← HNN.out, blk_set HX4.out]
              exact congrArg (fun z => some (Obj.cells #[.int .u8 4, .int .u64 0, .int .u64 z] 24 (0, 0))) B2.out
            · rw [blk_set_other (by show b ≠ w.heap.size; exact HNEQ.out)]; exact HS4.out
            · exact HB4.out.setCell (Nat.le_refl _) _
          case measure => simp [intOf]; omega
      · obtain rfl : k = 4 := by omega
        have HF := Lib.hid (show (ss.map (·.data.toList)).take 4 = ss.map (·.data.toList) from List.take_of_length_le (by rw [List.length_map, ← HN.out]; exact Nat.le_refl _))
        have HV3 := Lib.hid (show loose4 s.data.toList = some (of4 vals) from by
          have := HM.out
          rw [HF.out] at this
          rw [HV2.out, this]; rfl)
        have HNV := Lib.hid (show natV 256 vals < 18446744073709551616 from by
          have h1 := natV_lt 256 (by omega) vals (fun x hx => by have := HMA.out.2 x hx; omega)
          have h2 := HMA.out.1
          rw [HF.out, List.length_map, ← HN.out] at h2
          rw [h2] at h1; omega)
        have HV4 := Lib.hid (show encO (loose4 s.data.toList) = .tuple #[.agg #[.int .u8 4, .int .u64 0, .int .u64 (natV 256 vals : Int)], .bool true] from by
          rw [HV3.out]
          show Value.tuple #[.agg #[.int .u8 _, .int .u64 _, .int .u64 ((UInt64.ofNat (natV 256 vals)).toNat : Int)], .bool true] = _
          rw [UInt64.toNat_ofNat', Nat.mod_eq_of_lt HNV.out]; rfl)
        obtain ⟨N, hN⟩ : ∃ N, N = natV 256 vals := ⟨_, rfl⟩
        rw [← hN] at HX HV4
        clear hN hbox hblk hb
        have c0 : wr.cell? ⟨w.heap.size, 0, none⟩ = some (.int .u8 4) := by rw [blk_cell HX.out]; rfl
        have c1 : wr.cell? ⟨w.heap.size, 1, none⟩ = some (.int .u64 0) := by rw [blk_cell HX.out]; rfl
        have c2 : wr.cell? ⟨w.heap.size, 2, none⟩ = some (.int .u64 (N : Int)) := by rw [blk_cell HX.out]; rfl
        have f0 : wr.frozen? ⟨w.heap.size, 0, none⟩ = false := by rw [blk_frozen HX.out]; rfl
        have f1 : wr.frozen? ⟨w.heap.size, 1, none⟩ = false := by rw [blk_frozen HX.out]; rfl
        have f2 : wr.frozen? ⟨w.heap.size, 2, none⟩ = false := by rw [blk_frozen HX.out]; rfl
        go_wp2_with fail
        exact bodyPost_ret (v := .tuple #[.agg #[.int .u8 4, .int .u64 0, .int .u64 (N : Int)], .bool true]) (by simp [results, Tryz.results56, go_sem, c0, c1, c2]) rfl ⟨by rw [HV4.out], below_set3 HB.out _ _ _⟩
  · have h4i : ((n : Int) != 4) = true := by simp; omega
    have HV2 := Lib.hid (show loose4 s.data.toList = none from by rw [HV.out, if_neg h4])
    have c0 : w2.cell? ⟨w.heap.size, 0, none⟩ = some (.int .u8 4) := by rw [blk_cell HX2.out]; rfl
    have c1 : w2.cell? ⟨w.heap.size, 1, none⟩ = some (.int .u64 0) := by rw [blk_cell HX2.out]; rfl
    have c2 : w2.cell? ⟨w.heap.size, 2, none⟩ = some (.int .u64 0) := by rw [blk_cell HX2.out]; rfl
    have f0 : w2.frozen? ⟨w.heap.size, 0, none⟩ = false := by rw [blk_frozen HX2.out]; rfl
    have f1 : w2.frozen? ⟨w.heap.size, 1, none⟩ = false := by rw [blk_frozen HX2.out]; rfl
    have f2 : w2.frozen? ⟨w.heap.size, 2, none⟩ = false := by rw [blk_frozen HX2.out]; rfl
    go_wp2_with fail
    exact bodyPost_ret (v := .tuple #[.agg #[.int .u8 0, .int .u64 0, .int .u64 0], .bool false]) (by simp [results, Tryz.results56, go_sem, c0, c1, c2]) rfl ⟨by rw [HV2.out]; rfl, below_set3 HB2.out _ _ _⟩
end Go.Proofs.Tryz.Tx

/- Reading a text of V6, loosely. -/
set_option linter.unusedVariables false
set_option linter.unusedSimpArgs false
set_option maxRecDepth 100000
namespace Go.Proofs.Tryz.Tx
open Go.RowKit Go.Cph Go.Cph.Tx
open Go.Cph.Ok (ofBs)
open Go.Cph.Px (Ad rightA bytesA)
open Go.Proofs.Tryz.Pfx (encA bcell)
open Go.Proofs.Tryz.Rows (boxZ below_set3)
abbrev TS : TypeId := 9
/-- What Split lays is a row of our own. -/
theorem split_owns (c : UInt8) (s : Bs) (w : World) (henv : Env w) (hs : s.length ≤ 1000000) :
    Calls Tryz.prog 77 #[.string (ofBs s), .string ⟨#[c]⟩] w fun e w' => ∃ v, e = .returned v ∧ w'.ownsRow w.heap.size TS 1 v (splitC c s).length (strV (splitC c s)) ∧ Below w.heap.size w w' := by
  refine (split_any c (ofBs s) w henv (by rw [ofBs_size]; omega)).mono ?_
  rintro e w' ⟨ss, hp, rfl, hblk, hb⟩
  have hd : ss.map (·.data.toList) = splitC c s := by have := hp.data; exact this
  have hl : ss.length = (splitC c s).length := by rw [← hd, List.length_map]
  have hv : ss.map Value.string = strV (splitC c s) := by
    rw [← hd]; unfold strV; rw [List.map_map]
    refine List.map_congr_left fun x _ => ?_
    rfl
  refine ⟨_, rfl, ⟨by simp [strV], .inr ⟨w.heap.size, ss.length, _, by rw [hl], Nat.le_refl _, hblk, by rw [hl]; exact Nat.le_refl _, ?_, by simp, ?_⟩⟩, hb⟩
  · rw [hp.count]
    have := Lib.count_le (ofBs s).data.toList [c]
    have h2 : (ofBs s).data.toList.length = s.length := by rw [show (ofBs s).data.toList = s from rfl]
    have h3 : Lib.countB (ofBs s) ⟨#[c]⟩ = Lib.count (ofBs s).data.toList [c] := rfl
    rw [h3]; unfold maxLen; omega
  · rw [← hl, hv, List.take_of_length_le (by simp [strV, hl])]
def lenOf : Value → Nat
  | .slice _ n _ => n
  | _ => 0
structure Step16 (hi lo v x1 x2 x3 x4 x5 : Nat) : Prop where
  b1 : IntKind.u64.wrap ((hi : Int) * 65536) = (x1 : Int)
  b2 : (lo : Int) / 281474976710656 = (x2 : Int)
  b3 : Go.bits .or .u64 (x1 : Int) (x2 : Int) = (x3 : Int)
  b4 : IntKind.u64.wrap ((lo : Int) * 65536) = (x4 : Int)
  b5 : Go.bits .or .u64 (x4 : Int) (v : Int) = (x5 : Int)
  val : x3 * 18446744073709551616 + x5 = 65536 * (hi * 18446744073709551616 + lo) + v
  l3 : x3 < 18446744073709551616
  l5 : x5 < 18446744073709551616
theorem or_low (a b k : Nat) (hk : k ≤ 63) (h : b < 2 ^ k) (ha : a * 2 ^ k < 18446744073709551616) : Go.bits .or .u64 ((a * 2 ^ k : Nat) : Int) (b : Int) = ((a * 2 ^ k + b : Nat) : Int) := by
  have hb : b < 18446744073709551616 := Nat.lt_of_lt_of_le h (by have := Nat.pow_le_pow_right (show 0 < 2 by omega) hk; omega)
  rw [u64_or_nat _ _ ha hb]
  congr 1
  rw [Nat.mul_comm, ← Nat.two_pow_add_eq_or_of_lt h]
theorem step16 (hi lo v : Nat) (hh : hi < 281474976710656) (hl : lo < 18446744073709551616) (hv : v ≤ 65535) : ∃ x1 x2 x3 x4 x5, Step16 hi lo v x1 x2 x3 x4 x5 := by
  refine ⟨hi * 65536, lo / 281474976710656, hi * 65536 + lo / 281474976710656, lo % 281474976710656 * 65536, lo % 281474976710656 * 65536 + v, ?_, by simp, ?_, ?_, ?_, by omega, by omega, by omega⟩
  · rw [IntKind.wrap_u64]; omega
  · exact or_low hi (lo / 281474976710656) 16 (by omega) (by omega) (by omega)
  · rw [IntKind.wrap_u64]; omega
  · exact or_low (lo % 281474976710656) v 16 (by omega) (by omega) (by omega)
theorem owns_strs {w : World} {base : Nat} {v : Value} {l : List Bs} (h : w.ownsRow base TS 1 v l.length (strV l)) (h0 : 0 < l.length) :
    ∃ g cap, v = .slice (some ⟨g, 0, none⟩) l.length cap ∧ base ≤ g ∧ g < w.heap.size ∧ ∀ j x, l[j]? = some x → w.cell? ⟨g, j, none⟩ = some (.string (ofBs x)) := by
  obtain ⟨g, cap, rfl, h1, h2, _, h4, _⟩ := owns_shape h h0
  refine ⟨g, cap, rfl, h1, h2, fun j x hx => ?_⟩
  have hj : j < l.length := (List.getElem?_eq_some_iff.1 hx).1
  rw [h4 j (by omega), List.getElem?_map, hx]; rfl
theorem part_small (s : Bs) : ∀ w ∈ Go.Cph.Tx.part s, w.length ≤ s.length := by
  intro w hw
  unfold Go.Cph.Tx.part at hw
  split at hw
  · simp at hw
  · exact split_small 58 s w hw
theorem part_len (s : Bs) : (Go.Cph.Tx.part s).length ≤ s.length + 1 := by
  unfold Go.Cph.Tx.part
  split
  · exact Nat.zero_le _
  · have h1 := (splitK_splitC 58 _ s (Nat.lt_succ_self _)).2
    have := Lib.count_le s [58]
    have h2 : Lib.count s [58] ≤ s.length := by
      suffices k : ∀ n (s : Bs), s.length < n → (splitC 58 s).length ≤ s.length + 1 by
        have := k _ s (Nat.lt_succ_self _); omega
      intro n
      induction n with
      | zero => intro s h; omega
      | succ n ih =>
        intro s h
        cases s with
        | nil => exact Nat.le_refl _
        | cons b r =>
          have hr := ih r (by rw [List.length_cons] at h; omega)
          by_cases hb : b = 58
          · subst hb
            rw [show splitC 58 (58 :: r) = [] :: splitC 58 r from by show (if (58 : UInt8) = 58 then [] :: splitC 58 r else _) = _; rw [if_pos rfl]]
            rw [List.length_cons, List.length_cons]; omega
          · cases hs : splitC 58 r with
            | nil => exact absurd hs (split_ne _ _)
            | cons x t =>
              rw [split_cons 58 hb hs]
              rw [hs] at hr
              simp only [List.length_cons] at hr ⊢; omega
    omega
theorem part_case {s : Bs} {b : Bool} (h : (ofBs s).toList.isEmpty = b) : (b = true → Go.Cph.Tx.part s = []) ∧ (b = false → Go.Cph.Tx.part s = splitC 58 s) := by
  have e : (ofBs s).toList = s := by rw [ByteArray.toList_eq]; rfl
  rw [e] at h
  unfold Go.Cph.Tx.part
  cases s with
  | nil => exact ⟨fun _ => by rw [if_pos rfl], fun hb => by rw [hb] at h; exact absurd h (by simp)⟩
  | cons a r => exact ⟨fun hb => by rw [hb] at h; exact absurd h (by simp), fun _ => by rw [if_neg (by simp)]⟩
theorem lit_seg (w : World) (x : Value) : Seg (w.alloc (.cells #[x] TS)) 1 (.slice (some ⟨w.heap.size, 0, none⟩) 1 1) 1 [x] :=
  Seg.of_owns (base := 0) (e := TS) ⟨rfl, .inr ⟨w.heap.size, 1, #[x], rfl, Nat.zero_le _, heap_alloc_new w _, Nat.le_refl _, by unfold maxLen; omega, rfl, rfl⟩⟩
theorem strV_snoc (l : List Bs) (r : Nat) : strV (l ++ List.replicate (r + 1) [48]) = strV (l ++ List.replicate r [48]) ++ [.string (ofBs [48])] := by
  unfold strV
  rw [List.replicate_succ', ← List.append_assoc, List.map_append, List.map_append]; rfl
set_option maxHeartbeats 6400000 in
theorem parse6 (s : Bs) (hs : s.length ≤ 1000000) (w : World) (henv : Env w) : Calls Tryz.prog 58 #[.string (ofBs s)] w fun e w' => e = .returned (encO (loose6 s)) ∧ Below w.heap.size w w' := by
  have HC0 := Lib.hid (show ∀ W, W = w.alloc boxZ → W.cell? ⟨w.heap.size, 0, none⟩ = some (.int .u8 0) ∧ W.frozen? ⟨w.heap.size, 0, none⟩ = false from fun W h => by rw [h, blk_cell (heap_alloc_new w boxZ), blk_frozen (heap_alloc_new w boxZ)]; exact ⟨rfl, rfl⟩)
  have c0 := (HC0.out _ rfl).1
  have f0 := (HC0.out _ rfl).2
  obtain ⟨w1, hw1⟩ : ∃ w1, w1 = w.alloc (.cells #[.int .u8 6, .int .u64 0, .int .u64 0] 24 (0, 0)) := ⟨_, rfl⟩
  have HB1 := Lib.hid (show Below w.heap.size w w1 from by rw [hw1]; exact (Below.refl _ _).alloc (Nat.le_refl _) _)
  have HX1 := Lib.hid (show w1.heap[w.heap.size]? = some (boxF 6 0 0) from by rw [hw1, heap_alloc_new w]; rfl)
  have HE1 := Lib.hid (henv.kept HB1.out)
  obtain ⟨mx, hmx⟩ := HE1.out.len
  have HCUT := Lib.hid (Tryz.strings_Cut (ofBs s) ⟨#[58, 58]⟩ mx w1 (by rw [ofBs_size]; omega) hmx)
  have HL1 := Lib.hid (show w.heap.size < w1.heap.size from blk_lt HX1.out)
  have HEw := Lib.hid henv
  have HV := Lib.hid (show loose6 s = loose6c (Go.Cph.Tx.part (Lib.cut s [58, 58]).1) (Go.Cph.Tx.part (Lib.cut s [58, 58]).2.1) (Lib.cut s [58, 58]).2.2 from rfl)
  have HSZ := Lib.hid (show (Lib.cut s [58, 58]).1.length ≤ 1000000 ∧ (Lib.cut s [58, 58]).2.1.length ≤ 1000000 from by
    unfold Lib.cut
    split
    · exact ⟨by dsimp only; rw [List.length_take]; omega, by dsimp only; rw [List.length_drop]; omega⟩
    · exact ⟨hs, by simp⟩)
  have hd : (ofBs s).data.toList = s := rfl
  have hd2 : (⟨#[58, 58]⟩ : ByteArray).data.toList = [58, 58] := rfl
  rw [hd, hd2] at HCUT
  obtain ⟨H, T, fd, hct⟩ : ∃ H T fd, Lib.cut s [58, 58] = (H, T, fd) := ⟨_, _, _, rfl⟩
  rw [hct] at HCUT HV HSZ
  have HCUT2 := Lib.hid (show Calls Tryz.prog 35 #[.string (ofBs s), .string ⟨#[58, 58]⟩] w1 fun e w' => e = .returned (.tuple #[.string (ofBs H), .string (ofBs T), .bool fd]) ∧ ∃ n, w' = w1.drewN n from HCUT.out)
  have HV1 := Lib.hid (show loose6 s = loose6c (Go.Cph.Tx.part H) (Go.Cph.Tx.part T) fd from HV.out)
  have HH := Lib.hid (show H.length ≤ 1000000 from HSZ.out.1)
  have HT := Lib.hid (show T.length ≤ 1000000 from HSZ.out.2)
  obtain ⟨sb, hsb⟩ : ∃ sb, sb = ofBs s := ⟨_, rfl⟩
  rw [← hsb] at HCUT2 ⊢
  clear henv HC0 hct hd hd2 HCUT HV HSZ hmx hsb hs
  go_enter Tryz.func58, Tryz.ntmps58
  go_wp2_with fail
  rw [← hw1]
  refine HCUT2.out.mono ?_
  rintro e w2 ⟨rfl, n, hw2⟩
  have HB2 := Lib.hid (show Below w.heap.size w w2 from by rw [hw2]; exact below_step HB1.out ⟨rfl, rfl, rfl, Nat.le_refl _, fun _ _ => rfl⟩ HB1.out.size)
  have HX2 := Lib.hid (show w2.heap[w.heap.size]? = some (boxF 6 0 0) from by rw [hw2]; exact HX1.out)
  have HL2 := Lib.hid (blk_lt HX2.out)
  have HE2 := Lib.hid (HEw.out.kept HB2.out)
  clear hw2 hw1 c0 f0 HCUT2
  obtain ⟨l, hl⟩ : ∃ l, l = Go.Cph.Tx.part H := ⟨_, rfl⟩
  obtain ⟨m, hm⟩ : ∃ m, m = Go.Cph.Tx.part T := ⟨_, rfl⟩
  obtain ⟨eH, heH⟩ : ∃ eH, (ofBs H).toList.isEmpty = eH := ⟨_, rfl⟩
  obtain ⟨eT, heT⟩ : ∃ eT, (ofBs T).toList.isEmpty = eT := ⟨_, rfl⟩
  have HLQ := Lib.hid (show (eH = true → l = []) ∧ (eH = false → l = splitC 58 H) from by rw [hl]; exact part_case heH)
  have HMQ := Lib.hid (show (eT = true → m = []) ∧ (eT = false → m = splitC 58 T) from by rw [hm]; exact part_case heT)
  have HSL := Lib.hid (show (∀ x ∈ l, x.length ≤ 1000000) ∧ l.length ≤ 1000001 from ⟨fun x hx => Nat.le_trans (part_small H x (by rw [← hl]; exact hx)) HH.out, by have := part_len H; rw [← hl] at this; have := HH.out; omega⟩)
  have HSM := Lib.hid (show (∀ x ∈ m, x.length ≤ 1000000) ∧ m.length ≤ 1000001 from ⟨fun x hx => Nat.le_trans (part_small T x (by rw [← hm]; exact hx)) HT.out, by have := part_len T; rw [← hm] at this; have := HT.out; omega⟩)
  have HEH := Lib.hid heH
  have HET := Lib.hid heT
  rw [← hl, ← hm] at HV1
  clear hl hm heH heT
  go_upto_if 21 with (fail)
  rw [HEH.out]
  go_cut [7] (fun s7 wx => wx.ownsRow w2.heap.size TS 1 s7 l.length (strV l) ∧ Below w2.heap.size w2 wx)
  case first =>
    cases eH
    · have hls := HLQ.out.2 rfl
      go_wp2_with fail
      refine (split_owns 58 H _ HE2.out HH.out).mono ?_
      rintro e w3 ⟨v, rfl, ho, hb⟩
      rw [← hls] at ho
      have HO := Lib.hid ho
      have HB := Lib.hid hb
      clear ho hb hls
      go_wp2_with fail
      go_meet
      case rel => exact ⟨HO.out, HB.out⟩
    · have hls := HLQ.out.1 rfl
      have HLS := Lib.hid hls
      clear hls
      go_wp2_with fail
      go_meet
      case rel => rw [HLS.out]; exact ⟨World.ownsRow_nil _ _ _ _, Below.refl _ _⟩
  case rest =>
    obtain ⟨w3, hw3⟩ : ∃ w3, w3 = wc := ⟨_, rfl⟩
    subst hw3
    obtain ⟨v7, hv7⟩ : ∃ v7, v7 = u7 := ⟨_, rfl⟩
    subst hv7
    have HO7 := Lib.hid hcut.1
    have HBB := Lib.hid hcut.2
    have HE3 := Lib.hid (HE2.out.kept (HBB.out))
    obtain ⟨a7, c7, hv⟩ := owns_slice1 hcut.1
    subst hv
    clear hcut
    go_upto_if 25 with (fail)
    rw [HET.out]
    go_cut [8] (fun s8 wx => wx.ownsRow w3.heap.size TS 1 s8 m.length (strV m) ∧ Below w3.heap.size w3 wx)
    case first =>
      cases eT
      · have hms := HMQ.out.2 rfl
        go_wp2_with fail
        refine (split_owns 58 T _ HE3.out HT.out).mono ?_
        rintro e w4 ⟨v, rfl, ho, hb⟩
        rw [← hms] at ho
        have HO := Lib.hid ho
        have HB := Lib.hid hb
        clear ho hb hms
        go_wp2_with fail
        go_meet
        case rel => exact ⟨HO.out, HB.out⟩
      · have hms := HMQ.out.1 rfl
        have HMS := Lib.hid hms
        clear hms
        go_wp2_with fail
        go_meet
        case rel => rw [HMS.out]; exact ⟨World.ownsRow_nil _ _ _ _, Below.refl _ _⟩
    case rest =>
      obtain ⟨w4, hw4⟩ : ∃ w4, w4 = wc := ⟨_, rfl⟩
      subst hw4
      obtain ⟨v8, hv8⟩ : ∃ v8, v8 = u8 := ⟨_, rfl⟩
      subst hv8
      have HO8 := Lib.hid hcut.1
      have HB4 := Lib.hid (below_step HBB.out hcut.2 HBB.out.size)
      have HO74 := Lib.hid (row_kept1 HO7.out fun q hq => hcut.2.block q (HO7.out.lt q hq).2)
      have HNQ := Lib.hid (show ∀ q, (Value.slice a7 l.length c7).ownBlock = some q → v8.ownBlock ≠ some q from fun q hq h8 => by
        have h1 := (HO7.out.lt q hq).2
        have h2 := (HO8.out.lt q h8).1
        omega)
      obtain ⟨a8, c8, hv⟩ := owns_slice1 hcut.1
      subst hv
      clear hcut
      obtain ⟨la, hla⟩ : ∃ la, la = l.length := ⟨_, rfl⟩
      obtain ⟨lb, hlb⟩ : ∃ lb, lb = m.length := ⟨_, rfl⟩
      have HLA := Lib.hid hla
      have HLB := Lib.hid hlb
      rw [← hla] at HO74 HSL HNQ ⊢
      rw [← hlb] at HO8 HSM HNQ ⊢
      have hla2 := HSL.out.2
      have hlb2 := HSM.out.2
      clear hla hlb HO7
      have k1 : IntKind.i64.wrap ((la : Int) + (lb : Int)) = ((la + lb : Nat) : Int) := by rw [IntKind.wrap_i64]; omega
      have HBW := Lib.hid (below_step HB2.out HB4.out HB2.out.size)
      have HX4 := Lib.hid (blk_below HB4.out HX2.out HL2.out)
      have HFAIL := Lib.hid (show (8 < la + lb ∨ (fd = false ∧ la ≠ 8)) → loose6 s = none from fun h => by rw [HV1.out]; unfold loose6c; rw [← HLA.out, ← HLB.out, if_pos h])
      have c0 : w4.cell? ⟨w.heap.size, 0, none⟩ = some (.int .u8 6) := by rw [blk_cell HX4.out]; rfl
      have c1 : w4.cell? ⟨w.heap.size, 1, none⟩ = some (.int .u64 0) := by rw [blk_cell HX4.out]; rfl
      have c2 : w4.cell? ⟨w.heap.size, 2, none⟩ = some (.int .u64 0) := by rw [blk_cell HX4.out]; rfl
      have f0 : w4.frozen? ⟨w.heap.size, 0, none⟩ = false := by rw [blk_frozen HX4.out]; rfl
      have f1 : w4.frozen? ⟨w.heap.size, 1, none⟩ = false := by rw [blk_frozen HX4.out]; rfl
      have f2 : w4.frozen? ⟨w.heap.size, 2, none⟩ = false := by rw [blk_frozen HX4.out]; rfl
      by_cases h8 : 8 < la + lb
      · have h8i : (8 : Int) < ((la + lb : Nat) : Int) := by omega
        have HN := Lib.hid (HFAIL.out (.inl h8))
        go_wp2_with fail
        exact bodyPost_ret (v := .tuple #[.agg #[.int .u8 0, .int .u64 0, .int .u64 0], .bool false]) (by simp [results, Tryz.results58, go_sem, c0, c1, c2]) rfl ⟨by rw [HN.out]; rfl, below_set3 HBW.out _ _ _⟩
      · have h8i : ¬ (8 : Int) < ((la + lb : Nat) : Int) := by omega
        by_cases hf : fd = false ∧ la ≠ 8
        · obtain ⟨hf1, hf2⟩ := hf
          have hf2i : ((la : Int) != 8) = true := by simp; omega
          have HN := Lib.hid (HFAIL.out (.inr ⟨hf1, hf2⟩))
          subst hf1
          go_wp2_with fail
          exact bodyPost_ret (v := .tuple #[.agg #[.int .u8 0, .int .u64 0, .int .u64 0], .bool false]) (by simp [results, Tryz.results58, go_sem, c0, c1, c2]) rfl ⟨by rw [HN.out]; rfl, below_set3 HBW.out _ _ _⟩
        · have h8' : la + lb ≤ 8 := by omega
          have HOK := Lib.hid (show loose6 s = ((l ++ List.replicate (8 - (la + lb)) [48] ++ m).mapM small16).map of6 from by
            rw [HV1.out]; unfold loose6c; rw [← HLA.out, ← HLB.out, if_neg (by rintro (h | h); exact h8 h; exact hf h)])
          have HF8 := Lib.hid (show fd = true ∨ (fd = false ∧ ((la : Int) != 8) = false) from by
            cases fd
            · right
              refine ⟨rfl, ?_⟩
              have : la = 8 := by rcases Nat.lt_trichotomy la 8 with h | h | h; exact absurd ⟨rfl, by omega⟩ hf; exact h; omega
              subst this; rfl
            · exact .inl rfl)
          clear hf h8 c0 c1 c2 f0 f1 f2
          go_upto_region 8 with (fail)
          go_cut [42] (fun s wx => s = .bool false ∧ wx = w4)
          case first =>
            rcases HF8.out with hf | ⟨hf, hl8⟩
            · subst hf
              go_wp2_with fail
              go_meet
              case rel => exact ⟨by rw [decide_eq_false (by omega)], rfl⟩
            · subst hf
              go_wp2_with fail
              go_meet
              case rel => exact ⟨by rw [decide_eq_false (by omega)], rfl⟩
          case rest =>
            obtain ⟨rfl, rfl⟩ := hcut
            clear HF8 h8i k1
            go_wp2_with fail
            go_loopw [7] (fun v7 W => ∃ r, la + lb + r ≤ 8 ∧ lenOf v7 = la + r ∧ W.ownsRow w2.heap.size TS 1 v7 (la + r) (strV (l ++ List.replicate r [48])) ∧ W.ownsRow w3.heap.size TS 1 (.slice a8 lb c8) lb (strV m) ∧ (∀ q, v7.ownBlock = some q → (Value.slice a8 lb c8).ownBlock ≠ some q) ∧ Below w2.heap.size w2 W) (fun v7 _ => 8 - lenOf v7)
            case atStart => exact ⟨0, by omega, rfl, by simpa using HO74.out, HO8.out, HNQ.out, HB4.out⟩
            case round =>
              obtain ⟨r, hr, hlen, ho7, ho8, hnq, hb⟩ := hrel
              obtain ⟨A7, C7, hv⟩ := owns_slice1 ho7
              subst hv
              have HO7 := Lib.hid ho7
              have HP8 := Lib.hid ho8
              have HNr := Lib.hid hnq
              have HBr := Lib.hid hb
              have hz := hb.size
              clear ho7 ho8 hnq hb hlen
              obtain ⟨x, hx⟩ : ∃ x, x = la + r := ⟨_, rfl⟩
              have HXX := Lib.hid hx
              rw [← hx] at HO7 HNr
              have k1 : IntKind.i64.wrap ((x : Int) + (lb : Int)) = ((x + lb : Nat) : Int) := by rw [IntKind.wrap_i64]; omega
              have hrx : x + lb ≤ 8 := by omega
              rw [← hx]
              clear hx hr
              by_cases hx8 : x + lb < 8
              · have hx8i : (x : Int) + (lb : Int) < 8 := by omega
                go_wp2_with (at_builtin; refine wpList_append_seg rfl (.tmp 50) (.tmp 51) 102 rfl w2.heap.size TS _ 1 16 Tryz.underlying102 infoS rfl (by decide) _ x _ rfl (HO7.out.alloc _) _ 1 [.string (ofBs [48])] rfl (lit_seg wr _) (by simp [Value.oneCell']) (by omega) (by decide) (by rw [World.size_alloc]; omega) ?_; intro v9 w9 ho9 hg9 hb9; obtain ⟨o9, c9, hv9⟩ := owns_slice1 ho9; subst hv9; have HO9 := Lib.hid ho9; have HG9 := Lib.hid hg9; have HB9 := Lib.hid hb9; clear ho9 hg9 hb9)
                go_roundw
                case rel =>
                  have hal : Below w2.heap.size w2 (wr.alloc (.cells #[.string (ofBs [48])] TS)) := HBr.out.alloc hz _
                  have hsz9 : (wr.alloc (.cells #[.string (ofBs [48])] TS)).heap.size = wr.heap.size + 1 := World.size_alloc ..
                  refine ⟨r + 1, by have := HXX.out; omega, by show x + 1 = la + (r + 1); have := HXX.out; omega, ?_, ?_, ?_, below_grown hal HG9.out (HO7.out.alloc _) (Nat.le_refl _) (by rw [World.size_alloc]; omega)⟩
                  · rw [strV_snoc, show la + (r + 1) = x + 1 by have := HXX.out; omega]; exact HO9.out
                  · refine row_kept1 (HP8.out.alloc _) fun q hq => HG9.out.block q (by rw [World.size_alloc]; have := (HP8.out.lt q hq).2; omega) fun e => HNr.out q e.symm hq
                  · intro q hq hq8
                    rcases HB9.out with h | h
                    · rw [h] at hq; exact HNr.out q hq hq8
                    · rw [h] at hq
                      have := (HP8.out.lt q hq8).2
                      have e := Option.some.inj hq
                      rw [World.size_alloc] at e; omega
                case measure =>
                  show 8 - (x + 1) < 8 - x
                  omega
              · have hx8i : ¬ (x : Int) + (lb : Int) < 8 := by omega
                have hx8e : x + lb = 8 := by omega
                obtain ⟨ws, hws⟩ : ∃ ws, ws = l ++ List.replicate r [48] ++ m := ⟨_, rfl⟩
                have hwl : ws.length = 8 := by rw [hws, List.length_append, List.length_append, List.length_replicate, ← HLA.out, ← HLB.out]; have := HXX.out; omega
                have HSW := Lib.hid (show strV (l ++ List.replicate r [48]) ++ strV m = strV ws ∧ x + lb = ws.length from ⟨by rw [hws]; simp [strV], by omega⟩)
                have HWL := Lib.hid hwl
                have HOKW := Lib.hid (show loose6 s = (ws.mapM small16).map of6 from by rw [HOK.out, hws, show 8 - (la + lb) = r by have := HXX.out; omega])
                have HWS := Lib.hid (show ∀ z ∈ ws, z.length ≤ 1000000 from fun z hz => by
                  rw [hws, List.mem_append, List.mem_append] at hz
                  rcases hz with (hz | hz) | hz
                  · exact HSL.out.1 z hz
                  · rw [List.eq_of_mem_replicate hz]; decide
                  · exact HSM.out.1 z hz)
                clear hws hwl
                go_wp2_with (at_builtin; refine wpList_append_seg rfl (.tmp 53) (.tmp 54) 102 rfl w2.heap.size TS _ 1 16 Tryz.underlying102 infoS rfl (by decide) _ x _ rfl HO7.out _ lb _ rfl (Seg.of_owns HP8.out) (strV_one m) (by omega) (by decide) hz ?_; intro v9 w9 ho9 hg9 hb9; rw [HSW.out.1, HSW.out.2] at ho9; obtain ⟨g9, c9, hv9, hgb, hgl, hcl⟩ := owns_strs ho9 (by rw [HWL.out]; omega); subst hv9; rw [HWL.out]; have HCL := Lib.hid hcl; have HGB := Lib.hid hgb; have HGL := Lib.hid hgl; have HB9 := Lib.hid (below_grown HBr.out hg9 HO7.out (Nat.le_refl _) hz); clear ho9 hg9 hb9 hgb hgl hcl)
                clear HXX HO7 HP8 HNr HOK HLA HLB HSL HSM
                go_loopw [57] (fun v57 W => ∃ (k : Nat) (vals : List Nat), k ≤ 8 ∧ v57 = .int .i64 (k : Int) ∧ Hid ((ws.take k).mapM small16 = some vals) ∧ (∃ hi lo : Nat, W.heap[w.heap.size]? = some (boxF 6 hi lo) ∧ hi * 18446744073709551616 + lo = natV 65536 vals ∧ lo < 18446744073709551616) ∧ (∀ j x, ws[j]? = some x → W.cell? ⟨g9, j, none⟩ = some (.string (ofBs x))) ∧ Below w.heap.size w W ∧ g9 < W.heap.size) (fun v57 _ => (8 - intOf v57).toNat)
                case atStart => exact ⟨0, [], Nat.zero_le _, rfl, Lib.hid rfl, ⟨0, 0, blk_below HB9.out HX2.out HL2.out, rfl, by omega⟩, HCL.out, below_step HB2.out HB9.out HB2.out.size, HGL.out⟩
                case round =>
                  obtain ⟨k, vals, hk, rfl, HM, ⟨hi, lo, hbox, hval, hlo⟩, hcl, hb, hgl⟩ := hrel
                  have HX := Lib.hid hbox
                  have HC := Lib.hid hcl
                  have HB := Lib.hid hb
                  have HE := Lib.hid (HEw.out.kept hb)
                  have HVAL := Lib.hid hval
                  have HLO := Lib.hid hlo
                  have HGLr := Lib.hid hgl
                  have HMA := Lib.hid (mapM_some (P := fun n => n ≤ 65535) (fun _ _ => small16_le) HM.out)
                  have HNG := Lib.hid (show g9 ≠ w.heap.size from by have := HGB.out; have := HL2.out; omega)
                  clear hbox hcl hb hval hlo hgl
                  by_cases hk8 : k < 8
                  · have hki : (k : Int) < 8 := by omega
                    have hkl : k < ws.length := by rw [HWL.out]; exact hk8
                    obtain ⟨z, hz⟩ : ∃ z, z = ws[k] := ⟨_, rfl⟩
                    have hzg : ws[k]? = some z := by rw [List.getElem?_eq_getElem hkl, hz]
                    have hcell := HC.out k z hzg
                    have HZG := Lib.hid hzg
                    have HZS := Lib.hid (HWS.out z (by rw [hz]; exact List.getElem_mem _))
                    have k1 : IntKind.i64.wrap ((k : Int) + 1) = ((k + 1 : Nat) : Int) := by rw [IntKind.wrap_i64]; omega
                    have HSml := Lib.hid (fun W he => small_16 (ofBs z) (by rw [ofBs_size]; have := HZS.out; omega) W he)
                    obtain ⟨r, hr0⟩ : ∃ r, r = small16 z := ⟨_, rfl⟩
                    have HR := Lib.hid hr0.symm
                    rw [show (ofBs z).data.toList = z from rfl, ← hr0] at HSml
                    have HLEN := Lib.hid (show vals.length = k from by have := HMA.out.1; rw [List.length_take, HWL.out] at this; omega)
                    have HHI := Lib.hid (show hi < 281474976710656 from by
                      have h1 := natV_lt 65536 (by omega) vals (fun x hx => by have := HMA.out.2 x hx; omega)
                      rw [HLEN.out] at h1
                      have h2 : 65536 ^ k ≤ 65536 ^ 7 := Nat.pow_le_pow_right (by omega) (by omega)
                      have := HVAL.out
                      omega)
                    clear hz hzg hkl hr0
                    go_wp2_with fail
                    refine (HSml.out _ HE.out).mono ?_
                    rintro e w10 ⟨⟨u, rfl, hu⟩, hb10⟩
                    have HB10 := Lib.hid (below_step HB.out hb10 HB.out.size)
                    have HX10 := Lib.hid (blk_kept hb10 HX.out)
                    have HC10 := Lib.hid (show ∀ j x, ws[j]? = some x → w10.cell? ⟨g9, j, none⟩ = some (.string (ofBs x)) from fun j x hx => cell_kept hb10 (HC.out j x hx))
                    have HG10 := Lib.hid (Nat.lt_of_lt_of_le HGLr.out hb10.size)
                    have HU := Lib.hid hu
                    clear hb10 hu hcell
                    have c0 : w10.cell? ⟨w.heap.size, 0, none⟩ = some (.int .u8 6) := by rw [blk_cell HX10.out]; rfl
                    have c1 : w10.cell? ⟨w.heap.size, 1, none⟩ = some (.int .u64 (hi : Int)) := by rw [blk_cell HX10.out]; rfl
                    have c2 : w10.cell? ⟨w.heap.size, 2, none⟩ = some (.int .u64 (lo : Int)) := by rw [blk_cell HX10.out]; rfl
                    have f0 : w10.frozen? ⟨w.heap.size, 0, none⟩ = false := by rw [blk_frozen HX10.out]; rfl
                    have f1 : w10.frozen? ⟨w.heap.size, 1, none⟩ = false := by rw [blk_frozen HX10.out]; rfl
                    have f2 : w10.frozen? ⟨w.heap.size, 2, none⟩ = false := by rw [blk_frozen HX10.out]; rfl
                    cases r with
                    | none =>
                      have HV3 := Lib.hid (show loose6 s = none from by rw [HOKW.out, mapM_stop HZG.out HR.out]; rfl)
                      go_wp2_with fail
                      exact bodyPost_ret (v := .tuple #[.agg #[.int .u8 0, .int .u64 0, .int .u64 0], .bool false]) (by simp [results, Tryz.results58, go_sem, c0, c1, c2]) rfl ⟨by rw [HV3.out]; rfl, below_set3 HB10.out _ _ _⟩
                    | some v =>
                      have hue := HU.out v rfl
                      subst hue
                      have HNX := Lib.hid (show (ws.take (k + 1)).mapM small16 = some (vals ++ [v]) from mapM_next HZG.out HM.out HR.out)
                      obtain ⟨x1, x2, x3, x4, x5, hst⟩ := step16 hi lo v HHI.out HLO.out (small16_le HR.out)
                      have b1 := hst.b1
                      have b2 := hst.b2
                      have b3 := hst.b3
                      have b4 := hst.b4
                      have b5 := hst.b5
                      have HST := Lib.hid hst
                      clear hst
                      go_wp2_with fail
                      go_roundw
                      case rel =>
                        refine ⟨k + 1, vals ++ [v], by omega, rfl, Lib.hid HNX.out, ⟨x3, x5, ?_, ?_, HST.out.l5⟩, ?_, ?_, ?_⟩
                        · rw [blk_set (blk_set HX10.out 1 _) 2 _]; rfl
                        · rw [natV_snoc, ← HVAL.out]; exact HST.out.val
                        · intro j x hx
                          rw [← HC10.out j x hx]
                          exact World.cell?_of_block ((blk_set_other (by exact HNG.out)).trans (blk_set_other (by exact HNG.out)))
                        · exact (HB10.out.setCell (Nat.le_refl _) _).setCell (Nat.le_refl _) _
                        · simp [World.setCell]; exact HG10.out
                      case measure => simp [intOf]; omega
                  · obtain rfl : k = 8 := by omega
                    have HF := Lib.hid (show ws.take 8 = ws from List.take_of_length_le (by rw [HWL.out]; exact Nat.le_refl _))
                    have HNV := Lib.hid (show natV 65536 vals < 340282366920938463463374607431768211456 from by
                      have h1 := natV_lt 65536 (by omega) vals (fun x hx => by have := HMA.out.2 x hx; omega)
                      have h2 := HMA.out.1
                      rw [HF.out, HWL.out] at h2
                      rw [h2] at h1; omega)
                    have HV4 := Lib.hid (show encO (loose6 s) = .tuple #[.agg #[.int .u8 6, .int .u64 (hi : Int), .int .u64 (lo : Int)], .bool true] from by
                      have := HM.out
                      rw [HF.out] at this
                      rw [HOKW.out, this]
                      have h1 := HVAL.out
                      have h2 := HLO.out
                      have h3 := HNV.out
                      show Value.tuple #[.agg #[.int .u8 _, .int .u64 ((UInt64.ofNat (natV 65536 vals / 18446744073709551616)).toNat : Int), .int .u64 ((UInt64.ofNat (natV 65536 vals)).toNat : Int)], .bool true] = _
                      rw [UInt64.toNat_ofNat', UInt64.toNat_ofNat', show natV 65536 vals / 18446744073709551616 % 2 ^ 64 = hi by omega, show natV 65536 vals % 2 ^ 64 = lo by omega]; rfl)
                    have c0 : wr.cell? ⟨w.heap.size, 0, none⟩ = some (.int .u8 6) := by rw [blk_cell HX.out]; rfl
                    have c1 : wr.cell? ⟨w.heap.size, 1, none⟩ = some (.int .u64 (hi : Int)) := by rw [blk_cell HX.out]; rfl
                    have c2 : wr.cell? ⟨w.heap.size, 2, none⟩ = some (.int .u64 (lo : Int)) := by rw [blk_cell HX.out]; rfl
                    have f0 : wr.frozen? ⟨w.heap.size, 0, none⟩ = false := by rw [blk_frozen HX.out]; rfl
                    have f1 : wr.frozen? ⟨w.heap.size, 1, none⟩ = false := by rw [blk_frozen HX.out]; rfl
                    have f2 : wr.frozen? ⟨w.heap.size, 2, none⟩ = false := by rw [blk_frozen HX.out]; rfl
                    go_wp2_with fail
                    exact bodyPost_ret (v := .tuple #[.agg #[.int .u8 6, .int .u64 (hi : Int), .int .u64 (lo : Int)], .bool true]) (by simp [results, Tryz.results58, go_sem, c0, c1, c2]) rfl ⟨by rw [HV4.out], below_set3 HB.out _ _ _⟩
end Go.Proofs.Tryz.Tx

/- The address of a text, as the program reads it. -/
set_option linter.unusedVariables false
set_option linter.unusedSimpArgs false
set_option maxRecDepth 100000
namespace Go.Proofs.Tryz.Tx
open Go.RowKit Go.Cph Go.Cph.Tx
open Go.Cph.Ok (ofBs)
open Go.Cph.Px (Ad rightA bytesA zeroA)
open Go.Proofs.Tryz.Pfx (encA bcell)
open Go.Proofs.Tryz.Rows (boxZ below_set3)
theorem encO_pair (r : Option Ad) : ∃ a b, encO r = .tuple #[encA a, .bool b] ∧ ((b = true ∧ r = some a) ∨ (b = false ∧ r = none)) := by
  cases r with
  | none => exact ⟨zeroA, false, rfl, .inr ⟨rfl, rfl⟩⟩
  | some a => exact ⟨a, true, rfl, .inl ⟨rfl, rfl⟩⟩
theorem loose_pair (f : FuncId) (v : Value) (r : Option Ad) (w : World) (h : Calls Tryz.prog f #[v] w fun e w' => e = .returned (encO r) ∧ Below w.heap.size w w') :
    ∃ a b, (Calls Tryz.prog f #[v] w fun e w' => e = .returned (.tuple #[encA a, .bool b]) ∧ Below w.heap.size w w') ∧ ((b = true ∧ r = some a) ∨ (b = false ∧ r = none)) := by
  obtain ⟨a, b, h1, h2⟩ := encO_pair r
  rw [h1] at h
  exact ⟨a, b, h, h2⟩
theorem mem_index (c : UInt8) : ∀ s : Bs, decide (0 ≤ Lib.indexByte s c) = decide (c ∈ s) := by
  intro s
  induction s with
  | nil => rfl
  | cons b r ih =>
    unfold Lib.indexByte
    by_cases h : b = c
    · subst h
      rw [if_pos (by simp)]; simp
    · rw [if_neg (by simpa using h)]
      have hge := Lib.indexByte_ge r c
      by_cases h2 : Lib.indexByte r c = -1
      · rw [if_pos (by simp [h2])]
        rw [h2] at ih
        have : c ∉ r := by simpa using ih
        simp [this]; exact fun e => h e.symm
      · rw [if_neg (by simpa using h2)]
        have : c ∈ r := by
          have h3 : (0 : Int) ≤ Lib.indexByte r c := by omega
          rw [decide_eq_true h3] at ih
          exact (of_decide_eq_true ih.symm)
        rw [decide_eq_true (by omega)]
        simp [this]
theorem contains_any (s : Bs) (w : World) : Calls Tryz.prog 57 #[.string (ofBs s), .string ⟨#[58]⟩] w fun e w' => e = .returned (.bool (decide ((58 : UInt8) ∈ s))) ∧ w' = w := by
  have := Tryz.strings_Contains_one (ofBs s) 58 w
  rw [mem_index] at this
  exact this
def encE (r : Option Ad) : Value := match r with
  | some a => .tuple #[encA a, .int .i64 0]
  | none => .tuple #[.agg #[.int .u8 0, .int .u64 0, .int .u64 0], .int .i64 8]
theorem str_eq (a b : Bs) : ((ofBs a).toList == (ofBs b).toList) = decide (a = b) := by
  rw [ByteArray.toList_eq, ByteArray.toList_eq]
  show (a == b) = _
  by_cases h : a = b
  · simp [h]
  · simp [h]
set_option maxHeartbeats 6400000 in
theorem parse_any (s : Bs) (hs : s.length ≤ 1000000) (w : World) (henv : Env w) : Calls Tryz.prog 36 #[.string (ofBs s)] w fun e w' => e = .returned (encE (progParse s)) ∧ Below w.heap.size w w' := by
  have HB1 := Lib.hid (show Below w.heap.size w (w.alloc boxZ) from (Below.refl _ _).alloc (Nat.le_refl _) _)
  have HX1 := Lib.hid (heap_alloc_new w boxZ)
  have HE1 := Lib.hid (henv.kept HB1.out)
  have HL1 := Lib.hid (blk_lt HX1.out)
  obtain ⟨a4, b4, hc4, hr4⟩ := loose_pair _ _ _ _ (parse4 (ofBs s) (by rw [ofBs_size]; exact hs) (w.alloc boxZ) HE1.out)
  have HC4 := Lib.hid hc4
  have HR4 := Lib.hid (show (b4 = true ∧ loose4 s = some a4) ∨ (b4 = false ∧ loose4 s = none) from hr4)
  have HP6 := Lib.hid (fun W he => loose_pair _ _ _ _ (parse6 s hs W he))
  have HCO := Lib.hid (contains_any s)
  have HTX := Lib.hid (fun a W he => text_any a W he)
  have HPV := Lib.hid (show progParse s = (loose s).bind fun a => if textA a = s then some a else none from rfl)
  have HLV := Lib.hid (show loose s = if (58 : UInt8) ∈ s then loose6 s else loose4 s from rfl)
  have HSE := Lib.hid (fun a => str_eq (textA a) s)
  have HEw := Lib.hid henv
  obtain ⟨sb, hsb⟩ : ∃ sb, sb = ofBs s := ⟨_, rfl⟩
  rw [← hsb] at HC4 HP6 HCO HSE ⊢
  clear henv hc4 hr4 hs hsb
  obtain ⟨f4, x4, y4⟩ := a4
  go_enter Tryz.func36, Tryz.ntmps36
  go_wp2_with (go_at_call 56; refine HC4.out.mono ?_; rintro e w2 ⟨rfl, hb2⟩; have HB2 := Lib.hid (below_step HB1.out hb2 HB1.out.size); have HX2 := Lib.hid (blk_kept hb2 HX1.out); clear hb2)
  have HB3 := Lib.hid (show Below w.heap.size w (w2.alloc (boxA (f4, x4, y4))) from HB2.out.alloc HB2.out.size _)
  have HX3 := Lib.hid (show (w2.alloc (boxA (f4, x4, y4))).heap[w.heap.size]? = some boxZ from blk_alloc HX2.out _)
  have HY3 := Lib.hid (heap_alloc_new w2 (boxA (f4, x4, y4)))
  have HE3 := Lib.hid (HEw.out.kept HB3.out)
  have HNE := Lib.hid (show w.heap.size < w2.heap.size from blk_lt HX2.out)
  obtain ⟨w3, hw3⟩ : ∃ w3, w3 = w2.alloc (boxA (f4, x4, y4)) := ⟨_, rfl⟩
  rw [← hw3] at HB3 HX3 HY3 HE3
  rw [show (w2.alloc (.cells #[.int .u8 (f4.toNat : Int), .int .u64 (x4.toNat : Int), .int .u64 (y4.toNat : Int)] 24)) = w3 from hw3.symm]
  obtain ⟨g, hg⟩ : ∃ g, g = w2.heap.size := ⟨_, rfl⟩
  rw [← hg] at HY3 HNE ⊢
  clear hw3 hg HX2 HB2 HE1 HX1 HB1 HL1 HC4
  obtain ⟨cb, hcb⟩ : ∃ cb, cb = decide ((58 : UInt8) ∈ s) := ⟨_, rfl⟩
  have HCB := Lib.hid hcb
  rw [← hcb] at HCO
  clear hcb
  refine (HCO.out _).mono ?_
  rintro e w4 ⟨rfl, hw4⟩
  subst hw4
  go_upto_if 12 with (fail)
  go_cut [5] (fun s5 wx => ∃ (a : Ad) (b : Bool), s5 = .bool b ∧ ((b = true ∧ loose s = some a) ∨ (b = false ∧ loose s = none)) ∧ wx.heap[g]? = some (boxA a) ∧ Below w.heap.size w wx ∧ wx.heap[w.heap.size]? = some boxZ)
  case first =>
    cases cb
    · have HL := Lib.hid (show loose s = loose4 s from by rw [HLV.out, if_neg (by simpa using HCB.out)])
      go_wp2_with fail
      go_meet
      case rel => exact ⟨(f4, x4, y4), b4, rfl, by rw [HL.out]; exact HR4.out, HY3.out, HB3.out, HX3.out⟩
    · have HL := Lib.hid (show loose s = loose6 s from by rw [HLV.out, if_pos (by simpa using HCB.out)])
      obtain ⟨⟨f6, x6, y6⟩, b6, hc6, hr6⟩ := HP6.out w4 HE3.out
      have HC6 := Lib.hid hc6
      have HR6 := Lib.hid hr6
      clear hc6 hr6
      go_wp2_with fail
      refine HC6.out.mono ?_
      rintro e w5 ⟨rfl, hb5⟩
      have HB5 := Lib.hid (below_step HB3.out hb5 HB3.out.size)
      have HX5 := Lib.hid (blk_kept hb5 HX3.out)
      have HY5 := Lib.hid (blk_kept hb5 HY3.out)
      clear hb5
      have c0 : w5.cell? ⟨g, 0, none⟩ = some (.int .u8 (f4.toNat : Int)) := by rw [blk_cell HY5.out]; rfl
      have c1 : w5.cell? ⟨g, 1, none⟩ = some (.int .u64 (x4.toNat : Int)) := by rw [blk_cell HY5.out]; rfl
      have c2 : w5.cell? ⟨g, 2, none⟩ = some (.int .u64 (y4.toNat : Int)) := by rw [blk_cell HY5.out]; rfl
      have f0 : w5.frozen? ⟨g, 0, none⟩ = false := by rw [blk_frozen HY5.out]; rfl
      have f1 : w5.frozen? ⟨g, 1, none⟩ = false := by rw [blk_frozen HY5.out]; rfl
      have f2 : w5.frozen? ⟨g, 2, none⟩ = false := by rw [blk_frozen HY5.out]; rfl
      go_wp2_with fail
      go_meet
      case rel =>
        refine ⟨(f6, x6, y6), b6, rfl, by rw [HL.out]; exact HR6.out, ?_, ?_, ?_⟩
        · rw [blk_set (blk_set (blk_set HY5.out 0 _) 1 _) 2 _]; rfl
        · exact ((HB5.out.setCell (Nat.le_of_lt HNE.out) _).setCell (Nat.le_of_lt HNE.out) _).setCell (Nat.le_of_lt HNE.out) _
        · have hne : w.heap.size ≠ g := by have := HNE.out; omega
          exact ((blk_set_other hne).trans ((blk_set_other hne).trans (blk_set_other hne))).trans HX5.out
  case rest =>
    obtain ⟨⟨f, x, y⟩, b, rfl, hr, hy, hb, hx⟩ := hcut
    have HR := Lib.hid hr
    have HY := Lib.hid hy
    have HB := Lib.hid hb
    have HX := Lib.hid hx
    have HE := Lib.hid (HEw.out.kept hb)
    have d0 : wc.cell? ⟨g, 0, none⟩ = some (.int .u8 (f.toNat : Int)) := by rw [blk_cell hy]; rfl
    have d1 : wc.cell? ⟨g, 1, none⟩ = some (.int .u64 (x.toNat : Int)) := by rw [blk_cell hy]; rfl
    have d2 : wc.cell? ⟨g, 2, none⟩ = some (.int .u64 (y.toNat : Int)) := by rw [blk_cell hy]; rfl
    have HTX2 := Lib.hid (HTX.out (f, x, y) wc HE.out)
    clear hr hy hb hx
    cases b
    · have HN := Lib.hid (show progParse s = none from by
        rcases HR.out with h | h
        · cases h.1
        · rw [HPV.out, h.2]; rfl)
      have c0 : wc.cell? ⟨w.heap.size, 0, none⟩ = some (.int .u8 0) := by rw [blk_cell HX.out]; rfl
      have c1 : wc.cell? ⟨w.heap.size, 1, none⟩ = some (.int .u64 0) := by rw [blk_cell HX.out]; rfl
      have c2 : wc.cell? ⟨w.heap.size, 2, none⟩ = some (.int .u64 0) := by rw [blk_cell HX.out]; rfl
      have f0 : wc.frozen? ⟨w.heap.size, 0, none⟩ = false := by rw [blk_frozen HX.out]; rfl
      have f1 : wc.frozen? ⟨w.heap.size, 1, none⟩ = false := by rw [blk_frozen HX.out]; rfl
      have f2 : wc.frozen? ⟨w.heap.size, 2, none⟩ = false := by rw [blk_frozen HX.out]; rfl
      go_wp2_with fail
      exact bodyPost_ret (v := .tuple #[.agg #[.int .u8 0, .int .u64 0, .int .u64 0], .int .i64 8]) (by simp [results, Tryz.results36, go_sem, c0, c1, c2]) rfl ⟨by rw [HN.out]; rfl, below_set3 HB.out _ _ _⟩
    · have HLS := Lib.hid (show loose s = some (f, x, y) from by
        rcases HR.out with h | h
        · exact h.2
        · cases h.1)
      have HSE2 := Lib.hid (HSE.out (f, x, y))
      obtain ⟨eq, heq⟩ : ∃ eq, eq = decide (textA (f, x, y) = s) := ⟨_, rfl⟩
      have HEQ := Lib.hid heq
      rw [← heq] at HSE2
      obtain ⟨tx, htx⟩ : ∃ tx, tx = ofBs (textA (f, x, y)) := ⟨_, rfl⟩
      rw [← htx] at HSE2 HTX2
      clear heq htx
      go_wp2_with fail
      refine HTX2.out.mono ?_
      rintro e w6 ⟨rfl, hb6⟩
      have HB6 := Lib.hid (below_step HB.out hb6 HB.out.size)
      have HX6 := Lib.hid (blk_kept hb6 HX.out)
      have HY6 := Lib.hid (blk_kept hb6 HY.out)
      clear hb6 d0 d1 d2
      have d0 : w6.cell? ⟨g, 0, none⟩ = some (.int .u8 (f.toNat : Int)) := by rw [blk_cell HY6.out]; rfl
      have d1 : w6.cell? ⟨g, 1, none⟩ = some (.int .u64 (x.toNat : Int)) := by rw [blk_cell HY6.out]; rfl
      have d2 : w6.cell? ⟨g, 2, none⟩ = some (.int .u64 (y.toNat : Int)) := by rw [blk_cell HY6.out]; rfl
      have c0 : w6.cell? ⟨w.heap.size, 0, none⟩ = some (.int .u8 0) := by rw [blk_cell HX6.out]; rfl
      have c1 : w6.cell? ⟨w.heap.size, 1, none⟩ = some (.int .u64 0) := by rw [blk_cell HX6.out]; rfl
      have c2 : w6.cell? ⟨w.heap.size, 2, none⟩ = some (.int .u64 0) := by rw [blk_cell HX6.out]; rfl
      have f0 : w6.frozen? ⟨w.heap.size, 0, none⟩ = false := by rw [blk_frozen HX6.out]; rfl
      have f1 : w6.frozen? ⟨w.heap.size, 1, none⟩ = false := by rw [blk_frozen HX6.out]; rfl
      have f2 : w6.frozen? ⟨w.heap.size, 2, none⟩ = false := by rw [blk_frozen HX6.out]; rfl
      have hse := HSE2.out
      cases eq
      · have HN := Lib.hid (show progParse s = none from by rw [HPV.out, HLS.out]; show (if textA (f, x, y) = s then _ else _) = _; rw [if_neg (of_decide_eq_false HEQ.out.symm)])
        have hse2 : (tx.toList != sb.toList) = true := by rw [bne, hse]; rfl
        go_wp2_with fail
        exact bodyPost_ret (v := .tuple #[.agg #[.int .u8 0, .int .u64 0, .int .u64 0], .int .i64 8]) (by simp [results, Tryz.results36, go_sem, c0, c1, c2]) rfl ⟨by rw [HN.out]; rfl, below_set3 HB6.out _ _ _⟩
      · have HN := Lib.hid (show progParse s = some (f, x, y) from by rw [HPV.out, HLS.out]; show (if textA (f, x, y) = s then _ else _) = _; rw [if_pos (of_decide_eq_true HEQ.out.symm)])
        have hse2 : (tx.toList != sb.toList) = false := by rw [bne, hse]; rfl
        go_wp2_with fail
        exact bodyPost_ret (v := .tuple #[.agg #[.int .u8 (f.toNat : Int), .int .u64 (x.toNat : Int), .int .u64 (y.toNat : Int)], .int .i64 0]) (by simp [results, Tryz.results36, go_sem, c0, c1, c2]) rfl ⟨by rw [HN.out]; rfl, below_set3 HB6.out _ _ _⟩
end Go.Proofs.Tryz.Tx
