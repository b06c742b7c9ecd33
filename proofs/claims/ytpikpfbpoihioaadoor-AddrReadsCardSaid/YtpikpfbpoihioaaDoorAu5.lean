/- Reading a text of V4, loosely. -/
import Derived.Test.YtpikpfbpoihioaaDoorAu4
import Derived.Test.YtpikpfbpoihioaaDoorAa1
set_option linter.unusedVariables false
set_option linter.unusedSimpArgs false
set_option maxRecDepth 100000
namespace Go.Proofs.Tryd.Tx
open Go.RowKit Go.Cph Go.Cph.Tx
open Go.Cph.Ok (ofBs)
open Go.Cph.Px (Ad rightA bytesA)
open Go.Proofs.Tryd.Pfx (encA bcell)
open Go.Proofs.Tryd.Rows (boxZ below_set3)
def encO : Option Ad → Value
  | some a => .tuple #[encA a, .bool true]
  | none => .tuple #[.agg #[.int .u8 0, .int .u64 0, .int .u64 0], .bool false]
theorem mapM_stop {α β : Type} {f : α → Option β} : ∀ {l : List α} {k : Nat} {x : α}, l[k]? = some x → f x = none → l.mapM f = none := by
  intro l
  induction l with
  | nil => intro k x h; simp at h
  | cons a l ih =>
    intro k x h hx
    rw [List.mapM_cons]
    cases k with
    | zero =>
      have : a = x := by simpa using h
      subst this
      rw [hx]; rfl
    | succ k =>
      rw [ih (by simpa using h) hx]
      cases f a <;> rfl
theorem mapM_next {α β : Type} {f : α → Option β} {l : List α} {k : Nat} {x : α} {v : List β} {u : β} (h : l[k]? = some x) (hv : (l.take k).mapM f = some v) (hu : f x = some u) : (l.take (k + 1)).mapM f = some (v ++ [u]) := by
  have hk : k < l.length := (List.getElem?_eq_some_iff.1 h).1
  rw [List.take_succ_eq_append_getElem hk, List.mapM_append, hv]
  have : l[k] = x := by rw [List.getElem?_eq_getElem hk] at h; exact Option.some.inj h
  rw [this, List.mapM_cons, hu]
  rfl
/-- What Split lays. -/
structure Pieces (c : UInt8) (s : ByteArray) (ss : List ByteArray) : Prop where
  data : ss.map (·.data.toList) = splitC c s.data.toList
  count : ss.length = Lib.countB s ⟨#[c]⟩ + 1
  small : ∀ x ∈ ss, x.size ≤ s.size
theorem split_small (c : UInt8) : ∀ s : Bs, ∀ w ∈ splitC c s, w.length ≤ s.length := by
  intro s
  induction s with
  | nil => intro w hw; simp [splitC] at hw; subst hw; exact Nat.le_refl _
  | cons b r ih =>
    intro w hw
    by_cases h : b = c
    · subst h
      rw [show splitC b (b :: r) = [] :: splitC b r from by show (if b = b then [] :: splitC b r else _) = _; rw [if_pos rfl]] at hw
      rcases List.mem_cons.1 hw with rfl | hw
      · exact Nat.zero_le _
      · have := ih w hw; rw [List.length_cons]; omega
    · cases hs : splitC c r with
      | nil => exact absurd hs (split_ne _ _)
      | cons x t =>
        rw [split_cons c h hs] at hw
        rw [hs] at ih
        rcases List.mem_cons.1 hw with rfl | hw
        · have := ih x (by simp); simp; omega
        · have := ih w (by simp [hw]); rw [List.length_cons]; omega
theorem pieces (c : UInt8) (s : ByteArray) : Pieces c s (Lib.splitB ⟨#[c]⟩ 0 (Lib.countB s ⟨#[c]⟩) s) := by
  obtain ⟨h1, h2⟩ := splitB_splitC c s
  refine ⟨h1, ?_, fun x hx => ?_⟩
  · rw [← h2, ← h1, List.length_map]
  · have hm : x.data.toList ∈ splitC c s.data.toList := by rw [← h1]; exact List.mem_map.2 ⟨x, hx, rfl⟩
    have := split_small c _ _ hm
    exact this
theorem split_any (c : UInt8) (s : ByteArray) (w : World) (henv : Env w) (hs : s.size ≤ 1000000000) :
    Calls Tryd.prog 56 #[.string s, .string ⟨#[c]⟩] w fun e w' => ∃ ss : List ByteArray, Pieces c s ss ∧ e = .returned (.slice (some ⟨w.heap.size, 0, none⟩) ss.length ss.length) ∧ w'.heap[w.heap.size]? = some (.cells (ss.map Value.string).toArray 9 (0, 0)) ∧ Below w.heap.size w w' := by
  obtain ⟨m, hm⟩ := henv.len
  refine (Tryd.strings_Split s ⟨#[c]⟩ m w (by omega) hm (Nat.le_refl 1)).mono ?_
  rintro e w' ⟨rfl, rfl⟩
  have hp := pieces c s
  exact ⟨_, hp, by rw [hp.count], heap_alloc_new w _, (Below.refl _ _).alloc (Nat.le_refl _) _⟩
theorem shl8 (n : Nat) (h : n < 16777216) : IntKind.u64.wrap ((n : Int) * 256) = ((n * 256 : Nat) : Int) := by rw [IntKind.wrap_u64]; omega
theorem or8 (n u : Nat) (h : n < 16777216) (hu : u ≤ 255) : Go.bits .or .u64 ((n : Int) * 256) (u : Int) = ((256 * n + u : Nat) : Int) := by
  rw [show (n : Int) * 256 = ((n * 256 : Nat) : Int) by simp]
  rw [u64_or_nat _ _ (by omega) (by omega)]
  congr 1
  rw [show n * 256 = n * 2 ^ 8 from rfl, Nat.mul_comm, ← Nat.two_pow_add_eq_or_of_lt (by omega)]
abbrev boxF (f : UInt8) (hi lo : Nat) : Obj := .cells #[.int .u8 (f.toNat : Int), .int .u64 (hi : Int), .int .u64 (lo : Int)] 24 (0, 0)
set_option maxHeartbeats 3200000 in
theorem parse4 (s : ByteArray) (hs : s.size ≤ 1000000) (w : World) (henv : Env w) : Calls Tryd.prog 38 #[.string s] w fun e w' => e = .returned (encO (loose4 s.data.toList)) ∧ Below w.heap.size w w' := by
  have HC0 := Lib.hid (show ∀ W, W = w.alloc boxZ → W.cell? ⟨w.heap.size, 0, none⟩ = some (.int .u8 0) ∧ W.frozen? ⟨w.heap.size, 0, none⟩ = false from fun W h => by rw [h, blk_cell (heap_alloc_new w boxZ), blk_frozen (heap_alloc_new w boxZ)]; exact ⟨rfl, rfl⟩)
  have c0 := (HC0.out _ rfl).1
  have f0 := (HC0.out _ rfl).2
  obtain ⟨w1, hw1⟩ : ∃ w1, w1 = w.alloc (.cells #[.int .u8 4, .int .u64 0, .int .u64 0] 24 (0, 0)) := ⟨_, rfl⟩
  have HB1 := Lib.hid (show Below w.heap.size w w1 from by rw [hw1]; exact (Below.refl _ _).alloc (Nat.le_refl _) _)
  have HX1 := Lib.hid (show w1.heap[w.heap.size]? = some (boxF 4 0 0) from by rw [hw1, heap_alloc_new w]; rfl)
  have HE1 := Lib.hid (henv.kept HB1.out)
  have HSP := Lib.hid (split_any 46 s w1 HE1.out (by omega))
  have HL1 := Lib.hid (show w.heap.size < w1.heap.size from blk_lt HX1.out)
  have HEw := Lib.hid henv
  clear henv HC0
  go_enter Tryd.func38, Tryd.ntmps38
  go_wp2_with fail
  rw [← hw1]
  refine HSP.out.mono ?_
  rintro e w2 ⟨ss, hp, rfl, hblk, hb⟩
  have HP := Lib.hid hp
  have HB2 := Lib.hid (below_step HB1.out hb HB1.out.size)
  have HX2 := Lib.hid (blk_kept hb HX1.out)
  have HS2 := Lib.hid hblk
  have HE2 := Lib.hid (HE1.out.kept hb)
  have HL2 := Lib.hid (show w.heap.size < w2.heap.size ∧ w1.heap.size < w2.heap.size from ⟨Nat.lt_of_lt_of_le HL1.out hb.size, blk_lt hblk⟩)
  obtain ⟨n, hn⟩ : ∃ n, n = ss.length := ⟨_, rfl⟩
  have HN := Lib.hid hn
  have HV := Lib.hid (show loose4 s.data.toList = if n = 4 then ((ss.map (·.data.toList)).mapM small10).map of4 else none from by
    unfold loose4
    rw [← hp.data, List.length_map, ← hn])
  have HSM := Lib.hid (show ∀ x ∈ ss, x.size ≤ 1000000 from fun x hx => Nat.le_trans (hp.small x hx) hs)
  obtain ⟨b, hbb⟩ : ∃ b, b = w1.heap.size := ⟨_, rfl⟩
  rw [← hbb] at HS2 HL2
  rw [← hn, ← hbb]
  have HNEQ := Lib.hid (show b ≠ w.heap.size from by have := HL1.out; omega)
  clear hp hblk hb hn c0 f0 hw1 hbb HSP
  by_cases h4 : n = 4
  · subst h4
    have HV2 := Lib.hid (show loose4 s.data.toList = ((ss.map (·.data.toList)).mapM small10).map of4 from by rw [HV.out, if_pos rfl])
    go_wp2_with fail
    go_loopw [18] (fun v18 W => ∃ (k : Nat) (vals : List Nat), k ≤ 4 ∧ v18 = .int .i64 (k : Int) ∧ Hid (((ss.map (·.data.toList)).take k).mapM small10 = some vals) ∧ W.heap[w.heap.size]? = some (boxF 4 0 (natV 256 vals)) ∧ W.heap[b]? = some (.cells (ss.map Value.string).toArray 9 (0, 0)) ∧ Below w.heap.size w W) (fun v18 _ => (4 - intOf v18).toNat)
    case atStart => exact ⟨0, [], Nat.zero_le _, rfl, Lib.hid rfl, HX2.out, HS2.out, HB2.out⟩
    case round =>
      obtain ⟨k, vals, hk, rfl, HM, hbox, hblk, hb⟩ := hrel
      have HX := Lib.hid hbox
      have HS := Lib.hid hblk
      have HB := Lib.hid hb
      have HE := Lib.hid (HEw.out.kept hb)
      have HMA := Lib.hid (mapM_some (P := fun n => n ≤ 255) (fun _ _ => small10_le) HM.out)
      by_cases hk4 : k < 4
      · have hki : (k : Int) < 4 := by omega
        have hkl : k < ss.length := by rw [← HN.out]; exact hk4
        obtain ⟨x, hx⟩ : ∃ x, x = ss[k] := ⟨_, rfl⟩
        have hxg : ss[k]? = some x := by rw [List.getElem?_eq_getElem hkl, hx]
        have hcell : wr.cell? ⟨b, k, none⟩ = some (.string x) := by
          rw [blk_cell hblk]; simp [hxg]
        have HXS := Lib.hid (HSM.out x (by rw [hx]; exact List.getElem_mem _))
        have HG := Lib.hid (show (ss.map (·.data.toList))[k]? = some x.data.toList from by rw [List.getElem?_map, hxg]; rfl)
        have k1 : IntKind.i64.wrap ((k : Int) + 1) = ((k + 1 : Nat) : Int) := by rw [IntKind.wrap_i64]; omega
        have HSml := Lib.hid (fun W he => small_10 x (by have := HXS.out; omega) W he)
        obtain ⟨r, hr0⟩ : ∃ r, r = small10 x.data.toList := ⟨_, rfl⟩
        have HR := Lib.hid hr0.symm
        rw [← hr0] at HSml
        clear hr0
        have HLEN := Lib.hid (show vals.length = k from by have := HMA.out.1; rw [List.length_take, List.length_map, ← HN.out] at this; omega)
        have HNV := Lib.hid (show natV 256 vals < 16777216 from by
          have h1 := natV_lt 256 (by omega) vals (fun x hx => by have := HMA.out.2 x hx; omega)
          rw [HLEN.out] at h1
          have h2 : 256 ^ k ≤ 256 ^ 3 := Nat.pow_le_pow_right (by omega) (by omega)
          omega)
        clear hx hxg hkl hblk hbox hb
        go_wp2_with fail
        refine (HSml.out _ HE.out).mono ?_
        rintro e w4 ⟨⟨u, rfl, hu⟩, hb4⟩
        have HB4 := Lib.hid (below_step HB.out hb4 HB.out.size)
        have HX4 := Lib.hid (blk_kept hb4 HX.out)
        have HS4 := Lib.hid (blk_kept hb4 HS.out)
        have HU := Lib.hid hu
        clear hb4 hu hcell
        obtain ⟨N, hN⟩ : ∃ N, N = natV 256 vals := ⟨_, rfl⟩
        have HNN := Lib.hid hN
        rw [← hN] at HX4 HNV
        have c0 : w4.cell? ⟨w.heap.size, 0, none⟩ = some (.int .u8 4) := by rw [blk_cell HX4.out]; rfl
        have c1 : w4.cell? ⟨w.heap.size, 1, none⟩ = some (.int .u64 0) := by rw [blk_cell HX4.out]; rfl
        have c2 : w4.cell? ⟨w.heap.size, 2, none⟩ = some (.int .u64 (N : Int)) := by rw [blk_cell HX4.out]; rfl
        have f0 : w4.frozen? ⟨w.heap.size, 0, none⟩ = false := by rw [blk_frozen HX4.out]; rfl
        have f1 : w4.frozen? ⟨w.heap.size, 1, none⟩ = false := by rw [blk_frozen HX4.out]; rfl
        have f2 : w4.frozen? ⟨w.heap.size, 2, none⟩ = false := by rw [blk_frozen HX4.out]; rfl
        clear hN
        cases r with
        | none =>
          have HV3 := Lib.hid (show loose4 s.data.toList = none from by rw [HV2.out, mapM_stop HG.out HR.out]; rfl)
          go_wp2_with fail
          exact bodyPost_ret (v := .tuple #[.agg #[.int .u8 0, .int .u64 0, .int .u64 0], .bool false]) (by simp [results, Tryd.results38, go_sem, c0, c1, c2]) rfl ⟨by rw [HV3.out]; rfl, below_set3 HB4.out _ _ _⟩
        | some v =>
          have hue := HU.out v rfl
          subst hue
          have HNX := Lib.hid (show ((ss.map (·.data.toList)).take (k + 1)).mapM small10 = some (vals ++ [v]) from mapM_next HG.out HM.out HR.out)
          have hv := small10_le HR.out
          have b1 := shl8 N HNV.out
          have B2 := Lib.hid (or8 N v HNV.out hv)
          go_wp2_with fail
          go_roundw
          case rel =>
            refine ⟨k + 1, vals ++ [v], by omega, rfl, Lib.hid HNX.out, ?_, ?_, ?_⟩
            · rw [natV_snoc, ← HNN.out, blk_set HX4.out]
              exact congrArg (fun z => some (Obj.cells #[.int .u8 4, .int .u64 0, .int .u64 z] 24 (0, 0))) B2.out
            · rw [blk_set_other (by show b ≠ w.heap.size; exact HNEQ.out)]; exact HS4.out
            · exact HB4.out.setCell (Nat.le_refl _) _
          case measure => simp [intOf]; omega
      · obtain rfl : k = 4 := by omega
        have HF := Lib.hid (show (ss.map (·.data.toList)).take 4 = ss.map (·.data.toList) from List.take_of_length_le (by rw [List.length_map, ← HN.out]; exact Nat.le_refl _))
        have HV3 := Lib.hid (show loose4 s.data.toList = some (of4 vals) from by
          have := HM.out
          rw [HF.out] at this
          rw [HV2.out, this]; rfl)
        have HNV := Lib.hid (show natV 256 vals < 18446744073709551616 from by
          have h1 := natV_lt 256 (by omega) vals (fun x hx => by have := HMA.out.2 x hx; omega)
          have h2 := HMA.out.1
          rw [HF.out, List.length_map, ← HN.out] at h2
          rw [h2] at h1; omega)
        have HV4 := Lib.hid (show encO (loose4 s.data.toList) = .tuple #[.agg #[.int .u8 4, .int .u64 0, .int .u64 (natV 256 vals : Int)], .bool true] from by
          rw [HV3.out]
          show Value.tuple #[.agg #[.int .u8 _, .int .u64 _, .int .u64 ((UInt64.ofNat (natV 256 vals)).toNat : Int)], .bool true] = _
          rw [UInt64.toNat_ofNat', Nat.mod_eq_of_lt HNV.out]; rfl)
        obtain ⟨N, hN⟩ : ∃ N, N = natV 256 vals := ⟨_, rfl⟩
        rw [← hN] at HX HV4
        clear hN hbox hblk hb
        have c0 : wr.cell? ⟨w.heap.size, 0, none⟩ = some (.int .u8 4) := by rw [blk_cell HX.out]; rfl
        have c1 : wr.cell? ⟨w.heap.size, 1, none⟩ = some (.int .u64 0) := by rw [blk_cell HX.out]; rfl
        have c2 : wr.cell? ⟨w.heap.size, 2, none⟩ = some (.int .u64 (N : Int)) := by rw [blk_cell HX.out]; rfl
        have f0 : wr.frozen? ⟨w.heap.size, 0, none⟩ = false := by rw [blk_frozen HX.out]; rfl
        have f1 : wr.frozen? ⟨w.heap.size, 1, none⟩ = false := by rw [blk_frozen HX.out]; rfl
        have f2 : wr.frozen? ⟨w.heap.size, 2, none⟩ = false := by rw [blk_frozen HX.out]; rfl
        go_wp2_with fail
        exact bodyPost_ret (v := .tuple #[.agg #[.int .u8 4, .int .u64 0, .int .u64 (N : Int)], .bool true]) (by simp [results, Tryd.results38, go_sem, c0, c1, c2]) rfl ⟨by rw [HV4.out], below_set3 HB.out _ _ _⟩
  · have h4i : ((n : Int) != 4) = true := by simp; omega
    have HV2 := Lib.hid (show loose4 s.data.toList = none from by rw [HV.out, if_neg h4])
    have c0 : w2.cell? ⟨w.heap.size, 0, none⟩ = some (.int .u8 4) := by rw [blk_cell HX2.out]; rfl
    have c1 : w2.cell? ⟨w.heap.size, 1, none⟩ = some (.int .u64 0) := by rw [blk_cell HX2.out]; rfl
    have c2 : w2.cell? ⟨w.heap.size, 2, none⟩ = some (.int .u64 0) := by rw [blk_cell HX2.out]; rfl
    have f0 : w2.frozen? ⟨w.heap.size, 0, none⟩ = false := by rw [blk_frozen HX2.out]; rfl
    have f1 : w2.frozen? ⟨w.heap.size, 1, none⟩ = false := by rw [blk_frozen HX2.out]; rfl
    have f2 : w2.frozen? ⟨w.heap.size, 2, none⟩ = false := by rw [blk_frozen HX2.out]; rfl
    go_wp2_with fail
    exact bodyPost_ret (v := .tuple #[.agg #[.int .u8 0, .int .u64 0, .int .u64 0], .bool false]) (by simp [results, Tryd.results38, go_sem, c0, c1, c2]) rfl ⟨by rw [HV2.out]; rfl, below_set3 HB2.out _ _ _⟩
end Go.Proofs.Tryd.Tx
