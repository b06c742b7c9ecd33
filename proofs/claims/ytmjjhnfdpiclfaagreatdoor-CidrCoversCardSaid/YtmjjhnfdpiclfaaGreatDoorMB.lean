/- MB: texts put together: Nu1 Nu2 Nu3 Nu4 Nr1 Nr2. -/
import Derived.Test.YtmjjhnfdpiclfaaGreatDoorProg
import Derived.Test.YtmjjhnfdpiclfaaGreatDoorMA
import Derived.Test.YtmjjhnfdpiclfaaGreatDoorShelf
import Derived.Laws.Bits64b
/- Layer num: how many bytes a number needs; its bytes put behind others. -/
set_option linter.unusedVariables false
set_option linter.unusedSimpArgs false
namespace Go.Proofs.Tryz.Nu
open Go.RowKit Go.Cph Go.Cph.Ok
abbrev T8 : TypeId := 5
abbrev TB : TypeId := 63
theorem info8 : (Tryz.prog.info? T8).map (fun i => (i.zero, i.size, i.bytes)) = some (some (.int .u8 0), 1, 1) := by kernel_rfl
theorem ret_i {a b : Int} (h : a = b) : Ending.returned (.int .i64 a) = .returned (.int .i64 b) := by rw [h]
def bitsN (n : Nat) : Int := (Lib.bitLen n : Int)
theorem bits_bd (n : Nat) (h : n < 18446744073709551616) : 0 ≤ bitsN n ∧ bitsN n ≤ 64 := by
  have := bitLen_blen h
  have := blen_8 h
  unfold bitsN; omega
abbrev byteCells (l : Bs) : List Value := Go.Lib.byteCells l
theorem byte_one (l : Bs) : ∀ u ∈ byteCells l, u.oneCell' = true := by
  intro u hu
  obtain ⟨b, -, rfl⟩ := List.mem_map.1 hu
  rfl
theorem byteCells_append (l m : Bs) : byteCells (l ++ m) = byteCells l ++ byteCells m := List.map_append
theorem byteCells_len (l : Bs) : (byteCells l).length = l.length := List.length_map ..
theorem byte_eq (n q : Nat) : ((n : Int) / 2 ^ (8 * q) % 256) = ((UInt8.ofNat (n / 256 ^ q)).toNat : Int) := by
  have e : (2 : Nat) ^ (8 * q) = 256 ^ q := by rw [Nat.pow_mul]
  have e2 : ((2 : Int) ^ (8 * q)) = ((256 ^ q : Nat) : Int) := by rw [← e]; simp
  rw [ofNat_toNat, e2]
  simp
set_option maxHeartbeats 1600000 in
theorem put_any (base : Nat) (w0 : World) (v : Value) (xs : Bs) (n : UInt64) (width : Nat) (w : World) (ho : w.ownsRow base T8 1 v xs.length (byteCells xs)) (hl : xs.length ≤ 1099511627000) (hw : width ≤ 8) (hb : Below base w0 w) (hbw : base ≤ w.heap.size) :
    Calls Tryz.prog 105 #[v, .int .u64 (n.toNat : Int), .int .i64 (width : Int)] w fun e w' => ∃ v', e = .returned v' ∧ w'.ownsRow base T8 1 v' (xs ++ be width n.toNat).length (byteCells (xs ++ be width n.toNat)) ∧ Below base w0 w' ∧ base ≤ w'.heap.size := by
  have HO := Lib.hid ho
  have HB := Lib.hid hb
  have HW := Lib.hid hbw
  have HL := Lib.hid hl
  have hn : n.toNat < 18446744073709551616 := n.toNat_lt
  have HN := Lib.hid hn
  have k0 : IntKind.i64.wrap ((width : Int) - 1) = (width : Int) - 1 := by rw [IntKind.wrap_i64]; omega
  clear ho hb hbw hl hn
  go_enter Tryz.func105, Tryz.ntmps105
  go_wp2_with fail
  go_loopw [0, 7] (fun vo vi W => ∃ (r : Nat) (ys : Bs), r ≤ width ∧ vi = .int .i64 ((r : Int) - 1) ∧ be width n.toNat = ys ++ be r n.toNat ∧ W.ownsRow base T8 1 vo (xs ++ ys).length (byteCells (xs ++ ys)) ∧ Below base w0 W ∧ base ≤ W.heap.size) (fun _ vi _ => (intOf vi + 1).toNat)
  case atStart => exact ⟨width, [], Nat.le_refl _, rfl, rfl, by simpa using HO.out, HB.out, HW.out⟩
  case round =>
    obtain ⟨r, ys, hr, hvi, hbe, ho, hb, hbw⟩ := hrel
    have HY := Lib.hid (show ys.length ≤ 8 from by have := congrArg List.length hbe; rw [be_len, List.length_append] at this; omega)
    obtain ⟨oo, oc, hov⟩ := owns_slice1 ho
    subst hov
    have HO2 := Lib.hid ho
    have HB2 := Lib.hid hb
    have HW2 := Lib.hid hbw
    have HE := Lib.hid hbe
    obtain ⟨k, hk⟩ : ∃ k, k = (xs ++ ys).length := ⟨_, rfl⟩
    have HK := Lib.hid hk
    rw [← hk] at HO2 ⊢
    have HKB := Lib.hid (show k + 1 ≤ 1099511627776 from by have h1 := HY.out; have h2 := HL.out; rw [List.length_append] at hk; omega)
    cases r with
    | zero =>
      have e0 : (((0 : Nat) : Int) - 1) = -1 := rfl
      rw [e0] at hvi
      subst hvi
      have HF := Lib.hid (show be width n.toNat = ys from by rw [hbe]; simp [be])
      clear ho hb hbw hbe hr hk
      go_wp2_with fail
      go_ret
      exact ⟨_, rfl, by rw [HF.out, ← HK.out]; exact HO2.out, HB2.out, HW2.out⟩
    | succ q =>
      have e1 : (((q + 1 : Nat) : Int) - 1) = (q : Int) := by omega
      rw [e1] at hvi
      subst hvi
      have k1 : (0 : Int) ≤ (q : Int) := by omega
      have k2 : (q : Int) ≤ 7 := by omega
      obtain ⟨c, hc⟩ : ∃ c, c = UInt8.ofNat (n.toNat / 256 ^ q) := ⟨_, rfl⟩
      have KX := byte_eq n.toNat q
      rw [← hc] at KX
      have HS := Lib.hid (show be width n.toNat = (ys ++ [c]) ++ be q n.toNat from by rw [hbe, hc, List.append_assoc]; rfl)
      have HQ := Lib.hid hr
      have k4 : IntKind.i64.wrap ((q : Int) - 1) = (q : Int) - 1 := by rw [IntKind.wrap_i64]; omega
      clear ho hb hbw hbe hk hc e1 hr
      go_wp2_with (at_builtin; refine wpList_append1 rfl (.tmp 14) (.tmp 20) TB rfl base T8 _ 1 1 Tryz.underlying63 info8 rfl (by decide) _ k (byteCells (xs ++ ys)) [.int .u8 (c.toNat : Int)] rfl HO2.out _ 1 rfl rfl rfl (by simp [Value.oneCell']) HKB.out (by decide) HW2.out base w0 HB2.out (Nat.le_refl _) ?_; intro v5 w5 ho5 hg5 hb5 hs5; have HO5 := Lib.hid ho5; have HB5 := Lib.hid hb5; have HW5 := Lib.hid (Nat.le_trans HW2.out (Nat.le_of_lt hs5)); clear ho5 hg5 hb5 hs5)
      go_roundw
      case rel => exact ⟨q, ys ++ [c], by have := HQ.out; omega, rfl, HS.out, by rw [show (xs ++ (ys ++ [c])).length = k + 1 from by rw [HK.out]; simp; omega, ← List.append_assoc, byteCells_append]; exact HO5.out, HB5.out, HW5.out⟩
      case measure => first | (simp [intOf]; done) | (simp [intOf]; omega)
end Go.Proofs.Tryz.Nu

/- Layer num: Var. -/
set_option linter.unusedVariables false
set_option linter.unusedSimpArgs false
namespace Go.Proofs.Tryz.Nu
open Go.RowKit Go.Cph Go.Cph.Ok
abbrev TS : TypeId := 9
theorem byteCells_at (l : Bs) (j : Nat) (h : j < l.length) : (byteCells l)[j]? = some (.int .u8 ((l.getD j 0).toNat : Int)) := by
  unfold byteCells Go.Lib.byteCells
  rw [List.getElem?_map, List.getElem?_eq_getElem h, List.getD_eq_getElem?_getD, List.getElem?_eq_getElem h]
  rfl
theorem str_nil (w : World) : (convert TB TS (.slice none 0 0)).run Tryz.prog w = .ok (.string ⟨#[]⟩) w := by
  kernel_rfl
theorem str_row {base : Nat} {v : Value} {bs : Bs} {w : World} (h : w.ownsRow base T8 1 v bs.length (byteCells bs)) : (convert TB TS v).run Tryz.prog w = .ok (.string ⟨bs.toArray⟩) w := by
  have hown := h
  obtain ⟨_, h2⟩ := h
  rcases h2 with ⟨rfl, h0⟩ | ⟨g, cap, cur, rfl, hb, hg, hc, _, _, _⟩
  · have : bs = [] := List.eq_nil_of_length_eq_zero h0
    subst this
    exact str_nil w
  · refine run_string_of_bytes w TB TS T8 Tryz.underlying63 Tryz.underlying5 Tryz.underlying9 g cap bs fun j hj => ?_
    rw [hown.cellAt j (by omega), byteCells_at _ _ hj]
abbrev encN (n : UInt64) : List Value := [.int .u64 (n.toNat : Int)]
abbrev NumsAt (w : World) (v : Value) (l : List UInt64) : Prop := Elems encN 1 w v l
theorem nums_cells {w : World} {v : Value} {l : List UInt64} (h : NumsAt w v l) (h0 : 0 < l.length) :
    ∃ b off cap, v = .slice (some ⟨b, off, none⟩) l.length cap ∧ ∀ i (hi : i < l.length), w.cell? ⟨b, off + i, none⟩ = some (.int .u64 (l[i].toNat : Int)) := by
  obtain ⟨b, off, cap, hv, hc⟩ := elems_shape (enc := encN) (size := 1) (fun (x : UInt64) => (rfl : (encN x).length = 1)) h h0
  exact ⟨b, off, cap, hv, fun i hi => by have := hc i hi 0 (by omega); simpa using this⟩
def rows (l : List UInt64) : Bs := l.flatMap fun n => row n.toNat
theorem rows_take (l : List UInt64) {i : Nat} (h : i < l.length) : rows (l.take (i + 1)) = rows (l.take i) ++ row l[i].toNat := by
  unfold rows
  rw [List.take_succ_eq_append_getElem h, List.flatMap_append]; simp
theorem rows_len (l : List UInt64) : (rows l).length ≤ l.length * 9 := by
  induction l with
  | nil => exact Nat.le_refl _
  | cons n l ih =>
    have h : rows (n :: l) = row n.toNat ++ rows l := rfl
    have := row_le n.toNat_lt
    rw [h, List.length_append, List.length_cons, Nat.succ_mul]; omega
theorem rows_take_len (l : List UInt64) (i : Nat) (h : l.length ≤ 1000) : (rows (l.take i)).length ≤ 9000 := by
  have h1 := rows_len (l.take i)
  have h2 := List.length_take_le i l
  have h3 : (l.take i).length ≤ l.length := by rw [List.length_take]; omega
  omega
end Go.Proofs.Tryz.Nu

/- Layer num: ReadBig, ReadVar. -/
set_option linter.unusedVariables false
set_option linter.unusedSimpArgs false
set_option maxRecDepth 100000
namespace Go.Proofs.Tryz.Nu
open Go.RowKit Go.Cph Go.Cph.Ok
theorem val_step (l : Bs) (c : UInt8) (h : l.length ≤ 7) : val l * 256 + c.toNat < 18446744073709551616 ∧ val (l ++ [c]) = val l * 256 + c.toNat := by
  have h1 := val_lt l
  have h2 : 256 ^ l.length ≤ 256 ^ 7 := Nat.pow_le_pow_right (by omega) h
  have h3 : (256 : Nat) ^ 7 = 72057594037927936 := by decide
  have := c.toNat_lt
  rw [val_snoc]
  omega
theorem or_eq (x c : Nat) (hc : c < 256) (h : x * 256 + c < 18446744073709551616) : bits .or .u64 ((x : Int) * 256) (c : Int) = ((x * 256 + c : Nat) : Int) := by
  have h1 := bits_or_u64_nat (x * 256) c (by omega) (by omega)
  have h2 : x * 256 ||| c = x * 256 + c := by
    have := Nat.shiftLeft_add_eq_or_of_lt (show c < 2 ^ 8 from hc) x
    rw [Nat.shiftLeft_eq] at this
    exact this.symm
  rw [h2] at h1
  rw [← h1]; simp
end Go.Proofs.Tryz.Nu

/- Layer num: ReadVar. -/
set_option linter.unusedVariables false
set_option linter.unusedSimpArgs false
set_option maxRecDepth 100000
namespace Go.Proofs.Tryz.Nu
open Go.RowKit Go.Cph Go.Cph.Ok
def encRV : Option (Nat × Nat) → Value
  | none => .tuple #[.int .u64 0, .int .i64 0, .bool false]
  | some (n, k) => .tuple #[.int .u64 (n : Int), .int .i64 (k : Int), .bool true]
theorem bytes_cons (s : ByteArray) (h : 0 < s.size) : s.data.toList = s[0] :: s.data.toList.drop 1 := by
  have h1 : 0 < s.data.toList.length := by rw [← Go.Lib.size_eq]; exact h
  have h2 : s[0] = s.data.toList[0] := rfl
  rw [h2, List.getElem_cons_drop]
  rfl
end Go.Proofs.Tryz.Nu

/- The document's rows of numbers: bytesOf, Row. -/
set_option linter.unusedVariables false
set_option linter.unusedSimpArgs false
set_option maxRecDepth 100000
namespace Go.Proofs.Tryz.Nu
open Go.RowKit Go.Cph Go.Cph.Ok
theorem ret_s {a b : ByteArray} (h : a = b) : Ending.returned (.string a) = .returned (.string b) := by rw [h]
/-- 'string([]byte{c})': the slice laid right ahead of it. -/
theorem run_one (w : World) (x : Int) (c : UInt8) (h : x = (c.toNat : Int)) : (convert 63 9 (.slice (some ⟨w.heap.size, 0, none⟩) 1 1)).run Tryz.prog (w.alloc (.cells #[.int .u8 x] 5)) = .ok (.string ⟨#[c]⟩) (w.alloc (.cells #[.int .u8 x] 5)) := by
  subst h
  exact run_string_of_bytes _ TB TS T8 Tryz.underlying63 Tryz.underlying5 Tryz.underlying9 w.heap.size 1 [c] fun j hj => by
    have : j = 0 := by simp at hj; omega
    subst this
    rw [blk_cell (heap_alloc_new w _)]; rfl
theorem cat_list (a b : ByteArray) : (a ++ b).data.toList = a.data.toList ++ b.data.toList := by simp
theorem cons_cat (c : UInt8) (l : Bs) : (⟨#[c]⟩ : ByteArray) ++ ofBs l = ofBs (c :: l) := by
  have h := cat_list ⟨#[c]⟩ (ofBs l)
  rw [← ofBs_data (⟨#[c]⟩ ++ ofBs l), h]; rfl
end Go.Proofs.Tryz.Nu

/- The document's rows of numbers: ReadVar. -/
set_option linter.unusedVariables false
set_option linter.unusedSimpArgs false
set_option maxRecDepth 100000
namespace Go.Proofs.Tryz.Nu
open Go.RowKit Go.Cph Go.Cph.Ok
theorem list_ne {a b : ByteArray} (h : a.data.toList ≠ b.data.toList) : ¬ a = b := fun e => h (by rw [e])
theorem list_eq {a b : ByteArray} (h : a.data.toList = b.data.toList) : a = b := by
  cases a; cases b
  congr 1
  exact Array.ext' h
end Go.Proofs.Tryz.Nu
