/- MB: texts put together: Nu1 Nu2 Nu3 Nu4 Nr1 Nr2. -/
import Derived.Test.YtccopljpceolcabDoorProg
import Derived.Test.YtccopljpceolcabDoorMA
import Derived.Test.YtccopljpceolcabDoorShelf
import Derived.Laws.Bits64b
/- Layer num: how many bytes a number needs; its bytes put behind others. -/
set_option linter.unusedVariables false
set_option linter.unusedSimpArgs false
namespace Go.Proofs.Tryd.Nu
open Go.RowKit Go.Cph Go.Cph.Ok
abbrev T8 : TypeId := 5
abbrev TB : TypeId := 91
theorem info8 : (Tryd.prog.info? T8).map (fun i => (i.zero, i.size, i.bytes)) = some (some (.int .u8 0), 1, 1) := by kernel_rfl
theorem ret_i {a b : Int} (h : a = b) : Ending.returned (.int .i64 a) = .returned (.int .i64 b) := by rw [h]
def bitsN (n : Nat) : Int := (Lib.bitLen n : Int)
theorem bits_bd (n : Nat) (h : n < 18446744073709551616) : 0 ≤ bitsN n ∧ bitsN n ≤ 64 := by
  have := bitLen_blen h
  have := blen_8 h
  unfold bitsN; omega
set_option maxHeartbeats 800000 in
theorem behind_any (n : UInt64) (w : World) : Calls Tryd.prog 53 #[.int .u64 (n.toNat : Int)] w fun e w' => e = .returned (.int .i64 (behind n.toNat : Int)) ∧ w' = w := by
  have hn : n.toNat < 18446744073709551616 := n.toNat_lt
  have hbd := bits_bd _ hn
  have HC := Lib.hid (show ∀ W, Calls Tryd.prog 67 #[.int .u64 (n.toNat : Int)] W fun e w' => e = .returned (.int .i64 (bitsN n.toNat)) ∧ w' = W from fun W => Tryd.bits_Len64 (n.toNat : Int) W (by omega) (by omega))
  by_cases hs : n.toNat < 248
  · have h1 : (n.toNat : Int) < 248 := by omega
    have he : behind n.toNat = 0 := by unfold behind; rw [if_pos hs]
    rw [he]
    clear hbd hs he
    go_enter Tryd.func53, Tryd.ntmps53
    go_wp2_with fail
    go_ret
    exact ⟨rfl, rfl⟩
  · have h1 : ¬ (n.toNat : Int) < 248 := by omega
    have he : behind n.toNat = blen n.toNat := by unfold behind; rw [if_neg hs]
    have HE := Lib.hid (show (bitsN n.toNat + 7) / 8 = (behind n.toNat : Int) from by
      rw [he, ← bitLen_blen hn]; unfold bitsN; omega)
    obtain ⟨k, hk⟩ : ∃ k, k = bitsN n.toNat := ⟨_, rfl⟩
    rw [← hk] at hbd HE HC
    have h2 := hbd.1
    have h3 := hbd.2
    clear hs hk hbd he
    go_enter Tryd.func53, Tryd.ntmps53
    go_wp2_with fail
    refine (HC.out _).mono ?_
    rintro e w1 ⟨rfl, rfl⟩
    go_wp2_with fail
    go_ret
    exact ⟨ret_i HE.out, rfl⟩
abbrev byteCells (l : Bs) : List Value := Go.Lib.byteCells l
theorem byte_one (l : Bs) : ∀ u ∈ byteCells l, u.oneCell' = true := by
  intro u hu
  obtain ⟨b, -, rfl⟩ := List.mem_map.1 hu
  rfl
theorem byteCells_append (l m : Bs) : byteCells (l ++ m) = byteCells l ++ byteCells m := List.map_append
theorem byteCells_len (l : Bs) : (byteCells l).length = l.length := List.length_map ..
theorem byte_eq (n q : Nat) : ((n : Int) / 2 ^ (8 * q) % 256) = ((UInt8.ofNat (n / 256 ^ q)).toNat : Int) := by
  have e : (2 : Nat) ^ (8 * q) = 256 ^ q := by rw [Nat.pow_mul]
  have e2 : ((2 : Int) ^ (8 * q)) = ((256 ^ q : Nat) : Int) := by rw [← e]; simp
  rw [ofNat_toNat, e2]
  simp
set_option maxHeartbeats 1600000 in
theorem put_any (base : Nat) (w0 : World) (v : Value) (xs : Bs) (n : UInt64) (width : Nat) (w : World) (ho : w.ownsRow base T8 1 v xs.length (byteCells xs)) (hl : xs.length ≤ 1099511627000) (hw : width ≤ 8) (hb : Below base w0 w) (hbw : base ≤ w.heap.size) :
    Calls Tryd.prog 54 #[v, .int .u64 (n.toNat : Int), .int .i64 (width : Int)] w fun e w' => ∃ v', e = .returned v' ∧ w'.ownsRow base T8 1 v' (xs ++ be width n.toNat).length (byteCells (xs ++ be width n.toNat)) ∧ Below base w0 w' ∧ base ≤ w'.heap.size := by
  have HO := Lib.hid ho
  have HB := Lib.hid hb
  have HW := Lib.hid hbw
  have HL := Lib.hid hl
  have hn : n.toNat < 18446744073709551616 := n.toNat_lt
  have HN := Lib.hid hn
  have k0 : IntKind.i64.wrap ((width : Int) - 1) = (width : Int) - 1 := by rw [IntKind.wrap_i64]; omega
  clear ho hb hbw hl hn
  go_enter Tryd.func54, Tryd.ntmps54
  go_wp2_with fail
  go_loopw [0, 7] (fun vo vi W => ∃ (r : Nat) (ys : Bs), r ≤ width ∧ vi = .int .i64 ((r : Int) - 1) ∧ be width n.toNat = ys ++ be r n.toNat ∧ W.ownsRow base T8 1 vo (xs ++ ys).length (byteCells (xs ++ ys)) ∧ Below base w0 W ∧ base ≤ W.heap.size) (fun _ vi _ => (intOf vi + 1).toNat)
  case atStart => exact ⟨width, [], Nat.le_refl _, rfl, rfl, by simpa using HO.out, HB.out, HW.out⟩
  case round =>
    obtain ⟨r, ys, hr, hvi, hbe, ho, hb, hbw⟩ := hrel
    have HY := Lib.hid (show ys.length ≤ 8 from by have := congrArg List.length hbe; rw [be_len, List.length_append] at this; omega)
    obtain ⟨oo, oc, hov⟩ := owns_slice1 ho
    subst hov
    have HO2 := Lib.hid ho
    have HB2 := Lib.hid hb
    have HW2 := Lib.hid hbw
    have HE := Lib.hid hbe
    obtain ⟨k, hk⟩ : ∃ k, k = (xs ++ ys).length := ⟨_, rfl⟩
    have HK := Lib.hid hk
    rw [← hk] at HO2 ⊢
    have HKB := Lib.hid (show k + 1 ≤ 1099511627776 from by have h1 := HY.out; have h2 := HL.out; rw [List.length_append] at hk; omega)
    cases r with
    | zero =>
      have e0 : (((0 : Nat) : Int) - 1) = -1 := rfl
      rw [e0] at hvi
      subst hvi
      have HF := Lib.hid (show be width n.toNat = ys from by rw [hbe]; simp [be])
      clear ho hb hbw hbe hr hk
      go_wp2_with fail
      go_ret
      exact ⟨_, rfl, by rw [HF.out, ← HK.out]; exact HO2.out, HB2.out, HW2.out⟩
    | succ q =>
      have e1 : (((q + 1 : Nat) : Int) - 1) = (q : Int) := by omega
      rw [e1] at hvi
      subst hvi
      have k1 : (0 : Int) ≤ (q : Int) := by omega
      have k2 : (q : Int) ≤ 7 := by omega
      obtain ⟨c, hc⟩ : ∃ c, c = UInt8.ofNat (n.toNat / 256 ^ q) := ⟨_, rfl⟩
      have KX := byte_eq n.toNat q
      rw [← hc] at KX
      have HS := Lib.hid (show be width n.toNat = (ys ++ [c]) ++ be q n.toNat from by rw [hbe, hc, List.append_assoc]; rfl)
      have HQ := Lib.hid hr
      have k4 : IntKind.i64.wrap ((q : Int) - 1) = (q : Int) - 1 := by rw [IntKind.wrap_i64]; omega
      clear ho hb hbw hbe hk hc e1 hr
      go_wp2_with (at_builtin; refine wpList_append1 rfl (.tmp 14) (.tmp 20) TB rfl base T8 _ 1 1 Tryd.underlying91 info8 rfl (by decide) _ k (byteCells (xs ++ ys)) [.int .u8 (c.toNat : Int)] rfl HO2.out _ 1 rfl rfl rfl (by simp [Value.oneCell']) HKB.out (by decide) HW2.out base w0 HB2.out (Nat.le_refl _) ?_; intro v5 w5 ho5 hg5 hb5 hs5; have HO5 := Lib.hid ho5; have HB5 := Lib.hid hb5; have HW5 := Lib.hid (Nat.le_trans HW2.out (Nat.le_of_lt hs5)); clear ho5 hg5 hb5 hs5)
      go_roundw
      case rel => exact ⟨q, ys ++ [c], by have := HQ.out; omega, rfl, HS.out, by rw [show (xs ++ (ys ++ [c])).length = k + 1 from by rw [HK.out]; simp; omega, ← List.append_assoc, byteCells_append]; exact HO5.out, HB5.out, HW5.out⟩
      case measure => first | (simp [intOf]; done) | (simp [intOf]; omega)
end Go.Proofs.Tryd.Nu

/- Layer num: Var. -/
set_option linter.unusedVariables false
set_option linter.unusedSimpArgs false
namespace Go.Proofs.Tryd.Nu
open Go.RowKit Go.Cph Go.Cph.Ok
abbrev TS : TypeId := 9
theorem byteCells_at (l : Bs) (j : Nat) (h : j < l.length) : (byteCells l)[j]? = some (.int .u8 ((l.getD j 0).toNat : Int)) := by
  unfold byteCells Go.Lib.byteCells
  rw [List.getElem?_map, List.getElem?_eq_getElem h, List.getD_eq_getElem?_getD, List.getElem?_eq_getElem h]
  rfl
theorem str_nil (w : World) : (convert TB TS (.slice none 0 0)).run Tryd.prog w = .ok (.string ⟨#[]⟩) w := by
  kernel_rfl
theorem str_row {base : Nat} {v : Value} {bs : Bs} {w : World} (h : w.ownsRow base T8 1 v bs.length (byteCells bs)) : (convert TB TS v).run Tryd.prog w = .ok (.string ⟨bs.toArray⟩) w := by
  have hown := h
  obtain ⟨_, h2⟩ := h
  rcases h2 with ⟨rfl, h0⟩ | ⟨g, cap, cur, rfl, hb, hg, hc, _, _, _⟩
  · have : bs = [] := List.eq_nil_of_length_eq_zero h0
    subst this
    exact str_nil w
  · refine run_string_of_bytes w TB TS T8 Tryd.underlying91 Tryd.underlying5 Tryd.underlying9 g cap bs fun j hj => ?_
    rw [hown.cellAt j (by omega), byteCells_at _ _ hj]
abbrev encN (n : UInt64) : List Value := [.int .u64 (n.toNat : Int)]
abbrev NumsAt (w : World) (v : Value) (l : List UInt64) : Prop := Elems encN 1 w v l
theorem nums_cells {w : World} {v : Value} {l : List UInt64} (h : NumsAt w v l) (h0 : 0 < l.length) :
    ∃ b off cap, v = .slice (some ⟨b, off, none⟩) l.length cap ∧ ∀ i (hi : i < l.length), w.cell? ⟨b, off + i, none⟩ = some (.int .u64 (l[i].toNat : Int)) := by
  obtain ⟨b, off, cap, hv, hc⟩ := elems_shape (enc := encN) (size := 1) (fun (x : UInt64) => (rfl : (encN x).length = 1)) h h0
  exact ⟨b, off, cap, hv, fun i hi => by have := hc i hi 0 (by omega); simpa using this⟩
def rows (l : List UInt64) : Bs := l.flatMap fun n => row n.toNat
theorem rows_take (l : List UInt64) {i : Nat} (h : i < l.length) : rows (l.take (i + 1)) = rows (l.take i) ++ row l[i].toNat := by
  unfold rows
  rw [List.take_succ_eq_append_getElem h, List.flatMap_append]; simp
theorem rows_len (l : List UInt64) : (rows l).length ≤ l.length * 9 := by
  induction l with
  | nil => exact Nat.le_refl _
  | cons n l ih =>
    have h : rows (n :: l) = row n.toNat ++ rows l := rfl
    have := row_le n.toNat_lt
    rw [h, List.length_append, List.length_cons, Nat.succ_mul]; omega
theorem rows_take_len (l : List UInt64) (i : Nat) (h : l.length ≤ 1000) : (rows (l.take i)).length ≤ 9000 := by
  have h1 := rows_len (l.take i)
  have h2 := List.length_take_le i l
  have h3 : (l.take i).length ≤ l.length := by rw [List.length_take]; omega
  omega
set_option maxRecDepth 100000 in
set_option maxHeartbeats 3200000 in
theorem var_any (v : Value) (l : List UInt64) (w : World) (h : NumsAt w v l) (hl : l.length ≤ 1000) :
    Calls Tryd.prog 36 #[v] w fun e w' => e = .returned (.string ⟨(rows l).toArray⟩) ∧ Below w.heap.size w w' := by
  obtain ⟨ao, cap, rfl⟩ := elems_slice h
  have H := Lib.hid h
  have HL := Lib.hid hl
  clear h hl
  go_enter Tryd.func36, Tryd.ntmps36
  go_wp2_with fail
  go_loopw [3, 9] (fun vb vi W => ∃ i : Nat, i ≤ l.length ∧ vi = .int .i64 i ∧ W.ownsRow w.heap.size T8 1 vb (rows (l.take i)).length (byteCells (rows (l.take i))) ∧ Below w.heap.size w W) (fun _ vi _ => l.length - (intOf vi).toNat)
  case atStart => exact ⟨0, Nat.zero_le _, rfl, World.ownsRow_nil _ _ _ _, Below.refl _ _⟩
  case round =>
    obtain ⟨i, hi, rfl, ho, hb⟩ := hrel
    have HB := Lib.hid hb
    by_cases hlt : i < l.length
    · have HLT := Lib.hid hlt
      obtain ⟨b, off, cap', hve, hcs⟩ := nums_cells H.out (by omega)
      injection hve with hx1 hx2 hx3
      subst hx1
      clear hx2 hx3
      have hc := cell_kept hb (hcs i hlt)
      obtain ⟨n, hn⟩ : ∃ n, n = l[i]'hlt := ⟨_, rfl⟩
      rw [← hn] at hc
      have HTK := Lib.hid (show rows (l.take (i + 1)) = rows (l.take i) ++ row n.toNat from by rw [hn]; exact rows_take l hlt)
      have HRL := Lib.hid (rows_take_len l i HL.out)
      obtain ⟨X, hX⟩ : ∃ X, X = rows (l.take i) := ⟨_, rfl⟩
      rw [← hX] at ho HTK HRL
      obtain ⟨oo, oc, hov⟩ := owns_slice1 ho
      obtain ⟨k, hk⟩ : ∃ k, k = X.length := ⟨_, rfl⟩
      have HK := Lib.hid hk
      rw [← hk] at ho hov
      subst hov
      have HO := Lib.hid ho
      have HKB := Lib.hid (show k + 1 ≤ 1099511627776 from by rw [hk]; have := HRL.out; omega)
      have HN := Lib.hid (show n.toNat < 18446744073709551616 from n.toNat_lt)
      have HZ := Lib.hid (show w.heap.size ≤ wr.heap.size from hb.size)
      have HBH := Lib.hid (fun W => behind_any n W)
      have k1 : (0 : Int) ≤ (i : Int) := by omega
      have k2 : (i : Int) < (l.length : Int) := by omega
      have k4 : IntKind.i64.wrap ((i : Int) + 1) = (i : Int) + 1 := by rw [IntKind.wrap_i64]; have := HL.out; omega
      clear hb hcs hn hX hk ho hi hlt
      by_cases hs : n.toNat < 248
      · have hbz : behind n.toNat = 0 := by unfold behind; rw [if_pos hs]
        rw [hbz] at HBH
        obtain ⟨c, hc8⟩ : ∃ c, c = UInt8.ofNat n.toNat := ⟨_, rfl⟩
        have kc : ((n.toNat : Int) % 256) = (c.toNat : Int) := by rw [hc8, ofNat_toNat]; omega
        have HR := Lib.hid (show row n.toNat = [c] from by unfold row; rw [if_pos hs, hc8])
        clear hs hbz hc8
        go_wp2_with fail
        refine (HBH.out _).mono ?_
        rintro e w1 ⟨rfl, rfl⟩
        go_wp2_with (at_builtin; refine wpList_append1 rfl (.tmp 26) (.tmp 29) TB rfl w.heap.size T8 _ 1 1 Tryd.underlying91 info8 rfl (by decide) _ k (byteCells X) [.int .u8 (c.toNat : Int)] rfl HO.out _ 1 rfl rfl rfl (by simp [Value.oneCell']) HKB.out (by decide) HZ.out w.heap.size w HB.out (Nat.le_refl _) ?_; intro v5 w5 ho5 hg5 hb5 hs5; have HO5 := Lib.hid ho5; have HB5 := Lib.hid hb5; clear ho5 hg5 hb5 hs5 hc)
        go_roundw
        case rel => exact ⟨i + 1, HLT.out, by go_num, by rw [HTK.out, HR.out, byteCells_append, List.length_append, ← HK.out]; exact HO5.out, HB5.out⟩
        case measure => have := HLT.out; simp [intOf]; omega
      · have hbz : behind n.toNat = blen n.toNat := by unfold behind; rw [if_neg hs]
        have hd1 := blen_1 (n := n.toNat) (by omega)
        have hd8 := blen_8 n.toNat_lt
        have HR := Lib.hid (show row n.toNat = [UInt8.ofNat (247 + blen n.toNat)] ++ be (blen n.toNat) n.toNat from by unfold row; rw [if_neg hs]; rfl)
        rw [hbz] at HBH
        obtain ⟨d, hd⟩ : ∃ d, d = blen n.toNat := ⟨_, rfl⟩
        rw [← hd] at HBH HR hd1 hd8
        obtain ⟨c, hc8⟩ : ∃ c, c = UInt8.ofNat (247 + d) := ⟨_, rfl⟩
        rw [← hc8] at HR
        have HCE := Lib.hid (show (247 + (d : Int)) = (c.toNat : Int) from by rw [hc8, ofNat_toNat]; omega)
        have kd : IntKind.i64.wrap (247 + (d : Int)) = 247 + (d : Int) := by rw [IntKind.wrap_i64]; omega
        have kp : (0 : Int) < (d : Int) := by omega
        have kp2 : 0 < d := hd1
        have kp8 : (d : Int) ≤ 8 := by omega
        have HD8 := Lib.hid hd8
        clear hs hbz hc8 hd1 hd hd8
        go_wp2_with fail
        refine (HBH.out _).mono ?_
        rintro e w1 ⟨rfl, rfl⟩
        go_wp2_with (at_builtin; refine wpList_append1 rfl (.tmp 17) (.tmp 21) TB rfl w.heap.size T8 _ 1 1 Tryd.underlying91 info8 rfl (by decide) _ k (byteCells X) [.int .u8 (247 + (d : Int))] rfl HO.out _ 1 rfl rfl rfl (by simp [Value.oneCell']) HKB.out (by decide) HZ.out w.heap.size w HB.out (Nat.le_refl _) ?_; intro v5 w5 ho5 hg5 hb5 hs5; rw [HCE.out] at ho5; have HO5 := Lib.hid ho5; have HB5 := Lib.hid hb5; have HZ5 := Lib.hid (Nat.le_trans HZ.out (Nat.le_of_lt hs5)); clear ho5 hg5 hb5 hs5 hc)
        refine (put_any w.heap.size w v5 (X ++ [c]) n d w5 (by rw [List.length_append, ← HK.out, byteCells_append]; exact HO5.out) (by rw [List.length_append]; have := HRL.out; simp; omega) HD8.out HB5.out HZ5.out).mono ?_
        rintro e w6 ⟨v6, rfl, ho, hb, hz⟩
        have HO6 := Lib.hid ho
        have HB6 := Lib.hid hb
        clear ho hb hz
        go_wp2_with fail
        go_roundw
        case rel => exact ⟨i + 1, HLT.out, by go_num, by rw [HTK.out, HR.out, ← List.append_assoc]; exact HO6.out, HB6.out⟩
        case measure => have := HLT.out; simp [intOf]; omega
    · have HE := Lib.hid (show l.take i = l from List.take_of_length_le (by omega))
      rw [HE.out] at ho
      have hil : i = l.length := by omega
      have k2 : ¬ (i : Int) < (l.length : Int) := by omega
      have q := str_row ho
      clear ho hb hlt hi hil
      go_wp2_with fail
      go_ret
      exact ⟨rfl, HB.out⟩
end Go.Proofs.Tryd.Nu

/- Layer num: ReadBig, ReadVar. -/
set_option linter.unusedVariables false
set_option linter.unusedSimpArgs false
set_option maxRecDepth 100000
namespace Go.Proofs.Tryd.Nu
open Go.RowKit Go.Cph Go.Cph.Ok
theorem val_step (l : Bs) (c : UInt8) (h : l.length ≤ 7) : val l * 256 + c.toNat < 18446744073709551616 ∧ val (l ++ [c]) = val l * 256 + c.toNat := by
  have h1 := val_lt l
  have h2 : 256 ^ l.length ≤ 256 ^ 7 := Nat.pow_le_pow_right (by omega) h
  have h3 : (256 : Nat) ^ 7 = 72057594037927936 := by decide
  have := c.toNat_lt
  rw [val_snoc]
  omega
theorem or_eq (x c : Nat) (hc : c < 256) (h : x * 256 + c < 18446744073709551616) : bits .or .u64 ((x : Int) * 256) (c : Int) = ((x * 256 + c : Nat) : Int) := by
  have h1 := bits_or_u64_nat (x * 256) c (by omega) (by omega)
  have h2 : x * 256 ||| c = x * 256 + c := by
    have := Nat.shiftLeft_add_eq_or_of_lt (show c < 2 ^ 8 from hc) x
    rw [Nat.shiftLeft_eq] at this
    exact this.symm
  rw [h2] at h1
  rw [← h1]; simp
set_option maxRecDepth 100000 in
set_option maxHeartbeats 3200000 in
theorem big_any (s : ByteArray) (k : Nat) (w : World) (h1 : 1 ≤ k) (h8 : k ≤ 8) (hs : s.size ≤ 1099511627776) :
    Calls Tryd.prog 55 #[.string s, .int .i64 (k : Int)] w fun e w' => e = .returned (.tuple #[.int .u64 (if s.size < k then 0 else (val (s.data.toList.take k) : Int)), .bool (!decide (s.size < k))]) ∧ Below w.heap.size w w' := by
  have c1 : ¬ (k : Int) < 1 := by omega
  have c2 : ¬ (8 : Int) < (k : Int) := by omega
  by_cases hk : s.size < k
  · have c3 : (s.size : Int) < (k : Int) := by omega
    have c4 : decide (s.size < k) = true := decide_eq_true hk
    rw [if_pos hk, c4]
    clear hk
    go_enter Tryd.func55, Tryd.ntmps55
    go_wp2_with fail
    go_ret2
    exact ⟨rfl, Below.refl _ _⟩
  · have c3 : ¬ (s.size : Int) < (k : Int) := by omega
    have c4 : decide (s.size < k) = false := decide_eq_false hk
    rw [if_neg hk, c4]
    obtain ⟨t, ht⟩ : ∃ t, t = s.extract 0 k := ⟨_, rfl⟩
    have hts : t.size = k := by rw [ht, ByteArray.size_extract]; omega
    have htl : t.data.toList = s.data.toList.take k := by rw [ht]; simp
    rw [← htl]
    obtain ⟨cap, cur, w1, hconv, hcap, hcs, hblk, hcur, hb, hsz⟩ := conv_bytes (P := Tryd.prog) w 9 91 5 t Tryd.underlying9 Tryd.underlying91 Tryd.underlying5
    rw [hts] at hconv
    rw [ht] at hconv
    have HTS := Lib.hid hts
    have HT := Lib.hid ht
    have HB := Lib.hid hb
    have HG := Lib.hid hblk
    have HCU := Lib.hid hcur
    have k8 : (k : Int) ≤ 8 := by omega
    clear hts ht htl hcap hcs hblk hcur hb hsz c4 hk h1
    go_enter Tryd.func55, Tryd.ntmps55
    go_wp2_with fail
    clear hconv
    go_loopw [4, 25] (fun vn vi W => ∃ j : Nat, j ≤ k ∧ vi = .int .i64 j ∧ vn = .int .u64 (val (t.data.toList.take j) : Int) ∧ W = w1) (fun _ vi _ => k - (intOf vi).toNat)
    case atStart => exact ⟨0, Nat.zero_le _, rfl, rfl, rfl⟩
    case round =>
      obtain ⟨j, hj, rfl, rfl, rfl⟩ := hrel
      by_cases hlt : j < k
      · have HLT := Lib.hid hlt
        have hc : wr.cell? ⟨w.heap.size, j, none⟩ = some (.int .u8 (t[j]'(by have := HTS.out; omega)).toNat) := by
          rw [blk_cell HG.out]; exact HCU.out j _
        obtain ⟨c, hcx⟩ : ∃ c, c = t[j]'(by have := HTS.out; omega) := ⟨_, rfl⟩
        rw [← hcx] at hc
        have HTK := Lib.hid (show t.data.toList.take (j + 1) = t.data.toList.take j ++ [c] from by rw [hcx]; exact take_snoc t j (by have := HTS.out; omega))
        have hv := val_step (t.data.toList.take j) c (by rw [List.length_take]; omega)
        rw [← HTK.out] at hv
        obtain ⟨x, hx⟩ : ∃ x, x = val (t.data.toList.take j) := ⟨_, rfl⟩
        rw [← hx] at hv ⊢
        have HV := Lib.hid hv.2
        have hv1 := hv.1
        have hc8 : c.toNat < 256 := c.toNat_lt
        have q1 : (0 : Int) ≤ (j : Int) := by omega
        have q2 : (j : Int) < (k : Int) := by omega
        have q4 : IntKind.i64.wrap ((j : Int) + 1) = (j : Int) + 1 := by rw [IntKind.wrap_i64]; omega
        clear hx hv hcx hlt hj
        have HOR := Lib.hid (or_eq x c.toNat hc8 hv1)
        go_wp2_with fail
        go_roundw
        case rel => exact ⟨j + 1, HLT.out, by go_num, by rw [HOR.out, HV.out], by first | rfl | trivial⟩
        case measure => have := HLT.out; simp [intOf]; omega
      · have hsz := Go.Lib.size_eq t
        have HE := Lib.hid (show t.data.toList.take j = t.data.toList from List.take_of_length_le (by have := HTS.out; omega))
        clear hsz
        rw [HE.out]
        have hjk : j = k := by omega
        have q2 : ¬ (j : Int) < (k : Int) := by omega
        clear hlt hj hjk
        go_wp2_with fail
        go_ret2
        exact ⟨rfl, HB.out⟩
end Go.Proofs.Tryd.Nu

/- Layer num: ReadVar. -/
set_option linter.unusedVariables false
set_option linter.unusedSimpArgs false
set_option maxRecDepth 100000
namespace Go.Proofs.Tryd.Nu
open Go.RowKit Go.Cph Go.Cph.Ok
def encRV : Option (Nat × Nat) → Value
  | none => .tuple #[.int .u64 0, .int .i64 0, .bool false]
  | some (n, k) => .tuple #[.int .u64 (n : Int), .int .i64 (k : Int), .bool true]
theorem bytes_cons (s : ByteArray) (h : 0 < s.size) : s.data.toList = s[0] :: s.data.toList.drop 1 := by
  have h1 : 0 < s.data.toList.length := by rw [← Go.Lib.size_eq]; exact h
  have h2 : s[0] = s.data.toList[0] := rfl
  rw [h2, List.getElem_cons_drop]
  rfl
set_option maxHeartbeats 3200000 in
theorem readVar_any (s : ByteArray) (w : World) (hs : s.size ≤ 1099511627776) :
    Calls Tryd.prog 39 #[.string s] w fun e w' => e = .returned (encRV (readRow s.data.toList)) ∧ Below w.heap.size w w' := by
  by_cases h0 : s.size = 0
  · have hse : s = ⟨#[]⟩ := by
      cases s with
      | mk d => 
        have : d = #[] := Array.eq_empty_of_size_eq_zero h0
        rw [this]
    subst hse
    go_enter Tryd.func39, Tryd.ntmps39
    go_wp2_with fail
    exact bodyPost_ret (v := .tuple #[.int .u64 0, .int .i64 0, .bool false]) (by simp [results, Tryd.results39, go_sem]) rfl ⟨rfl, Below.refl _ _⟩
  · have hl := bytes_cons s (by omega)
    obtain ⟨c, hc⟩ : ∃ c, c = s[0]'(by omega) := ⟨_, rfl⟩
    rw [← hc] at hl
    have hz : (0 : Int) < (s.size : Int) := by omega
    have hz2 : 0 < s.size := by omega
    have he : s.toList.isEmpty = false := by
      rw [ByteArray.toList_eq, hl]; rfl
    have hcr : (s[0]'(by omega)).toNat = c.toNat := by rw [hc]
    have h8 : c.toNat < 256 := c.toNat_lt
    have HL := Lib.hid hl
    have HEX := Lib.hid (show (s.extract 1 s.size).data.toList = s.data.toList.drop 1 from by
      simp
      exact List.take_of_length_le (by rw [List.length_tail, ← Go.Lib.size_eq]; exact Nat.le_refl _))
    obtain ⟨d, hd⟩ : ∃ d, d = c.toNat := ⟨_, rfl⟩
    rw [← hd] at hcr h8
    have HD := Lib.hid hd
    clear hl hc h0 hd
    by_cases h1 : d < 248
    · have c1 : (d : Int) < 248 := by omega
      have HR := Lib.hid (show readRow s.data.toList = some (d, 1) from by rw [HL.out, readRow_cons, ← HD.out, if_pos h1])
      go_enter Tryd.func39, Tryd.ntmps39
      go_wp2_with fail
      exact bodyPost_ret (v := .tuple #[.int .u64 (d : Int), .int .i64 1, .bool true]) (by simp [results, Tryd.results39, go_sem]) rfl ⟨by rw [HR.out]; rfl, Below.refl _ _⟩
    · have c1 : (248 : Int) ≤ (d : Int) := by omega
      obtain ⟨k, hk⟩ : ∃ k, d = k + 247 := ⟨d - 247, by omega⟩
      have hk1 : 1 ≤ k := by omega
      have hk8 : k ≤ 8 := by omega
      have ks : IntKind.i64.wrap ((d : Int) - 248) = (k : Int) - 1 := by rw [IntKind.wrap_i64]; omega
      have ks2 : IntKind.i64.wrap ((k : Int) - 1 + 1) = (k : Int) := by rw [IntKind.wrap_i64]; omega
      have ks3 : IntKind.i64.wrap (1 + (k : Int)) = 1 + (k : Int) := by rw [IntKind.wrap_i64]; omega
      have kn : ¬ (k : Int) < 1 := by omega
      obtain ⟨t, ht⟩ : ∃ t, t = s.extract 1 s.size := ⟨_, rfl⟩
      have HT := Lib.hid ht
      have hts : t.size + 1 = s.size := by rw [ht, ByteArray.size_extract]; omega
      have HTL := Lib.hid (show s.data.toList = c :: t.data.toList from by rw [HT.out, HEX.out]; exact HL.out)
      have HBG := Lib.hid (fun W => (show Calls Tryd.prog 55 #[.string (s.extract 1 s.size), .int .i64 (k : Int)] W (fun e w' => e = .returned (.tuple #[.int .u64 (if t.size < k then 0 else (val (t.data.toList.take k) : Int)), .bool (!decide (t.size < k))]) ∧ Below W.heap.size W w') from by
        rw [← HT.out]; exact big_any t k W hk1 hk8 (by omega)))
      have HRR := Lib.hid (show readRow s.data.toList = if t.size < k then none else if row (val (t.data.toList.take k)) = c :: t.data.toList.take k then some (val (t.data.toList.take k), k + 1) else none from by
        rw [HTL.out, readRow_cons, ← HD.out, if_neg h1, show d - 247 = k by omega, ← Go.Lib.size_eq])
      have HRB := Lib.hid (show ¬ t.size < k → (row (val (t.data.toList.take k)) = c :: t.data.toList.take k ↔ behind (val (t.data.toList.take k)) = k) from fun hn => by
        have hle : (t.data.toList.take k).length = k := by rw [List.length_take, ← Go.Lib.size_eq]; omega
        have := row_behind (c := c) (t := t.data.toList.take k) (by rw [← HD.out]; omega) (by rw [hle, ← HD.out]; omega)
        rw [hle] at this; exact this)
      have HVL := Lib.hid (show val (t.data.toList.take k) < 18446744073709551616 from by
        refine Nat.lt_of_lt_of_le (val_lt _) ?_
        rw [← p8]
        exact Nat.pow_le_pow_right (by omega) (by rw [List.length_take]; omega))
      have hk9 : (k : Int) ≤ 8 := by omega
      have hk0 : (1 : Int) ≤ (k : Int) := by omega
      have HK := Lib.hid hk
      clear hts hk h1 ht
      obtain ⟨x, hx⟩ : ∃ x, x = val (t.data.toList.take k) := ⟨_, rfl⟩
      rw [← hx] at HBG HRR HRB HVL
      clear hx
      by_cases hsz : t.size < k
      · rw [if_pos hsz, decide_eq_true hsz] at HBG
        rw [if_pos hsz] at HRR
        clear hsz HRB
        go_enter Tryd.func39, Tryd.ntmps39
        go_wp2_with fail
        refine (HBG.out _).mono ?_
        rintro e w1 ⟨rfl, hb⟩
        have HB := Lib.hid hb
        clear hb
        go_wp2_with fail
        exact bodyPost_ret (v := .tuple #[.int .u64 0, .int .i64 0, .bool false]) (by simp [results, Tryd.results39, go_sem]) rfl ⟨by rw [HRR.out]; rfl, HB.out⟩
      · rw [if_neg hsz, decide_eq_false hsz] at HBG
        rw [if_neg hsz] at HRR
        have hrb := HRB.out hsz
        obtain ⟨n, hn⟩ : ∃ n : UInt64, n.toNat = x := ⟨UInt64.ofNat x, by rw [UInt64.toNat_ofNat', Nat.mod_eq_of_lt HVL.out]⟩
        rw [← hn] at HBG HRR hrb
        have HBH := Lib.hid (fun W => behind_any n W)
        obtain ⟨b, hbb⟩ : ∃ b, b = behind n.toNat := ⟨_, rfl⟩
        rw [← hbb] at HBH hrb
        by_cases hq : b = k
        · have hr := hrb.2 hq
          rw [if_pos hr] at HRR
          subst hq
          clear hr hrb hbb hn hsz HRB HVL
          go_enter Tryd.func39, Tryd.ntmps39
          go_wp2_with fail
          refine (HBG.out _).mono ?_
          rintro e w1 ⟨rfl, hb⟩
          have HB := Lib.hid hb
          clear hb
          go_wp2_with fail
          refine (HBH.out _).mono ?_
          rintro e w2 ⟨rfl, rfl⟩
          go_wp2_with fail
          exact bodyPost_ret (v := .tuple #[.int .u64 (n.toNat : Int), .int .i64 (1 + (b : Int)), .bool true]) (by simp [results, Tryd.results39, go_sem]) rfl ⟨by rw [HRR.out]; show _ = Ending.returned (.tuple #[_, .int .i64 ((b + 1 : Nat) : Int), _]); rw [show ((b + 1 : Nat) : Int) = 1 + (b : Int) by omega], HB.out⟩
        · have hr : ¬ row n.toNat = c :: t.data.toList.take k := fun e => hq (hrb.1 e)
          rw [if_neg hr] at HRR
          have hq2 : ((b : Int) == (k : Int)) = false := by simp; omega
          have hq3 : ((b : Int) != (k : Int)) = true := by rw [bne, hq2]; rfl
          have hq4 : ¬ (b : Int) = (k : Int) := by omega
          clear hr hrb hbb hn hsz HRB HVL hq
          go_enter Tryd.func39, Tryd.ntmps39
          go_wp2_with fail
          refine (HBG.out _).mono ?_
          rintro e w1 ⟨rfl, hb⟩
          have HB := Lib.hid hb
          clear hb
          go_wp2_with fail
          refine (HBH.out _).mono ?_
          rintro e w2 ⟨rfl, rfl⟩
          go_wp2_with fail
          exact bodyPost_ret (v := .tuple #[.int .u64 0, .int .i64 0, .bool false]) (by simp [results, Tryd.results39, go_sem]) rfl ⟨by rw [HRR.out]; rfl, HB.out⟩
end Go.Proofs.Tryd.Nu

/- The document's rows of numbers: bytesOf, Row. -/
set_option linter.unusedVariables false
set_option linter.unusedSimpArgs false
set_option maxRecDepth 100000
namespace Go.Proofs.Tryd.Nu
open Go.RowKit Go.Cph Go.Cph.Ok
theorem ret_s {a b : ByteArray} (h : a = b) : Ending.returned (.string a) = .returned (.string b) := by rw [h]
/-- 'string([]byte{c})': the slice laid right ahead of it. -/
theorem run_one (w : World) (x : Int) (c : UInt8) (h : x = (c.toNat : Int)) : (convert 91 9 (.slice (some ⟨w.heap.size, 0, none⟩) 1 1)).run Tryd.prog (w.alloc (.cells #[.int .u8 x] 5)) = .ok (.string ⟨#[c]⟩) (w.alloc (.cells #[.int .u8 x] 5)) := by
  subst h
  exact run_string_of_bytes _ TB TS T8 Tryd.underlying91 Tryd.underlying5 Tryd.underlying9 w.heap.size 1 [c] fun j hj => by
    have : j = 0 := by simp at hj; omega
    subst this
    rw [blk_cell (heap_alloc_new w _)]; rfl
theorem cat_list (a b : ByteArray) : (a ++ b).data.toList = a.data.toList ++ b.data.toList := by simp
theorem cons_cat (c : UInt8) (l : Bs) : (⟨#[c]⟩ : ByteArray) ++ ofBs l = ofBs (c :: l) := by
  have h := cat_list ⟨#[c]⟩ (ofBs l)
  rw [← ofBs_data (⟨#[c]⟩ ++ ofBs l), h]; rfl
end Go.Proofs.Tryd.Nu

/- The document's rows of numbers: ReadVar. -/
set_option linter.unusedVariables false
set_option linter.unusedSimpArgs false
set_option maxRecDepth 100000
namespace Go.Proofs.Tryd.Nu
open Go.RowKit Go.Cph Go.Cph.Ok
theorem list_ne {a b : ByteArray} (h : a.data.toList ≠ b.data.toList) : ¬ a = b := fun e => h (by rw [e])
theorem list_eq {a b : ByteArray} (h : a.data.toList = b.data.toList) : a = b := by
  cases a; cases b
  congr 1
  exact Array.ext' h
end Go.Proofs.Tryd.Nu
