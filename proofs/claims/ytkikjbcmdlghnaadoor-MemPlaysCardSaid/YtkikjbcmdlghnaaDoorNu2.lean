/- Layer num: Var. -/
import Derived.Test.YtkikjbcmdlghnaaDoorNu1
set_option linter.unusedVariables false
set_option linter.unusedSimpArgs false
namespace Go.Proofs.Tryd.Nu
open Go.RowKit Go.Cph Go.Cph.Ok
abbrev TS : TypeId := 9
theorem byteCells_at (l : Bs) (j : Nat) (h : j < l.length) : (byteCells l)[j]? = some (.int .u8 ((l.getD j 0).toNat : Int)) := by
  unfold byteCells Go.Lib.byteCells
  rw [List.getElem?_map, List.getElem?_eq_getElem h, List.getD_eq_getElem?_getD, List.getElem?_eq_getElem h]
  rfl
theorem str_nil (w : World) : (convert TB TS (.slice none 0 0)).run Tryd.prog w = .ok (.string ⟨#[]⟩) w := by
  kernel_rfl
theorem str_row {base : Nat} {v : Value} {bs : Bs} {w : World} (h : w.ownsRow base T8 1 v bs.length (byteCells bs)) : (convert TB TS v).run Tryd.prog w = .ok (.string ⟨bs.toArray⟩) w := by
  have hown := h
  obtain ⟨_, h2⟩ := h
  rcases h2 with ⟨rfl, h0⟩ | ⟨g, cap, cur, rfl, hb, hg, hc, _, _, _⟩
  · have : bs = [] := List.eq_nil_of_length_eq_zero h0
    subst this
    exact str_nil w
  · refine run_string_of_bytes w TB TS T8 Tryd.underlying59 Tryd.underlying5 Tryd.underlying9 g cap bs fun j hj => ?_
    rw [hown.cellAt j (by omega), byteCells_at _ _ hj]
abbrev encN (n : UInt64) : List Value := [.int .u64 (n.toNat : Int)]
abbrev NumsAt (w : World) (v : Value) (l : List UInt64) : Prop := Elems encN 1 w v l
theorem nums_cells {w : World} {v : Value} {l : List UInt64} (h : NumsAt w v l) (h0 : 0 < l.length) :
    ∃ b off cap, v = .slice (some ⟨b, off, none⟩) l.length cap ∧ ∀ i (hi : i < l.length), w.cell? ⟨b, off + i, none⟩ = some (.int .u64 (l[i].toNat : Int)) := by
  obtain ⟨b, off, cap, hv, hc⟩ := elems_shape (enc := encN) (size := 1) (fun (x : UInt64) => (rfl : (encN x).length = 1)) h h0
  exact ⟨b, off, cap, hv, fun i hi => by have := hc i hi 0 (by omega); simpa using this⟩
def rows (l : List UInt64) : Bs := l.flatMap fun n => row n.toNat
theorem rows_take (l : List UInt64) {i : Nat} (h : i < l.length) : rows (l.take (i + 1)) = rows (l.take i) ++ row l[i].toNat := by
  unfold rows
  rw [List.take_succ_eq_append_getElem h, List.flatMap_append]; simp
theorem rows_len (l : List UInt64) : (rows l).length ≤ l.length * 9 := by
  induction l with
  | nil => exact Nat.le_refl _
  | cons n l ih =>
    have h : rows (n :: l) = row n.toNat ++ rows l := rfl
    have := row_le n.toNat_lt
    rw [h, List.length_append, List.length_cons, Nat.succ_mul]; omega
theorem rows_take_len (l : List UInt64) (i : Nat) (h : l.length ≤ 1000) : (rows (l.take i)).length ≤ 9000 := by
  have h1 := rows_len (l.take i)
  have h2 := List.length_take_le i l
  have h3 : (l.take i).length ≤ l.length := by rw [List.length_take]; omega
  omega
set_option maxRecDepth 100000 in
set_option maxHeartbeats 3200000 in
theorem var_any (v : Value) (l : List UInt64) (w : World) (h : NumsAt w v l) (hl : l.length ≤ 1000) :
    Calls Tryd.prog 35 #[v] w fun e w' => e = .returned (.string ⟨(rows l).toArray⟩) ∧ Below w.heap.size w w' := by
  obtain ⟨ao, cap, rfl⟩ := elems_slice h
  have H := Lib.hid h
  have HL := Lib.hid hl
  clear h hl
  go_enter Tryd.func35, Tryd.ntmps35
  go_wp2_with fail
  go_loopw [3, 9] (fun vb vi W => ∃ i : Nat, i ≤ l.length ∧ vi = .int .i64 i ∧ W.ownsRow w.heap.size T8 1 vb (rows (l.take i)).length (byteCells (rows (l.take i))) ∧ Below w.heap.size w W) (fun _ vi _ => l.length - (intOf vi).toNat)
  case atStart => exact ⟨0, Nat.zero_le _, rfl, World.ownsRow_nil _ _ _ _, Below.refl _ _⟩
  case round =>
    obtain ⟨i, hi, rfl, ho, hb⟩ := hrel
    have HB := Lib.hid hb
    by_cases hlt : i < l.length
    · have HLT := Lib.hid hlt
      obtain ⟨b, off, cap', hve, hcs⟩ := nums_cells H.out (by omega)
      injection hve with hx1 hx2 hx3
      subst hx1
      clear hx2 hx3
      have hc := cell_kept hb (hcs i hlt)
      obtain ⟨n, hn⟩ : ∃ n, n = l[i]'hlt := ⟨_, rfl⟩
      rw [← hn] at hc
      have HTK := Lib.hid (show rows (l.take (i + 1)) = rows (l.take i) ++ row n.toNat from by rw [hn]; exact rows_take l hlt)
      have HRL := Lib.hid (rows_take_len l i HL.out)
      obtain ⟨X, hX⟩ : ∃ X, X = rows (l.take i) := ⟨_, rfl⟩
      rw [← hX] at ho HTK HRL
      obtain ⟨oo, oc, hov⟩ := owns_slice1 ho
      obtain ⟨k, hk⟩ : ∃ k, k = X.length := ⟨_, rfl⟩
      have HK := Lib.hid hk
      rw [← hk] at ho hov
      subst hov
      have HO := Lib.hid ho
      have HKB := Lib.hid (show k + 1 ≤ 1099511627776 from by rw [hk]; have := HRL.out; omega)
      have HN := Lib.hid (show n.toNat < 18446744073709551616 from n.toNat_lt)
      have HZ := Lib.hid (show w.heap.size ≤ wr.heap.size from hb.size)
      have HBH := Lib.hid (fun W => behind_any n W)
      have k1 : (0 : Int) ≤ (i : Int) := by omega
      have k2 : (i : Int) < (l.length : Int) := by omega
      have k4 : IntKind.i64.wrap ((i : Int) + 1) = (i : Int) + 1 := by rw [IntKind.wrap_i64]; have := HL.out; omega
      clear hb hcs hn hX hk ho hi hlt
      by_cases hs : n.toNat < 248
      · have hbz : behind n.toNat = 0 := by unfold behind; rw [if_pos hs]
        rw [hbz] at HBH
        obtain ⟨c, hc8⟩ : ∃ c, c = UInt8.ofNat n.toNat := ⟨_, rfl⟩
        have kc : ((n.toNat : Int) % 256) = (c.toNat : Int) := by rw [hc8, ofNat_toNat]; omega
        have HR := Lib.hid (show row n.toNat = [c] from by unfold row; rw [if_pos hs, hc8])
        clear hs hbz hc8
        go_wp2_with fail
        refine (HBH.out _).mono ?_
        rintro e w1 ⟨rfl, rfl⟩
        go_wp2_with (at_builtin; refine wpList_append1 rfl (.tmp 26) (.tmp 29) TB rfl w.heap.size T8 _ 1 1 Tryd.underlying59 info8 rfl (by decide) _ k (byteCells X) [.int .u8 (c.toNat : Int)] rfl HO.out _ 1 rfl rfl rfl (by simp [Value.oneCell']) HKB.out (by decide) HZ.out w.heap.size w HB.out (Nat.le_refl _) ?_; intro v5 w5 ho5 hg5 hb5 hs5; have HO5 := Lib.hid ho5; have HB5 := Lib.hid hb5; clear ho5 hg5 hb5 hs5 hc)
        go_roundw
        case rel => exact ⟨i + 1, HLT.out, by go_num, by rw [HTK.out, HR.out, byteCells_append, List.length_append, ← HK.out]; exact HO5.out, HB5.out⟩
        case measure => have := HLT.out; simp [intOf]; omega
      · have hbz : behind n.toNat = blen n.toNat := by unfold behind; rw [if_neg hs]
        have hd1 := blen_1 (n := n.toNat) (by omega)
        have hd8 := blen_8 n.toNat_lt
        have HR := Lib.hid (show row n.toNat = [UInt8.ofNat (247 + blen n.toNat)] ++ be (blen n.toNat) n.toNat from by unfold row; rw [if_neg hs]; rfl)
        rw [hbz] at HBH
        obtain ⟨d, hd⟩ : ∃ d, d = blen n.toNat := ⟨_, rfl⟩
        rw [← hd] at HBH HR hd1 hd8
        obtain ⟨c, hc8⟩ : ∃ c, c = UInt8.ofNat (247 + d) := ⟨_, rfl⟩
        rw [← hc8] at HR
        have HCE := Lib.hid (show (247 + (d : Int)) = (c.toNat : Int) from by rw [hc8, ofNat_toNat]; omega)
        have kd : IntKind.i64.wrap (247 + (d : Int)) = 247 + (d : Int) := by rw [IntKind.wrap_i64]; omega
        have kp : (0 : Int) < (d : Int) := by omega
        have kp2 : 0 < d := hd1
        have kp8 : (d : Int) ≤ 8 := by omega
        have HD8 := Lib.hid hd8
        clear hs hbz hc8 hd1 hd hd8
        go_wp2_with fail
        refine (HBH.out _).mono ?_
        rintro e w1 ⟨rfl, rfl⟩
        go_wp2_with (at_builtin; refine wpList_append1 rfl (.tmp 17) (.tmp 21) TB rfl w.heap.size T8 _ 1 1 Tryd.underlying59 info8 rfl (by decide) _ k (byteCells X) [.int .u8 (247 + (d : Int))] rfl HO.out _ 1 rfl rfl rfl (by simp [Value.oneCell']) HKB.out (by decide) HZ.out w.heap.size w HB.out (Nat.le_refl _) ?_; intro v5 w5 ho5 hg5 hb5 hs5; rw [HCE.out] at ho5; have HO5 := Lib.hid ho5; have HB5 := Lib.hid hb5; have HZ5 := Lib.hid (Nat.le_trans HZ.out (Nat.le_of_lt hs5)); clear ho5 hg5 hb5 hs5 hc)
        refine (put_any w.heap.size w v5 (X ++ [c]) n d w5 (by rw [List.length_append, ← HK.out, byteCells_append]; exact HO5.out) (by rw [List.length_append]; have := HRL.out; simp; omega) HD8.out HB5.out HZ5.out).mono ?_
        rintro e w6 ⟨v6, rfl, ho, hb, hz⟩
        have HO6 := Lib.hid ho
        have HB6 := Lib.hid hb
        clear ho hb hz
        go_wp2_with fail
        go_roundw
        case rel => exact ⟨i + 1, HLT.out, by go_num, by rw [HTK.out, HR.out, ← List.append_assoc]; exact HO6.out, HB6.out⟩
        case measure => have := HLT.out; simp [intOf]; omega
    · have HE := Lib.hid (show l.take i = l from List.take_of_length_le (by omega))
      rw [HE.out] at ho
      have hil : i = l.length := by omega
      have k2 : ¬ (i : Int) < (l.length : Int) := by omega
      have q := str_row ho
      clear ho hb hlt hi hil
      go_wp2_with fail
      go_ret
      exact ⟨rfl, HB.out⟩
end Go.Proofs.Tryd.Nu
