/- The document's skip list: Less, Set, Get. -/
import Derived.Test.YthcakgnendnekaaSkR
import Derived.Test.YthcakgnendnekaaSeg
import Derived.Test.YthcakgnendnekaaSeqEnd
open Go.RowKit Go.Cph Go.Cph.Skip
set_option linter.unusedVariables false
set_option linter.unusedSimpArgs false
namespace Go.Proofs.Try.SkS

theorem bl_cons (x y : UInt8) (xs ys : List UInt8) (h : x ≠ y) : Op.bytesLess (x :: xs) (y :: ys) = decide (x.toNat < y.toNat) := by
  have hb : (x == y) = false := by simpa using h
  simp [Op.bytesLess, hb, h]
  first
    | done
    | (rw [UInt8.lt_iff_toNat_lt])
theorem bl_same (x : UInt8) (xs ys : List UInt8) : Op.bytesLess (x :: xs) (x :: ys) = Op.bytesLess xs ys := by simp [Op.bytesLess]
theorem klt_drop (a b : ByteArray) : klt a b = Op.bytesLess (a.data.toList.drop 0) (b.data.toList.drop 0) := by
  unfold klt; rw [ByteArray.toList_eq, ByteArray.toList_eq]; rfl
theorem drop_cons (s : ByteArray) (k : Nat) (h : k < s.size) : s.data.toList.drop k = s[k] :: s.data.toList.drop (k + 1) := by
  rw [List.drop_eq_getElem_cons (by simpa using h)]; rfl
theorem drop_end (s : ByteArray) (k : Nat) (h : s.size ≤ k) : s.data.toList.drop k = [] := List.drop_of_length_le (by simpa using h)
theorem bl_end1 (ys : List UInt8) : Op.bytesLess [] ys = decide (0 < ys.length) := by cases ys <;> simp [Op.bytesLess]
theorem bl_end2 (xs : List UInt8) : Op.bytesLess xs [] = false := by cases xs <;> simp [Op.bytesLess]

set_option maxHeartbeats 1000000 in
theorem less (a b : ByteArray) (w : World) (ha : a.size ≤ 1000000) (hb : b.size ≤ 1000000) :
    Calls Try.prog 40 #[.string a, .string b] w fun e w' => e = .returned (.bool (klt a b)) ∧ ∃ n, w' = w.drewN n := by
  have HK := Lib.hid (klt_drop a b)
  go_enter Try.func40, Try.ntmps40
  go_wp2_with fail
  go_loopw [5] (fun i wr => ∃ k n : Nat, k ≤ a.size ∧ k ≤ b.size ∧ i = .int .i64 k ∧ wr = w.drewN n ∧ klt a b = Op.bytesLess (a.data.toList.drop k) (b.data.toList.drop k))
    (fun i _ => a.size - (intOf i).toNat)
  case atStart => exact ⟨0, 0, by omega, by omega, rfl, rfl, HK.out⟩
  case round =>
    obtain ⟨k, n, hka, hkb, rfl, rfl, hk⟩ := hrel
    have H := Lib.hid hk
    clear hk
    by_cases hlt : k < a.size ∧ k < b.size
    · obtain ⟨h1, h2⟩ := hlt
      have k0 : (0 : Int) ≤ (k : Int) := by omega
      have k1 : (k : Int) < (a.size : Int) := by omega
      have k2 : (k : Int) < (b.size : Int) := by omega
      have HD := Lib.hid (show klt a b = Op.bytesLess (a[k] :: a.data.toList.drop (k + 1)) (b[k] :: b.data.toList.drop (k + 1)) by rw [H.out, drop_cons a k h1, drop_cons b k h2])
      by_cases he : a[k] = b[k]
      · have hz : ((a[k].toNat : Int) == (b[k].toNat : Int)) = true := by simp [he]
        have HN := Lib.hid (show klt a b = Op.bytesLess (a.data.toList.drop (k + 1)) (b.data.toList.drop (k + 1)) by rw [HD.out, he, bl_same])
        clear he
        go_wp2_with fail
        go_quiet (fail)
        go_wp2_with fail
        go_roundw
        case rel => exact ⟨k + 1, _, by omega, by omega, by go_num, rfl, HN.out⟩
        case measure => simp [intOf]; omega
      · have hz : ((a[k].toNat : Int) == (b[k].toNat : Int)) = false := by
          have : a[k].toNat ≠ b[k].toNat := fun e => he (UInt8.toNat_inj.1 e)
          simpa using fun e => this (by omega)
        have HN := Lib.hid (show klt a b = decide (a[k].toNat < b[k].toNat) by rw [HD.out, bl_cons _ _ _ _ he])
        clear he
        go_wp2_with fail
        go_quiet (fail)
        go_wp2_with fail
        go_quiet (fail)
        go_wp2_with fail
        go_ret
        exact ⟨ret_bool (by rw [HN.out]; try simp), _, by rw [World.drewN_drewN, World.drewN_drewN]⟩
    · have HE := Lib.hid (show klt a b = decide (a.size < b.size) by
        rw [H.out]
        rcases Nat.lt_or_ge k a.size with h | h
        · have hb' : k = b.size := by omega
          rw [drop_end b k (by omega), bl_end2]
          simp; omega
        · have ha' : k = a.size := by omega
          rw [drop_end a k (by omega), bl_end1]
          simp; omega)
      by_cases h1 : k < a.size
      · have h2 : ¬ (k : Int) < (b.size : Int) := by omega
        have k1 : (k : Int) < (a.size : Int) := by omega
        clear hlt
        go_wp2_with fail
        go_ret
        exact ⟨ret_bool (by rw [HE.out]; try simp), _, rfl⟩
      · have k1 : ¬ (k : Int) < (a.size : Int) := by omega
        clear hlt
        go_wp2_with fail
        go_ret
        exact ⟨ret_bool (by rw [HE.out]; try simp), _, rfl⟩

/-! ### the document's lists -/
abbrev It := ByteArray × V × Nat
abbrev encIt (x : It) : List Value := [.string x.1, .string x.2.1, .int .i64 x.2.2]
theorem encIt_len (x : It) : (encIt x).length = 3 := rfl
abbrev ItemsAt (w : World) (v : Value) (l : List It) : Prop := Elems encIt 3 w v l
theorem items_shape {w : World} {v : Value} {l : List It} (h : ItemsAt w v l) (h0 : 0 < l.length) :
    ∃ b off cap, v = .slice (some ⟨b, off, none⟩) l.length cap ∧ ∀ i (hi : i < l.length), w.cell? ⟨b, off + i * 3, none⟩ = some (.string l[i].1) ∧ w.cell? ⟨b, off + i * 3 + 1, none⟩ = some (.string l[i].2.1) ∧ w.cell? ⟨b, off + i * 3 + 2, none⟩ = some (.int .i64 l[i].2.2) := by
  obtain ⟨b, off, cap, hv, hc⟩ := elems_shape encIt_len h h0
  exact ⟨b, off, cap, hv, fun i hi => ⟨hc i hi 0 (by omega), hc i hi 1 (by omega), hc i hi 2 (by omega)⟩⟩
def SmallIts (l : List It) : Prop := l.length ≤ 1000 ∧ ∀ x ∈ l, x.1.size ≤ 1000000

/-- Get, on a list: the first one of a key. -/
def getIt (l : List It) (key : ByteArray) : V × Bool := match l.find? fun x => decide (x.1 = key) with | some x => (x.2.1, true) | none => (ByteArray.empty, false)
theorem find_drop {α : Type} (p : α → Bool) (l : List α) (k : Nat) (h : ∀ x ∈ l.take k, p x = false) : l.find? p = (l.drop k).find? p := by
  conv => lhs; rw [← List.take_append_drop k l]
  rw [List.find?_append, List.find?_eq_none.2 fun x hx => by simp [h x hx]]
  rfl
set_option maxHeartbeats 1000000 in
theorem rGet (v : Value) (l : List It) (key : ByteArray) (w : World) (h : ItemsAt w v l) (hs : SmallIts l) :
    Calls Try.prog 47 #[v, .string key] w fun e w' => e = .returned (.tuple #[.string (getIt l key).1, .bool (getIt l key).2]) ∧ w = w' := by
  obtain ⟨ao, cap, hv⟩ := elems_slice h
  have HI := Lib.hid h
  have hl := hs.1
  subst hv
  clear h
  go_enter Try.func47, Try.ntmps47
  go_wp2_with fail
  go_loop [6] (fun i => ∃ k : Nat, k ≤ l.length ∧ i = .int .i64 k ∧ ∀ x ∈ l.take k, decide (x.1 = key) = false) (fun i => l.length - (intOf i).toNat)
  case atStart => exact ⟨0, by omega, rfl, by simp⟩
  case round =>
    obtain ⟨k, hk, rfl, hno⟩ := hrel
    have HN := Lib.hid hno
    clear hno
    by_cases hlt : k < l.length
    · obtain ⟨b, off, cap', hv, hc⟩ := items_shape HI.out (by omega)
      cases hv
      have c1 := (hc k hlt).1
      have c2 := (hc k hlt).2.1
      have k0 : (0 : Int) ≤ (k : Int) := by omega
      have k1 : (k : Int) < (l.length : Int) := by omega
      have HG := Lib.hid (show getIt l key = getIt (l.drop k) key by unfold getIt; rw [find_drop _ l k HN.out])
      have HD := Lib.hid (List.drop_eq_getElem_cons hlt)
      have HT := Lib.hid (List.take_succ_eq_append_getElem hlt)
      clear hc
      generalize hx : l[k] = x at *
      clear hx
      by_cases he : x.1 = key
      · have hz : (x.1.toList == key.toList) = true := by rw [he]; simp
        have HE := Lib.hid he
        clear he
        go_wp2_with fail
        go_ret2
        refine ⟨?_, rfl⟩
        rw [HG.out, HD.out]
        simp [getIt, HE.out]
      · have hz : (x.1.toList == key.toList) = false := by rw [beq_toList]; simp [he]
        have HE := Lib.hid he
        clear he
        go_wp2_with fail
        go_round
        case rel =>
          refine ⟨k + 1, by omega, by go_num, fun y hy => ?_⟩
          rw [HT.out] at hy
          rcases List.mem_append.1 hy with hy | hy
          · exact HN.out y hy
          · rw [List.mem_singleton.1 hy]; simpa using HE.out
        case measure => simp [intOf]; omega
    · have k1 : ¬ (k : Int) < (l.length : Int) := by omega
      have HK := Lib.hid (show k = l.length by omega)
      go_wp2_with fail
      go_ret2
      refine ⟨?_, rfl⟩
      have : l.find? (fun x => decide (x.1 = key)) = none := by
        rw [List.find?_eq_none]
        intro x hx
        have := HN.out x (by rw [HK.out, List.take_length]; exact hx)
        simp [this]
      simp [getIt, this]
      rfl

def UniqIt (l : List It) : Prop := ∀ i j (hi : i < l.length) (hj : j < l.length), l[i].1 = l[j].1 → i = j
theorem putIt_at {l : List It} (hu : UniqIt l) {k : Nat} (hk : k < l.length) {key : ByteArray} (he : l[k].1 = key) (x : V) (h : Nat) : putIt l key x h = l.set k (l[k].1, x, l[k].2.2) ∧ hasIt l key = true := by
  have hany : (l.any fun e => decide (e.1 = key)) = true := by
    rw [List.any_eq_true]; exact ⟨l[k], List.getElem_mem hk, by simpa using he⟩
  refine ⟨?_, hany⟩
  unfold putIt
  rw [if_pos hany]
  apply List.ext_getElem (by simp)
  intro j h1 h2
  have hj : j < l.length := by simpa using h1
  rw [List.getElem_map, List.getElem_set]
  by_cases hjk : k = j
  · subst hjk; simp [he]
  · rw [if_neg hjk, if_neg]
    intro e
    exact hjk (hu k j hk hj (he.trans e.symm))
theorem putIt_new {l : List It} {key : ByteArray} (hn : ∀ x ∈ l, decide (x.1 = key) = false) (x : V) (h : Nat) : putIt l key x h = l ++ [(key, x, h)] ∧ hasIt l key = false := by
  have hany : (l.any fun e => decide (e.1 = key)) = false := by
    rw [List.any_eq_false]; intro e he; simpa using hn e he
  refine ⟨?_, hany⟩
  unfold putIt
  rw [hany]
  simp
theorem infoIt : (Try.prog.info? 43).map (fun i => (i.zero, i.size, i.bytes)) = some (some (.agg #[.string ByteArray.empty, .string ByteArray.empty, .int .i64 0]), 3, 40) := by kernel_rfl

structure RSetPost (l : List It) (key : ByteArray) (x : V) (height : Int) (w : World) (e : Ending) (w' : World) : Prop where
  res : ∃ v' n', e = .returned (.tuple #[v', .bool (!(hasIt l key))]) ∧ w'.ownsRow w.heap.size 43 3 v' n' ((putIt l key x (clampH height)).flatMap encIt) ∧ n' = (putIt l key x (clampH height)).length
  bel : Below w.heap.size w w'

set_option maxHeartbeats 2000000 in
theorem rSet (v : Value) (l : List It) (key : ByteArray) (x : V) (height : Int) (w : World) (h : ItemsAt w v l) (hs : SmallIts l) (hu : UniqIt l) :
    Calls Try.prog 17 #[v, .string key, .string x, .int .i64 height] w (RSetPost l key x height w) := by
  obtain ⟨ao, cap, hv⟩ := elems_slice h
  have HI := Lib.hid h
  have hl := hs.1
  subst hv
  have HU := Lib.hid hu
  clear h hu
  have h1c : ∀ u ∈ l.flatMap encIt, u.oneCell' = true := by
    intro u hu
    obtain ⟨y, _, hy⟩ := List.mem_flatMap.1 hu
    simp only [encIt, List.mem_cons, List.not_mem_nil, or_false] at hy
    rcases hy with rfl | rfl | rfl <;> rfl
  have H1C := Lib.hid h1c
  clear h1c
  go_enter Try.func17, Try.ntmps17
  go_wp2_with (at_builtin; refine wpList_append_seg rfl (.tmp 12) (.tmp 13) 33 rfl w.heap.size 43 (.agg #[.string ByteArray.empty, .string ByteArray.empty, .int .i64 0]) 3 40 Try.underlying33 infoIt rfl (by decide) (.slice (some ⟨w.heap.size, 0, none⟩) 0 0) 0 [] rfl (owns_empty (heap_alloc_new _ _) (Nat.le_refl _) 3) _ l.length (l.flatMap encIt) rfl (HI.out.kept ((Below.refl _ _).alloc (Nat.le_refl _) _)) H1C.out (by omega) (by decide) (by simp) ?_; intro v1 w1 r1 r2 r3; rw [Nat.zero_add, List.nil_append] at r1; have R1 := Lib.hid r1; have HB := Lib.hid ((((Below.refl w.heap.size w).alloc (Nat.le_refl _) (.cells #[] 43)).grown r2 (by simp) (fun k hk => by cases hk; exact Nat.le_refl _))); obtain ⟨ao1, cap1, hv1⟩ := owns_slice1 r1; subst hv1; clear r1 r2 r3)
  go_loop [11] (fun i => ∃ k : Nat, k ≤ l.length ∧ i = .int .i64 k ∧ ∀ x ∈ l.take k, decide (x.1 = key) = false) (fun i => l.length - (intOf i).toNat)
  case atStart => exact ⟨0, by omega, rfl, by simp⟩
  case round =>
    obtain ⟨k, hk, rfl, hno⟩ := hrel
    have HN := Lib.hid hno
    clear hno
    by_cases hlt : k < l.length
    · obtain ⟨b, cap', hv, _, _, _, hc0, hf⟩ := owns_shape R1.out (by omega)
      cases hv
      have hc : ∀ j, j < 3 → w1.cell? ⟨b, k * 3 + j, none⟩ = (encIt l[k])[j]? := fun j hj => by rw [hc0 _ (by omega), flat_at encIt_len l k hlt j hj]
      have c1 : w1.cell? ⟨b, k * 3, none⟩ = some (.string l[k].1) := hc 0 (by omega)
      have c2 : w1.cell? ⟨b, k * 3 + 1, none⟩ = some (.string l[k].2.1) := hc 1 (by omega)
      have f2 := hf (k * 3 + 1)
      have k0 : (0 : Int) ≤ (k : Int) := by omega
      have k1 : (k : Int) < (l.length : Int) := by omega
      have HT := Lib.hid (List.take_succ_eq_append_getElem hlt)
      clear hc hc0 hf
      obtain ⟨y, hx⟩ : ∃ y, y = l[k] := ⟨_, rfl⟩
      rw [← hx] at c1 c2
      have HX := Lib.hid hx
      clear hx
      by_cases he : y.1 = key
      · have hz : (y.1.toList == key.toList) = true := by rw [he]; simp
        have HE := Lib.hid he
        clear he
        go_wp2_with fail
        go_ret2
        have hp := putIt_at HU.out hlt (key := key) (by rw [← HX.out]; exact HE.out) x (clampH height)
        refine ⟨⟨_, _, by rw [hp.2]; rfl, ?_, by rw [hp.1, List.length_set]⟩, HB.out.setCell (p := ⟨b, k * 3 + 1, none⟩) ?_ _⟩
        · rw [hp.1, ← flat_set encIt_len l k hlt 1 (by omega) (l[k].1, x, l[k].2.2) (.string x) rfl]
          exact (R1.out.stored (k * 3 + 1) (.string x)).1
        · exact (R1.out.lt b rfl).1
      · have hz : (y.1.toList == key.toList) = false := by rw [beq_toList]; simp [he]
        have HE := Lib.hid he
        clear he
        go_wp2_with fail
        go_round
        case rel =>
          refine ⟨k + 1, by omega, by go_num, fun z hz => ?_⟩
          rw [HT.out] at hz
          rcases List.mem_append.1 hz with hz | hz
          · exact HN.out z hz
          · rw [List.mem_singleton.1 hz, ← HX.out]; simpa using HE.out
        case measure => simp [intOf]; omega
    · have k1 : ¬ (k : Int) < (l.length : Int) := by omega
      have HP := Lib.hid (putIt_new (l := l) (key := key) (fun y hy => HN.out y (by rw [List.take_of_length_le (by omega)]; exact hy)) x (clampH height))
      have hcl : (height < 1 ∧ clampH height = 1) ∨ (1 ≤ height ∧ height ≤ 12 ∧ (clampH height : Int) = height) ∨ (12 < height ∧ clampH height = 12) := by unfold clampH; omega
      have HL := Lib.hid (show (l ++ [(key, x, clampH height)]).flatMap encIt = l.flatMap encIt ++ [.string key, .string x, .int .i64 (clampH height)] by simp)
      rcases hcl with ⟨h1, h2⟩ | ⟨h1, h2, h3⟩ | ⟨h1, h2⟩
      all_goals
        first
          | (have HC := Lib.hid (show ((clampH height : Nat) : Int) = 1 by omega); clear h2)
          | (have HC := Lib.hid (show ((clampH height : Nat) : Int) = 12 by omega); clear h2)
          | (have HC := Lib.hid h3; clear h3)
        go_wp2_with (at_builtin; refine wpList_append1 rfl (.tmp 38) (.tmp 43) 33 rfl w.heap.size 43 (.agg #[.string ByteArray.empty, .string ByteArray.empty, .int .i64 0]) 3 40 Try.underlying33 infoIt rfl (by decide) _ l.length (l.flatMap encIt) _ rfl R1.out _ 1 rfl rfl rfl (by simp [Value.oneCell']) (by omega) (by decide) HB.out.size w.heap.size w HB.out (Nat.le_refl _) ?_; intro v2 w2 r1 r2 r3 r4; have R2 := Lib.hid r1; have HB2 := Lib.hid r3; obtain ⟨ao2, cap2, hv2⟩ := owns_slice1 r1; subst hv2; clear r1 r2 r3)
        go_ret2
        refine ⟨⟨_, _, by rw [HP.out.2]; rfl, ?_, by rw [HP.out.1, List.length_append]⟩, HB2.out⟩
        rw [HP.out.1, HL.out, HC.out]
        exact R2.out
end Go.Proofs.Try.SkS
