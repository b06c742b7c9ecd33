/- The document's order of entries; right lists; one by one into their places. -/
import Derived.Test.YtggcdeabnibibaaMk7
import Derived.Test.YtggcdeabnibibaaMp2
import Derived.Test.YtggcdeabnibibaaMw2
set_option linter.unusedVariables false
set_option linter.unusedSimpArgs false
namespace Go.Proofs.Try.Mg
open Go.RowKit Go.Cph Go.Cph.Skip Go.Cph.So
theorem bl_cons (x y : UInt8) (xs ys : List UInt8) (h : x ≠ y) : Op.bytesLess (x :: xs) (y :: ys) = decide (x.toNat < y.toNat) := by
  have hb : (x == y) = false := by simpa using h
  simp [Op.bytesLess, hb, h]
  first
    | done
    | (rw [UInt8.lt_iff_toNat_lt])
theorem bl_same (x : UInt8) (xs ys : List UInt8) : Op.bytesLess (x :: xs) (x :: ys) = Op.bytesLess xs ys := by simp [Op.bytesLess]
theorem klt_drop (a b : ByteArray) : klt a b = Op.bytesLess (a.data.toList.drop 0) (b.data.toList.drop 0) := by
  unfold klt; rw [ByteArray.toList_eq, ByteArray.toList_eq]; rfl
theorem drop_cons (s : ByteArray) (k : Nat) (h : k < s.size) : s.data.toList.drop k = s[k] :: s.data.toList.drop (k + 1) := by
  rw [List.drop_eq_getElem_cons (by simpa using h)]; rfl
theorem drop_end (s : ByteArray) (k : Nat) (h : s.size ≤ k) : s.data.toList.drop k = [] := List.drop_of_length_le (by simpa using h)
theorem bl_end1 (ys : List UInt8) : Op.bytesLess [] ys = decide (0 < ys.length) := by cases ys <;> simp [Op.bytesLess]
theorem bl_end2 (xs : List UInt8) : Op.bytesLess xs [] = false := by cases xs <;> simp [Op.bytesLess]

set_option maxHeartbeats 1000000 in
theorem less (a b : ByteArray) (w : World) (ha : a.size ≤ 1000000) (hb : b.size ≤ 1000000) :
    Calls Try.prog 38 #[.string a, .string b] w fun e w' => e = .returned (.bool (klt a b)) ∧ ∃ n, w' = w.drewN n := by
  have HK := Lib.hid (klt_drop a b)
  go_enter Try.func38, Try.ntmps38
  go_wp2_with fail
  go_loopw [5] (fun i wr => ∃ k n : Nat, k ≤ a.size ∧ k ≤ b.size ∧ i = .int .i64 k ∧ wr = w.drewN n ∧ klt a b = Op.bytesLess (a.data.toList.drop k) (b.data.toList.drop k))
    (fun i _ => a.size - (intOf i).toNat)
  case atStart => exact ⟨0, 0, by omega, by omega, rfl, rfl, HK.out⟩
  case round =>
    obtain ⟨k, n, hka, hkb, rfl, rfl, hk⟩ := hrel
    have H := Lib.hid hk
    clear hk
    by_cases hlt : k < a.size ∧ k < b.size
    · obtain ⟨h1, h2⟩ := hlt
      have k0 : (0 : Int) ≤ (k : Int) := by omega
      have k1 : (k : Int) < (a.size : Int) := by omega
      have k2 : (k : Int) < (b.size : Int) := by omega
      have HD := Lib.hid (show klt a b = Op.bytesLess (a[k] :: a.data.toList.drop (k + 1)) (b[k] :: b.data.toList.drop (k + 1)) by rw [H.out, drop_cons a k h1, drop_cons b k h2])
      by_cases he : a[k] = b[k]
      · have hz : ((a[k].toNat : Int) == (b[k].toNat : Int)) = true := by simp [he]
        have HN := Lib.hid (show klt a b = Op.bytesLess (a.data.toList.drop (k + 1)) (b.data.toList.drop (k + 1)) by rw [HD.out, he, bl_same])
        clear he
        go_wp2_with fail
        go_quiet (fail)
        go_wp2_with fail
        go_roundw
        case rel => exact ⟨k + 1, _, by omega, by omega, by go_num, rfl, HN.out⟩
        case measure => simp [intOf]; omega
      · have hz : ((a[k].toNat : Int) == (b[k].toNat : Int)) = false := by
          have : a[k].toNat ≠ b[k].toNat := fun e => he (UInt8.toNat_inj.1 e)
          simpa using fun e => this (by omega)
        have HN := Lib.hid (show klt a b = decide (a[k].toNat < b[k].toNat) by rw [HD.out, bl_cons _ _ _ _ he])
        clear he
        go_wp2_with fail
        go_quiet (fail)
        go_wp2_with fail
        go_quiet (fail)
        go_wp2_with fail
        go_ret
        exact ⟨ret_bool (by rw [HN.out]; try simp), _, by rw [World.drewN_drewN, World.drewN_drewN]⟩
    · have HE := Lib.hid (show klt a b = decide (a.size < b.size) by
        rw [H.out]
        rcases Nat.lt_or_ge k a.size with h | h
        · have hb' : k = b.size := by omega
          rw [drop_end b k (by omega), bl_end2]
          simp; omega
        · have ha' : k = a.size := by omega
          rw [drop_end a k (by omega), bl_end1]
          simp; omega)
      by_cases h1 : k < a.size
      · have h2 : ¬ (k : Int) < (b.size : Int) := by omega
        have k1 : (k : Int) < (a.size : Int) := by omega
        clear hlt
        go_wp2_with fail
        go_ret
        exact ⟨ret_bool (by rw [HE.out]; try simp), _, rfl⟩
      · have k1 : ¬ (k : Int) < (a.size : Int) := by omega
        clear hlt
        go_wp2_with fail
        go_ret
        exact ⟨ret_bool (by rw [HE.out]; try simp), _, rfl⟩


def KeysOK (l : List Ent) : Prop := ∀ x ∈ l, x.1.size ≤ 1000000
theorem ltE_keys {a b : Ent} (h : a.1 ≠ b.1) : ltE a b = klt a.1 b.1 := by unfold ltE; simp [h]
theorem ltE_seq {a b : Ent} (h : a.1 = b.1) : ltE a b = decide (b.2.2.1 < a.2.2.1) := by unfold ltE; rw [h]; simp [klt_irrefl]

set_option maxRecDepth 100000 in
set_option maxHeartbeats 2000000 in
theorem before_any (a b : Ent) (w : World) (ha : a.1.size ≤ 1000000) (hb : b.1.size ≤ 1000000) :
    Calls Try.prog 27 #[encP a, encP b] w fun e w' => e = .returned (.bool (ltE a b)) ∧ Below w.heap.size w w' := by
  have HB0 := Lib.hid (show Below w.heap.size w ((w.alloc (.cells #[.string a.1, .string a.2.1, .int .u64 (a.2.2.1.toNat : Int), .bool a.2.2.2] TE)).alloc (.cells #[.string b.1, .string b.2.1, .int .u64 (b.2.2.1.toNat : Int), .bool b.2.2.2] TE)) from ((Below.refl _ _).alloc (Nat.le_refl _) _).alloc (by simp) _)
  by_cases hk : a.1 = b.1
  · have e1 : (a.1.toList != b.1.toList) = false := by
      have : (a.1.toList == b.1.toList) = true := by rw [beq_toList]; simpa using hk
      simp [bne, this]
    have e2 : (a.1.toList == b.1.toList) = true := by rw [beq_toList]; simpa using hk
    have HV := Lib.hid (ltE_seq hk)
    have h1 := a.2.2.1.toNat_lt
    have h2 := b.2.2.1.toNat_lt
    by_cases hs : b.2.2.1 < a.2.2.1
    · have e3 : (b.2.2.1.toNat : Int) < (a.2.2.1.toNat : Int) := (u64_lt _ _).2 hs
      have HS := Lib.hid (show ltE a b = true by rw [HV.out]; simpa using hs)
      clear hk hs
      go_enter Try.func27, Try.ntmps27
      go_wp2_with fail
      go_ret
      exact ⟨ret_bool (by rw [HS.out]; try simp [e3]), HB0.out⟩
    · have e3 : ¬ (b.2.2.1.toNat : Int) < (a.2.2.1.toNat : Int) := fun h => hs ((u64_lt _ _).1 h)
      have HS := Lib.hid (show ltE a b = false by rw [HV.out]; simpa using hs)
      clear hk hs
      go_enter Try.func27, Try.ntmps27
      go_wp2_with fail
      go_ret
      exact ⟨ret_bool (by rw [HS.out]; try simp [e3]), HB0.out⟩
  · have e2 : (a.1.toList == b.1.toList) = false := by rw [beq_toList]; simpa using hk
    have HC := Lib.hid (fun w => less a.1 b.1 w ha hb)
    have HV := Lib.hid (ltE_keys hk)
    clear hk
    go_enter Try.func27, Try.ntmps27
    go_wp2_with fail
    refine (HC.out _).mono ?_
    rintro e w1 ⟨rfl, n, rfl⟩
    go_wp2_with fail
    go_ret
    exact ⟨ret_bool HV.out.symm, below_step HB0.out (show Below _ _ (World.drewN _ n) from ⟨rfl, rfl, rfl, Nat.le_refl _, fun _ _ => rfl⟩) HB0.out.size⟩

set_option maxRecDepth 100000 in
set_option maxHeartbeats 4000000 in
theorem right16 (v : Value) (l : List Ent) (w : World) (h : EntsAt w v l) (hn : l.length ≤ 1000000) (hks : KeysOK l) :
    Calls Try.prog 12 #[v] w fun e w' => e = .returned (.bool (rightL l)) ∧ Below w.heap.size w w' := by
  obtain ⟨ao, cap, hv⟩ := elems_slice h
  have HV := Lib.hid h
  have HKS := Lib.hid hks
  subst hv
  clear h hks
  go_enter Try.func12, Try.ntmps12
  go_wp2_with fail
  go_loopw [3] (fun vi wr => ∃ i : Nat, i ≤ l.length ∧ vi = .int .i64 i ∧ (∀ p q (hp : p < l.length) (hq : q < l.length), q < i → p < q → ltE l[p] l[q] = true) ∧ Below w.heap.size w wr) (fun vi _ => l.length - (intOf vi).toNat)
  case atStart => exact ⟨0, Nat.zero_le _, rfl, fun p q _ _ h => by omega, Below.refl _ _⟩
  case round =>
    obtain ⟨i, hi, rfl, hall, hbel⟩ := hrel
    have HALL := Lib.hid hall
    have HBE := Lib.hid hbel
    clear hall hbel
    by_cases hlt : i < l.length
    · have k2 : (i : Int) < (l.length : Int) := by omega
      obtain ⟨wo, rfl⟩ : ∃ wo : World, wo = wr := ⟨_, rfl⟩
      go_wp2_with fail
      go_loopw [4] (fun vk wr2 => ∃ k : Nat, k ≤ i ∧ vk = .int .i64 k ∧ (∀ p (hp : p < l.length), p < k → ltE l[p] (l[i]'hlt) = true) ∧ Below w.heap.size w wr2) (fun vk _ => i - (intOf vk).toNat)
      case atStart => exact ⟨0, Nat.zero_le _, rfl, fun p _ h => by omega, HBE.out⟩
      case round =>
        obtain ⟨k, hk, rfl, hall, hbel⟩ := hrel
        have HA2 := Lib.hid hall
        have HB2 := Lib.hid hbel
        clear hall hbel
        obtain ⟨wo2, rfl⟩ : ∃ wo : World, wo = wr := ⟨_, rfl⟩
        by_cases hki : k < i
        · obtain ⟨b, off, cap', hve, hcs⟩ := ents_cells HV.out (by omega)
          cases hve
          have hkl : k < l.length := by omega
          have hcx := (hcs k hkl).kept HB2.out
          have hcy := (hcs i hlt).kept HB2.out
          obtain ⟨x, hx⟩ : ∃ x, x = l[k] := ⟨_, rfl⟩
          obtain ⟨y, hy⟩ : ∃ x, x = l[i] := ⟨_, rfl⟩
          have HO := Lib.hid (fun w => before_any x y w (HKS.out x (by rw [hx]; exact List.getElem_mem _)) (HKS.out y (by rw [hy]; exact List.getElem_mem _)))
          rw [← hx] at hcx
          rw [← hy] at hcy
          have HXY := Lib.hid (show ltE x y = ltE l[k] l[i] by rw [hx, hy])
          obtain ⟨r, hr⟩ : ∃ r, r = ltE x y := ⟨_, rfl⟩
          rw [← hr] at HO HXY
          have y1 : (k : Int) < (l.length : Int) := by omega
          have y2 : (i : Int) < (l.length : Int) := by omega
          have y3 : (0 : Int) ≤ (k : Int) := by omega
          have y4 : (0 : Int) ≤ (i : Int) := by omega
          clear hx hy hcs hr
          have d0 : ∀ zz : Later wo2.heap.size wo2, zz.val.cell? ⟨b, off + k * 4, none⟩ = some (.string x.1) := fun zz => Later.cell hcx.c0 (World.block_lt_of_cell? _ _ hcx.c0) zz
          have d1 : ∀ zz : Later wo2.heap.size wo2, zz.val.cell? ⟨b, off + k * 4 + 1, none⟩ = some (.string x.2.1) := fun zz => Later.cell hcx.c1 (World.block_lt_of_cell? _ _ hcx.c1) zz
          have d2 : ∀ zz : Later wo2.heap.size wo2, zz.val.cell? ⟨b, off + k * 4 + 2, none⟩ = some (.int .u64 (x.2.2.1.toNat : Int)) := fun zz => Later.cell hcx.c2 (World.block_lt_of_cell? _ _ hcx.c2) zz
          have d3 : ∀ zz : Later wo2.heap.size wo2, zz.val.cell? ⟨b, off + k * 4 + 3, none⟩ = some (.bool x.2.2.2) := fun zz => Later.cell hcx.c3 (World.block_lt_of_cell? _ _ hcx.c3) zz
          have f0 : ∀ zz : Later wo2.heap.size wo2, zz.val.cell? ⟨b, off + i * 4, none⟩ = some (.string y.1) := fun zz => Later.cell hcy.c0 (World.block_lt_of_cell? _ _ hcy.c0) zz
          have f1 : ∀ zz : Later wo2.heap.size wo2, zz.val.cell? ⟨b, off + i * 4 + 1, none⟩ = some (.string y.2.1) := fun zz => Later.cell hcy.c1 (World.block_lt_of_cell? _ _ hcy.c1) zz
          have f2 : ∀ zz : Later wo2.heap.size wo2, zz.val.cell? ⟨b, off + i * 4 + 2, none⟩ = some (.int .u64 (y.2.2.1.toNat : Int)) := fun zz => Later.cell hcy.c2 (World.block_lt_of_cell? _ _ hcy.c2) zz
          have f3 : ∀ zz : Later wo2.heap.size wo2, zz.val.cell? ⟨b, off + i * 4 + 3, none⟩ = some (.bool y.2.2.2) := fun zz => Later.cell hcy.c3 (World.block_lt_of_cell? _ _ hcy.c3) zz
          clear hcx hcy
          go_wp2_with fail
          refine wp_region_later wo2.heap.size (by kernel_rfl) (by kernel_rfl) ?_
          repeat (go_big_quiet_step ((go_at_call 27; exact Later.calls (Nat.le_refl _) (HO.out _))))
          refine wpQuiet_nil ?_
          rintro w2 ⟨zz, rfl⟩
          have HB3 := Lib.hid (below_step HB2.out zz.prop HB2.out.size)
          clear d0 d1 d2 d3 f0 f1 f2 f3 HO y1 y2 y3 y4
          generalize zz.val = w2 at *
          cases r
          · have HE := Lib.hid (show rightL l = false from by
              rw [Bool.eq_false_iff]
              intro h
              have := List.pairwise_iff_getElem.1 (rightL_iff.1 h) k i hkl hlt hki
              rw [← HXY.out] at this; cases this)
            go_wp2_with fail
            go_ret
            exact ⟨ret_bool HE.out.symm, HB3.out⟩
          · go_wp2_with fail
            go_roundw
            case rel =>
              refine ⟨k + 1, hki, by go_num, fun p hp hpk => ?_, HB3.out⟩
              by_cases e : p = k
              · subst e; exact HXY.out.symm
              · exact HA2.out p hp (by omega)
            case measure => simp [intOf]; omega
        · have HN := Lib.hid (show ∀ p q (hp : p < l.length) (hq : q < l.length), q < i + 1 → p < q → ltE l[p] l[q] = true from fun p q hp hq h1 h2 => by
            by_cases e : q = i
            · subst e; exact HA2.out p hp (by omega)
            · exact HALL.out p q hp hq (by omega) h2)
          go_wp2_with fail
          go_roundw
          case rel => exact ⟨i + 1, hlt, by go_num, HN.out, HB2.out⟩
          case measure => simp [intOf]; omega
    · have HE := Lib.hid (show rightL l = true from by
        rw [rightL_iff]
        exact List.pairwise_iff_getElem.2 fun p q hp hq hpq => HALL.out p q hp hq (by omega) hpq)
      go_wp2_with fail
      go_ret
      exact ⟨ret_bool HE.out.symm, HBE.out⟩
end Go.Proofs.Try.Mg
