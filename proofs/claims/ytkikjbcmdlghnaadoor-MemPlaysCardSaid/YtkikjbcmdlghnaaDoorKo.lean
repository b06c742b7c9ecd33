/- A memory: At, Newest, Bytes. -/
import Derived.Test.YtkikjbcmdlghnaaDoorKn
import Derived.Deep.RegionHeld3
set_option linter.unusedVariables false
set_option linter.unusedSimpArgs false
set_option maxRecDepth 100000
namespace Go.Proofs.Tryd.Skm
open Go.RowKit Go.Cph Go.Cph.Skip Go.Cph.Skm Go.Cph.Ok
theorem bel_call {w4 W u : World} (hb : Below W.heap.size W u) (h : Below w4.heap.size w4 W) : Below w4.heap.size w4 u := below_step h hb h.size
structure CellsZ (w : World) (b : Nat) : Prop where
  c0 : w.cell? ⟨b, 0, none⟩ = some (.string ⟨#[]⟩)
  c1 : w.cell? ⟨b, 1, none⟩ = some (.string ⟨#[]⟩)
  c2 : w.cell? ⟨b, 2, none⟩ = some (.int .u64 0)
  c3 : w.cell? ⟨b, 3, none⟩ = some (.bool false)
  fz : ∀ j, w.frozen? ⟨b, j, none⟩ = false
theorem boxZ_cells {w : World} {b : Nat} (h : w.heap[b]? = some boxZ) : CellsZ w b := ⟨by rw [blk_cell h]; rfl, by rw [blk_cell h]; rfl, by rw [blk_cell h]; rfl, by rw [blk_cell h]; rfl, fun j => by rw [blk_frozen h]; simp⟩
theorem put_boxZ {W : World} {g : Nat} (h : W.heap[g]? = some boxZ) (a : Et) : ((((W.setCell ⟨g, 0, none⟩ (.string a.1)).setCell ⟨g, 1, none⟩ (.string a.2.1)).setCell ⟨g, 2, none⟩ (.int .u64 (a.2.2.1.toNat : Int))).setCell ⟨g, 3, none⟩ (.bool a.2.2.2)).heap[g]? = some (boxE a) := blk_set (blk_set (blk_set (blk_set h 0 _) 1 _) 2 _) 3 _
/-- What Seek tells of a memory's list. -/
def SeekIs (es : List Et) (K : ByteArray) (x : Et) (ok : Bool) : Prop :=
  (ok = false ∧ x = zeroV ∧ ∀ y ∈ es, klt (pl y) K = true) ∨ (ok = true ∧ x ∈ es ∧ klt (pl x) K = false ∧ ∀ y ∈ es, klt (pl y) K = false → klt (pl y) (pl x) = false)
theorem seek_is {es : List Et} {nodes : List (Nd Et)} {K k : ByteArray} {n : Nat} {x : Et} {ok : Bool} (hes : nodes.map (·.val) = es) (hk : ∀ x ∈ nodes, x.key = pl x.val) (hs : Seek nodes K n) (ht : Tells nodes n k x ok) : SeekIs es K x ok := by
  subst hes
  rcases hs with ⟨rfl, h0⟩ | ⟨i, hi, rfl, h1, h2⟩
  · rcases ht with ⟨_, _, rfl, rfl⟩ | ⟨i, hi, h, _⟩
    · refine .inl ⟨rfl, rfl, fun y hy => ?_⟩
      obtain ⟨z, hz, rfl⟩ := List.mem_map.1 hy
      rw [← hk z hz]; exact h0 z hz
    · omega
  · rcases ht with ⟨h, _⟩ | ⟨j, hj, h, _, rfl, rfl⟩
    · omega
    · obtain rfl : i = j := by omega
      refine .inr ⟨rfl, List.mem_map.2 ⟨_, List.getElem_mem hi, rfl⟩, by rw [← hk _ (List.getElem_mem hi)]; exact h1, fun y hy hy2 => ?_⟩
      obtain ⟨z, hz, rfl⟩ := List.mem_map.1 hy
      rw [← hk z hz] at hy2 ⊢
      rw [← hk _ (List.getElem_mem hi)]
      exact h2 z hz hy2
/-- The version of a key that counts at a number. -/
def AtIs (es : List Et) (key : ByteArray) (n : UInt64) (x : Et) (ok : Bool) : Prop :=
  (ok = false ∧ x = zeroV ∧ ∀ y ∈ es, y.1 = key → n < y.2.2.1) ∨ (ok = true ∧ x ∈ es ∧ x.1 = key ∧ x.2.2.1 ≤ n ∧ ∀ y ∈ es, y.1 = key → y.2.2.1 ≤ n → y.2.2.1 ≤ x.2.2.1)
theorem pl_at (y : Et) (key : ByteArray) (n : UInt64) : klt (pl y) (ofBs (place key.data.toList n.toNat)) = (klt y.1 key || (decide (y.1 = key) && decide (n < y.2.2.1))) := pl_less _ _ _ _
theorem pl_pl (x y : Et) : klt (pl x) (pl y) = (klt x.1 y.1 || (decide (x.1 = y.1) && decide (y.2.2.1 < x.2.2.1))) := pl_less _ _ _ _
theorem at_none {es : List Et} {key : ByteArray} {n : UInt64} {x : Et} (h : SeekIs es (ofBs (place key.data.toList n.toNat)) x false) : AtIs es key n zeroV false := by
  rcases h with ⟨_, rfl, h⟩ | ⟨h, _⟩
  · refine .inl ⟨rfl, rfl, fun y hy hk => ?_⟩
    have h1 := h y hy
    rw [pl_at, hk, klt_irrefl] at h1
    simpa using h1
  · cases h
theorem at_other {es : List Et} {key : ByteArray} {n : UInt64} {x : Et} (h : SeekIs es (ofBs (place key.data.toList n.toNat)) x true) (hne : x.1 ≠ key) : AtIs es key n zeroV false := by
  rcases h with ⟨h, _⟩ | ⟨_, hx, h1, h2⟩
  · cases h
  · refine .inl ⟨rfl, rfl, fun y hy hk => ?_⟩
    rw [pl_at] at h1
    rw [Bool.or_eq_false_iff] at h1
    refine Classical.byContradiction fun hn => ?_
    have h3 := h2 y hy (by rw [pl_at, hk, klt_irrefl]; simp [hn])
    rw [pl_pl, Bool.or_eq_false_iff, hk] at h3
    exact hne (klt_total h1.1 h3.1)
theorem at_this {es : List Et} {key : ByteArray} {n : UInt64} {x : Et} (h : SeekIs es (ofBs (place key.data.toList n.toNat)) x true) (he : x.1 = key) : AtIs es key n x true := by
  rcases h with ⟨h, _⟩ | ⟨_, hx, h1, h2⟩
  · cases h
  · rw [pl_at, he, klt_irrefl] at h1
    have h1' : ¬ n < x.2.2.1 := by simpa using h1
    refine .inr ⟨rfl, hx, he, UInt64.not_lt.1 h1', fun y hy hk hle => ?_⟩
    have h3 := h2 y hy (by rw [pl_at, hk, klt_irrefl]; simp; exact hle)
    rw [pl_pl, hk, he, klt_irrefl] at h3
    have h3' : ¬ x.2.2.1 < y.2.2.1 := by simpa using h3
    exact UInt64.not_lt.1 h3'
def AtPost (es : List Et) (key : ByteArray) (n : UInt64) (w : World) (r : Ending) (w' : World) : Prop := ∃ x ok, r = .returned (.tuple #[encV x, .bool ok]) ∧ AtIs es key n x ok ∧ Below w.heap.size w w'
theorem mAtN {v : Value} (key : ByteArray) (n : UInt64) (w : World) (h : NoMem w v) :
    Calls Tryd.prog 13 #[v, .string key, .int .u64 (n.toNat : Int)] w fun r w' => r = .returned (.tuple #[encV zeroV, .bool false]) ∧ Below w.heap.size w w' := by
  have HB := Lib.hid (show Below w.heap.size w (w.alloc boxZ) from (Below.refl _ _).alloc (Nat.le_refl _) _)
  have HC := Lib.hid (mNoneN _ (h.kept HB.out))
  have HG := Lib.hid (heap_alloc_new w boxZ)
  have hz := boxZ_cells HG.out
  have z0 := hz.c0
  have z1 := hz.c1
  have z2 := hz.c2
  have z3 := hz.c3
  have zf := hz.fz
  clear h hz
  go_enter Tryd.func13, Tryd.ntmps13
  go_wp2_with fail
  refine HC.out.mono ?_
  rintro r w1 ⟨rfl, rfl⟩
  go_wp2_with fail
  exact bodyPost_ret (v := .tuple #[encV zeroV, .bool false]) (by simp [results, Tryd.results13, go_sem, z0, z1, z2, z3]) rfl ⟨rfl, HB.out⟩
set_option maxHeartbeats 6400000 in
theorem mAt {F : Nat → Prop} {p : Nat} {es : List Et} (key : ByteArray) (n : UInt64) (m : Int) (w : World) (h : IsMem F w p es) (hm : MaxAt m w) (hk : key.size ≤ 1000000) :
    Calls Tryd.prog 13 #[ptr p, .string key, .int .u64 (n.toNat : Int)] w (AtPost es key n w) := by
  have HB := Lib.hid (show Below w.heap.size w (w.alloc boxZ) from (Below.refl _ _).alloc (Nat.le_refl _) _)
  have HG := Lib.hid (heap_alloc_new w boxZ)
  have HM := Lib.hid hm
  have HK := Lib.hid hk
  obtain ⟨q, nx, nodes, v, g1, g2, g3, g4, g5, g6, g7⟩ := (h.kept HB.out).out
  have c0 : (w.alloc boxZ).cell? ⟨p, 0, none⟩ = some (ptr q) := by rw [blk_cell g1]; rfl
  have HC := Lib.hid (mNone2 p q _ c0)
  have GB := Lib.hid g1
  have GA := Lib.hid g2
  have GL := Lib.hid g3
  have GE := Lib.hid g4
  have GK := Lib.hid g5
  have hpw : p ≠ w.heap.size := by have := h.lt _ g6; omega
  obtain ⟨K, hK⟩ : ∃ K, K = ofBs (place key.data.toList n.toNat) := ⟨_, rfl⟩
  have HKK := Lib.hid hK
  have HS0 := Lib.hid (show Below (w.alloc boxZ).heap.size (w.alloc boxZ) (w.alloc boxZ) from Below.refl _ _)
  clear h hm hk g1 g2 g3 g4 g5 g6 g7 hK c0
  go_enter Tryd.func13, Tryd.ntmps13
  go_wp2_with fail
  refine HC.out.mono ?_
  rintro r w1 ⟨rfl, rfl⟩
  go_upto_region 3 with (fail)
  generalize w.alloc boxZ = w4 at *
  have HCC := Lib.hid (show ∀ W, Below w4.heap.size w4 W → W.cell? ⟨p, 0, none⟩ = some (ptr q) from fun W hb => by rw [blk_cell (blk_kept hb GB.out)]; rfl)
  have HPL := Lib.hid (show ∀ W, Below w4.heap.size w4 W → Calls Tryd.prog 8 #[.string key, .int .u64 (n.toNat : Int)] W fun r w' => r = .returned (.string K) ∧ Below W.heap.size W w' from fun W hb => by
    rw [HKK.out]
    exact place_any key n m W HK.out (max_kept HM.out (below_step HB.out hb HB.out.size) (max_lt HM.out)))
  have HSK := Lib.hid (show ∀ W, Below w4.heap.size w4 W → Calls Tryd.prog 29 #[ptr q, .string K] W fun r w' => (∃ k x ok, r = .returned (.tuple #[.string k, encV x, .bool ok]) ∧ SeekIs es K x ok) ∧ Below W.heap.size W w' from fun W hb =>
    (cSeek K W (GA.out.kept hb) GL.out).mono fun r w' ⟨⟨n', k, x, ok, h1, h2, h3⟩, h4⟩ => ⟨⟨k, x, ok, h1, seek_is GE.out GK.out h2 h3⟩, h4⟩)
  go_cut [9, 10] (fun s9 s10 wx => ∃ b x ok, s9 = .pointer (some ⟨b, 0, none⟩) ∧ s10 = .bool ok ∧ wx.heap[b]? = some (boxE x) ∧ Below w4.heap.size w4 wx ∧ w4.heap.size ≤ b ∧ SeekIs es K x ok)
  case first =>
    rename_i zK za2 zJ zK2 za1 za0
    clear za2 HG HC HKK HM HK GL GE GK
    have n1 : w4.heap.size ≠ p := by have := blk_lt GB.out; omega
    have n3 : p ≠ w4.heap.size := fun e => n1 e.symm
    have c0 := HCC.out _ (bel_drew HS0.out)
    have cc0 := HCC.out _ (bel_drew (bel_alloc HS0.out boxZ))
    go_region_held3 (fun W => W.cell? ⟨p, 0, none⟩ = some (ptr q)) (go_keep)
      (first
        | (go_at_call 8; (first
            | ((with_reducible refine (HPL.out _ (bel_drew HS0.out)).mono ?_); rintro r u1 ⟨rfl, hb⟩; have B1 := Lib.hid (bel_call hb (bel_drew HS0.out)))
            | (refine (HPL.out _ (bel_alloc (bel_drew HS0.out) boxZ)).mono ?_; rintro r u1 ⟨rfl, hb⟩; have B1 := Lib.hid (bel_call hb (bel_alloc (bel_drew HS0.out) boxZ)); have K1 := Lib.hid (show u1.heap[w4.heap.size]? = some boxZ from blk_kept hb (heap_alloc_new w4.drew _)))); clear hb; have d0 := HCC.out _ B1.out; have dd0 := HCC.out _ (bel_alloc B1.out boxZ); have m1 : u1.heap.size ≠ p := (by have := B1.out.size; have := blk_lt GB.out; omega); have m3 : p ≠ u1.heap.size := (fun e => m1 e.symm))
        | (go_at_call 29; (first
            | ((with_reducible refine (HSK.out u1 B1.out).mono ?_); rintro r u2 ⟨⟨k, x, ok, rfl, hx⟩, hb⟩; have B2 := Lib.hid (bel_call hb B1.out); try (have K2 := Lib.hid (blk_kept hb K1.out)))
            | (refine (HSK.out (u1.alloc boxZ) (bel_alloc B1.out boxZ)).mono ?_; rintro r u2 ⟨⟨k, x, ok, rfl, hx⟩, hb⟩; have B2 := Lib.hid (bel_call hb (bel_alloc B1.out boxZ)); have K2 := Lib.hid (show u2.heap[u1.heap.size]? = some boxZ from blk_kept hb (heap_alloc_new u1 _)))); have HX := Lib.hid hx; clear hx hb; have f0 := HCC.out _ B2.out; try (have z0 := (boxZ_cells K2.out).c0; have z1 := (boxZ_cells K2.out).c1; have z2 := (boxZ_cells K2.out).c2; have z3 := (boxZ_cells K2.out).c3; have zf := (boxZ_cells K2.out).fz)))
    all_goals
      go_wp2_with fail
      go_meet
      case rel => first
        | exact ⟨_, _, _, rfl, rfl, put_boxZ K2.out x, put_belowE B2.out (by first | exact Nat.le_refl _ | exact B1.out.size) x, (by first | exact Nat.le_refl _ | exact B1.out.size), HX.out⟩
        | exact ⟨_, _, _, rfl, rfl, heap_alloc_new _ _, B2.out.alloc B2.out.size _, B2.out.size, HX.out⟩
  case rest =>
    obtain ⟨b, x, ok, rfl, rfl, hgb, hbel, hlb, hseek⟩ := hcut
    have hwb : w.heap.size < b := Nat.lt_of_lt_of_le (blk_lt HG.out) hlb
    have hne : b ≠ w.heap.size := by omega
    have HBW := Lib.hid (below_step HB.out hbel HB.out.size)
    have HGW := Lib.hid (blk_kept hbel HG.out)
    have HX := Lib.hid hgb
    have z0 := (boxZ_cells HGW.out).c0
    have z1 := (boxZ_cells HGW.out).c1
    have z2 := (boxZ_cells HGW.out).c2
    have z3 := (boxZ_cells HGW.out).c3
    have zf := (boxZ_cells HGW.out).fz
    have x0 : wc.cell? ⟨b, 0, none⟩ = some (.string x.1) := (boxE_cells hgb).c0
    have x1 : wc.cell? ⟨b, 1, none⟩ = some (.string x.2.1) := (boxE_cells hgb).c1
    have x2 : wc.cell? ⟨b, 2, none⟩ = some (.int .u64 (x.2.2.1.toNat : Int)) := (boxE_cells hgb).c2
    have x3 : wc.cell? ⟨b, 3, none⟩ = some (.bool x.2.2.2) := (boxE_cells hgb).c3
    rw [HKK.out] at hseek
    have HQ := Lib.hid (put_boxZ HGW.out x)
    have HBQ := Lib.hid (put_belowE HBW.out (Nat.le_refl _) x)
    have HQZ := Lib.hid (show ((((wc.setCell ⟨w.heap.size, 0, none⟩ (.string ⟨#[]⟩)).setCell ⟨w.heap.size, 1, none⟩ (.string ⟨#[]⟩)).setCell ⟨w.heap.size, 2, none⟩ (.int .u64 0)).setCell ⟨w.heap.size, 3, none⟩ (.bool false)).heap[w.heap.size]? = some boxZ from blk_set (blk_set (blk_set (blk_set HGW.out 0 _) 1 _) 2 _) 3 _)
    have HBQZ := Lib.hid (show Below w.heap.size w ((((wc.setCell ⟨w.heap.size, 0, none⟩ (.string ⟨#[]⟩)).setCell ⟨w.heap.size, 1, none⟩ (.string ⟨#[]⟩)).setCell ⟨w.heap.size, 2, none⟩ (.int .u64 0)).setCell ⟨w.heap.size, 3, none⟩ (.bool false)) from put_belowE HBW.out (Nat.le_refl _) zeroV)
    clear hgb hbel hlb
    cases ok with
    | false =>
      have HA := Lib.hid (at_none hseek)
      clear hseek
      go_wp2_with fail
      clear z0 z1 z2 z3 zf x0 x1 x2 x3 HQ HBQ
      generalize ((((wc.setCell ⟨w.heap.size, 0, none⟩ (.string ⟨#[]⟩)).setCell ⟨w.heap.size, 1, none⟩ (.string ⟨#[]⟩)).setCell ⟨w.heap.size, 2, none⟩ (.int .u64 0)).setCell ⟨w.heap.size, 3, none⟩ (.bool false)) = w9 at *
      have z0 := (boxZ_cells HQZ.out).c0
      have z1 := (boxZ_cells HQZ.out).c1
      have z2 := (boxZ_cells HQZ.out).c2
      have z3 := (boxZ_cells HQZ.out).c3
      exact bodyPost_ret (v := .tuple #[encV zeroV, .bool false]) (by simp [results, Tryd.results13, go_sem, z0, z1, z2, z3]) rfl ⟨_, _, rfl, HA.out, HBQZ.out⟩
    | true =>
      by_cases he : x.1 = key
      · have HA := Lib.hid (at_this hseek he)
        have j1 : (x.1.toList == key.toList) = true := by rw [beq_toList]; simpa using he
        clear hseek he
        go_wp2_with fail
        clear z0 z1 z2 z3 zf x0 x1 x2 x3 HQZ HBQZ
        generalize ((((wc.setCell ⟨w.heap.size, 0, none⟩ (.string x.1)).setCell ⟨w.heap.size, 1, none⟩ (.string x.2.1)).setCell ⟨w.heap.size, 2, none⟩ (.int .u64 (x.2.2.1.toNat : Int))).setCell ⟨w.heap.size, 3, none⟩ (.bool x.2.2.2)) = w9 at *
        have z0 : w9.cell? ⟨w.heap.size, 0, none⟩ = some (.string x.1) := (boxE_cells HQ.out).c0
        have z1 : w9.cell? ⟨w.heap.size, 1, none⟩ = some (.string x.2.1) := (boxE_cells HQ.out).c1
        have z2 : w9.cell? ⟨w.heap.size, 2, none⟩ = some (.int .u64 (x.2.2.1.toNat : Int)) := (boxE_cells HQ.out).c2
        have z3 : w9.cell? ⟨w.heap.size, 3, none⟩ = some (.bool x.2.2.2) := (boxE_cells HQ.out).c3
        exact bodyPost_ret (v := .tuple #[encV x, .bool true]) (by simp [results, Tryd.results13, go_sem, z0, z1, z2, z3]) rfl ⟨_, _, rfl, HA.out, HBQ.out⟩
      · have HA := Lib.hid (at_other hseek he)
        have j1 : (x.1.toList == key.toList) = false := by rw [beq_toList]; simpa using he
        clear hseek he
        go_wp2_with fail
        clear z0 z1 z2 z3 zf x0 x1 x2 x3 HQ HBQ
        generalize ((((wc.setCell ⟨w.heap.size, 0, none⟩ (.string ⟨#[]⟩)).setCell ⟨w.heap.size, 1, none⟩ (.string ⟨#[]⟩)).setCell ⟨w.heap.size, 2, none⟩ (.int .u64 0)).setCell ⟨w.heap.size, 3, none⟩ (.bool false)) = w9 at *
        have z0 := (boxZ_cells HQZ.out).c0
        have z1 := (boxZ_cells HQZ.out).c1
        have z2 := (boxZ_cells HQZ.out).c2
        have z3 := (boxZ_cells HQZ.out).c3
        exact bodyPost_ret (v := .tuple #[encV zeroV, .bool false]) (by simp [results, Tryd.results13, go_sem, z0, z1, z2, z3]) rfl ⟨_, _, rfl, HA.out, HBQZ.out⟩
end Go.Proofs.Tryd.Skm
