/- Entries: how they lie in memory; their order, walked. -/
import Derived.Test.YtggcdeabnibibaaProg
import Derived.Test.YtggcdeabnibibaaLib
import Derived.Test.YtggcdeabnibibaaSkO
import Derived.Test.YtggcdeabnibibaaSeg
import Derived.Test.YtggcdeabnibibaaSo3
import Derived.StillTailTactics
set_option linter.unusedVariables false
set_option linter.unusedSimpArgs false
namespace Go.Proofs.Try.Mg
open Go.RowKit Go.Cph Go.Cph.Skip Go.Cph.So

abbrev Ent := ByteArray × ByteArray × UInt64 × Bool
abbrev TE : TypeId := 32
abbrev TS : TypeId := 25
abbrev encC (e : Ent) : List Value := [.string e.1, .string e.2.1, .int .u64 (e.2.2.1.toNat : Int), .bool e.2.2.2]
abbrev encP (e : Ent) : Value := .agg #[.string e.1, .string e.2.1, .int .u64 (e.2.2.1.toNat : Int), .bool e.2.2.2]
abbrev EntsAt (w : World) (v : Value) (l : List Ent) : Prop := Elems encC 4 w v l
theorem encC_len (e : Ent) : (encC e).length = 4 := rfl
theorem encC_one {l : List Ent} : ∀ u ∈ l.flatMap encC, u.oneCell' = true := by
  intro u hu
  rw [List.mem_flatMap] at hu
  obtain ⟨p, _, hu⟩ := hu
  simp only [encC, List.mem_cons, List.not_mem_nil, or_false] at hu
  rcases hu with rfl | rfl | rfl | rfl <;> rfl
theorem encC_one1 (p : Ent) : ∀ u ∈ encC p, u.oneCell' = true := by
  intro u hu
  simp only [encC, List.mem_cons, List.not_mem_nil, or_false] at hu
  rcases hu with rfl | rfl | rfl | rfl <;> rfl
theorem infoE : (Try.prog.info? TE).map (fun i => (i.zero, i.size, i.bytes)) = some (some (.agg #[.string ByteArray.empty, .string ByteArray.empty, .int .u64 0, .bool false]), 4, 48) := by kernel_rfl
/-- An entry's cells. -/
structure CellsOf (w : World) (b o : Nat) (p : Ent) : Prop where
  c0 : w.cell? ⟨b, o, none⟩ = some (.string p.1)
  c1 : w.cell? ⟨b, o + 1, none⟩ = some (.string p.2.1)
  c2 : w.cell? ⟨b, o + 2, none⟩ = some (.int .u64 (p.2.2.1.toNat : Int))
  c3 : w.cell? ⟨b, o + 3, none⟩ = some (.bool p.2.2.2)
theorem CellsOf.kept {w w' : World} {b o : Nat} {p : Ent} (h : CellsOf w b o p) (hb : Below w.heap.size w w') : CellsOf w' b o p := ⟨cell_kept hb h.c0, cell_kept hb h.c1, cell_kept hb h.c2, cell_kept hb h.c3⟩
theorem ents_cells {w : World} {v : Value} {l : List Ent} (h : EntsAt w v l) (h0 : 0 < l.length) :
    ∃ b off cap, v = .slice (some ⟨b, off, none⟩) l.length cap ∧ ∀ i (hi : i < l.length), CellsOf w b (off + i * 4) l[i] := by
  obtain ⟨b, off, cap, hv, hc⟩ := elems_shape encC_len h h0
  exact ⟨b, off, cap, hv, fun i hi => ⟨hc i hi 0 (by omega), hc i hi 1 (by omega), hc i hi 2 (by omega), hc i hi 3 (by omega)⟩⟩
theorem boxP {w : World} {b : Nat} {p : Ent} {E : TypeId} {fr : Nat × Nat} (h : w.heap[b]? = some (.cells #[.string p.1, .string p.2.1, .int .u64 (p.2.2.1.toNat : Int), .bool p.2.2.2] E fr)) : CellsOf w b 0 p :=
  ⟨by rw [blk_cell h]; rfl, by rw [blk_cell h]; rfl, by rw [blk_cell h]; rfl, by rw [blk_cell h]; rfl⟩

/-! ### the order -/
def cmpS (a b : ByteArray) : Int := if klt a b then -1 else if klt b a then 1 else 0
def cmpN (x y : Int) : Int := if x < y then -1 else if y < x then 1 else 0
def orN2 (x y : Int) : Int := if x = 0 then y else x
def cmpE (a b : Ent) : Int := orN2 (cmpS a.1 b.1) (cmpN b.2.2.1.toNat a.2.2.1.toNat)
def ltE (a b : Ent) : Bool := klt a.1 b.1 || (decide (a.1 = b.1) && decide (b.2.2.1 < a.2.2.1))
theorem cmpS_zero {a b : ByteArray} : cmpS a b = 0 ↔ a = b := by
  unfold cmpS
  constructor
  · intro h
    cases h1 : klt a b <;> cases h2 : klt b a <;> simp [h1, h2] at h
    exact klt_total h1 h2
  · rintro rfl; simp [klt_irrefl]
theorem u64_lt (x y : UInt64) : ((x.toNat : Int) < (y.toNat : Int)) ↔ x < y := by rw [UInt64.lt_iff_toNat_lt]; omega
theorem cmpE_neg (a b : Ent) : cmpE a b < 0 ↔ ltE a b = true := by
  unfold cmpE ltE orN2
  by_cases h : cmpS a.1 b.1 = 0
  · have e := cmpS_zero.1 h
    rw [if_pos h, e, klt_irrefl]
    unfold cmpN
    simp only [u64_lt, Bool.false_or, decide_true, Bool.true_and, decide_eq_true_eq]
    by_cases h1 : b.2.2.1 < a.2.2.1
    · simp [h1]
    · simp only [h1, if_false, iff_false]; split <;> omega
  · have e : a.1 ≠ b.1 := fun e => h (cmpS_zero.2 e)
    rw [if_neg h]
    unfold cmpS
    cases h1 : klt a.1 b.1
    · cases h2 : klt b.1 a.1 <;> simp [e]
    · simp
theorem cmpE_zero (a b : Ent) : cmpE a b = 0 ↔ a.1 = b.1 ∧ a.2.2.1 = b.2.2.1 := by
  unfold cmpE orN2
  by_cases h : cmpS a.1 b.1 = 0
  · have e := cmpS_zero.1 h
    rw [if_pos h]
    unfold cmpN
    simp only [u64_lt, e, true_and]
    rw [← UInt64.toNat_inj]
    have := @UInt64.lt_iff_toNat_lt
    by_cases h1 : b.2.2.1 < a.2.2.1
    · rw [if_pos h1]; rw [UInt64.lt_iff_toNat_lt] at h1; omega
    · rw [if_neg h1]
      by_cases h2 : a.2.2.1 < b.2.2.1
      · rw [if_pos h2]; rw [UInt64.lt_iff_toNat_lt] at h2; omega
      · rw [if_neg h2]; rw [UInt64.lt_iff_toNat_lt] at h1 h2; omega
  · rw [if_neg h]
    exact ⟨fun k => absurd k h, fun k => absurd (cmpS_zero.2 k.1) h⟩
theorem weakE : Weak ltE := by
  refine ⟨fun {a b} h => ?_, fun {a b c} h1 h2 => ?_⟩
  · unfold ltE at h ⊢
    simp only [Bool.or_eq_true, Bool.and_eq_true, decide_eq_true_eq, Bool.or_eq_false_iff, Bool.and_eq_false_iff, decide_eq_false_iff_not] at h ⊢
    rcases h with h | ⟨h, k⟩
    · exact ⟨klt_asymm h, .inl fun e => by rw [e, klt_irrefl] at h; cases h⟩
    · refine ⟨by rw [h]; exact klt_irrefl _, .inr ?_⟩
      rw [UInt64.lt_iff_toNat_lt] at k ⊢; omega
  · unfold ltE at h1 h2 ⊢
    simp only [Bool.or_eq_false_iff, Bool.and_eq_false_iff, decide_eq_false_iff_not] at h1 h2 ⊢
    obtain ⟨h1, k1⟩ := h1
    obtain ⟨h2, k2⟩ := h2
    refine ⟨kle_trans h1 h2, ?_⟩
    by_cases e : c.1 = a.1
    · right
      have eb : a.1 = b.1 := klt_total (by rw [← e]; exact h2) h1
      have k1' : ¬ a.2.2.1 < b.2.2.1 := by rcases k1 with k | k; exact absurd eb.symm k; exact k
      have k2' : ¬ b.2.2.1 < c.2.2.1 := by rcases k2 with k | k; exact absurd (e.trans eb) k; exact k
      rw [UInt64.lt_iff_toNat_lt] at k1' k2' ⊢; omega
    · exact .inl e
theorem eqvE (a b : Ent) : eqv ltE a b = true ↔ a.1 = b.1 ∧ a.2.2.1 = b.2.2.1 := by
  rw [eqv_iff]
  unfold ltE
  simp only [Bool.or_eq_false_iff, Bool.and_eq_false_iff, decide_eq_false_iff_not]
  constructor
  · rintro ⟨⟨h1, k1⟩, h2, k2⟩
    have e := klt_total h1 h2
    refine ⟨e, ?_⟩
    have k1' := k1.resolve_left (fun k => k e)
    have k2' := k2.resolve_left (fun k => k e.symm)
    rw [UInt64.lt_iff_toNat_lt] at k1' k2'
    rw [← UInt64.toNat_inj]; omega
  · rintro ⟨e, k⟩
    rw [e, k]
    refine ⟨⟨klt_irrefl _, .inr ?_⟩, klt_irrefl _, .inr ?_⟩ <;> · rw [UInt64.lt_iff_toNat_lt]; omega

set_option maxHeartbeats 400000 in
theorem isNaN64 (x : Int) (w : World) : Calls Try.prog 44 #[.int .u64 x] w fun e w' => e = .returned (.bool false) ∧ w = w' := by
  go_enter Try.func44, Try.ntmps44
  go_wp2_with fail
  go_ret
  exact ⟨by simp, rfl⟩
set_option maxHeartbeats 400000 in
theorem isNaNS (x : ByteArray) (w : World) : Calls Try.prog 43 #[.string x] w fun e w' => e = .returned (.bool false) ∧ w = w' := by
  go_enter Try.func43, Try.ntmps43
  go_wp2_with fail
  go_ret
  exact ⟨by simp, rfl⟩
set_option maxHeartbeats 400000 in
theorem compare64 (x y : Int) (w : World) : Calls Try.prog 37 #[.int .u64 x, .int .u64 y] w fun e w' => e = .returned (.int .i64 (cmpN x y)) ∧ w = w' := by
  have hc : x < y ∨ (¬ x < y ∧ y < x) ∨ (¬ x < y ∧ ¬ y < x) := by omega
  rcases hc with h | ⟨h, k⟩ | ⟨h, k⟩
  all_goals
    go_enter Try.func37, Try.ntmps37
    go_wp2_with (go_at_call 44; refine (isNaN64 _ _).mono ?_; rintro e w' ⟨rfl, rfl⟩)
    go_ret
    exact ⟨ret_int (by unfold cmpN; (repeat split) <;> omega), rfl⟩
set_option maxHeartbeats 800000 in
theorem compareS (x y : ByteArray) (w : World) : Calls Try.prog 36 #[.string x, .string y] w fun e w' => e = .returned (.int .i64 (cmpS x y)) ∧ w = w' := by
  have hc : klt x y = true ∨ (klt x y = false ∧ klt y x = true) ∨ (klt x y = false ∧ klt y x = false) := by cases klt x y <;> cases klt y x <;> simp
  rcases hc with h | ⟨h, k⟩ | ⟨h, k⟩
  · have HV := Lib.hid (show cmpS x y = -1 by unfold cmpS; rw [h]; rfl)
    unfold klt at h
    go_enter Try.func36, Try.ntmps36
    go_wp2_with (go_at_call 43; refine (isNaNS _ _).mono ?_; rintro e w' ⟨rfl, rfl⟩)
    go_ret
    exact ⟨ret_int HV.out.symm, rfl⟩
  · have HV := Lib.hid (show cmpS x y = 1 by unfold cmpS; rw [h, k]; rfl)
    have hq : (x.toList == y.toList) = false := by rw [beq_toList, decide_eq_false_iff_not]; rintro rfl; rw [klt_irrefl] at k; cases k
    unfold klt at h k
    go_enter Try.func36, Try.ntmps36
    go_wp2_with (go_at_call 43; refine (isNaNS _ _).mono ?_; rintro e w' ⟨rfl, rfl⟩)
    go_ret
    exact ⟨ret_int HV.out.symm, rfl⟩
  · have HV := Lib.hid (show cmpS x y = 0 by unfold cmpS; rw [h, k]; rfl)
    obtain rfl := klt_total h k
    clear k
    unfold klt at h
    go_enter Try.func36, Try.ntmps36
    go_wp2_with (go_at_call 43; refine (isNaNS _ _).mono ?_; rintro e w' ⟨rfl, rfl⟩)
    go_ret
    exact ⟨ret_int HV.out.symm, rfl⟩
set_option maxHeartbeats 1000000 in
theorem or2 (x y : Int) (b : Nat) (cap : Nat) (w : World) (h : w.heap[b]? = some (.cells #[.int .i64 x, .int .i64 y] 3 (0, 0))) :
    Calls Try.prog 35 #[.slice (some ⟨b, 0, none⟩) 2 cap] w fun e w' => e = .returned (.int .i64 (orN2 x y)) ∧ w = w' := by
  have c0 : w.cell? ⟨b, 0, none⟩ = some (.int .i64 x) := by rw [blk_cell h]; rfl
  have c1 : w.cell? ⟨b, 1, none⟩ = some (.int .i64 y) := by rw [blk_cell h]; rfl
  clear h
  have hc : x ≠ 0 ∨ (x = 0 ∧ y ≠ 0) ∨ (x = 0 ∧ y = 0) := by omega
  rcases hc with hx | ⟨rfl, hx⟩ | ⟨rfl, rfl⟩
  all_goals
    go_enter Try.func35, Try.ntmps35
    go_wp2_with fail
    refine wp_loop_rounds 3 ?_
    rw [rounds_succ]
    go_wp2_with fail
  · go_ret
    exact ⟨ret_int (by unfold orN2; rw [if_neg hx]), rfl⟩
  · rw [rounds_succ]
    go_wp2_with fail
    go_ret
    exact ⟨ret_int (by unfold orN2; rw [if_pos rfl]), rfl⟩
  · rw [rounds_succ]
    go_wp2_with fail
    rw [rounds_succ]
    go_wp2_with fail
    go_ret
    exact ⟨ret_int (by unfold orN2; rw [if_pos rfl]), rfl⟩
set_option maxHeartbeats 2000000 in
set_option maxRecDepth 100000 in
theorem order_any (a b : Ent) (w : World) : Calls Try.prog 26 #[encP a, encP b] w fun e w' => e = .returned (.int .i64 (cmpE a b)) ∧ Below w.heap.size w w' := by
  have HO := Lib.hid (show cmpE a b = orN2 (cmpS a.1 b.1) (cmpN b.2.2.1.toNat a.2.2.1.toNat) from rfl)
  generalize hx : cmpS a.1 b.1 = x at HO
  generalize hy : cmpN b.2.2.1.toNat a.2.2.1.toNat = y at HO
  have c1 : ∀ W, Calls Try.prog 36 #[.string a.1, .string b.1] W fun e w' => e = .returned (.int .i64 x) ∧ w' = W := fun W => by rw [← hx]; exact (compareS _ _ W).mono fun _ _ h => ⟨h.1, h.2.symm⟩
  have c2 : ∀ W, Calls Try.prog 37 #[.int .u64 (b.2.2.1.toNat : Int), .int .u64 (a.2.2.1.toNat : Int)] W fun e w' => e = .returned (.int .i64 y) ∧ w' = W := fun W => by rw [← hy]; exact (compare64 _ _ W).mono fun _ _ h => ⟨h.1, h.2.symm⟩
  have C1 := Lib.hid c1
  have C2 := Lib.hid c2
  clear c1 c2 hx hy
  go_enter Try.func26, Try.ntmps26
  go_wp2_with fail
  have g0 : ((w.alloc (.cells #[.string a.1, .string a.2.1, .int .u64 (a.2.2.1.toNat : Int), .bool a.2.2.2] TE)).alloc (.cells #[.string b.1, .string b.2.1, .int .u64 (b.2.2.1.toNat : Int), .bool b.2.2.2] TE)).heap[w.heap.size]? = some (.cells #[.string a.1, .string a.2.1, .int .u64 (a.2.2.1.toNat : Int), .bool a.2.2.2] TE (0, 0)) := blk_alloc (heap_alloc_new _ _) _
  have g1 := heap_alloc_new (w.alloc (.cells #[.string a.1, .string a.2.1, .int .u64 (a.2.2.1.toNat : Int), .bool a.2.2.2] TE)) (.cells #[.string b.1, .string b.2.1, .int .u64 (b.2.2.1.toNat : Int), .bool b.2.2.2] TE)
  rw [World.size_alloc] at g1
  have hb : Below w.heap.size w ((w.alloc (.cells #[.string a.1, .string a.2.1, .int .u64 (a.2.2.1.toNat : Int), .bool a.2.2.2] TE)).alloc (.cells #[.string b.1, .string b.2.1, .int .u64 (b.2.2.1.toNat : Int), .bool b.2.2.2] TE)) := ((Below.refl _ _).alloc (Nat.le_refl _) _).alloc (by simp) _
  generalize (w.alloc (.cells #[.string a.1, .string a.2.1, .int .u64 (a.2.2.1.toNat : Int), .bool a.2.2.2] TE)).alloc (.cells #[.string b.1, .string b.2.1, .int .u64 (b.2.2.1.toNat : Int), .bool b.2.2.2] TE) = W at *
  have a0 : W.drew.cell? ⟨w.heap.size, 0, none⟩ = some (.string a.1) := by rw [blk_cell (w := W.drew) g0]; rfl
  have a2 : W.drew.cell? ⟨w.heap.size, 2, none⟩ = some (.int .u64 (a.2.2.1.toNat : Int)) := by rw [blk_cell (w := W.drew) g0]; rfl
  have b0 : W.drew.cell? ⟨w.heap.size + 1, 0, none⟩ = some (.string b.1) := by rw [blk_cell (w := W.drew) g1]; rfl
  have b2 : W.drew.cell? ⟨w.heap.size + 1, 2, none⟩ = some (.int .u64 (b.2.2.1.toNat : Int)) := by rw [blk_cell (w := W.drew) g1]; rfl
  have HB := Lib.hid (show Below w.heap.size w W.drew from hb.drew)
  clear g0 g1 hb
  refine wp_region_still_tail 10 (by kernel_rfl) (by kernel_rfl) ?_
  simp only [List.take_succ_cons, List.take_zero, List.drop_succ_cons, List.drop_zero]
  change wpStill _ _ (World.drew W) _ _ _
  still_step
  still_step
  still_step
  still_step
  still_call (C1.out _)
  still_step
  still_step
  still_step
  still_step
  still_call (C2.out _)
  refine wpStill_nil ?_
  change wpList _ _ _ _ _ (World.drew W)
  generalize W.drew = W' at *
  clear a0 a2 b0 b2
  go_wp2_with fail
  refine (or2 x y W'.heap.size _ _ (heap_alloc_new _ _)).mono ?_
  rintro e w3 ⟨rfl, rfl⟩
  go_wp2_with fail
  go_ret
  exact ⟨ret_int HO.out.symm, HB.out.alloc HB.out.size _⟩
end Go.Proofs.Try.Mg
