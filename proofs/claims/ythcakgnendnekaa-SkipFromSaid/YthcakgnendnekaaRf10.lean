/- The document's skip list: Row. -/
import Derived.Test.YthcakgnendnekaaRf9
import Derived.Deep.LoopGhost
open Go.RowKit Go.Cph Go.Cph.Skip
set_option linter.unusedVariables false
set_option linter.unusedSimpArgs false
namespace Go.Proofs.Try.SkS

def kvIt (l : List It) : List KV := l.map fun x => (x.1, x.2.1)
def lastKey (key : ByteArray) (pre : List It) : ByteArray := match pre.getLast? with | .none => key | .some x => x.1
theorem lastKey_snoc (key : ByteArray) (pre : List It) (x : It) : lastKey key (pre ++ [x]) = x.1 := by simp [lastKey]
theorem mayB_bound (key : ByteArray) (pre : List It) (z : ByteArray) : mayB (lastKey key pre) (!pre.isEmpty) z = bound key (kvIt pre) z := by
  rcases List.eq_nil_or_concat pre with rfl | ⟨t, x, rfl⟩
  · simp [mayB, lastKey, kvIt, bound]
  · rw [List.concat_eq_append, lastKey_snoc]
    have : kvIt (t ++ [x]) = kvIt t ++ [(x.1, x.2.1)] := by simp [kvIt]
    rw [this, bound_snoc]
    have he : (t ++ [x]).isEmpty = false := by simp
    simp only [mayB, he, Bool.not_false, Bool.true_and]
    cases h1 : klt x.1 z with
    | true =>
      have : ¬ z = x.1 := fun e => by rw [e, klt_irrefl] at h1; cases h1
      simp [klt_asymm h1, this]
    | false =>
      cases h2 : klt z x.1 with
      | true => rfl
      | false => simp [klt_total h2 h1]
/-- Items gone over, from the least key on. -/
structure Goes (l pre : List It) : Prop where
  told : Told (kvIt l) ByteArray.empty (kvIt pre)
  mem : ∀ x ∈ pre, x ∈ l
theorem goes_step {l pre : List It} {x : It} (h : Goes l pre) (hx : LeastIt l (mayB (lastKey ByteArray.empty pre) (!pre.isEmpty)) (.some x)) : Goes l (pre ++ [x]) := by
  obtain ⟨h1, h2, h3⟩ := hx
  have e : kvIt (pre ++ [x]) = kvIt pre ++ [(x.1, x.2.1)] := by simp [kvIt]
  refine ⟨?_, fun y hy => ?_⟩
  · rw [e]
    refine h.told.snoc ⟨List.mem_map.2 ⟨x, h1, rfl⟩, ?_, fun y hy hb => ?_⟩
    · rw [← mayB_bound]; exact h2
    · obtain ⟨z, hz, rfl⟩ := List.mem_map.1 hy
      exact h3 z hz (by rw [mayB_bound]; exact hb)
  · rcases List.mem_append.1 hy with hy | hy
    · exact h.mem y hy
    · rw [List.mem_singleton.1 hy]; exact h1
theorem goes_done {l pre : List It} (hx : LeastIt l (mayB (lastKey ByteArray.empty pre) (!pre.isEmpty)) .none) : Done (kvIt l) ByteArray.empty (kvIt pre) := by
  intro y hy
  obtain ⟨z, hz, rfl⟩ := List.mem_map.1 hy
  have := hx z hz
  rw [mayB_bound] at this
  exact this
def rowsIt (level : Int) (pre : List It) : List It := pre.filter fun x => decide (level < (x.2.2 : Int))

structure RRowPost (l : List It) (level : Int) (w : World) (e : Ending) (w' : World) : Prop where
  res : ∃ u pre n, e = .returned u ∧ Goes l pre ∧ Done (kvIt l) ByteArray.empty (kvIt pre) ∧ n = (rowsIt level pre).length ∧ w'.ownsRow w.heap.size 43 3 u n ((rowsIt level pre).flatMap encIt)
  bel : Below w.heap.size w w'
theorem rRowNeg (v : Value) (level : Int) (w : World) (h : level < 0) : Calls Try.prog 49 #[v, .int .i64 level] w fun e w' => e = .returned (.slice none 0 0) ∧ w = w' := by
  cases v
  all_goals
    go_enter Try.func49, Try.ntmps49
    go_wp2_with fail
    go_ret
    exact ⟨rfl, rfl⟩

set_option maxHeartbeats 2000000 in
theorem rRow (v : Value) (l : List It) (level : Int) (w : World) (h : ItemsAt w v l) (hs : SmallIts l) (hl0 : 0 ≤ level) :
    Calls Try.prog 49 #[v, .int .i64 level] w (RRowPost l level w) := by
  obtain ⟨ao, cap, hv⟩ := elems_slice h
  have HI := Lib.hid h
  have HS := Lib.hid hs
  have hl := hs.1
  subst hv
  clear h hs
  go_enter Try.func49, Try.ntmps49
  go_wp2_with fail
  go_loopg [5, 6, 7] ((kvIt l).countP fun y => bound ByteArray.empty [] y.1) (fun c o k a wr => ∃ (pre : List It) (n : Nat), k = .string (lastKey ByteArray.empty pre) ∧ a = .bool (!pre.isEmpty) ∧ Goes l pre ∧
    wr.ownsRow w.heap.size 43 3 o n ((rowsIt level pre).flatMap encIt) ∧ n = (rowsIt level pre).length ∧ Below w.heap.size w wr ∧ c = (kvIt l).countP fun y => bound ByteArray.empty (kvIt pre) y.1)
  case atStart => exact ⟨[], 0, rfl, rfl, ⟨.nil, by simp⟩, World.ownsRow_nil _ _ _ _, rfl, Below.refl _ _, rfl⟩
  case round =>
    obtain ⟨pre, n, rfl, rfl, hg, hown, hn, hbel, rfl⟩ := hrel
    have hlk : (lastKey ByteArray.empty pre).size ≤ 1000000 := by
      unfold lastKey
      split
      · decide
      · rename_i x hx
        exact HS.out.2 x (hg.mem x (List.mem_of_getLast? hx))
    have hleast := rLeast2 _ l (lastKey ByteArray.empty pre) (!pre.isEmpty) wr (HI.out.kept hbel) HS.out hlk
    have HG := Lib.hid hg
    have HO := Lib.hid hown
    have HN := Lib.hid hn
    have HB := Lib.hid hbel
    clear hg hown hn hbel hlk
    obtain ⟨kk, hkk⟩ : ∃ kk, kk = lastKey ByteArray.empty pre := ⟨_, rfl⟩
    obtain ⟨aa, haa⟩ : ∃ aa, aa = !pre.isEmpty := ⟨_, rfl⟩
    rw [← hkk, ← haa] at hleast ⊢
    have HKK := Lib.hid hkk
    have HAA := Lib.hid haa
    clear hkk haa
    go_wp2_with fail
    refine hleast.mono ?_
    rintro e w1 ⟨hr, hb1⟩
    rw [HKK.out, HAA.out] at hr
    have HB1 := Lib.hid (below_step HB.out hb1 HB.out.size)
    have HO1 := Lib.hid (row_kept HO.out (w' := w1) fun k hk => hb1.block k (HO.out.lt k hk).2)
    clear hleast
    rcases hr with ⟨rfl, hr⟩ | ⟨x1, x2, x3, rfl, hr⟩
    · have HD := Lib.hid (goes_done hr)
      clear hr hb1
      go_wp2_with fail
      go_ret
      exact ⟨⟨_, pre, n, rfl, HG.out, HD.out, HN.out, HO1.out.alloc _⟩, HB1.out.alloc HB1.out.size _⟩
    · have HG2 := Lib.hid (goes_step HG.out hr)
      have HM := Lib.hid (show (kvIt l).countP (fun y => bound ByteArray.empty (kvIt (pre ++ [(x1, x2, x3)])) y.1) < (kvIt l).countP fun y => bound ByteArray.empty (kvIt pre) y.1 by
        have e : kvIt (pre ++ [(x1, x2, x3)]) = kvIt pre ++ [(x1, x2)] := by simp [kvIt]
        obtain ⟨q1, q2, q3⟩ := hr
        rw [mayB_bound] at q2
        rw [e]
        refine countP_lt (fun z hz => ?_) ⟨(x1, x2), List.mem_map.2 ⟨_, q1, rfl⟩, q2, by rw [bound_snoc]; exact klt_irrefl _⟩
        rw [bound_snoc] at hz
        exact bound_up q2 hz)
      have HL := Lib.hid (lastKey_snoc ByteArray.empty pre (x1, x2, x3))
      have HE := Lib.hid (show (!(pre ++ [(x1, x2, x3)]).isEmpty) = true by simp)
      clear hr hb1
      have hn : n ≤ 1000 := by
        rw [HN.out]
        have e1 := HG.out.told.length_le
        have e2 : (rowsIt level pre).length ≤ pre.length := List.length_filter_le _ _
        simp only [kvIt, List.length_map] at e1
        omega
      by_cases hlev : level < (x3 : Int)
      · have HR := Lib.hid (show rowsIt level (pre ++ [(x1, x2, x3)]) = rowsIt level pre ++ [(x1, x2, x3)] by simp [rowsIt, hlev])
        go_wp2_with (at_builtin; refine wpList_append1 rfl (.tmp 27) (.tmp 29) 33 rfl w.heap.size 43 (.agg #[.string ByteArray.empty, .string ByteArray.empty, .int .i64 0]) 3 40 Try.underlying33 infoIt rfl (by decide) _ n _ _ rfl (HO1.out.alloc _) _ 1 (by rw [World.size_alloc]; rfl) rfl rfl (by simp [Value.oneCell']) (by omega) (by decide) (HB1.out.alloc HB1.out.size _).size w.heap.size w (HB1.out.alloc HB1.out.size _) (Nat.le_refl _) ?_; intro v2 w2 r1 r2 r3 r4; have R2 := Lib.hid r1; have HB2 := Lib.hid r3; have q := blk_cell ((r2.block w1.heap.size (by simp; omega) (fun e => absurd (HO1.out.lt _ e.symm).2 (by omega))).trans (blk_alloc (heap_alloc_new _ _) _)) 0; clear r1 r2 r3; simp only [List.getElem?_toArray, List.getElem?_cons_zero] at q)
        go_roundg ((kvIt l).countP fun y => bound ByteArray.empty (kvIt (pre ++ [(x1, x2, x3)])) y.1)
        case rel =>
          refine ⟨pre ++ [(x1, x2, x3)], n + 1, by rw [HL.out], by rw [HE.out], HG2.out, ?_, by rw [HR.out, HN.out, List.length_append]; rfl, HB2.out, rfl⟩
          rw [HR.out, List.flatMap_append]
          exact R2.out
        case measure => exact HM.out
      · have HR := Lib.hid (show rowsIt level (pre ++ [(x1, x2, x3)]) = rowsIt level pre by simp [rowsIt, hlev])
        go_wp2_with fail
        go_roundg ((kvIt l).countP fun y => bound ByteArray.empty (kvIt (pre ++ [(x1, x2, x3)])) y.1)
        case rel => exact ⟨pre ++ [(x1, x2, x3)], n, by rw [HL.out], by rw [HE.out], HG2.out, by rw [HR.out]; exact HO1.out.alloc _, by rw [HR.out]; exact HN.out, HB1.out.alloc HB1.out.size _, rfl⟩
        case measure => exact HM.out
end Go.Proofs.Try.SkS
