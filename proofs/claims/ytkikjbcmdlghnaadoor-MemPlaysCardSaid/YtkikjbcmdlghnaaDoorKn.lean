/- A memory: what its blocks hold; New, Put. -/
import Derived.Test.YtkikjbcmdlghnaaDoorKg
import Derived.Test.YtkikjbcmdlghnaaDoorKp
import Derived.Test.YtkikjbcmdlghnaaDoorApp
import Derived.Deep.DeepCutAuto
set_option linter.unusedVariables false
set_option linter.unusedSimpArgs false
set_option maxRecDepth 100000
namespace Go.Proofs.Tryd.Skm
open Go.RowKit Go.Cph Go.Cph.Skip Go.Cph.Skm Go.Cph.Ok
abbrev TM : TypeId := 45
abbrev TE : TypeId := 34
def newest (es : List Et) : Nat := es.foldl (fun n e => max n e.2.2.1.toNat) 0
def bytesN (es : List Et) : Nat := es.foldl (fun n e => n + (e.1.size + e.2.1.size)) 0
theorem newest_snoc (es : List Et) (e : Et) : newest (es ++ [e]) = max (newest es) e.2.2.1.toNat := by simp [newest]
theorem bytesN_snoc (es : List Et) (e : Et) : bytesN (es ++ [e]) = bytesN es + (e.1.size + e.2.1.size) := by simp [bytesN]
theorem newest_lt (es : List Et) : newest es < 18446744073709551616 :=
  Cph.Ok.snoc_ind (P := fun l => newest l < 18446744073709551616) (by decide) (fun l e ih => by
    have h1 := e.2.2.1.toNat_lt
    have h2 : newest l < 18446744073709551616 := ih
    show newest (l ++ [e]) < 18446744073709551616
    rw [newest_snoc]
    exact Nat.max_lt.2 ⟨h2, h1⟩) es
/-- An entry's place. -/
def pl (e : Et) : ByteArray := ofBs (place e.1.data.toList e.2.2.1.toNat)
theorem toList_of (l : Bs) : (ofBs l).toList = l := by rw [ByteArray.toList_eq]; rfl
theorem pl_less (a b : ByteArray) (s t : UInt64) : klt (ofBs (place a.data.toList s.toNat)) (ofBs (place b.data.toList t.toNat)) = (klt a b || (decide (a = b) && decide (t < s))) := by
  unfold klt
  rw [toList_of, toList_of, place_less _ _ _ _ s.toNat_lt t.toNat_lt, ← ByteArray.toList_eq, ← ByteArray.toList_eq, beq_toList]
  congr 2
theorem pl_inj {a b : ByteArray} {s t : UInt64} (h : ofBs (place a.data.toList s.toNat) = ofBs (place b.data.toList t.toNat)) : a = b ∧ s = t := by
  have h1 := pl_less a b s t
  have h2 := pl_less b a t s
  rw [h, klt_irrefl] at h1
  rw [← h, klt_irrefl] at h2
  have h3 := h1.symm
  have h4 := h2.symm
  rw [Bool.or_eq_false_iff, Bool.and_eq_false_iff] at h3 h4
  have e := klt_total h3.1 h4.1
  subst e
  refine ⟨rfl, ?_⟩
  have h5 : ¬ t < s := by
    rcases h3.2 with h | h
    · exact absurd rfl (of_decide_eq_false h)
    · exact of_decide_eq_false h
  have h6 : ¬ s < t := by
    rcases h4.2 with h | h
    · exact absurd rfl (of_decide_eq_false h)
    · exact of_decide_eq_false h
  rw [UInt64.lt_iff_toNat_lt] at h5 h6
  exact UInt64.toNat_inj.1 (by omega)

abbrev boxZ : Obj := .cells #[.string ⟨#[]⟩, .string ⟨#[]⟩, .int .u64 0, .bool false] TE (0, 0)
abbrev memBox (q : Nat) (es : List Et) : Obj := .cells #[ptr q, .int .u64 (newest es : Nat), .int .i64 (bytesN es : Nat)] TM (0, 0)
/-- A memory's blocks (F), what it holds (es, in the row in which they came). -/
structure IsMem (F : Nat → Prop) (w : World) (p : Nat) (es : List Et) : Prop where
  out : ∃ q nx nodes v, w.heap[p]? = some (memBox q es) ∧ IsAt w q nx nodes v ∧ Linked nodes nx ∧ nodes.map (·.val) = es ∧ (∀ x ∈ nodes, x.key = pl x.val) ∧ F p ∧ ∀ k, foot q v nodes k → F k
  lt : ∀ k, F k → k < w.heap.size
theorem IsMem.same {F : Nat → Prop} {w w' : World} {p : Nat} {es : List Et} (h : IsMem F w p es) (hk : ∀ k, F k → w'.heap[k]? = w.heap[k]?) (hs : w.heap.size ≤ w'.heap.size) : IsMem F w' p es := by
  obtain ⟨⟨q, nx, nodes, v, h1, h2, h3, h4, h5, h6, h7⟩, hl⟩ := h
  exact ⟨⟨q, nx, nodes, v, by rw [hk p h6]; exact h1, h2.same fun k e => hk k (h7 k e), h3, h4, h5, h6, h7⟩, fun k e => Nat.lt_of_lt_of_le (hl k e) hs⟩
theorem IsMem.kept {F : Nat → Prop} {w w' : World} {p : Nat} {es : List Et} (h : IsMem F w p es) (hb : Below w.heap.size w w') : IsMem F w' p es :=
  h.same (fun k e => hb.block k (h.lt k e)) hb.size
theorem IsMem.touched {F S : Nat → Prop} {w w' : World} {p : Nat} {es : List Et} (h : IsMem F w p es) (ht : Touched S w w') (hd : ∀ k, F k → ¬ S k) : IsMem F w' p es :=
  h.same (fun k e => ht.block k (h.lt k e) (hd k e)) ht.size
/-- Blocks of unlike types are unlike. -/
theorem foot_type {w : World} {q : Nat} {nx : Nat → Nat → Nat} {nodes : List (Nd Et)} {v : Value} (h : IsAt w q nx nodes v) {k : Nat} (hk : foot q v nodes k) : ∃ cur E, w.heap[k]? = some (.cells cur E (0, 0)) ∧ (E = TL ∨ E = TN ∨ E = 3) := by
  rcases hk with rfl | hk | ⟨x, hx, rfl⟩
  · exact ⟨_, _, h.head, .inl rfl⟩
  · obtain ⟨cur, hc⟩ := row_block h.row hk; exact ⟨cur, _, hc, .inr (.inl rfl)⟩
  · obtain ⟨i, hi, rfl⟩ := List.getElem_of_mem hx
    obtain ⟨cur, hc⟩ := row_block (h.towers i hi) (k := nodes[i].tb) rfl
    exact ⟨cur, _, hc, .inr (.inr rfl)⟩
theorem mem_apart {w : World} {p q : Nat} {nx : Nat → Nat → Nat} {nodes : List (Nd Et)} {v : Value} {cur : Array Value} (h : IsAt w q nx nodes v) (hp : w.heap[p]? = some (.cells cur TM (0, 0))) : ¬ foot q v nodes p := fun hk => by
  obtain ⟨cur', E, hc, hE⟩ := foot_type h hk
  rw [hp] at hc
  simp only [Option.some.injEq, Obj.cells.injEq] at hc
  rcases hE with e | e | e <;> (rw [e] at hc; exact absurd hc.2.1 (by decide))

theorem touched_set (w : World) (p j : Nat) (v : Value) : Touched (fun k => k = p) w (w.setCell ⟨p, j, none⟩ v).drew := ((Touched.refl (fun k => k = p) w).setCell (a := ⟨p, j, none⟩) (fun _ => rfl) v).drew

/-! ### New -/
theorem mNew (w : World) : Calls Tryd.prog 11 #[] w fun e w' => ∃ F p, e = .returned (ptr p) ∧ IsMem F w' p [] ∧ (∀ k, F k → w.heap.size ≤ k) ∧ Below w.heap.size w w' := by
  go_enter Tryd.func11, Tryd.ntmps11
  go_wp2_with fail
  refine (cNew w).mono ?_
  rintro e w1 ⟨rfl, hat, hb⟩
  have HA := Lib.hid hat
  have HB := Lib.hid hb
  clear hat hb
  go_wp2_with fail
  go_ret
  have hb2 : Below w1.heap.size w1 (w1.alloc (memBox w.heap.size [])) := (Below.refl _ _).alloc (Nat.le_refl _) _
  refine ⟨fun k => k = w1.heap.size ∨ foot w.heap.size (.slice none 0 0) ([] : List (Nd Et)) k, w1.heap.size, rfl, ⟨⟨w.heap.size, _, _, _, heap_alloc_new w1 (memBox w.heap.size []), HA.out.kept hb2, linkedNil, rfl, by simp, .inl rfl, fun k e => .inr e⟩, ?_⟩, ?_, below_step HB.out hb2 HB.out.size⟩
  · rintro k (rfl | hk)
    · rw [World.size_alloc]; omega
    · exact Nat.lt_of_lt_of_le (HA.out.foot_lt hk) hb2.size
  · rintro k (rfl | hk | hk | ⟨x, hx, _⟩)
    · exact HB.out.size
    · omega
    · cases hk
    · cases hx
theorem mNone0 (w : World) : Calls Tryd.prog 26 #[.pointer none] w fun e w' => e = .returned (.bool true) ∧ w = w' := by
  go_enter Tryd.func26, Tryd.ntmps26
  go_wp2_with fail
  go_ret
  exact ⟨rfl, rfl⟩
theorem mNone1 (p : Nat) (w : World) (h : w.cell? ⟨p, 0, none⟩ = some (.pointer none)) : Calls Tryd.prog 26 #[ptr p] w fun e w' => e = .returned (.bool true) ∧ w = w' := by
  go_enter Tryd.func26, Tryd.ntmps26
  go_wp2_with fail
  go_ret
  exact ⟨rfl, rfl⟩
theorem mNone2 (p q : Nat) (w : World) (h : w.cell? ⟨p, 0, none⟩ = some (ptr q)) : Calls Tryd.prog 26 #[ptr p] w fun e w' => e = .returned (.bool false) ∧ w = w' := by
  go_enter Tryd.func26, Tryd.ntmps26
  go_wp2_with fail
  go_ret
  exact ⟨rfl, rfl⟩
/-- Is there no memory: nil, or one without a list. -/
structure NoMem (w : World) (v : Value) : Prop where
  out : v = .pointer none ∨ ∃ p, v = ptr p ∧ w.heap[p]? = some (.cells #[.pointer none, .int .u64 0, .int .i64 0] TM (0, 0))
theorem NoMem.kept {w w' : World} {v : Value} (h : NoMem w v) (hb : Below w.heap.size w w') : NoMem w' v := by
  rcases h.out with h | ⟨p, h, h2⟩
  · exact ⟨.inl h⟩
  · exact ⟨.inr ⟨p, h, blk_kept hb h2⟩⟩
theorem mNoneN {v : Value} (w : World) (h : NoMem w v) : Calls Tryd.prog 26 #[v] w fun e w' => e = .returned (.bool true) ∧ w = w' := by
  rcases h.out with rfl | ⟨p, rfl, h2⟩
  · exact mNone0 w
  · exact mNone1 p w (by rw [blk_cell h2]; rfl)
theorem mPutN {v : Value} (e : Et) (height : Int) (w : World) (h : NoMem w v) : Calls Tryd.prog 12 #[v, encV e, .int .i64 height] w fun r w' => r = .returned (.int .i64 2) ∧ Below w.heap.size w w' := by
  have HB := Lib.hid (show Below w.heap.size w (w.alloc (boxE e)) from (Below.refl _ _).alloc (Nat.le_refl _) _)
  have HC := Lib.hid (mNoneN _ (h.kept HB.out))
  clear h
  go_enter Tryd.func12, Tryd.ntmps12
  go_wp2_with fail
  refine HC.out.mono ?_
  rintro r w1 ⟨rfl, rfl⟩
  go_wp2_with fail
  go_ret
  exact ⟨rfl, HB.out⟩
/-- What Put answers. -/
def putR (es : List Et) (e : Et) : Nat := if (e.2.2.2 && !(decide (e.2.1.size = 0))) = true then 1 else if (es.any fun y => decide (y.1 = e.1) && decide (y.2.2.1 = e.2.2.1)) = true then 5 else 0
def putE (es : List Et) (e : Et) : List Et := if putR es e = 0 then es ++ [e] else es
def PutPost (F : Nat → Prop) (p : Nat) (es : List Et) (e : Et) (w : World) (r : Ending) (w' : World) : Prop :=
  ∃ F' : Nat → Prop, r = .returned (.int .i64 (putR es e)) ∧ IsMem F' w' p (putE es e) ∧ Touched F w w' ∧ ∀ k, F' k → F k ∨ w.heap.size ≤ k
set_option maxHeartbeats 6400000 in
theorem mPut {F : Nat → Prop} {p : Nat} {es : List Et} (e : Et) (height : Int) (m : Int) (w : World) (h : IsMem F w p es) (hm : MaxAt m w) (hk : e.1.size ≤ 1000000) (hv : e.2.1.size ≤ 1000000) (hn : es.length ≤ 1000000) (hby : bytesN es ≤ 1000000000) :
    Calls Tryd.prog 12 #[ptr p, encV e, .int .i64 height] w (PutPost F p es e w) := by
  have HB := Lib.hid (show Below w.heap.size w (w.alloc (boxE e)) from (Below.refl _ _).alloc (Nat.le_refl _) _)
  have HG := Lib.hid (heap_alloc_new w (boxE e))
  have H1 := Lib.hid (h.kept HB.out)
  have H := Lib.hid h
  have HM := Lib.hid hm
  have HK := Lib.hid hk
  have HN := Lib.hid hn
  have hb1 : (e.1.size : Int) ≤ 1000000 := by omega
  have hb2 : (e.2.1.size : Int) ≤ 1000000 := by omega
  have hb3 : (bytesN es : Int) ≤ 1000000000 := by omega
  obtain ⟨q, nx, nodes, v, g1, g2, g3, g4, g5, g6, g7⟩ := H1.out.out
  have c0 : (w.alloc (boxE e)).cell? ⟨p, 0, none⟩ = some (ptr q) := by rw [blk_cell g1]; rfl
  have HC := Lib.hid (mNone2 p q _ c0)
  have GB := Lib.hid g1
  have GA := Lib.hid g2
  have GL := Lib.hid g3
  have GE := Lib.hid g4
  have GK := Lib.hid g5
  have GF := Lib.hid g6
  have GG := Lib.hid g7
  have e0 := (boxE_cells HG.out).c0
  have e1 := (boxE_cells HG.out).c1
  have e2 := (boxE_cells HG.out).c2
  have e3 := (boxE_cells HG.out).c3
  clear h hm hk hn hby g1 g2 g3 g4 g5 g6 g7
  by_cases hbad : (e.2.2.2 && !(decide (e.2.1.size = 0))) = true
  · have HR := Lib.hid (show putR es e = 1 from by unfold putR; rw [if_pos hbad])
    have HE := Lib.hid (show putE es e = es from by unfold putE; rw [HR.out]; rfl)
    rw [Bool.and_eq_true, Bool.not_eq_true', decide_eq_false_iff_not] at hbad
    have hg := hbad.1
    have hs := str_some _ hbad.2
    rw [hg] at e3
    clear hbad hg
    go_enter Tryd.func12, Tryd.ntmps12
    go_wp2_with fail
    refine HC.out.mono ?_
    rintro r w1 ⟨rfl, rfl⟩
    go_wp2_with fail
    go_ret
    rw [PutPost, HR.out, HE.out]
    exact ⟨F, rfl, H1.out, Touched.of_below HB.out, fun k hk => .inl hk⟩
  · have HNB := Lib.hid hbad
    have hgs : e.2.2.2 = true → e.2.1.toList = [] := fun hg => by
      rw [hg, Bool.true_and, Bool.not_eq_true', decide_eq_false_iff_not, Classical.not_not] at hbad
      exact str_nil _ hbad
    have HP := Lib.hid (show ∀ W, MaxAt m W → Calls Tryd.prog 8 #[.string e.1, .int .u64 (e.2.2.1.toNat : Int)] W fun r w' => r = .returned (.string (pl e)) ∧ Below W.heap.size W w' from fun W hW => place_any e.1 e.2.2.1 m W HK.out hW)
    clear hbad
    by_cases hg : e.2.2.2 = true
    all_goals
      first
        | (have hs := hgs hg
           rw [hg] at e3)
        | (rw [Bool.not_eq_true] at hg
           rw [hg] at e3)
      clear hgs hg
      go_enter Tryd.func12, Tryd.ntmps12
      go_wp2_with fail
      refine HC.out.mono ?_
      rintro r w1 ⟨rfl, rfl⟩
      go_wp2_with fail
      refine (HP.out _ (max_kept HM.out HB.out (max_lt HM.out))).mono ?_
      rintro r w2 ⟨rfl, hb⟩
      have HB2 := Lib.hid (below_step HB.out hb HB.out.size)
      have G2 := Lib.hid (blk_kept hb GB.out)
      have A2 := Lib.hid (GA.out.kept hb)
      have HG2 := Lib.hid (blk_kept hb HG.out)
      have c0 : w2.cell? ⟨p, 0, none⟩ = some (ptr q) := by rw [blk_cell G2.out]; rfl
      clear hb e0 e1 e2 e3
      go_wp2_with fail
      refine (cGet (pl e) w2 A2.out GL.out).mono ?_
      rintro r w3 ⟨⟨n, k, x, ok, rfl, hh, ht⟩, hb⟩
      have HB3 := Lib.hid (below_step HB2.out hb HB2.out.size)
      have G3 := Lib.hid (blk_kept hb G2.out)
      have A3 := Lib.hid (A2.out.kept hb)
      have HG3 := Lib.hid (blk_kept hb HG2.out)
      clear hb c0
      rcases hh with ⟨rfl, hno⟩ | ⟨i, hi, rfl, hik⟩
      · rcases ht with ⟨_, rfl, rfl, rfl⟩ | ⟨i, hi, hx, _⟩
        · have HNO := Lib.hid hno
          clear hno
          go_wp2_with fail
          have HB4 := Lib.hid (HB3.out.alloc HB3.out.size boxZ)
          have hb34 : Below w3.heap.size w3 (w3.alloc boxZ) := (Below.refl _ _).alloc (Nat.le_refl _) _
          have G4 := Lib.hid (blk_kept hb34 G3.out)
          have A4 := Lib.hid (A3.out.kept hb34)
          have HG4 := Lib.hid (blk_kept hb34 HG3.out)
          clear hb34
          generalize w3.alloc boxZ = w4 at *
          have c0 : w4.cell? ⟨p, 0, none⟩ = some (ptr q) := by rw [blk_cell G4.out]; rfl
          have e0 := (boxE_cells HG4.out).c0
          have e1 := (boxE_cells HG4.out).c1
          have e2 := (boxE_cells HG4.out).c2
          have e3 := (boxE_cells HG4.out).c3
          have HSET := Lib.hid (cSet (pl e) e height w4.drew (A4.out.kept (Below.refl _ _).drew) GL.out (by rw [← List.length_map (f := fun x : Nd Et => x.val), GE.out]; exact HN.out) HNO.out)
          go_still_tail 7, (by kernel_rfl)
          change wpList _ _ _ _ _ w4.drew
          go_wp2_with (go_at_call 28; refine HSET.out.mono ?_; rintro r w5 ⟨nx', nd, v', rfl, hat5, hln5, hk5, hv5, ht5, hf5⟩)
          have A5 := Lib.hid hat5
          have L5 := Lib.hid hln5
          have K5 := Lib.hid hk5
          have V5 := Lib.hid hv5
          have T5 := Lib.hid ht5
          have F5 := Lib.hid hf5
          have hpl : p < w.heap.size := H.out.lt _ GF.out
          have g5 : w5.heap[p]? = some (memBox q es) := (ht5.block p (Nat.lt_of_lt_of_le hpl HB4.out.drew.size) (mem_apart (A4.out.kept (Below.refl _ _).drew) (show w4.drew.heap[p]? = _ from G4.out))).trans G4.out
          have hg5 : w5.heap[w.heap.size]? = some (boxE e) := (ht5.block _ (blk_lt HG4.out) (fun hf => by have := H.out.lt _ (GG.out _ hf); omega)).trans HG4.out
          have G5 := Lib.hid g5
          have HG5 := Lib.hid hg5
          clear c0 e0 e1 e2 e3 hat5 hln5 hk5 hv5 ht5 hf5 g5 hg5 HSET
          have c1 : w5.cell? ⟨p, 1, none⟩ = some (.int .u64 (newest es : Nat)) := by rw [blk_cell G5.out]; rfl
          have f1 : ∀ j, w5.frozen? ⟨p, j, none⟩ = false := fun j => by rw [blk_frozen G5.out]; simp
          have e2 := (boxE_cells HG5.out).c2
          go_wp2_with fail
          go_still_tail 10, (by kernel_rfl)
          change wpList _ _ _ _ _ w5.drew
          go_wp2_with fail
          have hmax : max ((newest es : Nat) : Int) (e.2.2.1.toNat : Int) = ((newest (es ++ [e]) : Nat) : Int) := by rw [newest_snoc]; omega
          have g6 : (w5.setCell ⟨p, 1, none⟩ (.int .u64 (max ((newest es : Nat) : Int) (e.2.2.1.toNat : Int)))).drew.heap[p]? = some (.cells #[ptr q, .int .u64 (newest (es ++ [e]) : Nat), .int .i64 (bytesN es : Nat)] TM (0, 0)) := by
            rw [hmax]; exact blk_set G5.out 1 _
          have hg6 : (w5.setCell ⟨p, 1, none⟩ (.int .u64 (max ((newest es : Nat) : Int) (e.2.2.1.toNat : Int)))).drew.heap[w.heap.size]? = some (boxE e) := (blk_set_other (by show w.heap.size ≠ p; omega)).trans HG5.out
          have ht6 : Touched (fun k => k = p) w5 (w5.setCell ⟨p, 1, none⟩ (.int .u64 (max ((newest es : Nat) : Int) (e.2.2.1.toNat : Int)))).drew := touched_set _ _ _ _
          have G6 := Lib.hid g6
          have HG6 := Lib.hid hg6
          have T6 := Lib.hid ht6
          clear c1 f1 e2 hmax g6 hg6 ht6
          generalize (w5.setCell ⟨p, 1, none⟩ (.int .u64 (max ((newest es : Nat) : Int) (e.2.2.1.toNat : Int)))).drew = w6 at *
          have c2 : w6.cell? ⟨p, 2, none⟩ = some (.int .i64 (bytesN es : Nat)) := by rw [blk_cell G6.out]; rfl
          have f2 : ∀ j, w6.frozen? ⟨p, j, none⟩ = false := fun j => by rw [blk_frozen G6.out]; simp
          have e0 := (boxE_cells HG6.out).c0
          have e1 := (boxE_cells HG6.out).c1
          have q1 : IntKind.i64.wrap ((e.1.size : Int) + (e.2.1.size : Int)) = (e.1.size : Int) + (e.2.1.size : Int) := by rw [IntKind.wrap_i64]; omega
          have q2 : IntKind.i64.wrap (((bytesN es : Nat) : Int) + ((e.1.size : Int) + (e.2.1.size : Int))) = ((bytesN (es ++ [e]) : Nat) : Int) := by rw [IntKind.wrap_i64, bytesN_snoc]; omega
          go_wp2_with fail
          go_still_tail 14, (by kernel_rfl)
          change wpList _ _ _ _ _ w6.drew
          go_wp2_with fail
          have g7 : (w6.setCell ⟨p, 2, none⟩ (.int .i64 ((bytesN (es ++ [e]) : Nat) : Int))).drew.heap[p]? = some (memBox q (es ++ [e])) := blk_set G6.out 2 _
          have T7 := Lib.hid (touched_set w6 p 2 (.int .i64 ((bytesN (es ++ [e]) : Nat) : Int)))
          have G7 := Lib.hid g7
          clear g7 c2 f2 e0 e1 q1 q2
          generalize (w6.setCell ⟨p, 2, none⟩ (.int .i64 ((bytesN (es ++ [e]) : Nat) : Int))).drew = w7 at *
          go_wp2_with fail
          go_ret
          have hR : putR es e = 0 := by
            unfold putR
            rw [if_neg HNB.out, if_neg]
            rw [List.any_eq_true]
            rintro ⟨y, hy, hye⟩
            rw [← GE.out] at hy
            obtain ⟨x, hx, rfl⟩ := List.mem_map.1 hy
            rw [Bool.and_eq_true, decide_eq_true_eq, decide_eq_true_eq] at hye
            refine HNO.out x hx ?_
            rw [GK.out x hx]
            unfold pl
            rw [hye.1, hye.2]
          have hE : putE es e = es ++ [e] := by unfold putE; rw [if_pos hR]
          rw [PutPost, hR, hE]
          have hap : ∀ k, foot q v' (nodes ++ [nd]) k → k ≠ p := fun k hk e => by rw [e] at hk; exact mem_apart A5.out G5.out hk
          have T57 := T6.out.trans T7.out (fun j _ h => h)
          have hA7 : IsAt w7 q nx' (nodes ++ [nd]) v' := A5.out.same fun k hk => T57.block k (A5.out.foot_lt hk) (hap k hk)
          refine ⟨fun k => k = p ∨ foot q v' (nodes ++ [nd]) k, rfl, ⟨⟨q, nx', nodes ++ [nd], v', G7.out, hA7, L5.out, ?_, ?_, .inl rfl, fun k hk => .inr hk⟩, ?_⟩, ?_, ?_⟩
          · rw [List.map_append, GE.out]
            show es ++ [nd.val] = _
            rw [V5.out]
          · intro x hx
            rcases List.mem_append.1 hx with hx | hx
            · exact GK.out x hx
            · obtain rfl := List.mem_singleton.1 hx
              rw [K5.out, V5.out]
          · rintro k (rfl | hk)
            · exact blk_lt G7.out
            · exact hA7.foot_lt hk
          · refine ((Touched.of_below HB4.out.drew).trans T5.out (fun j _ h => GG.out j h)).trans T57 (fun j _ h => by rw [h]; exact GF.out)
          · rintro k (rfl | hk)
            · exact .inl GF.out
            · rcases F5.out k hk with h | h
              · exact .inl (GG.out k h)
              · exact .inr (Nat.le_trans HB4.out.drew.size h)
        · omega
      · rcases ht with ⟨hx, _⟩ | ⟨i2, hi2, hx, rfl, rfl, rfl⟩
        · omega
        · have HR := Lib.hid (show putR es e = 5 from by
            unfold putR
            rw [if_neg HNB.out, if_pos]
            rw [List.any_eq_true]
            refine ⟨nodes[i].val, by rw [← GE.out]; exact List.mem_map_of_mem (List.getElem_mem hi), ?_⟩
            have h1 := GK.out _ (List.getElem_mem hi)
            rw [hik] at h1
            have h2 := pl_inj h1
            simp [h2.1, h2.2])
          have HE := Lib.hid (show putE es e = es from by unfold putE; rw [HR.out]; rfl)
          clear hik hx
          go_wp2_with fail
          go_ret
          rw [PutPost, HR.out, HE.out]
          exact ⟨F, rfl, H.out.kept (HB3.out.alloc HB3.out.size _), Touched.of_below (HB3.out.alloc HB3.out.size _), fun k hk => .inl hk⟩
end Go.Proofs.Tryd.Skm
