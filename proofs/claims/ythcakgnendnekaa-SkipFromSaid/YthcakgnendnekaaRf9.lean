/- The document's skip list: Least, Row. -/
import Derived.Test.YthcakgnendnekaaRf8
open Go.RowKit Go.Cph Go.Cph.Skip
set_option linter.unusedVariables false
set_option linter.unusedSimpArgs false
namespace Go.Proofs.Try.SkS

/-- May a key be told: not below one, or above it? -/
def mayB (key : ByteArray) (above : Bool) (z : ByteArray) : Bool := !klt z key && !(above && decide (z = key))
structure BestIt (l : List It) (p : ByteArray → Bool) (k : Nat) (b : Option Nat) : Prop where
  none : b = .none → ∀ i (hi : i < l.length), i < k → p l[i].1 = false
  some : ∀ j, b = .some j → ∃ hj : j < l.length, j < k ∧ p l[j].1 = true ∧ ∀ i (hi : i < l.length), i < k → p l[i].1 = true → klt l[i].1 l[j].1 = false
def bestV : Option Nat → Int | .none => -1 | .some j => j
def LeastIt (l : List It) (p : ByteArray → Bool) : Option It → Prop
  | .none => ∀ y ∈ l, p y.1 = false
  | .some x => x ∈ l ∧ p x.1 = true ∧ ∀ y ∈ l, p y.1 = true → klt y.1 x.1 = false
def resIt : Option It → It | .none => (ByteArray.empty, ByteArray.empty, 0) | .some x => x
theorem BestIt.skip {l : List It} {p : ByteArray → Bool} {k : Nat} {b : Option Nat} (h : BestIt l p k b) (hk : k < l.length) (hp : p l[k].1 = false) : BestIt l p (k + 1) b := by
  refine ⟨fun e i hi hik => ?_, fun j e => ?_⟩
  · rcases Nat.lt_or_ge i k with hlt | hge
    · exact h.none e i hi hlt
    · obtain rfl : i = k := by omega
      exact hp
  · obtain ⟨hj, h1, h2, h3⟩ := h.some j e
    refine ⟨hj, by omega, h2, fun i hi hik hpi => ?_⟩
    rcases Nat.lt_or_ge i k with hlt | hge
    · exact h3 i hi hlt hpi
    · obtain rfl : i = k := by omega
      rw [hp] at hpi; cases hpi
theorem BestIt.first {l : List It} {p : ByteArray → Bool} {k : Nat} (h : BestIt l p k .none) (hk : k < l.length) (hp : p l[k].1 = true) : BestIt l p (k + 1) (.some k) := by
  refine ⟨(fun e => by cases e), fun j e => ?_⟩
  cases e
  refine ⟨hk, by omega, hp, fun i hi hik hpi => ?_⟩
  rcases Nat.lt_or_ge i k with hlt | hge
  · rw [h.none rfl i hi hlt] at hpi; cases hpi
  · obtain rfl : i = k := by omega
    exact klt_irrefl _
theorem BestIt.less {l : List It} {p : ByteArray → Bool} {k j : Nat} (h : BestIt l p k (.some j)) (hk : k < l.length) (hp : p l[k].1 = true) (hj : j < l.length) (hlt : klt l[k].1 l[j].1 = true) : BestIt l p (k + 1) (.some k) := by
  refine ⟨(fun e => by cases e), fun j' e => ?_⟩
  cases e
  obtain ⟨_, h1, h2, h3⟩ := h.some j rfl
  refine ⟨hk, by omega, hp, fun i hi hik hpi => ?_⟩
  rcases Nat.lt_or_ge i k with hik' | hge
  · have := h3 i hi hik' hpi
    cases hc : klt l[i].1 l[k].1 with
    | false => rfl
    | true => rw [klt_trans hc hlt] at this; cases this
  · obtain rfl : i = k := by omega
    exact klt_irrefl _
theorem BestIt.keep {l : List It} {p : ByteArray → Bool} {k j : Nat} (h : BestIt l p k (.some j)) (hk : k < l.length) (hj : j < l.length) (hlt : klt l[k].1 l[j].1 = false) : BestIt l p (k + 1) (.some j) := by
  refine ⟨(fun e => by cases e), fun j' e => ?_⟩
  cases e
  obtain ⟨_, h1, h2, h3⟩ := h.some j rfl
  refine ⟨hj, by omega, h2, fun i hi hik hpi => ?_⟩
  rcases Nat.lt_or_ge i k with hik' | hge
  · exact h3 i hi hik' hpi
  · obtain rfl : i = k := by omega
    exact hlt

theorem lessB (a b : ByteArray) (w : World) (ha : a.size ≤ 1000000) (hb : b.size ≤ 1000000) :
    Calls Try.prog 40 #[.string a, .string b] w fun e w' => e = .returned (.bool (klt a b)) ∧ Below w.heap.size w w' :=
  (less a b w ha hb).mono fun e w' ⟨he, n, hn⟩ => ⟨he, hn ▸ below_drewN (Below.refl _ _) _⟩

structure RLeastPost (l : List It) (p : ByteArray → Bool) (w : World) (e : Ending) (w' : World) : Prop where
  res : ∃ r, e = .returned (.tuple #[.agg (encIt (resIt r)).toArray, .bool r.isSome]) ∧ LeastIt l p r
  bel : Below w.heap.size w w'

set_option maxHeartbeats 2000000 in
theorem rLeast (v : Value) (l : List It) (key : ByteArray) (above : Bool) (w : World) (h : ItemsAt w v l) (hs : SmallIts l) (hks : key.size ≤ 1000000) :
    Calls Try.prog 19 #[v, .string key, .bool above] w (RLeastPost l (mayB key above) w) := by
  obtain ⟨ao, cap, hv⟩ := elems_slice h
  have HI := Lib.hid h
  have HS := Lib.hid hs
  have hl := hs.1
  subst hv
  clear h hs
  go_enter Try.func19, Try.ntmps19
  go_wp2_with fail
  have hres := heap_alloc_new w (.cells #[.string ⟨#[]⟩, .string ⟨#[]⟩, .int .i64 0] 43)
  have hb0 : Below w.heap.size w (w.alloc (.cells #[.string ⟨#[]⟩, .string ⟨#[]⟩, .int .i64 0] 43)) := (Below.refl _ _).alloc (Nat.le_refl _) _
  generalize w.alloc (.cells #[.string ⟨#[]⟩, .string ⟨#[]⟩, .int .i64 0] 43) = w0 at *
  have HR := Lib.hid hres
  have HB := Lib.hid hb0
  have HI0 := Lib.hid (HI.out.kept hb0)
  clear hres hb0
  go_loopw [8, 9] (fun b i wr => ∃ (k : Nat) (o : Option Nat), k ≤ l.length ∧ i = .int .i64 k ∧ b = .int .i64 (bestV o) ∧ Below w0.heap.size w0 wr ∧ BestIt l (mayB key above) k o) (fun _ i _ => l.length - (intOf i).toNat)
  case atStart => exact ⟨0, .none, by omega, rfl, rfl, Below.refl _ _, ⟨fun _ _ _ h => by omega, fun j e => by cases e⟩⟩
  case round =>
    obtain ⟨k, o, hk, rfl, rfl, hbw, hb⟩ := hrel
    have HBW := Lib.hid hbw
    clear hbw
    have HBE := Lib.hid hb
    clear hb
    by_cases hlt : k < l.length
    · obtain ⟨b, off, cap', hv, hc⟩ := items_shape HI0.out (by omega)
      cases hv
      have k0 : (0 : Int) ≤ (k : Int) := by omega
      have k1 : (k : Int) < (l.length : Int) := by omega
      have c1 := Go.Cph.cell_kept HBW.out (hc k hlt).1
      have hsz := HS.out.2 _ (List.getElem_mem hlt)
      have hlessB := fun W => lessB l[k].1 key W hsz hks
      have HC := Lib.hid hc
      clear hc
      obtain ⟨x, hx⟩ : ∃ x, x = l[k] := ⟨_, rfl⟩
      rw [← hx] at c1 hlessB hsz
      have HX := Lib.hid hx
      clear hx
      by_cases hkk : klt x.1 key = true
      · have HP := Lib.hid (show mayB key above l[k].1 = false by rw [← HX.out]; simp [mayB, hkk])
        go_wp2_with (go_at_call 40; refine (hlessB _).mono ?_; rintro e w1 ⟨rfl, hb1⟩; have HB1 := Lib.hid hb1; try (have c3 := Go.Cph.cell_kept hb1 c1); try (have c4 := Go.Cph.cell_kept hb1 c2); clear hb1)
        go_roundw
        case rel => exact ⟨k + 1, o, by omega, by go_num, rfl, HBW.out.trans (HB1.out.mono HBW.out.size), HBE.out.skip hlt HP.out⟩
        case measure => simp [intOf]; omega
      · have hkk : klt x.1 key = false := by simpa using hkk
        by_cases hae : above = true ∧ x.1 = key
        · obtain ⟨rfl, he⟩ := hae
          have HP := Lib.hid (show mayB key true l[k].1 = false by rw [← HX.out]; simp [mayB, he])
          have hz : (x.1.toList == key.toList) = true := by rw [he]; simp
          clear he
          go_wp2_with (go_at_call 40; refine (hlessB _).mono ?_; rintro e w1 ⟨rfl, hb1⟩; have HB1 := Lib.hid hb1; try (have c3 := Go.Cph.cell_kept hb1 c1); try (have c4 := Go.Cph.cell_kept hb1 c2); clear hb1)
          go_roundw
          case rel => exact ⟨k + 1, o, by omega, by go_num, rfl, HBW.out.trans (HB1.out.mono HBW.out.size), HBE.out.skip hlt HP.out⟩
          case measure => simp [intOf]; omega
        · have HP := Lib.hid (show mayB key above l[k].1 = true by
            rw [← HX.out]
            simp only [mayB, hkk, Bool.not_false, Bool.true_and, Bool.not_eq_true', Bool.and_eq_false_iff, decide_eq_false_iff_not]
            by_cases h1 : above = true
            · exact .inr fun h2 => hae ⟨h1, h2⟩
            · exact .inl (by simpa using h1))
          have hab : above = false ∨ (above = true ∧ (x.1.toList == key.toList) = false) := by
            by_cases h1 : above = true
            · exact .inr ⟨h1, by rw [beq_toList]; simpa using fun h2 => hae ⟨h1, h2⟩⟩
            · exact .inl (by simpa using h1)
          clear hae
          rcases o with _ | j
          · have HN := Lib.hid (HBE.out.first hlt HP.out)
            have hd : decide ((-1 : Int) < 0) = true := by decide
            rw [show bestV .none = -1 from rfl]
            rcases hab with rfl | ⟨rfl, hz⟩
            all_goals
              go_wp2_with (go_at_call 40; refine (hlessB _).mono ?_; rintro e w1 ⟨rfl, hb1⟩; have HB1 := Lib.hid hb1; try (have c3 := Go.Cph.cell_kept hb1 c1); try (have c4 := Go.Cph.cell_kept hb1 c2); clear hb1)
              go_quiet (fail)
              go_wp2_with fail
              go_roundw
              case rel => exact ⟨k + 1, .some k, by omega, by go_num, rfl, below_drewN (HBW.out.trans (HB1.out.mono HBW.out.size)) _, HN.out⟩
              case measure => simp [intOf]; omega
          · obtain ⟨hj, hjk, _, _⟩ := HBE.out.some j rfl
            have c2 := Go.Cph.cell_kept HBW.out (HC.out j hj).1
            have hsz2 := HS.out.2 _ (List.getElem_mem hj)
            obtain ⟨y, hy⟩ : ∃ y, y = l[j] := ⟨_, rfl⟩
            rw [← hy] at c2 hsz2
            have hless2 := fun W => less x.1 y.1 W hsz hsz2
            have HY := Lib.hid hy
            clear hy
            have k2 : (0 : Int) ≤ (j : Int) := by omega
            have k3 : (j : Int) < (l.length : Int) := by omega
            have hd : decide ((j : Int) < 0) = false := by simp
            rw [show bestV (.some j) = (j : Int) from rfl]
            by_cases hxy : klt x.1 y.1 = true
            · have HN := Lib.hid (HBE.out.less hlt HP.out hj (by rw [← HX.out, ← HY.out]; exact hxy))
              rcases hab with rfl | ⟨rfl, hz⟩
              all_goals
                go_wp2_with (go_at_call 40; refine (hlessB _).mono ?_; rintro e w1 ⟨rfl, hb1⟩; have HB1 := Lib.hid hb1; try (have c3 := Go.Cph.cell_kept hb1 c1); try (have c4 := Go.Cph.cell_kept hb1 c2); clear hb1)
                go_quiet ((go_at_call 40; exact Calls.quiet_of (hless2 _)))
                go_wp2_with fail
                go_roundw
                case rel => exact ⟨k + 1, .some k, by omega, by go_num, rfl, below_drewN (HBW.out.trans (HB1.out.mono HBW.out.size)) _, HN.out⟩
                case measure => simp [intOf]; omega
            · have hxy : klt x.1 y.1 = false := by simpa using hxy
              have HN := Lib.hid (HBE.out.keep hlt hj (by rw [← HX.out, ← HY.out]; exact hxy))
              rcases hab with rfl | ⟨rfl, hz⟩
              all_goals
                go_wp2_with (go_at_call 40; refine (hlessB _).mono ?_; rintro e w1 ⟨rfl, hb1⟩; have HB1 := Lib.hid hb1; try (have c3 := Go.Cph.cell_kept hb1 c1); try (have c4 := Go.Cph.cell_kept hb1 c2); clear hb1)
                go_quiet ((go_at_call 40; exact Calls.quiet_of (hless2 _)))
                go_wp2_with fail
                go_roundw
                case rel => exact ⟨k + 1, .some j, by omega, by go_num, rfl, below_drewN (HBW.out.trans (HB1.out.mono HBW.out.size)) _, HN.out⟩
                case measure => simp [intOf]; omega
    · have k1 : ¬ (k : Int) < (l.length : Int) := by omega
      have HE := Lib.hid (show k = l.length by omega)
      have hr := blk_kept HBW.out HR.out
      have c6 : wr.cell? ⟨w.heap.size, 0, none⟩ = some (.string ⟨#[]⟩) := by rw [blk_cell hr]; rfl
      have c7 : wr.cell? ⟨w.heap.size, 1, none⟩ = some (.string ⟨#[]⟩) := by rw [blk_cell hr]; rfl
      have c8 : wr.cell? ⟨w.heap.size, 2, none⟩ = some (.int .i64 0) := by rw [blk_cell hr]; rfl
      have f6 : wr.frozen? ⟨w.heap.size, 0, none⟩ = false := by rw [blk_frozen hr]; simp
      have f7 : wr.frozen? ⟨w.heap.size, 1, none⟩ = false := by rw [blk_frozen hr]; simp
      have f8 : wr.frozen? ⟨w.heap.size, 2, none⟩ = false := by rw [blk_frozen hr]; simp
      have HBZ := Lib.hid (HB.out.trans (HBW.out.mono HB.out.size))
      clear hr
      rcases o with _ | j
      · rw [show bestV .none = -1 from rfl]
        go_wp2_with fail
        refine bodyPost_ret (v := .tuple #[.agg #[.string ⟨#[]⟩, .string ⟨#[]⟩, .int .i64 0], .bool false]) (by simp [results, Try.results19, go_sem, c6, c7, c8]) rfl ⟨⟨.none, rfl, ?_⟩, ?_⟩
        · intro y hy
          obtain ⟨i, hi, rfl⟩ := List.getElem_of_mem hy
          exact HBE.out.none rfl i hi (by rw [HE.out]; exact hi)
        · exact ((HBZ.out.setCell (p := ⟨w.heap.size, 0, none⟩) (Nat.le_refl _) _).setCell (p := ⟨w.heap.size, 1, none⟩) (Nat.le_refl _) _).setCell (p := ⟨w.heap.size, 2, none⟩) (Nat.le_refl _) _
      · obtain ⟨hj, _, hp, hmin⟩ := HBE.out.some j rfl
        obtain ⟨b, off, cap', hv, hc⟩ := items_shape HI0.out (by omega)
        cases hv
        have d1 := Go.Cph.cell_kept HBW.out (hc j hj).1
        have d2 := Go.Cph.cell_kept HBW.out (hc j hj).2.1
        have d3 := Go.Cph.cell_kept HBW.out (hc j hj).2.2
        have HL := Lib.hid (show LeastIt l (mayB key above) (.some l[j]) from ⟨List.getElem_mem hj, hp, fun y hy hpy => by
          obtain ⟨i, hi, rfl⟩ := List.getElem_of_mem hy
          exact hmin i hi (by rw [HE.out]; exact hi) hpy⟩)
        obtain ⟨y, hy⟩ : ∃ y, y = l[j] := ⟨_, rfl⟩
        rw [← hy] at d1 d2 d3
        have HY := Lib.hid hy
        obtain ⟨y1, y2, y3⟩ := y
        have k2 : (0 : Int) ≤ (j : Int) := by omega
        have k3 : (j : Int) < (l.length : Int) := by omega
        have k4 : ¬ (j : Int) < 0 := by omega
        dsimp only at d1 d2 d3
        clear hy hc hp hmin
        rw [show bestV (.some j) = (j : Int) from rfl]
        go_wp2_with fail
        refine bodyPost_ret (v := .tuple #[.agg #[.string y1, .string y2, .int .i64 y3], .bool true]) (by simp [results, Try.results19, go_sem, c6, c7, c8]) rfl ⟨⟨.some (y1, y2, y3), rfl, ?_⟩, ?_⟩
        · rw [HY.out]; exact HL.out
        · exact ((HBZ.out.setCell (p := ⟨w.heap.size, 0, none⟩) (Nat.le_refl _) _).setCell (p := ⟨w.heap.size, 1, none⟩) (Nat.le_refl _) _).setCell (p := ⟨w.heap.size, 2, none⟩) (Nat.le_refl _) _
structure RLeast2 (l : List It) (p : ByteArray → Bool) (w : World) (e : Ending) (w' : World) : Prop where
  res : (e = .returned (.tuple #[.agg #[.string ⟨#[]⟩, .string ⟨#[]⟩, .int .i64 0], .bool false]) ∧ LeastIt l p .none) ∨
    ∃ x1 x2 x3, e = .returned (.tuple #[.agg #[.string x1, .string x2, .int .i64 (x3 : Nat)], .bool true]) ∧ LeastIt l p (.some (x1, x2, x3))
  bel : Below w.heap.size w w'
theorem rLeast2 (v : Value) (l : List It) (key : ByteArray) (above : Bool) (w : World) (h : ItemsAt w v l) (hs : SmallIts l) (hks : key.size ≤ 1000000) :
    Calls Try.prog 19 #[v, .string key, .bool above] w (RLeast2 l (mayB key above) w) :=
  (rLeast v l key above w h hs hks).mono fun e w' ⟨⟨r, he, hr⟩, hb⟩ => by
    refine ⟨?_, hb⟩
    rcases r with _ | ⟨x1, x2, x3⟩
    · exact .inl ⟨he, hr⟩
    · exact .inr ⟨x1, x2, x3, he, hr⟩
end Go.Proofs.Try.SkS
