/- The document's entries: Before, Sorted (what mem needs of merge's texts). -/
import Derived.Test.YtkikjbcmdlghnaaDoorProg
import Derived.Test.YtkikjbcmdlghnaaDoorLib
import Derived.Test.YtkikjbcmdlghnaaDoorSkO
import Derived.Test.YtkikjbcmdlghnaaDoorSeg
import Derived.Test.YtkikjbcmdlghnaaDoorSo3
import Derived.StillTailTactics
import Derived.BigRegion
import Derived.OwnWalk
import Derived.WalkSmall
import Derived.IntWalk
set_option linter.unusedVariables false
set_option linter.unusedSimpArgs false
set_option maxRecDepth 100000
namespace Go.Proofs.Tryd.Mg
open Go.RowKit Go.Cph Go.Cph.Skip Go.Cph.So
abbrev Ent := ByteArray × ByteArray × UInt64 × Bool
abbrev TE : TypeId := 34
abbrev TS : TypeId := 40
abbrev encC (e : Ent) : List Value := [.string e.1, .string e.2.1, .int .u64 (e.2.2.1.toNat : Int), .bool e.2.2.2]
abbrev encP (e : Ent) : Value := .agg #[.string e.1, .string e.2.1, .int .u64 (e.2.2.1.toNat : Int), .bool e.2.2.2]
abbrev EntsAt (w : World) (v : Value) (l : List Ent) : Prop := Elems encC 4 w v l
theorem encC_len (e : Ent) : (encC e).length = 4 := rfl
theorem encC_one {l : List Ent} : ∀ u ∈ l.flatMap encC, u.oneCell' = true := by
  intro u hu
  rw [List.mem_flatMap] at hu
  obtain ⟨p, _, hu⟩ := hu
  simp only [encC, List.mem_cons, List.not_mem_nil, or_false] at hu
  rcases hu with rfl | rfl | rfl | rfl <;> rfl
theorem encC_one1 (p : Ent) : ∀ u ∈ encC p, u.oneCell' = true := by
  intro u hu
  simp only [encC, List.mem_cons, List.not_mem_nil, or_false] at hu
  rcases hu with rfl | rfl | rfl | rfl <;> rfl
theorem infoE : (Tryd.prog.info? TE).map (fun i => (i.zero, i.size, i.bytes)) = some (some (.agg #[.string ByteArray.empty, .string ByteArray.empty, .int .u64 0, .bool false]), 4, 48) := by kernel_rfl
/-- An entry's cells. -/
structure CellsOf (w : World) (b o : Nat) (p : Ent) : Prop where
  c0 : w.cell? ⟨b, o, none⟩ = some (.string p.1)
  c1 : w.cell? ⟨b, o + 1, none⟩ = some (.string p.2.1)
  c2 : w.cell? ⟨b, o + 2, none⟩ = some (.int .u64 (p.2.2.1.toNat : Int))
  c3 : w.cell? ⟨b, o + 3, none⟩ = some (.bool p.2.2.2)
theorem CellsOf.kept {w w' : World} {b o : Nat} {p : Ent} (h : CellsOf w b o p) (hb : Below w.heap.size w w') : CellsOf w' b o p := ⟨cell_kept hb h.c0, cell_kept hb h.c1, cell_kept hb h.c2, cell_kept hb h.c3⟩
theorem ents_cells {w : World} {v : Value} {l : List Ent} (h : EntsAt w v l) (h0 : 0 < l.length) :
    ∃ b off cap, v = .slice (some ⟨b, off, none⟩) l.length cap ∧ ∀ i (hi : i < l.length), CellsOf w b (off + i * 4) l[i] := by
  obtain ⟨b, off, cap, hv, hc⟩ := elems_shape encC_len h h0
  exact ⟨b, off, cap, hv, fun i hi => ⟨hc i hi 0 (by omega), hc i hi 1 (by omega), hc i hi 2 (by omega), hc i hi 3 (by omega)⟩⟩
theorem boxP {w : World} {b : Nat} {p : Ent} {E : TypeId} {fr : Nat × Nat} (h : w.heap[b]? = some (.cells #[.string p.1, .string p.2.1, .int .u64 (p.2.2.1.toNat : Int), .bool p.2.2.2] E fr)) : CellsOf w b 0 p :=
  ⟨by rw [blk_cell h]; rfl, by rw [blk_cell h]; rfl, by rw [blk_cell h]; rfl, by rw [blk_cell h]; rfl⟩
def ltE (a b : Ent) : Bool := klt a.1 b.1 || (decide (a.1 = b.1) && decide (b.2.2.1 < a.2.2.1))
theorem u64_lt (x y : UInt64) : ((x.toNat : Int) < (y.toNat : Int)) ↔ x < y := by rw [UInt64.lt_iff_toNat_lt]; omega
theorem weakE : Weak ltE := by
  refine ⟨fun {a b} h => ?_, fun {a b c} h1 h2 => ?_⟩
  · unfold ltE at h ⊢
    simp only [Bool.or_eq_true, Bool.and_eq_true, decide_eq_true_eq, Bool.or_eq_false_iff, Bool.and_eq_false_iff, decide_eq_false_iff_not] at h ⊢
    rcases h with h | ⟨h, k⟩
    · exact ⟨klt_asymm h, .inl fun e => by rw [e, klt_irrefl] at h; cases h⟩
    · refine ⟨by rw [h]; exact klt_irrefl _, .inr ?_⟩
      rw [UInt64.lt_iff_toNat_lt] at k ⊢; omega
  · unfold ltE at h1 h2 ⊢
    simp only [Bool.or_eq_false_iff, Bool.and_eq_false_iff, decide_eq_false_iff_not] at h1 h2 ⊢
    obtain ⟨h1, k1⟩ := h1
    obtain ⟨h2, k2⟩ := h2
    refine ⟨kle_trans h1 h2, ?_⟩
    by_cases e : c.1 = a.1
    · right
      have eb : a.1 = b.1 := klt_total (by rw [← e]; exact h2) h1
      have k1' : ¬ a.2.2.1 < b.2.2.1 := by rcases k1 with k | k; exact absurd eb.symm k; exact k
      have k2' : ¬ b.2.2.1 < c.2.2.1 := by rcases k2 with k | k; exact absurd (e.trans eb) k; exact k
      rw [UInt64.lt_iff_toNat_lt] at k1' k2' ⊢; omega
    · exact .inl e
theorem eqvE (a b : Ent) : eqv ltE a b = true ↔ a.1 = b.1 ∧ a.2.2.1 = b.2.2.1 := by
  rw [eqv_iff]
  unfold ltE
  simp only [Bool.or_eq_false_iff, Bool.and_eq_false_iff, decide_eq_false_iff_not]
  constructor
  · rintro ⟨⟨h1, k1⟩, h2, k2⟩
    have e := klt_total h1 h2
    refine ⟨e, ?_⟩
    have k1' := k1.resolve_left (fun k => k e)
    have k2' := k2.resolve_left (fun k => k e.symm)
    rw [UInt64.lt_iff_toNat_lt] at k1' k2'
    rw [← UInt64.toNat_inj]; omega
  · rintro ⟨e, k⟩
    rw [e, k]
    refine ⟨⟨klt_irrefl _, .inr ?_⟩, klt_irrefl _, .inr ?_⟩ <;> · rw [UInt64.lt_iff_toNat_lt]; omega
theorem row_kept1 {w w' : World} {base : Nat} {e : TypeId} {size : Nat} {v : Value} {n : Nat} {xs : List Value} (h : w.ownsRow base e size v n xs)
    (hk : ∀ k, v.ownBlock = some k → w'.heap[k]? = w.heap[k]?) : w'.ownsRow base e size v n xs := by
  obtain ⟨h1, h2⟩ := h
  refine ⟨h1, ?_⟩
  rcases h2 with h2 | ⟨g, cap, cur, rfl, h4, h5, r⟩
  · exact .inl h2
  · exact .inr ⟨g, cap, cur, rfl, h4, (hk g rfl).trans h5, r⟩
def NewRow (w : World) (l : List Ent) (e : Ending) (w' : World) : Prop := ∃ v', e = .returned v' ∧ w'.ownsRow w.heap.size TE 4 v' l.length (l.flatMap encC) ∧ Below w.heap.size w w'
theorem NewRow.ents {w : World} {l : List Ent} {e : Ending} {w' : World} (h : NewRow w l e w') : ∃ v', e = .returned v' ∧ EntsAt w' v' l ∧ Below w.heap.size w w' := by
  obtain ⟨v', h1, h2, h3⟩ := h
  exact ⟨v', h1, Seg.of_owns h2, h3⟩
theorem flat_takeE (l : List Ent) (k : Nat) : (l.flatMap encC).take (k * 4) = (l.take k).flatMap encC := by
  induction l generalizing k with
  | nil => simp
  | cons x l ih =>
    cases k with
    | zero => simp
    | succ k =>
      rw [List.flatMap_cons, List.take_succ_cons, List.flatMap_cons, ← ih, Nat.succ_mul, List.take_append, List.take_of_length_le (by simp)]
      congr 1
theorem flat_dropE (l : List Ent) (k : Nat) : (l.flatMap encC).drop (k * 4) = (l.drop k).flatMap encC := by
  induction l generalizing k with
  | nil => simp
  | cons x l ih =>
    cases k with
    | zero => simp
    | succ k =>
      rw [List.flatMap_cons, List.drop_succ_cons, ← ih, Nat.succ_mul, Nat.add_comm, ← List.drop_drop]
      congr 1
/-- A part of a slice of entries. -/
theorem ents_part {w : World} {b off cap : Nat} {l : List Ent} (h : EntsAt w (.slice (some ⟨b, off, none⟩) l.length cap) l) (i m cap' : Nat) (hn : i + m ≤ l.length) (hne : m = ((l.drop i).take m).length) : EntsAt w (.slice (some ⟨b, off + i * 4, none⟩) m cap') ((l.drop i).take m) := by
  obtain ⟨⟨ao, c, hv, hc⟩, hl⟩ := h
  cases hv
  refine ⟨⟨_, cap', by rw [← hne], fun h0 => ?_⟩, flat_length encC_len _⟩
  obtain ⟨b', off', hb, hcc⟩ := hc (by omega)
  cases hb
  refine ⟨b, off + i * 4, rfl, fun j hj => ?_⟩
  rw [← hne] at hj
  rw [Nat.add_assoc, hcc _ (by omega)]
  have e : ((l.drop i).take m).flatMap encC = ((l.flatMap encC).drop (i * 4)).take (m * 4) := by rw [flat_dropE, flat_takeE]
  rw [e, List.getElem?_take, if_pos hj, List.getElem?_drop]
theorem own_cells {W : World} {base g n cap : Nat} {l : List Ent} (h : W.ownsRow base TE 4 (.slice (some ⟨g, 0, none⟩) n cap) l.length (l.flatMap encC)) {q : Nat} {x : Ent} (hid : q < l.length) (hcx : l[q]? = some x) : CellsOf W g (q * 4) x := by
  obtain ⟨g', cap', hv, -, -, -, hcell, -⟩ := owns_shape h (by omega)
  cases hv
  have e : x = l[q] := by rw [List.getElem?_eq_getElem hid] at hcx; exact (Option.some.inj hcx).symm
  subst e
  refine ⟨(hcell (q * 4 + 0) (by omega)).trans ?_, (hcell (q * 4 + 1) (by omega)).trans ?_, (hcell (q * 4 + 2) (by omega)).trans ?_, (hcell (q * 4 + 3) (by omega)).trans ?_⟩ <;> exact flat_at encC_len l q hid _ (by decide)
def insD (s : List Ent) (x : Ent) : List Ent := s.takeWhile (fun y => ltE y x) ++ x :: s.dropWhile (fun y => ltE y x)
def sortD (l : List Ent) : List Ent := l.foldl insD []
theorem sortD_snoc (l : List Ent) (x : Ent) : sortD (l ++ [x]) = insD (sortD l) x := by unfold sortD; rw [List.foldl_append]; rfl
theorem insD_length (s : List Ent) (x : Ent) : (insD s x).length = s.length + 1 := by
  unfold insD
  have := congrArg List.length (List.takeWhile_append_dropWhile (p := fun y => ltE y x) (l := s))
  rw [List.length_append] at this
  rw [List.length_append, List.length_cons]; omega
theorem sortD_length (l : List Ent) : (sortD l).length = l.length := by
  suffices k : ∀ r : List Ent, (sortD r.reverse).length = r.reverse.length by simpa using k l.reverse
  intro r
  induction r with
  | nil => rfl
  | cons e r ih => rw [List.reverse_cons, sortD_snoc, insD_length, ih]; simp
theorem mem_insD (s : List Ent) (x y : Ent) : y ∈ insD s x ↔ y = x ∨ y ∈ s := by
  unfold insD
  have := List.takeWhile_append_dropWhile (p := fun y => ltE y x) (l := s)
  conv => rhs; rw [← this]
  simp only [List.mem_append, List.mem_cons]
  constructor
  · rintro (h | h | h)
    · exact .inr (.inl h)
    · exact .inl h
    · exact .inr (.inr h)
  · rintro (h | h | h)
    · exact .inr (.inl h)
    · exact .inl h
    · exact .inr (.inr h)
theorem takeWhile_all {α : Type} {p : α → Bool} : ∀ {l : List α} {y : α}, y ∈ l.takeWhile p → p y = true
  | [], y, h => by simp at h
  | a :: l, y, h => by
    rw [List.takeWhile_cons] at h
    split at h
    · rename_i ha
      rcases List.mem_cons.1 h with rfl | h
      · exact ha
      · exact takeWhile_all h
    · simp at h
theorem dropWhile_first {α : Type} {p : α → Bool} : ∀ {l : List α} {y : α} {r : List α}, l.dropWhile p = y :: r → p y = false
  | [], y, r, h => by simp at h
  | a :: l, y, r, h => by
    rw [List.dropWhile_cons] at h
    split at h
    · exact dropWhile_first h
    · rename_i ha; injection h with h1 _; subst h1; simpa using ha
theorem insD_strict {s : List Ent} (hs : Strict ltE s) {x : Ent} (hx : ∀ y ∈ s, eqv ltE x y = false) : Strict ltE (insD s x) := by
  have e := List.takeWhile_append_dropWhile (p := fun y => ltE y x) (l := s)
  have hs' := hs
  rw [← e] at hs'
  unfold Strict at hs' ⊢
  rw [List.pairwise_append] at hs'
  obtain ⟨h1, h2, h3⟩ := hs'
  have hd : ∀ y ∈ s.dropWhile (fun y => ltE y x), ltE x y = true := by
    intro y hy
    have hne := hx y (by rw [← e]; exact List.mem_append_right _ hy)
    have hle : ltE y x = false := by
      cases hdw : s.dropWhile (fun y => ltE y x) with
      | nil => rw [hdw] at hy; cases hy
      | cons z r =>
        have hz := dropWhile_first hdw
        rw [hdw] at hy h2
        rcases List.mem_cons.1 hy with rfl | hy
        · exact hz
        · have hzy := (List.pairwise_cons.1 h2).1 y hy
          cases hyx : ltE y x with
          | false => rfl
          | true => have := weakE.lt_of_lt_le hzy (weakE.asymm hyx); rw [hz] at this; cases this
    cases hxy : ltE x y with
    | true => rfl
    | false => have := eqv_iff.2 ⟨hxy, hle⟩; rw [hne] at this; cases this
  unfold insD
  rw [List.pairwise_append, List.pairwise_cons]
  refine ⟨h1, ⟨hd, h2⟩, fun a ha b hb => ?_⟩
  have hax : ltE a x = true := takeWhile_all (p := fun y => ltE y x) ha
  rcases List.mem_cons.1 hb with rfl | hb
  · exact hax
  · exact h3 a ha b hb
theorem sortD_is {l : List Ent} (h : l.Pairwise (fun a b => eqv ltE a b = false)) : Strict ltE (sortD l) ∧ ∀ x, x ∈ sortD l ↔ x ∈ l := by
  suffices k : ∀ r : List Ent, r.reverse.Pairwise (fun a b => eqv ltE a b = false) → Strict ltE (sortD r.reverse) ∧ ∀ x, x ∈ sortD r.reverse ↔ x ∈ r.reverse by
    have := k l.reverse (by simpa using h); simpa using this
  intro r
  induction r with
  | nil => intro _; exact ⟨List.Pairwise.nil, fun x => by simp [sortD]⟩
  | cons e r ih =>
    intro hr
    rw [List.reverse_cons] at hr ⊢
    rw [List.pairwise_append] at hr
    obtain ⟨h1, h2⟩ := ih hr.1
    rw [sortD_snoc]
    refine ⟨insD_strict h1 fun y hy => ?_, fun x => ?_⟩
    · rw [eqv_comm]; exact hr.2.2 y ((h2 y).1 hy) e (by simp)
    · rw [mem_insD, h2, List.mem_append]; simp [or_comm]
theorem takeWhile_at {α : Type} {p : α → Bool} {l : List α} {k : Nat} (hk : k ≤ l.length) (h : ∀ j (hj : j < l.length), j < k → p l[j] = true) (hs : ∀ (h : k < l.length), p l[k] = false) : l.takeWhile p = l.take k ∧ l.dropWhile p = l.drop k := by
  induction l generalizing k with
  | nil => simp at hk; subst hk; simp
  | cons a l ih =>
    cases k with
    | zero => have := hs (by simp); simp only [List.getElem_cons_zero] at this; simp [this]
    | succ k =>
      have ha := h 0 (by simp) (by omega)
      simp only [List.getElem_cons_zero] at ha
      obtain ⟨h1, h2⟩ := ih (k := k) (by simpa using hk) (fun j hj hjk => by have := h (j + 1) (by simpa using hj) (by omega); simpa using this) (fun hk' => by have := hs (by simpa using hk'); simpa using this)
      simp [ha, h1, h2]
theorem bl_cons (x y : UInt8) (xs ys : List UInt8) (h : x ≠ y) : Op.bytesLess (x :: xs) (y :: ys) = decide (x.toNat < y.toNat) := by
  have hb : (x == y) = false := by simpa using h
  simp [Op.bytesLess, hb, h]
  first
    | done
    | (rw [UInt8.lt_iff_toNat_lt])
theorem bl_same (x : UInt8) (xs ys : List UInt8) : Op.bytesLess (x :: xs) (x :: ys) = Op.bytesLess xs ys := by simp [Op.bytesLess]
theorem klt_drop (a b : ByteArray) : klt a b = Op.bytesLess (a.data.toList.drop 0) (b.data.toList.drop 0) := by
  unfold klt; rw [ByteArray.toList_eq, ByteArray.toList_eq]; rfl
theorem drop_cons (s : ByteArray) (k : Nat) (h : k < s.size) : s.data.toList.drop k = s[k] :: s.data.toList.drop (k + 1) := by
  rw [List.drop_eq_getElem_cons (by simpa using h)]; rfl
theorem drop_end (s : ByteArray) (k : Nat) (h : s.size ≤ k) : s.data.toList.drop k = [] := List.drop_of_length_le (by simpa using h)
theorem bl_end1 (ys : List UInt8) : Op.bytesLess [] ys = decide (0 < ys.length) := by cases ys <;> simp [Op.bytesLess]
theorem bl_end2 (xs : List UInt8) : Op.bytesLess xs [] = false := by cases xs <;> simp [Op.bytesLess]
set_option maxHeartbeats 1000000 in
theorem less (a b : ByteArray) (w : World) (ha : a.size ≤ 1000000) (hb : b.size ≤ 1000000) :
    Calls Tryd.prog 44 #[.string a, .string b] w fun e w' => e = .returned (.bool (klt a b)) ∧ ∃ n, w' = w.drewN n := by
  have HK := Lib.hid (klt_drop a b)
  go_enter Tryd.func44, Tryd.ntmps44
  go_wp2_with fail
  go_loopw [5] (fun i wr => ∃ k n : Nat, k ≤ a.size ∧ k ≤ b.size ∧ i = .int .i64 k ∧ wr = w.drewN n ∧ klt a b = Op.bytesLess (a.data.toList.drop k) (b.data.toList.drop k))
    (fun i _ => a.size - (intOf i).toNat)
  case atStart => exact ⟨0, 0, by omega, by omega, rfl, rfl, HK.out⟩
  case round =>
    obtain ⟨k, n, hka, hkb, rfl, rfl, hk⟩ := hrel
    have H := Lib.hid hk
    clear hk
    by_cases hlt : k < a.size ∧ k < b.size
    · obtain ⟨h1, h2⟩ := hlt
      have k0 : (0 : Int) ≤ (k : Int) := by omega
      have k1 : (k : Int) < (a.size : Int) := by omega
      have k2 : (k : Int) < (b.size : Int) := by omega
      have HD := Lib.hid (show klt a b = Op.bytesLess (a[k] :: a.data.toList.drop (k + 1)) (b[k] :: b.data.toList.drop (k + 1)) by rw [H.out, drop_cons a k h1, drop_cons b k h2])
      by_cases he : a[k] = b[k]
      · have hz : ((a[k].toNat : Int) == (b[k].toNat : Int)) = true := by simp [he]
        have HN := Lib.hid (show klt a b = Op.bytesLess (a.data.toList.drop (k + 1)) (b.data.toList.drop (k + 1)) by rw [HD.out, he, bl_same])
        clear he
        go_wp2_with fail
        go_quiet (fail)
        go_wp2_with fail
        go_roundw
        case rel => exact ⟨k + 1, _, by omega, by omega, by go_num, rfl, HN.out⟩
        case measure => simp [intOf]; omega
      · have hz : ((a[k].toNat : Int) == (b[k].toNat : Int)) = false := by
          have : a[k].toNat ≠ b[k].toNat := fun e => he (UInt8.toNat_inj.1 e)
          simpa using fun e => this (by omega)
        have HN := Lib.hid (show klt a b = decide (a[k].toNat < b[k].toNat) by rw [HD.out, bl_cons _ _ _ _ he])
        clear he
        go_wp2_with fail
        go_quiet (fail)
        go_wp2_with fail
        go_quiet (fail)
        go_wp2_with fail
        go_ret
        exact ⟨ret_bool (by rw [HN.out]; try simp), _, by rw [World.drewN_drewN, World.drewN_drewN]⟩
    · have HE := Lib.hid (show klt a b = decide (a.size < b.size) by
        rw [H.out]
        rcases Nat.lt_or_ge k a.size with h | h
        · have hb' : k = b.size := by omega
          rw [drop_end b k (by omega), bl_end2]
          simp; omega
        · have ha' : k = a.size := by omega
          rw [drop_end a k (by omega), bl_end1]
          simp; omega)
      by_cases h1 : k < a.size
      · have h2 : ¬ (k : Int) < (b.size : Int) := by omega
        have k1 : (k : Int) < (a.size : Int) := by omega
        clear hlt
        go_wp2_with fail
        go_ret
        exact ⟨ret_bool (by rw [HE.out]; try simp), _, rfl⟩
      · have k1 : ¬ (k : Int) < (a.size : Int) := by omega
        clear hlt
        go_wp2_with fail
        go_ret
        exact ⟨ret_bool (by rw [HE.out]; try simp), _, rfl⟩
def KeysOK (l : List Ent) : Prop := ∀ x ∈ l, x.1.size ≤ 1000000
theorem ltE_keys {a b : Ent} (h : a.1 ≠ b.1) : ltE a b = klt a.1 b.1 := by unfold ltE; simp [h]
theorem ltE_seq {a b : Ent} (h : a.1 = b.1) : ltE a b = decide (b.2.2.1 < a.2.2.1) := by unfold ltE; rw [h]; simp [klt_irrefl]
set_option maxRecDepth 100000 in
set_option maxHeartbeats 2000000 in
theorem before_any (a b : Ent) (w : World) (ha : a.1.size ≤ 1000000) (hb : b.1.size ≤ 1000000) :
    Calls Tryd.prog 32 #[encP a, encP b] w fun e w' => e = .returned (.bool (ltE a b)) ∧ Below w.heap.size w w' := by
  have HB0 := Lib.hid (show Below w.heap.size w ((w.alloc (.cells #[.string a.1, .string a.2.1, .int .u64 (a.2.2.1.toNat : Int), .bool a.2.2.2] TE)).alloc (.cells #[.string b.1, .string b.2.1, .int .u64 (b.2.2.1.toNat : Int), .bool b.2.2.2] TE)) from ((Below.refl _ _).alloc (Nat.le_refl _) _).alloc (by simp) _)
  by_cases hk : a.1 = b.1
  · have e1 : (a.1.toList != b.1.toList) = false := by
      have : (a.1.toList == b.1.toList) = true := by rw [beq_toList]; simpa using hk
      simp [bne, this]
    have e2 : (a.1.toList == b.1.toList) = true := by rw [beq_toList]; simpa using hk
    have HV := Lib.hid (ltE_seq hk)
    have h1 := a.2.2.1.toNat_lt
    have h2 := b.2.2.1.toNat_lt
    by_cases hs : b.2.2.1 < a.2.2.1
    · have e3 : (b.2.2.1.toNat : Int) < (a.2.2.1.toNat : Int) := (u64_lt _ _).2 hs
      have HS := Lib.hid (show ltE a b = true by rw [HV.out]; simpa using hs)
      clear hk hs
      go_enter Tryd.func32, Tryd.ntmps32
      go_wp2_with fail
      go_ret
      exact ⟨ret_bool (by rw [HS.out]; try simp [e3]), HB0.out⟩
    · have e3 : ¬ (b.2.2.1.toNat : Int) < (a.2.2.1.toNat : Int) := fun h => hs ((u64_lt _ _).1 h)
      have HS := Lib.hid (show ltE a b = false by rw [HV.out]; simpa using hs)
      clear hk hs
      go_enter Tryd.func32, Tryd.ntmps32
      go_wp2_with fail
      go_ret
      exact ⟨ret_bool (by rw [HS.out]; try simp [e3]), HB0.out⟩
  · have e2 : (a.1.toList == b.1.toList) = false := by rw [beq_toList]; simpa using hk
    have HC := Lib.hid (fun w => less a.1 b.1 w ha hb)
    have HV := Lib.hid (ltE_keys hk)
    clear hk
    go_enter Tryd.func32, Tryd.ntmps32
    go_wp2_with fail
    refine (HC.out _).mono ?_
    rintro e w1 ⟨rfl, n, rfl⟩
    go_wp2_with fail
    go_ret
    exact ⟨ret_bool HV.out.symm, below_step HB0.out (show Below _ _ (World.drewN _ n) from ⟨rfl, rfl, rfl, Nat.le_refl _, fun _ _ => rfl⟩) HB0.out.size⟩
theorem seg_to {w : World} {l : List Ent} {b off cap : Nat} (h : EntsAt w (.slice (some ⟨b, off, none⟩) l.length cap) l) (m cap' : Nat) (hm : m ≤ l.length) :
    Seg w 4 (.slice (some ⟨b, off, none⟩) m cap') m ((l.take m).flatMap encC) := by
  have hl : (l.take m).length = m := by rw [List.length_take]; omega
  have := ents_part h 0 m cap' (by omega) (by rw [List.drop_zero, hl])
  rw [Nat.zero_mul, Nat.add_zero, List.drop_zero] at this
  unfold EntsAt Elems at this
  rwa [hl] at this
theorem seg_from {w : World} {l : List Ent} {b off cap : Nat} (h : EntsAt w (.slice (some ⟨b, off, none⟩) l.length cap) l) (m : Nat) (hm : m ≤ l.length) (cap' : Nat) :
    Seg w 4 (.slice (some ⟨b, off + m * 4, none⟩) (l.length - m) cap') (l.length - m) ((l.drop m).flatMap encC) := by
  have hl : (l.drop m).length = l.length - m := List.length_drop
  have e : (l.drop m).take (l.length - m) = l.drop m := List.take_of_length_le (by omega)
  have := ents_part h m (l.length - m) cap' (by omega) (by rw [e, hl])
  rw [e] at this
  unfold EntsAt Elems at this
  rwa [hl] at this
theorem seg_from0 {w : World} {l : List Ent} {b cap : Nat} (h : EntsAt w (.slice (some ⟨b, 0, none⟩) l.length cap) l) (m : Nat) (hm : m ≤ l.length) (cap' : Nat) :
    Seg w 4 (.slice (some ⟨b, m * 4, none⟩) (l.length - m) cap') (l.length - m) ((l.drop m).flatMap encC) := by
  have := seg_from h m hm cap'
  rwa [Nat.zero_add] at this
theorem seg_empty (w : World) (ao : Option Addr) (c : Nat) : Seg w 4 (.slice ao 0 c) 0 [] := ⟨⟨_, _, rfl, fun h => by omega⟩, rfl⟩
theorem seg_zero {w : World} {ao : Option Addr} {n c : Nat} (h : n = 0) : Seg w 4 (.slice ao n c) n [] := by subst h; exact seg_empty _ _ _
set_option maxRecDepth 100000 in
set_option maxHeartbeats 8000000 in
theorem sorted09 (v : Value) (l : List Ent) (w : World) (h : EntsAt w v l) (hn : l.length ≤ 100000) (hks : KeysOK l) :
    Calls Tryd.prog 22 #[v] w (NewRow w (sortD l)) := by
  obtain ⟨ao, cap, hv⟩ := elems_slice h
  have HV := Lib.hid h
  have HKS := Lib.hid hks
  subst hv
  clear h hks
  go_enter Tryd.func22, Tryd.ntmps22
  go_wp2_with fail
  go_loopw [3, 4] (fun vo vi wr => ∃ i : Nat, i ≤ l.length ∧ vi = .int .i64 i ∧ wr.ownsRow w.heap.size TE 4 vo (sortD (l.take i)).length ((sortD (l.take i)).flatMap encC) ∧ Below w.heap.size w wr ∧ (i = 0 → vo = .slice none 0 0)) (fun _ vi _ => l.length - (intOf vi).toNat)
  case atStart => exact ⟨0, Nat.zero_le _, rfl, World.ownsRow_nil _ _ _ _, Below.refl _ _, fun _ => rfl⟩
  case round =>
    obtain ⟨i, hi, rfl, ho, hbel, hnil⟩ := hrel
    have HO := Lib.hid ho
    have HBE := Lib.hid hbel
    by_cases hlt : i < l.length
    · obtain ⟨b, off, cap', hve, hcs⟩ := ents_cells HV.out (by omega)
      cases hve
      obtain ⟨x, hx⟩ : ∃ x, x = l[i] := ⟨_, rfl⟩
      have hxk : x.1.size ≤ 1000000 := HKS.out x (by rw [hx]; exact List.getElem_mem _)
      have HCX := Lib.hid (show ∀ W, Below w.heap.size w W → CellsOf W b (off + i * 4) x from fun W hb => by rw [hx]; exact (hcs i hlt).kept hb)
      obtain ⟨s, hs⟩ : ∃ s, s = sortD (l.take i) := ⟨_, rfl⟩
      have hsl : s.length = i := by rw [hs, sortD_length, List.length_take]; omega
      have hsk : KeysOK s := by
        intro y hy
        rw [hs] at hy
        have : ∀ (r : List Ent), y ∈ sortD r.reverse → y ∈ r.reverse := by
          intro r
          induction r with
          | nil => intro h; simp [sortD] at h
          | cons e r ih =>
            intro h
            rw [List.reverse_cons, sortD_snoc, mem_insD] at h
            rw [List.reverse_cons, List.mem_append]
            rcases h with rfl | h
            · exact .inr (by simp)
            · exact .inl (ih h)
        have h2 := this (l.take i).reverse (by rwa [List.reverse_reverse])
        rw [List.reverse_reverse] at h2
        exact HKS.out y (List.mem_of_mem_take h2)
      have HSN := Lib.hid (show sortD (l.take (i + 1)) = insD s x by rw [List.take_succ_eq_append_getElem hlt, sortD_snoc, hs, hx])
      rw [← hs] at HO ho
      have HSK := Lib.hid hsk
      have HHB := Lib.hid (fun y (h : y ∈ s) W => before_any y x W (hsk y h) hxk)
      have k1 : (0 : Int) ≤ (i : Int) := by omega
      have k2 : (i : Int) < (l.length : Int) := by omega
      have hsm : s.length ≤ 100000 := by omega
      have HSL := Lib.hid hsl
      clear hcs hx hs hsk hbel
      rcases Nat.eq_zero_or_pos i with h0 | h0
      · have hs0 : s = [] := List.eq_nil_of_length_eq_zero (by omega)
        have hvn := hnil h0
        subst hvn
        have hsl0 : s.length = 0 := by rw [hs0]; rfl
        clear hsl
        have HIN := Lib.hid (show insD s x = s.take 0 ++ x :: s.drop 0 from by rw [hs0]; rfl)
        clear hnil ho
        obtain ⟨wo, rfl⟩ : ∃ wo : World, wo = wr := ⟨_, rfl⟩
        have HS0 := Lib.hid hs0
        clear hs0 hsl0 h0
        go_wp2_with fail
        refine wp_loop_rounds 1 ?_
        rw [rounds_succ]
        go_wp2_with fail
        go_quiet (fail)
        have HBQ := Lib.hid (below_step HBE.out (show Below wo.heap.size wo (wo.drewN nq) from ⟨rfl, rfl, rfl, Nat.le_refl _, fun _ _ => rfl⟩) HBE.out.size)
        generalize wo.drewN nq = wq at *
        have HOE := Lib.hid (show (wq.alloc (.cells #[] TE)).ownsRow wq.heap.size TE 4 (.slice (some ⟨wq.heap.size, 0, none⟩) 0 0) 0 [] from owns_empty (heap_alloc_new wq (.cells #[] TE)) (Nat.le_refl _) 4)
        have HBE0 := Lib.hid (show Below wq.heap.size wq (wq.alloc (.cells #[] TE)) from (Below.refl _ _).alloc (Nat.le_refl _) _)
        have HZ0 := Lib.hid HBE0.out.size
        have HLA := Lib.hid (show 0 + 0 ≤ 1099511627776 by omega)
        have HLB := Lib.hid (show 0 + 0 + 1 ≤ 1099511627776 by omega)
        have HLC := Lib.hid (show 0 + 0 + 1 + 0 ≤ 1099511627776 by omega)
        go_wp2_with (first | (at_builtin; refine wpList_append_seg rfl (.tmp 30) (.tmp 33) 40 rfl wq.heap.size TE _ 4 48 Tryd.underlying40 infoE rfl (by decide) _ 0 [] rfl HOE.out _ 0 [] rfl (seg_empty _ _ _) (by simp) HLA.out (by decide) HZ0.out ?_; intro v1 w1 ho hgr _; have HO1 := Lib.hid ho; have HB1 := Lib.hid (below_grown HBE0.out hgr HOE.out (Nat.le_refl _) HBE0.out.size); clear ho hgr; have HZ1 := Lib.hid HB1.out.size; have hcx := HCX.out _ (below_step HBQ.out HB1.out HBQ.out.size); have d0 := hcx.c0; have d1 := hcx.c1; have d2 := hcx.c2; have d3 := hcx.c3; clear hcx) | (at_builtin; refine wpList_append1 rfl (.tmp 35) (.tmp 40) 40 rfl wq.heap.size TE _ 4 48 Tryd.underlying40 infoE rfl (by decide) _ (0 + 0) _ (encC x) rfl HO1.out _ 1 rfl rfl rfl (encC_one1 x) HLB.out (by decide) HZ1.out wq.heap.size wq HB1.out (Nat.le_refl _) ?_; intro v2 w2 ho hgr hb2 hsz2; have HO2 := Lib.hid ho; have HB2 := Lib.hid hb2; clear ho hgr hb2 hsz2 d0 d1 d2 d3; have HZ2 := Lib.hid HB2.out.size) | (at_builtin; refine wpList_append_seg rfl (.tmp 42) (.tmp 45) 40 rfl wq.heap.size TE _ 4 48 Tryd.underlying40 infoE rfl (by decide) _ (0 + 0 + 1) _ rfl HO2.out _ 0 [] rfl (seg_empty _ _ _) (by simp) HLC.out (by decide) HZ2.out ?_; intro v3 w3 ho hgr _; have HO3 := Lib.hid ho; have HB3 := Lib.hid (below_grown HB2.out hgr HO2.out (Nat.le_refl _) HB2.out.size); clear ho hgr))
        have HF := Lib.hid (show w3.ownsRow w.heap.size TE 4 v3 (sortD (l.take (i + 1))).length ((sortD (l.take (i + 1))).flatMap encC) from by
          have h := owns_mono HO3.out HBQ.out.size
          rw [HSN.out, HIN.out]
          have e1 : (s.take 0 ++ x :: s.drop 0).length = 0 + 0 + 1 + 0 := by rw [HS0.out]; rfl
          have e2 : (s.take 0 ++ x :: s.drop 0).flatMap encC = [] ++ [] ++ encC x ++ [] := by rw [HS0.out]; simp
          rw [e1, e2]; exact h)
        go_roundw
        case rel => exact ⟨i + 1, hlt, by go_num, HF.out, below_step HBQ.out HB3.out HBQ.out.size, fun h => by omega⟩
        case measure => simp [intOf]; omega

      · obtain ⟨g, gc, hgv, hgb, hgl, hgc, -, -⟩ := owns_shape HO.out (by omega)
        subst hgv
        clear hsl
        have HS := Lib.hid (show EntsAt wr (.slice (some ⟨g, 0, none⟩) s.length gc) s from Seg.of_owns HO.out)
        clear hnil ho
        obtain ⟨wo, rfl⟩ : ∃ wo : World, wo = wr := ⟨_, rfl⟩
        go_wp2_with fail
        go_loopw [5] (fun vk W => ∃ k : Nat, k ≤ s.length ∧ vk = .int .i64 k ∧ (∀ j (hj : j < s.length), j < k → ltE s[j] x = true) ∧ Below wo.heap.size wo W) (fun vk _ => s.length - (intOf vk).toNat)
        case atStart => exact ⟨0, Nat.zero_le _, rfl, fun j _ h => by omega, Below.refl _ _⟩
        case round =>
          obtain ⟨wz, rfl⟩ : ∃ wz : World, wz = wr := ⟨_, rfl⟩
          obtain ⟨k, hk, rfl, hall, hbl⟩ := hrel
          have HALL := Lib.hid hall
          have HBL := Lib.hid hbl
          have HBW := Lib.hid (below_step HBE.out hbl HBE.out.size)
          have HSZ := Lib.hid (HS.out.kept hbl)
          clear hall hbl
          by_cases hkl : k < s.length
          · obtain ⟨y, hy⟩ : ∃ y, y = s[k] := ⟨_, rfl⟩
            have hce := own_cells (row_kept1 HO.out fun k hk => HBL.out.block k (HO.out.lt k hk).2) hkl (show s[k]? = some y by rw [hy]; exact List.getElem?_eq_getElem _)
            have hcf := HCX.out _ HBW.out
            have HBF := Lib.hid (fun W => HHB.out y (by rw [hy]; exact List.getElem_mem _) W)
            obtain ⟨r, hr⟩ : ∃ r, r = ltE y x := ⟨_, rfl⟩
            rw [← hr] at HBF
            have HY := Lib.hid (show r = ltE s[k] x by rw [hr, hy])
            have y1 : (k : Int) < (s.length : Int) := by omega
            have y2 : decide (k < s.length) = true := by simpa using hkl
            have y3 : (0 : Int) ≤ (k : Int) := by omega
            have HKL := Lib.hid hkl
            clear hy hr
            have d0 : ∀ zz : Later wz.heap.size wz, zz.val.cell? ⟨g, k * 4, none⟩ = some (.string y.1) := fun zz => Later.cell hce.c0 (World.block_lt_of_cell? _ _ hce.c0) zz
            have d1 : ∀ zz : Later wz.heap.size wz, zz.val.cell? ⟨g, k * 4 + 1, none⟩ = some (.string y.2.1) := fun zz => Later.cell hce.c1 (World.block_lt_of_cell? _ _ hce.c1) zz
            have d2 : ∀ zz : Later wz.heap.size wz, zz.val.cell? ⟨g, k * 4 + 2, none⟩ = some (.int .u64 (y.2.2.1.toNat : Int)) := fun zz => Later.cell hce.c2 (World.block_lt_of_cell? _ _ hce.c2) zz
            have d3 : ∀ zz : Later wz.heap.size wz, zz.val.cell? ⟨g, k * 4 + 3, none⟩ = some (.bool y.2.2.2) := fun zz => Later.cell hce.c3 (World.block_lt_of_cell? _ _ hce.c3) zz
            have f0 : ∀ zz : Later wz.heap.size wz, zz.val.cell? ⟨b, off + i * 4, none⟩ = some (.string x.1) := fun zz => Later.cell hcf.c0 (World.block_lt_of_cell? _ _ hcf.c0) zz
            have f1 : ∀ zz : Later wz.heap.size wz, zz.val.cell? ⟨b, off + i * 4 + 1, none⟩ = some (.string x.2.1) := fun zz => Later.cell hcf.c1 (World.block_lt_of_cell? _ _ hcf.c1) zz
            have f2 : ∀ zz : Later wz.heap.size wz, zz.val.cell? ⟨b, off + i * 4 + 2, none⟩ = some (.int .u64 (x.2.2.1.toNat : Int)) := fun zz => Later.cell hcf.c2 (World.block_lt_of_cell? _ _ hcf.c2) zz
            have f3 : ∀ zz : Later wz.heap.size wz, zz.val.cell? ⟨b, off + i * 4 + 3, none⟩ = some (.bool x.2.2.2) := fun zz => Later.cell hcf.c3 (World.block_lt_of_cell? _ _ hcf.c3) zz
            clear hce hcf
            go_wp2_with fail
            refine wp_region_later wz.heap.size (by kernel_rfl) (by kernel_rfl) ?_
            repeat (go_big_quiet_step ((go_at_call 32; exact Later.calls (Nat.le_refl _) (HBF.out _))))
            refine wpQuiet_nil ?_
            rintro wq ⟨zz, rfl⟩
            have HBQ := Lib.hid (below_step HBW.out zz.prop HBW.out.size)
            have HBQ2 := Lib.hid (below_step HBL.out zz.prop HBL.out.size)
            have HSW := Lib.hid (HSZ.out.kept zz.prop)
            clear d0 d1 d2 d3 f0 f1 f2 f3
            generalize zz.val = wq at *
            cases r
            · have htw := takeWhile_at (p := fun y => ltE y x) hk HALL.out (fun h => HY.out.symm)
              have HIN := Lib.hid (show insD s x = s.take k ++ x :: s.drop k from by unfold insD; rw [htw.1, htw.2])
              have c1 : ¬ gc = k := by omega
              have c2 : (k : Int) ≤ (s.length : Int) := by omega
              have c3 : (k : Int) ≤ (gc : Int) := by omega
              have c4 : k ≤ gc := by omega
              have c5 : (s.length : Int) ≤ (gc : Int) := by omega
              clear htw y2
              have HOE := Lib.hid (show (wq.alloc (.cells #[] TE)).ownsRow wq.heap.size TE 4 (.slice (some ⟨wq.heap.size, 0, none⟩) 0 0) 0 [] from owns_empty (heap_alloc_new wq (.cells #[] TE)) (Nat.le_refl _) 4)
              have HBE0 := Lib.hid (show Below wq.heap.size wq (wq.alloc (.cells #[] TE)) from (Below.refl _ _).alloc (Nat.le_refl _) _)
              have HZ0 := Lib.hid HBE0.out.size
              have HLA := Lib.hid (show 0 + k ≤ 1099511627776 by omega)
              have HLB := Lib.hid (show 0 + k + 1 ≤ 1099511627776 by omega)
              have HLC := Lib.hid (show 0 + k + 1 + (s.length - k) ≤ 1099511627776 by omega)
              have HSA := Lib.hid (seg_to (HSW.out.kept HBE0.out) k gc (by omega))
              go_wp2_with (first | (at_builtin; refine wpList_append_seg rfl (.tmp 30) (.tmp 33) 40 rfl wq.heap.size TE _ 4 48 Tryd.underlying40 infoE rfl (by decide) _ 0 [] rfl HOE.out _ k ((s.take k).flatMap encC) rfl HSA.out encC_one HLA.out (by decide) HZ0.out ?_; intro v1 w1 ho hgr _; have HO1 := Lib.hid ho; have HB1 := Lib.hid (below_grown HBE0.out hgr HOE.out (Nat.le_refl _) HBE0.out.size); clear ho hgr; have HZ1 := Lib.hid HB1.out.size; have hcx := HCX.out _ (below_step HBQ.out HB1.out HBQ.out.size); have d0 := hcx.c0; have d1 := hcx.c1; have d2 := hcx.c2; have d3 := hcx.c3; clear hcx) | (at_builtin; refine wpList_append1 rfl (.tmp 35) (.tmp 40) 40 rfl wq.heap.size TE _ 4 48 Tryd.underlying40 infoE rfl (by decide) _ (0 + k) _ (encC x) rfl HO1.out _ 1 rfl rfl rfl (encC_one1 x) HLB.out (by decide) HZ1.out wq.heap.size wq HB1.out (Nat.le_refl _) ?_; intro v2 w2 ho hgr hb2 hsz2; have HO2 := Lib.hid ho; have HB2 := Lib.hid hb2; clear ho hgr hb2 hsz2 d0 d1 d2 d3; have HZ2 := Lib.hid HB2.out.size; have HSC := Lib.hid (seg_from0 (HSW.out.kept HB2.out) k (by omega) (gc - k))) | (at_builtin; refine wpList_append_seg rfl (.tmp 42) (.tmp 45) 40 rfl wq.heap.size TE _ 4 48 Tryd.underlying40 infoE rfl (by decide) _ (0 + k + 1) _ rfl HO2.out _ (s.length - k) ((s.drop k).flatMap encC) rfl HSC.out encC_one HLC.out (by decide) HZ2.out ?_; intro v3 w3 ho hgr _; have HO3 := Lib.hid ho; have HB3 := Lib.hid (below_grown HB2.out hgr HO2.out (Nat.le_refl _) HB2.out.size); clear ho hgr))
              have HF := Lib.hid (show w3.ownsRow w.heap.size TE 4 v3 (sortD (l.take (i + 1))).length ((sortD (l.take (i + 1))).flatMap encC) from by
                have h := owns_mono HO3.out HBQ.out.size
                rw [HSN.out, HIN.out]
                have e1 : (s.take k ++ x :: s.drop k).length = 0 + k + 1 + (s.length - k) := by simp; omega
                have e2 : (s.take k ++ x :: s.drop k).flatMap encC = [] ++ ((s.take k).flatMap encC) ++ encC x ++ ((s.drop k).flatMap encC) := by simp
                rw [e1, e2]; exact h)
              go_roundw
              case rel => exact ⟨i + 1, hlt, by go_num, HF.out, below_step HBQ.out HB3.out HBQ.out.size, fun h => by omega⟩
              case measure => simp [intOf]; omega
            · have HN := Lib.hid (show ∀ j (hj : j < s.length), j < k + 1 → ltE s[j] x = true from fun j hj hjk => by
                by_cases e : j = k
                · subst e; exact HY.out.symm
                · exact HALL.out j hj (by omega))
              clear y2
              go_wp2_with fail
              go_roundw
              case rel => exact ⟨k + 1, HKL.out, by go_num, HN.out, HBQ2.out⟩
              case measure => have := HKL.out; simp [intOf]; omega
          · have hkn : k = s.length := by omega
            have y1 : ¬ (k : Int) < (s.length : Int) := by omega
            have y2 : decide (k < s.length) = false := by simpa using hkl
            have htw := takeWhile_at (p := fun y => ltE y x) hk HALL.out (fun h => absurd h hkl)
            have HIN := Lib.hid (show insD s x = s.take k ++ x :: s.drop k from by unfold insD; rw [htw.1, htw.2])
            have hdr : s.drop k = [] := List.drop_of_length_le (by omega)
            have HDR := Lib.hid hdr
            have HKN := Lib.hid hkn
            clear htw hdr hkl hkn
            go_wp2_with fail
            go_quiet (fail)
            have HBQ := Lib.hid (below_step HBW.out (show Below wz.heap.size wz (wz.drewN nq) from ⟨rfl, rfl, rfl, Nat.le_refl _, fun _ _ => rfl⟩) HBW.out.size)
            have HSW := Lib.hid (HSZ.out.kept (show Below wz.heap.size wz (wz.drewN nq) from ⟨rfl, rfl, rfl, Nat.le_refl _, fun _ _ => rfl⟩))
            generalize wz.drewN nq = wq at *
            by_cases hce : gc = k
            · have hdr := HDR.out
              have c0 := HKN.out
              have HCE := Lib.hid hce
              subst hce
              have c2 : (gc : Int) ≤ (s.length : Int) := by omega
              have c5 : (s.length : Int) ≤ (gc : Int) := by omega
              have c3 : (gc : Int) ≤ (gc : Int) := by omega
              have HDR2 := Lib.hid hdr
              have HZL := Lib.hid (show s.length - gc = 0 by omega)
              clear hdr c0
              have HOE := Lib.hid (show (wq.alloc (.cells #[] TE)).ownsRow wq.heap.size TE 4 (.slice (some ⟨wq.heap.size, 0, none⟩) 0 0) 0 [] from owns_empty (heap_alloc_new wq (.cells #[] TE)) (Nat.le_refl _) 4)
              have HBE0 := Lib.hid (show Below wq.heap.size wq (wq.alloc (.cells #[] TE)) from (Below.refl _ _).alloc (Nat.le_refl _) _)
              have HZ0 := Lib.hid HBE0.out.size
              have HLA := Lib.hid (show 0 + gc ≤ 1099511627776 by omega)
              have HLB := Lib.hid (show 0 + gc + 1 ≤ 1099511627776 by omega)
              have HLC := Lib.hid (show 0 + gc + 1 + 0 ≤ 1099511627776 by omega)
              have HSA := Lib.hid (seg_to (HSW.out.kept HBE0.out) gc gc (by omega))
              go_wp2_with (first | (at_builtin; refine wpList_append_seg rfl (.tmp 30) (.tmp 33) 40 rfl wq.heap.size TE _ 4 48 Tryd.underlying40 infoE rfl (by decide) _ 0 [] rfl HOE.out _ gc ((s.take gc).flatMap encC) rfl HSA.out encC_one HLA.out (by decide) HZ0.out ?_; intro v1 w1 ho hgr _; have HO1 := Lib.hid ho; have HB1 := Lib.hid (below_grown HBE0.out hgr HOE.out (Nat.le_refl _) HBE0.out.size); clear ho hgr; have HZ1 := Lib.hid HB1.out.size; have hcx := HCX.out _ (below_step HBQ.out HB1.out HBQ.out.size); have d0 := hcx.c0; have d1 := hcx.c1; have d2 := hcx.c2; have d3 := hcx.c3; clear hcx) | (at_builtin; refine wpList_append1 rfl (.tmp 35) (.tmp 40) 40 rfl wq.heap.size TE _ 4 48 Tryd.underlying40 infoE rfl (by decide) _ (0 + gc) _ (encC x) rfl HO1.out _ 1 rfl rfl rfl (encC_one1 x) HLB.out (by decide) HZ1.out wq.heap.size wq HB1.out (Nat.le_refl _) ?_; intro v2 w2 ho hgr hb2 hsz2; have HO2 := Lib.hid ho; have HB2 := Lib.hid hb2; clear ho hgr hb2 hsz2 d0 d1 d2 d3; have HZ2 := Lib.hid HB2.out.size) | (at_builtin; refine wpList_append_seg rfl (.tmp 42) (.tmp 45) 40 rfl wq.heap.size TE _ 4 48 Tryd.underlying40 infoE rfl (by decide) _ (0 + gc + 1) _ rfl HO2.out _ 0 [] rfl (seg_empty _ _ _) (by simp) HLC.out (by decide) HZ2.out ?_; intro v3 w3 ho hgr _; have HO3 := Lib.hid ho; have HB3 := Lib.hid (below_grown HB2.out hgr HO2.out (Nat.le_refl _) HB2.out.size); clear ho hgr))
              have HF := Lib.hid (show w3.ownsRow w.heap.size TE 4 v3 (sortD (l.take (i + 1))).length ((sortD (l.take (i + 1))).flatMap encC) from by
                have h := owns_mono HO3.out HBQ.out.size
                rw [HSN.out, HIN.out]
                have e1 : (s.take gc ++ x :: s.drop gc).length = 0 + gc + 1 + 0 := by rw [HDR2.out]; simp; have := HKN.out; omega
                have e2 : (s.take gc ++ x :: s.drop gc).flatMap encC = [] ++ ((s.take gc).flatMap encC) ++ encC x ++ [] := by rw [HDR2.out]; simp
                rw [e1, e2]; exact h)
              go_roundw
              case rel => exact ⟨i + 1, hlt, by go_num, HF.out, below_step HBQ.out HB3.out HBQ.out.size, fun h => by omega⟩
              case measure => simp [intOf]; omega
            · have c1 : ¬ gc = k := hce
              have c0 := HKN.out
              have c2 : (k : Int) ≤ (s.length : Int) := by omega
              have c3 : (k : Int) ≤ (gc : Int) := by omega
              have c4 : k ≤ gc := by omega
              have c5 : (s.length : Int) ≤ (gc : Int) := by omega
              clear hce c0
              have HOE := Lib.hid (show (wq.alloc (.cells #[] TE)).ownsRow wq.heap.size TE 4 (.slice (some ⟨wq.heap.size, 0, none⟩) 0 0) 0 [] from owns_empty (heap_alloc_new wq (.cells #[] TE)) (Nat.le_refl _) 4)
              have HBE0 := Lib.hid (show Below wq.heap.size wq (wq.alloc (.cells #[] TE)) from (Below.refl _ _).alloc (Nat.le_refl _) _)
              have HZ0 := Lib.hid HBE0.out.size
              have HLA := Lib.hid (show 0 + k ≤ 1099511627776 by omega)
              have HLB := Lib.hid (show 0 + k + 1 ≤ 1099511627776 by omega)
              have HLC := Lib.hid (show 0 + k + 1 + (s.length - k) ≤ 1099511627776 by omega)
              have HSA := Lib.hid (seg_to (HSW.out.kept HBE0.out) k gc (by omega))
              go_wp2_with (first | (at_builtin; refine wpList_append_seg rfl (.tmp 30) (.tmp 33) 40 rfl wq.heap.size TE _ 4 48 Tryd.underlying40 infoE rfl (by decide) _ 0 [] rfl HOE.out _ k ((s.take k).flatMap encC) rfl HSA.out encC_one HLA.out (by decide) HZ0.out ?_; intro v1 w1 ho hgr _; have HO1 := Lib.hid ho; have HB1 := Lib.hid (below_grown HBE0.out hgr HOE.out (Nat.le_refl _) HBE0.out.size); clear ho hgr; have HZ1 := Lib.hid HB1.out.size; have hcx := HCX.out _ (below_step HBQ.out HB1.out HBQ.out.size); have d0 := hcx.c0; have d1 := hcx.c1; have d2 := hcx.c2; have d3 := hcx.c3; clear hcx) | (at_builtin; refine wpList_append1 rfl (.tmp 35) (.tmp 40) 40 rfl wq.heap.size TE _ 4 48 Tryd.underlying40 infoE rfl (by decide) _ (0 + k) _ (encC x) rfl HO1.out _ 1 rfl rfl rfl (encC_one1 x) HLB.out (by decide) HZ1.out wq.heap.size wq HB1.out (Nat.le_refl _) ?_; intro v2 w2 ho hgr hb2 hsz2; have HO2 := Lib.hid ho; have HB2 := Lib.hid hb2; clear ho hgr hb2 hsz2 d0 d1 d2 d3; have HZ2 := Lib.hid HB2.out.size; have HSC := Lib.hid (seg_from0 (HSW.out.kept HB2.out) k (by omega) (gc - k))) | (at_builtin; refine wpList_append_seg rfl (.tmp 42) (.tmp 45) 40 rfl wq.heap.size TE _ 4 48 Tryd.underlying40 infoE rfl (by decide) _ (0 + k + 1) _ rfl HO2.out _ (s.length - k) ((s.drop k).flatMap encC) rfl HSC.out encC_one HLC.out (by decide) HZ2.out ?_; intro v3 w3 ho hgr _; have HO3 := Lib.hid ho; have HB3 := Lib.hid (below_grown HB2.out hgr HO2.out (Nat.le_refl _) HB2.out.size); clear ho hgr))
              have HF := Lib.hid (show w3.ownsRow w.heap.size TE 4 v3 (sortD (l.take (i + 1))).length ((sortD (l.take (i + 1))).flatMap encC) from by
                have h := owns_mono HO3.out HBQ.out.size
                rw [HSN.out, HIN.out]
                have e1 : (s.take k ++ x :: s.drop k).length = 0 + k + 1 + (s.length - k) := by simp; omega
                have e2 : (s.take k ++ x :: s.drop k).flatMap encC = [] ++ ((s.take k).flatMap encC) ++ encC x ++ ((s.drop k).flatMap encC) := by simp
                rw [e1, e2]; exact h)
              go_roundw
              case rel => exact ⟨i + 1, hlt, by go_num, HF.out, below_step HBQ.out HB3.out HBQ.out.size, fun h => by omega⟩
              case measure => simp [intOf]; omega
    · have HE := Lib.hid (show sortD (l.take i) = sortD l by rw [List.take_of_length_le (by omega)])
      obtain ⟨vo, vc, hvv⟩ := owns_slice1 ho
      subst hvv
      clear ho hbel hnil
      go_wp2_with fail
      go_ret
      exact ⟨_, rfl, by rw [← HE.out]; exact HO.out, HBE.out⟩
end Go.Proofs.Tryd.Mg
