/- rows, plainly: which keys lie in which ranges. -/
import Derived.Test.YtccopljpceolcabDoorRpO
import Derived.Test.YtccopljpceolcabDoorRoN
set_option linter.unusedVariables false
set_option linter.unusedSimpArgs false
set_option maxRecDepth 100000
namespace Go.Proofs.Tryd.Rows
open Go.RowKit Go.Cph Go.Cph.Ok Go.Proofs.Tryd.Nu Go.Proofs.Tryd.Ok
open Go.Cph.Px (Ad Pf rightA bytesA rightP fromB fromOk lessA before num)
def inL (k f e : Bs) : Bool := !(Op.bytesLess k f) && Op.bytesLess k e
def inB (k f e : ByteArray) : Bool := inL k.data.toList f.data.toList e.data.toList
theorem bl_succ (k y : Bs) : Op.bytesLess k (y ++ [0]) = !Op.bytesLess y k := by
  cases h : Op.bytesLess y k with
  | true =>
    rcases bl_cases h with h1 | ⟨c, r, rfl⟩
    · have h2 := (h1.app [0] []).less
      rw [List.append_nil] at h2
      exact bl_asymm h2
    · rw [bl_pre]
      cases r with
      | nil => simp [Op.bytesLess]
      | cons d r => simp [Op.bytesLess]
  | false =>
    cases h2 : Op.bytesLess k y with
    | true =>
      rcases bl_cases h2 with h1 | ⟨c, r, rfl⟩
      · have h3 := (h1.app [] [0]).less
        rwa [List.append_nil] at h3
      · rw [List.append_assoc]; exact bl_longer _ _ _
    | false =>
      have he := bless_total (a := ofBs y) (b := ofBs k) h h2
      have he2 : y = k := by have := congrArg (fun z : ByteArray => z.data.toList) he; exact this
      rw [he2]; exact bl_longer _ _ _
theorem in_none (k f : Bs) : inL k f f = false := by
  unfold inL; cases Op.bytesLess k f <;> rfl
theorem in_nil {f e : Bs} (h : f ≠ []) : inL [] f e = false := by
  cases f with
  | nil => exact absurd rfl h
  | cons c r => rfl
/-- A key in a range lies in the range that begins lower. -/
theorem in_base {k f b e : Bs} (hf : Op.bytesLess f b = false) (h : inL k f e = true) : inL k b e = true := by
  unfold inL at h ⊢
  simp only [Bool.and_eq_true, Bool.not_eq_true'] at h ⊢
  refine ⟨?_, h.2⟩
  rw [Bool.eq_false_iff]
  intro hk
  cases hfk : Op.bytesLess b f with
  | true =>
    have := Skip.bl_trans k b f hk hfk
    rw [this] at h; exact absurd h.1 (by decide)
  | false =>
    have he := bless_total (a := ofBs f) (b := ofBs b) hf hfk
    have he2 : f = b := by have := congrArg (fun z : ByteArray => z.data.toList) he; exact this
    rw [he2, hk] at h; exact absurd h.1 (by decide)
theorem in_range (x y : List Pt) : inL (key y) (key x) (key x ++ [3]) = (key x).isPrefixOf (key y) := key_range x y
/-- Not in the range of those that begin with a list. -/
theorem in_not {x y : List Pt} {f : Bs} (hf : Op.bytesLess f (key x) = false) (h : ¬ ∃ r, y.map plainP = x.map plainP ++ r) : inL (key y) f (key x ++ [3]) = false := by
  rw [Bool.eq_false_iff]
  intro hi
  have h1 := in_base hf hi
  rw [in_range] at h1
  exact h ((key_begins x y).1 h1)
theorem less_of_prefix {x y : List Pt} (h : (key x).isPrefixOf (key y) = true) : Op.bytesLess (key y) (key x) = false ∧ Op.bytesLess (key y) (key x ++ [3]) = true := by
  have h1 := in_range x y
  rw [h] at h1
  unfold inL at h1
  simp only [Bool.and_eq_true, Bool.not_eq_true'] at h1
  exact h1
theorem pre_parts (k : UInt64) (a : Ad) (l : List UInt64) : (key [numP k]).isPrefixOf (key (partsL k a l)) = true := (key_begins _ _).2 ⟨_, rfl⟩
theorem pre_event (a : Ad) (n : UInt64) : (key (partsL 6 a [])).isPrefixOf (key (partsL 6 a [n])) = true := (key_begins _ _).2 ⟨[numP n], by
  rw [plain_parts, plain_parts]; unfold partsL; rw [List.append_assoc]; rfl⟩
def poolsR (k : UInt64) (p : Pf) : ByteArray × ByteArray := (if rightP p then keyP k p else ofBs (key [numP k]), ofBs (key [numP k] ++ [3]))
theorem keyA_list {k : UInt64} {a : Ad} (l : List UInt64) (h : rightA a = true) : (keyA k a l).data.toList = key (partsL k a l) := by unfold keyA; rw [if_pos h, ofBs_list]
theorem keyA_no {k : UInt64} {a : Ad} (l : List UInt64) (h : rightA a = false) : (keyA k a l).data.toList = [] := by unfold keyA; rw [h]; rfl
theorem keyP_list {k : UInt64} {p : Pf} (h : rightP p = true) : (keyP k p).data.toList = key (partsL k p.1 [bitsU p]) := by unfold keyP; rw [if_pos h, ofBs_list]
theorem keyP_no {k : UInt64} {p : Pf} (h : rightP p = false) : (keyP k p).data.toList = [] := by unfold keyP; rw [h]; rfl
theorem key_ne (p : Pt) (l : List Pt) : key (p :: l) ≠ [] := by
  intro h
  have := congrArg List.length h
  rw [key_cons, List.length_append, List.length_nil] at this
  have := Cph.Ok.bytes_pos p
  omega
theorem first_ne (k : UInt64) (p : Pf) : (poolsR k p).1.data.toList ≠ [] := by
  unfold poolsR
  dsimp only
  split
  · rename_i h; rw [keyP_list h]; exact key_ne _ _
  · rw [ofBs_list]; exact key_ne _ _
theorem first_base (k : UInt64) (p : Pf) : Op.bytesLess (poolsR k p).1.data.toList (key [numP k]) = false := by
  unfold poolsR
  dsimp only
  split
  · rename_i h; rw [keyP_list h]; exact (less_of_prefix (pre_parts _ _ _)).1
  · rw [ofBs_list]; exact Skip.bl_irrefl _
theorem prefix_lessL {k : UInt64} {p q : Pf} (hp : rightP p = true) (hq : rightP q = true) : Op.bytesLess (keyP k p).data.toList (keyP k q).data.toList = before p q := by
  have := prefix_less (k := k) hp hq
  rwa [ByteArray.toList_eq, ByteArray.toList_eq] at this
theorem lease_lessL {k : UInt64} {a b : Ad} (ha : rightA a = true) (hb : rightA b = true) : Op.bytesLess (keyA k a []).data.toList (keyA k b []).data.toList = lessA a b := by
  have := lease_less (k := k) ha hb
  rwa [ByteArray.toList_eq, ByteArray.toList_eq] at this
theorem event_lessL {k : UInt64} {a b : Ad} (n m : UInt64) (ha : rightA a = true) (hb : rightA b = true) : Op.bytesLess (keyA k a [n]).data.toList (keyA k b [m]).data.toList = (lessA a b || (a == b && decide (n.toNat < m.toNat))) := by
  have := event_less (k := k) n m ha hb
  rwa [ByteArray.toList_eq, ByteArray.toList_eq] at this
/-- The pools, and the reservations. -/
theorem in_pools (k : UInt64) (p q : Pf) : inB (keyP k q) (poolsR k p).1 (poolsR k p).2 = (rightP q && (!rightP p || !before q p)) := by
  unfold inB
  cases hq : rightP q with
  | false => rw [keyP_no hq, in_nil (first_ne k p)]; rfl
  | true =>
    have h1 := less_of_prefix (pre_parts k q.1 [bitsU q])
    unfold inL
    rw [show (poolsR k p).2.data.toList = key [numP k] ++ [3] from rfl]
    cases hp : rightP p with
    | false =>
      rw [show (poolsR k p).1 = ofBs (key [numP k]) from by unfold poolsR; rw [hp]; rfl, ofBs_list, keyP_list hq, h1.1, h1.2]; rfl
    | true =>
      rw [show (poolsR k p).1 = keyP k p from by unfold poolsR; rw [hp]; rfl, prefix_lessL hq hp, keyP_list hq, h1.2]
      cases before q p <;> rfl
theorem list_no {k : UInt64} {y : List Pt} {a : Pt} {r : List Pt} (hy : y = a :: r) (ha : plainP a ≠ numP k) : ¬ ∃ r, y.map plainP = [numP k].map plainP ++ r := by
  rintro ⟨s, h⟩
  rw [hy, List.map_cons] at h
  injection h with h1 h2
  exact ha h1
theorem num_ne {j k : UInt64} (h : j ≠ k) : plainP (numP j) ≠ numP k := by
  intro e
  injection e with e1 e2 e3
  exact h e3
theorem pools_clock (k : UInt64) (p : Pf) (h : (1 : UInt64) ≠ k) : inB clockK (poolsR k p).1 (poolsR k p).2 = false := by
  unfold inB
  exact in_not (y := [numP 1]) (first_base k p) (list_no rfl (num_ne h))
theorem pools_client (k : UInt64) (p : Pf) (c : UInt8) (h : (7 : UInt64) ≠ k) : inB (clientK c) (poolsR k p).1 (poolsR k p).2 = false := by
  unfold inB
  exact in_not (y := [numP 7, numP c.toUInt64]) (first_base k p) (list_no rfl (num_ne h))
theorem pools_keyA (j k : UInt64) (p : Pf) (a : Ad) (l : List UInt64) (h : j ≠ k) : inB (keyA j a l) (poolsR k p).1 (poolsR k p).2 = false := by
  unfold inB
  cases ha : rightA a with
  | false => rw [keyA_no l ha, in_nil (first_ne k p)]
  | true =>
    rw [keyA_list l ha]
    exact in_not (first_base k p) (list_no (r := numP a.1.toUInt64 :: strP (ofBs (bytesA a)) :: l.map numP) rfl (num_ne h))
/-- The leases. -/
theorem in_leases (a b c : Ad) : inB (keyA 4 c []) (leasesR a b).1 (leasesR a b).2 = (rightA a && (rightA b && (rightA c && (!lessA c a && !lessA b c)))) := by
  unfold inB leasesR
  cases ha : rightA a with
  | false => exact in_none _ _
  | true =>
    cases hb : rightA b with
    | false => exact in_none _ _
    | true =>
      show inL _ (keyA 4 a []).data.toList (keyA 4 b [] ++ ⟨#[0]⟩).data.toList = _
      cases hc : rightA c with
      | false => rw [keyA_no [] hc, in_nil (by rw [keyA_list [] ha]; exact key_ne _ _)]; rfl
      | true =>
        unfold inL
        rw [cat_list, show (⟨#[0]⟩ : ByteArray).data.toList = [0] from rfl, bl_succ, lease_lessL hc ha, lease_lessL hb hc]; rfl
theorem leases_other {a b : Ad} {k : ByteArray} (h1 : ∀ a, rightA a = true → Op.bytesLess k.data.toList (keyA 4 a []).data.toList = true ∨ Op.bytesLess (keyA 4 b []).data.toList k.data.toList = true) : inB k (leasesR a b).1 (leasesR a b).2 = false := by
  unfold inB leasesR
  cases ha : rightA a with
  | false => exact in_none _ _
  | true =>
    cases hb : rightA b with
    | false => exact in_none _ _
    | true =>
      show inL _ (keyA 4 a []).data.toList (keyA 4 b [] ++ ⟨#[0]⟩).data.toList = _
      unfold inL
      rw [cat_list, show (⟨#[0]⟩ : ByteArray).data.toList = [0] from rfl, bl_succ]
      rcases h1 a ha with h | h
      · rw [h]; rfl
      · rw [h]; cases Op.bytesLess k.data.toList (keyA 4 a []).data.toList <;> rfl
theorem head_less {j k : UInt64} (h : j.toNat < k.toNat) (x y : List Pt) : Op.bytesLess (key (numP j :: x)) (key (numP k :: y)) = true := by
  rw [key_less, cmpL, ahead_num, decide_eq_true h]; rfl
theorem leases_clock (a b : Ad) : inB clockK (leasesR a b).1 (leasesR a b).2 = false := by
  refine leases_other fun a ha => .inl ?_
  rw [keyA_list [] ha]
  exact head_less (by decide) [] _
theorem leases_client (a b : Ad) (c : UInt8) : inB (clientK c) (leasesR a b).1 (leasesR a b).2 = false := by
  cases hb : rightA b with
  | true =>
    refine leases_other fun a ha => .inr ?_
    rw [keyA_list [] hb]
    exact head_less (by decide) _ [numP c.toUInt64]
  | false =>
    unfold inB leasesR
    rw [hb, Bool.and_false]; exact in_none _ _
theorem leases_count (a b c : Ad) : inB (keyA 5 c []) (leasesR a b).1 (leasesR a b).2 = false := by
  cases hb : rightA b with
  | true =>
    refine leases_other fun a ha => ?_
    cases hc : rightA c with
    | true =>
      right
      rw [keyA_list [] hb, keyA_list [] hc]
      exact head_less (by decide) _ _
    | false =>
      left
      rw [keyA_no [] hc, keyA_list [] ha]
      cases hk : key (partsL 4 a []) with
      | nil => exact absurd hk (key_ne _ _)
      | cons d r => rfl
  | false =>
    unfold inB leasesR
    rw [hb, Bool.and_false]; exact in_none _ _
/-- The events. -/
theorem ev_first {a : Ad} {n : UInt64} (ha : rightA a = true) : Op.bytesLess (keyA 6 a [n]).data.toList (key (partsL 6 a [])) = false := by
  rw [keyA_list _ ha]; exact (less_of_prefix (pre_event a n)).1
theorem ev_no {a : Ad} {x : Pt} {r : List Pt} (h : plainP x ≠ numP 6) : ¬ ∃ s, (x :: r).map plainP = (partsL 6 a []).map plainP ++ s := by
  rintro ⟨s, e⟩
  rw [plain_parts, List.map_cons] at e
  injection e with e1 e2
  exact h e1
theorem events_other {a : Ad} {n : UInt64} {x : Pt} {r : List Pt} {k : ByteArray} (hk : k.data.toList = key (x :: r)) (h : plainP x ≠ numP 6) : inB k (eventsR a n).1 (eventsR a n).2 = false := by
  unfold inB eventsR
  cases ha : rightA a with
  | false => exact in_none _ _
  | true =>
    show inL _ (keyA 6 a [n]).data.toList (key (partsL 6 a []) ++ [3]) = _
    rw [hk]
    exact in_not (ev_first ha) (ev_no h)
theorem events_clock (a : Ad) (n : UInt64) : inB clockK (eventsR a n).1 (eventsR a n).2 = false := events_other (x := numP 1) (r := []) rfl (num_ne (by decide))
theorem events_client (a : Ad) (n : UInt64) (c : UInt8) : inB (clientK c) (eventsR a n).1 (eventsR a n).2 = false := events_other (x := numP 7) (r := [numP c.toUInt64]) rfl (num_ne (by decide))
theorem events_nil {a : Ad} {n : UInt64} {k : ByteArray} (hk : k.data.toList = []) : inB k (eventsR a n).1 (eventsR a n).2 = false := by
  unfold inB eventsR
  rw [hk]
  cases ha : rightA a with
  | false => exact in_none _ _
  | true => exact in_nil (by show (keyA 6 a [n]).data.toList ≠ []; rw [keyA_list _ ha]; exact key_ne _ _)
theorem events_count (a c : Ad) (n : UInt64) : inB (keyA 5 c []) (eventsR a n).1 (eventsR a n).2 = false := by
  cases hc : rightA c with
  | true => exact events_other (x := numP 5) (r := numP c.1.toUInt64 :: strP (ofBs (bytesA c)) :: []) (keyA_list [] hc) (num_ne (by decide))
  | false => exact events_nil (keyA_no [] hc)
theorem in_events (a c : Ad) (n m : UInt64) : inB (keyA 6 c [m]) (eventsR a n).1 (eventsR a n).2 = (rightA a && (a == c && decide (n.toNat ≤ m.toNat))) := by
  cases ha : rightA a with
  | false =>
    unfold inB eventsR
    rw [ha]; exact in_none _ _
  | true =>
    cases hc : rightA c with
    | false =>
      have hne : (a == c) = false := beq_eq_false_iff_ne.2 (fun e => by rw [e, hc] at ha; cases ha)
      rw [hne, events_nil (keyA_no _ hc)]; rfl
    | true =>
      by_cases he : a = c
      · subst he
        have h2 := (less_of_prefix (pre_event a m)).2
        unfold inB eventsR
        rw [ha]
        show inL _ (keyA 6 a [n]).data.toList (key (partsL 6 a []) ++ [3]) = _
        unfold inL
        rw [event_lessL m n ha ha, lessA_irrefl, keyA_list _ ha, h2]
        rw [show (a == a) = true from by simp]
        simp only [Bool.false_or, Bool.true_and, Bool.and_true]
        by_cases hnm : m.toNat < n.toNat
        · rw [decide_eq_true hnm, decide_eq_false (show ¬ n.toNat ≤ m.toNat by omega)]; rfl
        · rw [decide_eq_false hnm, decide_eq_true (show n.toNat ≤ m.toNat by omega)]; rfl
      · have hne : (a == c) = false := beq_eq_false_iff_ne.2 he
        rw [hne]
        unfold inB eventsR
        rw [ha]
        show inL _ (keyA 6 a [n]).data.toList (key (partsL 6 a []) ++ [3]) = _
        rw [keyA_list _ hc]
        refine (in_not (ev_first ha) ?_).trans rfl
        rintro ⟨s, e⟩
        rw [plain_parts, plain_parts] at e
        have e2 : ([numP 6, numP c.1.toUInt64, strP (ofBs (bytesA c)), numP m] : List Pt) = [numP 6, numP a.1.toUInt64, strP (ofBs (bytesA a))] ++ s := e
        simp only [List.cons_append, List.nil_append, List.cons.injEq, true_and] at e2
        apply he
        have h1 := docA_parts ha
        have h2 := docA_parts hc
        rw [e2.1, e2.2.1, h1] at h2
        exact h2
end Go.Proofs.Tryd.Rows
