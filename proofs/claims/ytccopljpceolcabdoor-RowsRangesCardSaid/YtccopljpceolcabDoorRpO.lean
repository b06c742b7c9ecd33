/- rows, plainly: keys stand as what they are of; keys of unlike things are unlike; none is long. -/
import Derived.Test.YtccopljpceolcabDoorRoH
import Derived.Test.YtccopljpceolcabDoorMO
set_option linter.unusedVariables false
set_option linter.unusedSimpArgs false
set_option maxRecDepth 100000
namespace Go.Proofs.Tryd.Rows
open Go.RowKit Go.Cph Go.Cph.Ok Go.Proofs.Tryd.Nu Go.Proofs.Tryd.Ok
open Go.Cph.Px (Ad Pf rightA bytesA rightP fromB fromOk lessA before num)
theorem less_be {k m n : Nat} (hm : m < 256 ^ k) (hn : n < 256 ^ k) : Op.bytesLess (be k m) (be k n) = decide (m < n) := by
  rcases Nat.lt_trichotomy m n with h | h | h
  · rw [(be_apart k m n h hn).less, decide_eq_true h]
  · subst h
    rw [Skip.bl_irrefl, decide_eq_false (Nat.lt_irrefl _)]
  · rw [bl_asymm (be_apart k n m h hm).less, decide_eq_false (by omega)]
theorem less_bytesA {a b : Ad} (ha : rightA a = true) (hb : rightA b = true) (hf : a.1 = b.1) : Op.bytesLess (bytesA a) (bytesA b) = decide (num a < num b) := by
  have hs : Px.sizeB a = Px.sizeB b := by unfold Px.sizeB; rw [hf]
  have h1 := Px.num_wid ha
  have h2 := Px.num_wid hb
  rw [Px.wid_size, Nat.pow_mul, show (2 : Nat) ^ 8 = 256 from rfl] at h1 h2
  unfold bytesA
  rw [if_pos ha, if_pos hb, be_val, be_val, hs]
  rw [hs] at h1
  exact less_be h1 h2
theorem lessA_num {a b : Ad} (ha : rightA a = true) (hb : rightA b = true) : lessA a b = (decide (a.1.toNat < b.1.toNat) || (a.1 == b.1 && decide (num a < num b))) := by
  obtain ⟨f, h, l⟩ := a
  obtain ⟨g, u, v⟩ := b
  have h1 := l.toNat_lt
  have h2 := v.toNat_lt
  unfold lessA num
  dsimp only
  congr 2
  rw [Bool.eq_iff_iff]
  simp only [Bool.or_eq_true, Bool.and_eq_true, decide_eq_true_eq, beq_iff_eq]
  constructor
  · rintro (h3 | ⟨h3, h4⟩)
    · omega
    · rw [h3]; omega
  · intro h3
    by_cases h4 : h.toNat < u.toNat
    · exact .inl h4
    · right
      have h5 : h.toNat = u.toNat := by omega
      exact ⟨UInt64.toNat_inj.1 h5, by omega⟩
theorem ahead_num (x y : UInt64) : aheadP (numP x) (numP y) = decide (x.toNat < y.toNat) := rfl
theorem ahead_str (s t : ByteArray) : aheadP (strP s) (strP t) = bless s t := rfl
theorem fam_toNat (f : UInt8) : f.toUInt64.toNat = f.toNat := UInt8.toNat_toUInt64 f
theorem cmp_parts {k : UInt64} {a b : Ad} (ha : rightA a = true) (hb : rightA b = true) (l m : List UInt64) :
    cmpL (partsL k a l) (partsL k b m) = if lessA a b then -1 else if lessA b a then 1 else cmpL (l.map numP) (m.map numP) := by
  have e1 : cmpL (partsL k a l) (partsL k b m) = cmpL (numP a.1.toUInt64 :: strP (ofBs (bytesA a)) :: l.map numP) (numP b.1.toUInt64 :: strP (ofBs (bytesA b)) :: m.map numP) := by
    show cmpL (numP k :: _) (numP k :: _) = _
    rw [cmpL, ahead_irrefl]; rfl
  rw [e1, cmpL, ahead_num, ahead_num, fam_toNat, fam_toNat, lessA_num ha hb, lessA_num hb ha]
  rcases Nat.lt_trichotomy a.1.toNat b.1.toNat with h | h | h
  · rw [decide_eq_true h]; simp
  · have hf : a.1 = b.1 := UInt8.toNat_inj.1 h
    rw [decide_eq_false (show ¬ a.1.toNat < b.1.toNat by omega), decide_eq_false (show ¬ b.1.toNat < a.1.toNat by omega)]
    rw [show (a.1 == b.1) = true from by rw [hf]; simp, show (b.1 == a.1) = true from by rw [hf]; simp]
    simp only [Bool.false_or, Bool.true_and, Bool.false_eq_true, if_false]
    rw [cmpL, ahead_str, ahead_str]
    unfold bless
    rw [ofBs_list, ofBs_list, less_bytesA ha hb hf, less_bytesA hb ha hf.symm]
  · rw [decide_eq_false (show ¬ a.1.toNat < b.1.toNat by omega), decide_eq_true h]
    rw [show (a.1 == b.1) = false from beq_eq_false_iff_ne.2 (fun e => by rw [e] at h; omega)]
    simp
theorem lessA_irrefl (a : Ad) : lessA a a = false := by
  unfold lessA
  simp
theorem lessA_asymm {a b : Ad} (ha : rightA a = true) (hb : rightA b = true) (h : lessA a b = true) : lessA b a = false := by
  rw [lessA_num ha hb] at h
  rw [lessA_num hb ha]
  simp only [Bool.or_eq_true, Bool.and_eq_true, decide_eq_true_eq, beq_iff_eq] at h
  rw [Bool.or_eq_false_iff, Bool.and_eq_false_iff]
  rcases h with h | ⟨h1, h2⟩
  · exact ⟨decide_eq_false (by omega), .inl (beq_eq_false_iff_ne.2 (fun e => by rw [e] at h; omega))⟩
  · exact ⟨decide_eq_false (by rw [h1]; omega), .inr (decide_eq_false (by omega))⟩
theorem lessA_total {a b : Ad} (ha : rightA a = true) (hb : rightA b = true) (h : lessA a b = false) (k : lessA b a = false) : a = b := by
  rw [lessA_num ha hb, Bool.or_eq_false_iff, Bool.and_eq_false_iff] at h
  rw [lessA_num hb ha, Bool.or_eq_false_iff, Bool.and_eq_false_iff] at k
  obtain ⟨h1, h2⟩ := h
  obtain ⟨k1, k2⟩ := k
  have h1' := of_decide_eq_false h1
  have k1' := of_decide_eq_false k1
  have hf : a.1 = b.1 := UInt8.toNat_inj.1 (by omega)
  have h3 : ¬ num a < num b := by
    rcases h2 with h2 | h2
    · exact absurd hf (beq_eq_false_iff_ne.1 h2)
    · exact of_decide_eq_false h2
  have k3 : ¬ num b < num a := by
    rcases k2 with k2 | k2
    · exact absurd hf.symm (beq_eq_false_iff_ne.1 k2)
    · exact of_decide_eq_false k2
  exact Px.ad_ext hf (by omega)
theorem keyA_less {k : UInt64} {a b : Ad} (ha : rightA a = true) (hb : rightA b = true) (l m : List UInt64) :
    Op.bytesLess (keyA k a l).toList (keyA k b m).toList = (lessA a b || (a == b && decide (cmpL (l.map numP) (m.map numP) = -1))) := by
  unfold keyA
  rw [if_pos ha, if_pos hb, ByteArray.toList_eq, ByteArray.toList_eq, ofBs_list, ofBs_list, key_less, cmp_parts ha hb]
  cases h1 : lessA a b with
  | true => rfl
  | false =>
    cases h2 : lessA b a with
    | true =>
      have hne : (a == b) = false := beq_eq_false_iff_ne.2 (fun e => by rw [e, lessA_irrefl] at h2; cases h2)
      rw [hne]; rfl
    | false =>
      have he := lessA_total ha hb h1 h2
      rw [show (a == b) = true from by rw [he]; simp]
      rfl
theorem cmp_nil : decide (cmpL (([] : List UInt64).map numP) (([] : List UInt64).map numP) = -1) = false := rfl
theorem cmp_one1 (n m : UInt64) : decide (cmpL ([n].map numP) ([m].map numP) = -1) = decide (n.toNat < m.toNat) := by
  show decide (cmpL [numP n] [numP m] = -1) = _
  rw [cmpL, ahead_num, ahead_num]
  rcases Nat.lt_trichotomy n.toNat m.toNat with h | h | h
  · rw [decide_eq_true h]; rfl
  · rw [decide_eq_false (show ¬ n.toNat < m.toNat by omega), decide_eq_false (show ¬ m.toNat < n.toNat by omega)]; rfl
  · rw [decide_eq_false (show ¬ n.toNat < m.toNat by omega), decide_eq_true h]; rfl
theorem lease_less {k : UInt64} {a b : Ad} (ha : rightA a = true) (hb : rightA b = true) : Op.bytesLess (keyA k a []).toList (keyA k b []).toList = lessA a b := by
  rw [keyA_less ha hb, cmp_nil, Bool.and_false, Bool.or_false]
theorem event_less {k : UInt64} {a b : Ad} (n m : UInt64) (ha : rightA a = true) (hb : rightA b = true) : Op.bytesLess (keyA k a [n]).toList (keyA k b [m]).toList = (lessA a b || (a == b && decide (n.toNat < m.toNat))) := by
  rw [keyA_less ha hb, cmp_one1]
theorem bitsU_toNat {p : Pf} (h : rightP p = true) : ((bitsU p).toNat : Int) = p.2 := by
  have h8 := right_bits h
  unfold bitsU; rw [UInt64.toNat_ofNat']; omega
theorem prefix_less {k : UInt64} {p q : Pf} (hp : rightP p = true) (hq : rightP q = true) : Op.bytesLess (keyP k p).toList (keyP k q).toList = before p q := by
  have h1 := bitsU_toNat hp
  have h2 := bitsU_toNat hq
  rw [keyP_keyA hp, keyP_keyA hq, event_less _ _ (right_bits hp).2.2 (right_bits hq).2.2]
  unfold before
  rw [show decide ((bitsU p).toNat < (bitsU q).toNat) = decide (p.2 < q.2) from decide_eq_decide.2 (by omega)]
theorem keyP_inj {k : UInt64} {p q : Pf} (hp : rightP p = true) (hq : rightP q = true) (h : keyP k p = keyP k q) : p = q := by
  have h1 := prefixK_key (kind := k) hp
  rw [h, prefixK_key (kind := k) hq] at h1
  injection h1 with h1
  exact h1.symm
/-! ### keys read by other readings -/
theorem ofK_clock (kind : UInt64) (more : Nat) : ofK kind more clockK = none := by
  unfold ofK clockK
  rw [ofBs_list, parts_key]
  rfl
theorem ofK_client (kind : UInt64) (more : Nat) (c : UInt8) : ofK kind more (clientK c) = none := by
  unfold ofK clientK
  rw [ofBs_list, parts_key]
  rfl
theorem ofK_keyP {kind kind2 : UInt64} {more : Nat} {p : Pf} (hk : kind2 ≠ kind) : ofK kind more (keyP kind2 p) = none := by
  cases h : rightP p with
  | true => rw [keyP_keyA h]; exact ofK_other hk
  | false =>
    unfold keyP
    rw [h]
    show (Cph.Ok.parts []).bind _ = none
    rw [parts_nil]; rfl
theorem prefixK_of {kind : UInt64} {k : ByteArray} (h : ofK kind 1 k = none) : prefixK kind k = none := by unfold prefixK; rw [h]; rfl
theorem client_len {k : ByteArray} {l : List Pt} (hp : Cph.Ok.parts k.data.toList = some l) (h : l.length ≠ 2) : clientO k = none := by
  unfold clientO; rw [hp]; exact clientL_len h
theorem client_clock : clientO clockK = none := by
  refine client_len (l := [numP 1]) ?_ (by decide)
  unfold clockK
  rw [ofBs_list, parts_key]; rfl
theorem client_keyA (kind : UInt64) (a : Ad) (l : List UInt64) : clientO (keyA kind a l) = none := by
  cases h : rightA a with
  | true => exact client_len (parts_keyA kind l h) (by unfold partsL headL; simp)
  | false =>
    unfold keyA
    rw [h]
    exact client_len (l := []) parts_nil (by decide)
theorem client_keyP (kind : UInt64) (p : Pf) : clientO (keyP kind p) = none := by
  cases h : rightP p with
  | true => rw [keyP_keyA h]; exact client_keyA _ _ _
  | false =>
    unfold keyP
    rw [h]
    exact client_len (l := []) parts_nil (by decide)
theorem ofK_wrong {kind : UInt64} {more : Nat} {a : Ad} {l : List UInt64} (kind2 : UInt64) (h : rightA a = false) : ofK kind more (keyA kind2 a l) = none := by
  unfold keyA
  rw [h]
  show (Cph.Ok.parts []).bind _ = none
  rw [parts_nil]; rfl
theorem prefixK_wrong {kind : UInt64} {p : Pf} (kind2 : UInt64) (h : rightP p = false) : prefixK kind (keyP kind2 p) = none := by
  unfold keyP
  rw [h]
  show ((Cph.Ok.parts []).bind _).bind _ = none
  rw [parts_nil]; rfl
/-! ### no key is long -/
theorem num_small {n : UInt64} (h : n.toNat < 248) : (Cph.Ok.bytes (numP n)).length = 2 := by
  show (1 :: row n.toNat).length = 2
  rw [List.length_cons, row_len, if_pos h]
theorem keyA_64 {kind : UInt64} (hk : kind.toNat < 248) (a : Ad) (l : List UInt64) (hl : l.length ≤ 1) : (keyA kind a l).size ≤ 64 := by
  unfold keyA
  split
  · rename_i h
    rw [ofBs_size]
    unfold partsL headL
    rw [key_append, List.length_append, show key [numP kind, numP a.1.toUInt64, strP (ofBs (bytesA a))] = Cph.Ok.bytes (numP kind) ++ (Cph.Ok.bytes (numP a.1.toUInt64) ++ (Cph.Ok.bytes (strP (ofBs (bytesA a))) ++ [])) from rfl]
    have h1 := num_small hk
    have h2 := num_small (n := a.1.toUInt64) (by rw [fam_toNat]; rcases Px.right_fam h with h4 | h4 <;> rw [h4] <;> decide)
    have h3 := str_len (ofBs (bytesA a))
    have h4 := bytesA_le a
    have h5 := nums_len l
    rw [ofBs_size] at h3
    simp only [List.length_append, List.length_nil]; omega
  · exact Nat.zero_le _
theorem keyP_64 {kind : UInt64} (hk : kind.toNat < 248) (p : Pf) : (keyP kind p).size ≤ 64 := by
  cases h : rightP p with
  | true => rw [keyP_keyA h]; exact keyA_64 hk _ _ (by simp)
  | false => unfold keyP; rw [h]; exact Nat.zero_le _
theorem clientK_64 (c : UInt8) : (clientK c).size ≤ 64 := by
  unfold clientK
  rw [ofBs_size]
  have h := nums_len [7, c.toUInt64]
  simp at h
  show (key [numP 7, numP c.toUInt64]).length ≤ 64
  omega
theorem clockK_64 : clockK.size ≤ 64 := by decide
end Go.Proofs.Tryd.Rows
