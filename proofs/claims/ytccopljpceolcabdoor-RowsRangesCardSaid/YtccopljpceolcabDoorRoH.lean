/- rows, plainly: what is read of a key was written; what the document reads of it. -/
import Derived.Test.YtccopljpceolcabDoorMF
set_option linter.unusedVariables false
set_option linter.unusedSimpArgs false
set_option maxRecDepth 100000
namespace Go.Proofs.Tryd.Rows
open Go.RowKit Go.Cph Go.Cph.Ok Go.Proofs.Tryd.Nu Go.Proofs.Tryd.Ok
open Go.Cph.Px (Ad Pf rightA bytesA rightP fromB fromOk)
theorem from_right {f : UInt8} {l : List UInt8} (h : fromOk f l.length = true) : rightA (fromB f l) = true ∧ bytesA (fromB f l) = l ∧ (fromB f l).1 = f := by
  have hv := Pfx.val_lt l
  have hf : (f = 4 ∧ l.length = 4) ∨ (f = 6 ∧ l.length = 16) := by
    unfold fromOk at h
    simp only [Bool.or_eq_true, Bool.and_eq_true, beq_iff_eq] at h
    exact h
  have e : fromB f l = Px.ofNum f (Px.val l) := by unfold fromB; rw [if_pos h]
  have hlt : Px.val l < 2 ^ 128 := by
    refine Nat.lt_of_lt_of_le hv ?_
    rcases hf with ⟨_, h2⟩ | ⟨_, h2⟩ <;> rw [h2] <;> decide
  have hn := Px.num_ofNum f (Px.val l) hlt
  have hr : rightA (fromB f l) = true := by
    rw [e]
    rcases hf with ⟨rfl, h2⟩ | ⟨rfl, h2⟩
    · rw [h2] at hv
      have hv2 : Px.val l < 4294967296 := hv
      unfold rightA Px.ofNum
      have h0 : Px.val l / 18446744073709551616 = 0 := by omega
      have h3 : (UInt64.ofNat (Px.val l)).toNat = Px.val l := by rw [UInt64.toNat_ofNat']; omega
      simp only [h0, h3]
      simp; omega
    · rfl
  refine ⟨hr, ?_, by rw [e]; rfl⟩
  unfold bytesA
  rw [if_pos hr]
  rw [e, hn]
  have hs : Px.sizeB (Px.ofNum f (Px.val l)) = l.length := by
    unfold Px.sizeB Px.ofNum
    rcases hf with ⟨rfl, h2⟩ | ⟨rfl, h2⟩ <;> rw [h2] <;> rfl
  rw [hs]
  exact bytesN_of l
theorem text_num {p : Pt} (h : plainP p = p) (ht : p.text = false) : p = numP p.n := by
  obtain ⟨t, s, n⟩ := p
  have ht : t = false := ht
  subst ht
  exact h.symm
theorem text_str {p : Pt} (h : plainP p = p) (ht : p.text = true) : p = strP p.s := by
  obtain ⟨t, s, n⟩ := p
  have ht : t = true := ht
  subst ht
  exact h.symm
theorem fam_small {n : UInt64} (h : n.toNat ≤ 6) : n.toUInt8.toUInt64 = n := by
  apply UInt64.toNat_inj.1
  rw [UInt8.toNat_toUInt64, UInt64.toNat_toUInt8]; omega
theorem fam_of {f : UInt8} {k : Nat} (h : fromOk f k = true) : f = 4 ∨ f = 6 := by
  unfold fromOk at h
  simp only [Bool.or_eq_true, Bool.and_eq_true, beq_iff_eq] at h
  rcases h with ⟨h, _⟩ | ⟨h, _⟩
  · exact .inl h
  · exact .inr h
theorem ofL_head {kind : UInt64} {a b c : Pt} (hb : plainP b = b) (hc : plainP c = c) (h1 : eqP a (numP kind) = true) (h2 : b.n.toNat ≤ 6) (h3 : c.text = true) (h4 : fromOk b.n.toUInt8 c.s.size = true) :
    a = numP kind ∧ b = numP (fromB b.n.toUInt8 c.s.data.toList).1.toUInt64 ∧ c = strP (ofBs (bytesA (fromB b.n.toUInt8 c.s.data.toList))) ∧ rightA (fromB b.n.toUInt8 c.s.data.toList) = true := by
  have h4' : fromOk b.n.toUInt8 c.s.data.toList.length = true := h4
  obtain ⟨r1, r2, r3⟩ := from_right h4'
  refine ⟨eqP_iff.1 h1, ?_, ?_, r1⟩
  · rw [r3, fam_small h2]
    refine text_num hb ?_
    cases hx : b.text with
    | false => rfl
    | true =>
      exfalso
      have h5 := text_str hb hx
      have h6 : b.n = 0 := by rw [h5]; rfl
      rw [h6] at h4
      rcases fam_of h4 with h7 | h7 <;> exact absurd h7 (by decide)
  · rw [r2, ofBs_data]
    exact text_str hc h3
theorem ofK_back0 {kind : UInt64} {k : ByteArray} {a : Ad} {n : UInt64} (h : ofK kind 0 k = some (a, n)) : rightA a = true ∧ k = keyA kind a [] ∧ n = 0 := by
  unfold ofK at h
  cases hp : Cph.Ok.parts k.data.toList with
  | none => rw [hp] at h; cases h
  | some l =>
    rw [hp] at h
    obtain ⟨h1, h2⟩ := key_parts _ _ _ (Nat.le_refl _) hp
    replace h : ofL kind 0 l = some (a, n) := h
    match l, h, h1, h2 with
    | x :: b :: c :: r, h, h1, h2 =>
      unfold ofL at h
      dsimp only at h
      split at h
      · rename_i hc
        obtain ⟨c1, c2, c3, c4, c5⟩ := hc
        obtain rfl : r = [] := List.eq_nil_of_length_eq_zero c1
        injection h with h
        injection h with ha hn
        simp only [List.map_cons, List.cons.injEq] at h2
        obtain ⟨p1, p2, p3, p4, p5⟩ := ofL_head h2.2.1 h2.2.2.1 c2 c3 c4 c5 |> fun q => (⟨q.1, q.2.1, q.2.2.1, q.2.2.2, trivial⟩ : _ ∧ _ ∧ _ ∧ _ ∧ True)
        rw [ha] at p2 p3 p4
        refine ⟨p4, ?_, hn.symm⟩
        unfold keyA
        rw [if_pos p4]
        apply list_eq2
        rw [ofBs_list]
        show _ = key [numP kind, numP a.1.toUInt64, strP (ofBs (bytesA a))]
        rw [← p3, ← p2, ← p1]
        exact h1.symm
      · cases h
    | [], h, _, _ => cases h
    | [_], h, _, _ => cases h
    | [_, _], h, _, _ => cases h
theorem ofK_back1 {kind : UInt64} {k : ByteArray} {a : Ad} {n : UInt64} (h : ofK kind 1 k = some (a, n)) : rightA a = true ∧ k = keyA kind a [n] := by
  unfold ofK at h
  cases hp : Cph.Ok.parts k.data.toList with
  | none => rw [hp] at h; cases h
  | some l =>
    rw [hp] at h
    obtain ⟨h1, h2⟩ := key_parts _ _ _ (Nat.le_refl _) hp
    replace h : ofL kind 1 l = some (a, n) := h
    match l, h, h1, h2 with
    | x :: b :: c :: r, h, h1, h2 =>
      unfold ofL at h
      dsimp only at h
      split at h
      · rename_i hc
        obtain ⟨c1, c2, c3, c4, c5⟩ := hc
        match r, c1, h, h1, h2 with
        | [d], _, h, h1, h2 =>
          dsimp only at h
          split at h
          · cases h
          · rename_i hd
            injection h with h
            injection h with ha hn
            simp only [List.map_cons, List.cons.injEq] at h2
            obtain ⟨p1, p2, p3, p4⟩ := ofL_head h2.2.1 h2.2.2.1 c2 c3 c4 c5
            rw [ha] at p2 p3 p4
            refine ⟨p4, ?_⟩
            have p5 := text_num h2.2.2.2.1 (by simpa using hd)
            rw [hn] at p5
            unfold keyA
            rw [if_pos p4]
            apply list_eq2
            rw [ofBs_list]
            show _ = key [numP kind, numP a.1.toUInt64, strP (ofBs (bytesA a)), numP n]
            rw [← p5, ← p3, ← p2, ← p1]
            exact h1.symm
      · cases h
    | [], h, _, _ => cases h
    | [_], h, _, _ => cases h
    | [_, _], h, _, _ => cases h
theorem prefixK_back {kind : UInt64} {k : ByteArray} {p : Pf} (h : prefixK kind k = some p) : rightP p = true ∧ k = keyP kind p := by
  unfold prefixK at h
  cases ho : ofK kind 1 k with
  | none => rw [ho] at h; cases h
  | some x =>
    obtain ⟨a, n⟩ := x
    rw [ho] at h
    replace h : (if rightP (prefK a n) then some (prefK a n) else none) = some p := h
    split at h
    · rename_i hr
      injection h with h
      obtain ⟨h1, h2⟩ := ofK_back1 ho
      rw [← h]
      refine ⟨hr, ?_⟩
      rw [keyP_keyA hr, h2]
      have hb : bitsU (prefK a n) = n := by
        have h8 := (right_bits hr).2.1
        have h9 : ((min n.toNat 65536 : Nat) : Int) ≤ 128 := h8
        unfold bitsU prefK
        apply UInt64.toNat_inj.1
        rw [UInt64.toNat_ofNat']
        have := n.toNat_lt
        simp only [Int.toNat_natCast]
        omega
      rw [hb]; rfl
    · cases h

/-- The address that a key's parts say. -/
def docA (b c : Pt) : Ad := if b.n = 4 then fromB 4 c.s.data.toList else if b.n = 6 then fromB 6 c.s.data.toList else Px.zeroA
def docAddr : List Pt → Ad
  | _ :: b :: c :: _ => docA b c
  | _ => Px.zeroA
theorem docA_parts {a : Ad} (h : rightA a = true) : docA (numP a.1.toUInt64) (strP (ofBs (bytesA a))) = a := by
  have hf := from_bytes h
  unfold docA
  show (if a.1.toUInt64 = 4 then fromB 4 (bytesA a) else if a.1.toUInt64 = 6 then fromB 6 (bytesA a) else Px.zeroA) = a
  rcases Px.right_fam h with h4 | h4
  · rw [h4] at hf
    rw [h4, if_pos (show UInt8.toUInt64 4 = 4 from by decide)]; exact hf
  · rw [h4] at hf
    rw [h4, if_neg (show ¬ UInt8.toUInt64 6 = 4 from by decide), if_pos (show UInt8.toUInt64 6 = 6 from by decide)]; exact hf
theorem docAddr_parts (kind : UInt64) {a : Ad} (l : List UInt64) (h : rightA a = true) : docAddr (partsL kind a l) = a := docA_parts h
theorem keyA_ne {kind : UInt64} {a : Ad} {l : List UInt64} (h : (keyA kind a l).size ≠ 0) : rightA a = true := by
  unfold keyA at h
  split at h
  · assumption
  · exact absurd rfl h
theorem keyA_pos {kind : UInt64} {a : Ad} {l : List UInt64} (h : rightA a = true) : (keyA kind a l).size ≠ 0 := by
  unfold keyA
  rw [if_pos h, ofBs_size]
  show ((Cph.Ok.bytes (numP kind)) ++ _).length ≠ 0
  rw [List.length_append]
  have := Cph.Ok.bytes_pos (numP kind)
  omega
theorem keyP_ne {kind : UInt64} {p : Pf} (h : (keyP kind p).size ≠ 0) : rightP p = true := by
  unfold keyP at h
  split at h
  · assumption
  · exact absurd rfl h
theorem keyP_pos {kind : UInt64} {p : Pf} (h : rightP p = true) : (keyP kind p).size ≠ 0 := by
  rw [keyP_keyA h]; exact keyA_pos (right_bits h).2.2
theorem parts_keyA (kind : UInt64) {a : Ad} (l : List UInt64) (h : rightA a = true) : Cph.Ok.parts (keyA kind a l).data.toList = some (partsL kind a l) := by
  unfold keyA
  rw [if_pos h, ofBs_list, parts_partsL]
theorem parts_ne {k : ByteArray} {p : Pt} {l : List Pt} (h : Cph.Ok.parts k.data.toList = some (p :: l)) : k.size ≠ 0 := by
  intro h0
  rw [size0 h0] at h
  rw [show (⟨#[]⟩ : ByteArray).data.toList = [] from rfl, parts_nil] at h
  cases h
theorem addr_law {kind : UInt64} {k : ByteArray} {l : List Pt} (hp : Cph.Ok.parts k.data.toList = some l) :
    ofK kind 0 k = if k.size ≠ 0 ∧ keyA kind (docAddr l) [] = k then some (docAddr l, 0) else none := by
  split
  · rename_i h
    obtain ⟨h0, h1⟩ := h
    have hr : rightA (docAddr l) = true := keyA_ne (by rw [h1]; exact h0)
    have := ofK_key0 kind hr
    rwa [h1] at this
  · rename_i h
    cases ho : ofK kind 0 k with
    | none => rfl
    | some x =>
      obtain ⟨a, n⟩ := x
      exfalso
      obtain ⟨h1, h2, h3⟩ := ofK_back0 ho
      apply h
      have hq := parts_keyA kind [] h1
      rw [← h2, hp] at hq
      injection hq with hq
      refine ⟨by rw [h2]; exact keyA_pos h1, ?_⟩
      rw [hq, docAddr_parts kind [] h1]; exact h2.symm
theorem event_law {kind : UInt64} {k : ByteArray} {a b c d : Pt} (hp : Cph.Ok.parts k.data.toList = some [a, b, c, d]) :
    ofK kind 1 k = if keyA kind (docA b c) [d.n] = k then some (docA b c, d.n) else none := by
  have h0 := parts_ne hp
  split
  · rename_i h1
    have hr : rightA (docA b c) = true := keyA_ne (kind := kind) (l := [d.n]) (by rw [h1]; exact h0)
    have := ofK_key1 kind d.n hr
    rwa [h1] at this
  · rename_i h
    cases ho : ofK kind 1 k with
    | none => rfl
    | some x =>
      obtain ⟨a', n⟩ := x
      exfalso
      obtain ⟨h1, h2⟩ := ofK_back1 ho
      apply h
      have hq := parts_keyA kind [n] h1
      rw [← h2, hp] at hq
      injection hq with hq
      have hq2 : [a, b, c, d] = [numP kind, numP a'.1.toUInt64, strP (ofBs (bytesA a')), numP n] := hq
      simp only [List.cons.injEq] at hq2
      rw [hq2.2.1, hq2.2.2.1, hq2.2.2.2.1, docA_parts h1]; exact h2.symm
theorem len_none {kind : UInt64} {k : ByteArray} {l : List Pt} (hp : Cph.Ok.parts k.data.toList = some l) (h : l.length ≠ 4) : ofK kind 1 k = none := by
  unfold ofK
  rw [hp]
  exact ofL_len h
theorem prefix_len {kind : UInt64} {k : ByteArray} {l : List Pt} (hp : Cph.Ok.parts k.data.toList = some l) (h : l.length ≠ 4) : prefixK kind k = none := by
  unfold prefixK; rw [len_none hp h]; rfl
theorem prefix_law {kind : UInt64} {k : ByteArray} {a b c d : Pt} (hp : Cph.Ok.parts k.data.toList = some [a, b, c, d]) :
    prefixK kind k = if d.n.toNat ≤ 128 ∧ keyP kind (docA b c, (d.n.toNat : Int)) = k then some (docA b c, (d.n.toNat : Int)) else none := by
  have h0 := parts_ne hp
  split
  · rename_i h
    obtain ⟨h5, h1⟩ := h
    have hr : rightP (docA b c, (d.n.toNat : Int)) = true := keyP_ne (kind := kind) (by rw [h1]; exact h0)
    have := prefixK_key (kind := kind) hr
    rwa [h1] at this
  · rename_i h
    cases ho : prefixK kind k with
    | none => rfl
    | some p =>
      exfalso
      obtain ⟨h1, h2⟩ := prefixK_back ho
      apply h
      have h8 := right_bits h1
      have hq := parts_keyA kind [bitsU p] h8.2.2
      rw [← keyP_keyA h1, ← h2, hp] at hq
      injection hq with hq
      have hq2 : [a, b, c, d] = [numP kind, numP p.1.1.toUInt64, strP (ofBs (bytesA p.1)), numP (bitsU p)] := hq
      simp only [List.cons.injEq] at hq2
      have hn : ((numP (bitsU p)).n.toNat : Int) = p.2 := by
        show ((bitsU p).toNat : Int) = p.2
        unfold bitsU; rw [UInt64.toNat_ofNat']; omega
      rw [hq2.2.1, hq2.2.2.1, hq2.2.2.2.1, docA_parts h8.2.2, hn]
      exact ⟨by omega, h2.symm⟩
theorem client_key (c : UInt8) : clientO (clientK c) = some c := by
  unfold clientO clientK
  rw [ofBs_list, parts_key]
  show (if eqP (numP 7) (numP 7) = true ∧ (numP c.toUInt64).text = false ∧ (numP c.toUInt64).n.toNat ≤ 255 then some (numP c.toUInt64).n.toUInt8 else none) = some c
  rw [if_pos ⟨eqP_refl _, rfl, by show c.toUInt64.toNat ≤ 255; rw [UInt8.toNat_toUInt64]; have := c.toNat_lt; omega⟩]
  show some c.toUInt64.toUInt8 = _
  rw [fam_back]
theorem client_back {k : ByteArray} {c : UInt8} (h : clientO k = some c) : k = clientK c := by
  unfold clientO at h
  cases hp : Cph.Ok.parts k.data.toList with
  | none => rw [hp] at h; cases h
  | some l =>
    rw [hp] at h
    obtain ⟨h1, h2⟩ := key_parts _ _ _ (Nat.le_refl _) hp
    replace h : clientL l = some c := h
    by_cases hl : l.length = 2
    · obtain ⟨a, b, rfl⟩ := list_two hl
      replace h : (if eqP a (numP 7) = true ∧ b.text = false ∧ b.n.toNat ≤ 255 then some b.n.toUInt8 else none) = some c := h
      split at h
      · rename_i hc
        obtain ⟨c1, c2, c3⟩ := hc
        injection h with h
        simp only [List.map_cons, List.cons.injEq] at h2
        have e1 := eqP_iff.1 c1
        have e2 := text_num h2.2.1 c2
        have e3 : b.n = c.toUInt64 := by
          rw [← h]
          apply UInt64.toNat_inj.1
          rw [UInt8.toNat_toUInt64, UInt64.toNat_toUInt8]; omega
        rw [e3] at e2
        unfold clientK
        apply list_eq2
        rw [ofBs_list, ← e2, ← e1]
        exact h1.symm
      · cases h
    · rw [clientL_len hl] at h; cases h
theorem client_iff {k : ByteArray} {c : UInt8} : clientO k = some c ↔ k = clientK c := ⟨client_back, fun h => by rw [h]; exact client_key c⟩
end Go.Proofs.Tryd.Rows
