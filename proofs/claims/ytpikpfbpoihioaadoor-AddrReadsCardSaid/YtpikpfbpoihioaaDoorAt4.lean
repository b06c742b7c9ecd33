/- Reading an address's text, plainly: the program's way and the document's tell the address whose text it is. No program. -/
import Derived.Test.YtpikpfbpoihioaaDoorAt3
import Derived.Test.YtpikpfbpoihioaaDoorMC
set_option linter.unusedVariables false
set_option linter.unusedSimpArgs false
namespace Go.Cph.Tx
open Go.Cph.Px (Ad rightA num bytesA bytesN rightA_iff ad_ext num_lt ofNum num_ofNum fromB fromOk zeroA)
def natV (b : Nat) (l : List Nat) : Nat := l.foldl (fun n x => b * n + x) 0
theorem natV_snoc (b : Nat) (l : List Nat) (x : Nat) : natV b (l ++ [x]) = b * natV b l + x := by unfold natV; rw [List.foldl_append]; rfl
theorem natV_lt (b : Nat) (hb : 0 < b) (l : List Nat) (h : ∀ x ∈ l, x < b) : natV b l < b ^ l.length := by
  suffices k : ∀ n, ∀ l : List Nat, l.length = n → (∀ x ∈ l, x < b) → natV b l < b ^ n from k _ l rfl h
  intro n
  induction n with
  | zero => intro l hl _; have : l = [] := List.length_eq_zero_iff.1 hl
            subst this; exact Nat.one_pos
  | succ n ih =>
    intro l hl h
    obtain ⟨v, c, rfl⟩ : ∃ v c, l = v ++ [c] := ⟨l.dropLast, l.getLast (by intro e; simp [e] at hl), (List.dropLast_concat_getLast _).symm⟩
    have h1 := ih v (by simpa using hl) (fun x hx => h x (by simp [hx]))
    have h2 := h c (by simp)
    rw [natV_snoc, Nat.pow_succ]
    calc b * natV b v + c < b * natV b v + b := by omega
      _ = b * (natV b v + 1) := by rw [Nat.mul_add, Nat.mul_one]
      _ ≤ b * b ^ n := Nat.mul_le_mul_left _ h1
      _ = b ^ n * b := Nat.mul_comm _ _
def of4 (l : List Nat) : Ad := (4, 0, UInt64.ofNat (natV 256 l))
def of6 (l : List Nat) : Ad := ofNum 6 (natV 65536 l)
def grps (a : Ad) : List Nat := (List.range 8).map (grp a)
theorem grps_num (a : Ad) : natV 65536 (grps a) = num a := by
  obtain ⟨f, hi, lo⟩ := a
  have h1 := hi.toNat_lt
  have h2 := lo.toNat_lt
  show 65536 * (65536 * (65536 * (65536 * (65536 * (65536 * (65536 * (65536 * 0 + hi.toNat / 65536 ^ 3 % 65536) + hi.toNat / 65536 ^ 2 % 65536) + hi.toNat / 65536 ^ 1 % 65536) + hi.toNat / 65536 ^ 0 % 65536)
    + lo.toNat / 65536 ^ 3 % 65536) + lo.toNat / 65536 ^ 2 % 65536) + lo.toNat / 65536 ^ 1 % 65536) + lo.toNat / 65536 ^ 0 % 65536 = hi.toNat * 18446744073709551616 + lo.toNat
  generalize hi.toNat = x at *
  generalize lo.toNat = y at *
  simp only [show (65536 : Nat) ^ 3 = 281474976710656 from rfl, show (65536 : Nat) ^ 2 = 4294967296 from rfl, Nat.pow_one, Nat.pow_zero]
  omega
theorem grps_len (a : Ad) : (grps a).length = 8 := by simp [grps]
theorem grps_le (a : Ad) : ∀ n ∈ grps a, n ≤ 65535 := by
  intro n hn
  obtain ⟨i, _, rfl⟩ := List.mem_map.1 hn
  have := grp_lt a i; omega
theorem words6_grps (a : Ad) : words6 a = (grps a).map (digs 16) := by unfold words6 grps; rw [List.map_map]; rfl
theorem of6_grps {a : Ad} (h : a.1 = 6) : of6 (grps a) = a := by
  unfold of6
  rw [grps_num]
  refine ad_ext (by rw [h]; rfl) ?_
  exact num_ofNum 6 _ (num_lt a)
theorem val_natV (l : Bs) : Px.val l = natV 256 (l.map UInt8.toNat) := by
  unfold Px.val natV
  rw [List.foldl_map]
theorem bytes4_val {a : Ad} (hr : rightA a = true) (h : a.1 = 4) : natV 256 ((bytesA a).map UInt8.toNat) = num a ∧ (bytesA a).length = 4 := by
  rw [← val_natV]
  unfold bytesA
  rw [if_pos hr]
  have hs : Px.sizeB a = 4 := by unfold Px.sizeB; rw [if_pos h]
  rw [hs, Px.val_bytesN]
  have := rightA_iff.1 hr
  rw [h] at this
  rcases this with h6 | h4
  · exact absurd h6 (by decide)
  · exact ⟨Nat.mod_eq_of_lt (by omega), Px.bytesN_length _ _⟩
theorem of4_bytes {a : Ad} (hr : rightA a = true) (h : a.1 = 4) : of4 ((bytesA a).map UInt8.toNat) = a := by
  have h1 := (bytes4_val hr h).1
  have := rightA_iff.1 hr
  rw [h] at this
  rcases this with h6 | h4
  · exact absurd h6 (by decide)
  · have hn := h4.2
    obtain ⟨f, hi, lo⟩ := a
    subst h
    unfold of4
    rw [h1]
    unfold num at hn ⊢
    have hz : hi = 0 := UInt64.toNat_inj.1 (by simp at hn ⊢; omega)
    subst hz
    simp
theorem of4_right {l : List Nat} (h : ∀ x ∈ l, x ≤ 255) (hl : l.length = 4) : rightA (of4 l) = true := by
  have := natV_lt 256 (by omega) l (fun x hx => by have := h x hx; omega)
  rw [hl] at this
  have e : (UInt64.ofNat (natV 256 l)).toNat = natV 256 l := by rw [UInt64.toNat_ofNat']; exact Nat.mod_eq_of_lt (by omega)
  unfold rightA of4
  simp [e]; omega
theorem of6_fam (l : List Nat) : (of6 l).1 = 6 := rfl
theorem right6 {a : Ad} (h : a.1 = 6) : rightA a = true := rightA_iff.2 (.inl h)
theorem right_fam {a : Ad} (h : rightA a = true) : a.1 = 4 ∨ a.1 = 6 := by
  rcases rightA_iff.1 h with h | h
  · exact .inr h
  · exact .inl h.1
theorem text_6 {a : Ad} (h : a.1 = 6) : textA a = text6 a := by unfold textA; rw [if_pos (right6 h), if_pos h]
theorem text_4 {a : Ad} (hr : rightA a = true) (h : a.1 = 4) : textA a = joinC 46 (words4 a) := by unfold textA; rw [if_pos hr, if_neg (by rw [h]; decide)]
theorem text_no {a : Ad} (h : rightA a = false) : textA a = [] := by unfold textA; rw [h]; rfl
/-- The program's way. -/
def loose4 (s : Bs) : Option Ad := if (splitC 46 s).length = 4 then ((splitC 46 s).mapM small10).map of4 else none
def part (s : Bs) : List Bs := if s = [] then [] else splitC 58 s
def loose6c (l m : List Bs) (found : Bool) : Option Ad :=
  if 8 < l.length + m.length ∨ (found = false ∧ l.length ≠ 8) then none
  else ((l ++ List.replicate (8 - (l.length + m.length)) [48] ++ m).mapM small16).map of6
def loose6 (s : Bs) : Option Ad := loose6c (part (Lib.cut s [58, 58]).1) (part (Lib.cut s [58, 58]).2.1) (Lib.cut s [58, 58]).2.2
def loose (s : Bs) : Option Ad := if (58 : UInt8) ∈ s then loose6 s else loose4 s
def progParse (s : Bs) : Option Ad := (loose s).bind fun a => if textA a = s then some a else none
theorem mapM_some {α β : Type} {f : α → Option β} {P : β → Prop} (hf : ∀ a b, f a = some b → P b) : ∀ {l : List α} {r : List β}, l.mapM f = some r → r.length = l.length ∧ ∀ b ∈ r, P b := by
  intro l
  induction l with
  | nil => intro r h; have : r = [] := by simpa using h.symm
           subst this; exact ⟨rfl, by simp⟩
  | cons a l ih =>
    intro r h
    rw [List.mapM_cons] at h
    cases ha : f a with
    | none => rw [ha] at h; exact absurd h (by simp)
    | some b =>
      rw [ha] at h
      cases hr : l.mapM f with
      | none => rw [hr] at h; exact absurd h (by simp)
      | some q =>
        rw [hr] at h
        have h' : b :: q = r := by simpa using h
        subst h'
        obtain ⟨h1, h2⟩ := ih hr
        exact ⟨by simp [h1], fun x hx => by rcases List.mem_cons.1 hx with rfl | hx; exact hf a _ ha; exact h2 x hx⟩
theorem mapM_map {α β γ : Type} {f : β → Option γ} {g : α → β} {k : α → γ} : ∀ l : List α, (∀ a ∈ l, f (g a) = some (k a)) → (l.map g).mapM f = some (l.map k) := by
  intro l
  induction l with
  | nil => intro _; rfl
  | cons a l ih =>
    intro h
    rw [List.map_cons, List.mapM_cons, h a (by simp), ih (fun b hb => h b (by simp [hb]))]; rfl
theorem loose_right {s : Bs} {a : Ad} (h : loose s = some a) : rightA a = true := by
  unfold loose at h
  split at h
  · unfold loose6 loose6c at h
    split at h
    · exact absurd h (by simp)
    · obtain ⟨l, hl, rfl⟩ := Option.map_eq_some_iff.1 h
      exact right6 (of6_fam l)
  · unfold loose4 at h
    split at h
    · rename_i h4
      obtain ⟨l, hl, rfl⟩ := Option.map_eq_some_iff.1 h
      obtain ⟨h1, h2⟩ := mapM_some (P := fun n => n ≤ 255) (fun _ _ => small10_le) hl
      exact of4_right h2 (by rw [h1, h4])
    · exact absurd h (by simp)
theorem loose_text {a : Ad} (hr : rightA a = true) : loose (textA a) = some a := by
  unfold loose
  rcases right_fam hr with h4 | h6
  · rw [text_4 hr h4, if_neg (text4_colon a)]
    unfold loose4
    have hs : splitC 46 (joinC 46 (words4 a)) = words4 a := split_join 46 _ (by
      intro e
      have := congrArg List.length e
      unfold words4 at this
      rw [List.length_map, (bytes4_val hr h4).2] at this
      exact absurd this (by decide)) (fun w hw => words4_free hw 46 (.inl rfl))
    have hl : (words4 a).length = 4 := by unfold words4; rw [List.length_map, (bytes4_val hr h4).2]
    have hm : (words4 a).mapM small10 = some ((bytesA a).map UInt8.toNat) := mapM_map (g := fun c : UInt8 => digs 10 c.toNat) (bytesA a) (fun c _ => small10_digs c.toNat c.toNat_lt)
    rw [hs, if_pos hl, hm, Option.map_some, of4_bytes hr h4]
  · rw [text_6 h6, if_pos (text6_colon a)]
    have hm : (words6 a).mapM small16 = some (grps a) := mapM_map (g := wd a) (k := grp a) (List.range 8) (fun i _ => small16_digs _ (by have := grp_lt a i; omega))
    by_cases h0 : (run a).2 = 0
    · have hc : Lib.cut (text6 a) [58, 58] = (text6 a, [], false) := by
        rw [cut_lib, text6_none a h0, cut_words _ (fun w hw => (words6_mem hw).1) (fun w hw => (words6_mem hw).2)]
      unfold loose6
      rw [hc, text6_none a h0]
      have hp : part (joinC 58 (words6 a)) = words6 a := pieces_join _ (fun w hw => words6_mem hw)
      dsimp only
      rw [hp, show part [] = [] from rfl]
      unfold loose6c
      rw [if_neg (by rw [words6_len]; simp)]
      rw [words6_len, show 8 - (8 + ([] : List Bs).length) = 0 from rfl, List.replicate_zero, List.append_nil, List.append_nil, hm, Option.map_some, of6_grps h6]
    · have hrun := run_le a
      have h2 : 2 ≤ (run a).2 ∧ (run a).1 + (run a).2 ≤ 8 := by rcases hrun with h | h; exact absurd h.1 h0; exact h
      have hc : Lib.cut (text6 a) [58, 58] = (joinC 58 ((words6 a).take (run a).1), joinC 58 ((words6 a).drop ((run a).1 + (run a).2)), true) := by
        rw [cut_lib, text6_some a h0, cut_words2 _ (fun w hw => (words6_mem (List.mem_of_mem_take hw)).1) (fun w hw => (words6_mem (List.mem_of_mem_take hw)).2)]
        dsimp only
        rw [List.take_left, show ∀ (x y : Bs), (x ++ 58 :: 58 :: y).drop (x.length + 2) = y from fun x y => by
          rw [show x ++ 58 :: 58 :: y = (x ++ [58, 58]) ++ y by simp]; exact List.drop_left' (by simp)]
      unfold loose6
      rw [hc]
      dsimp only
      rw [show part (joinC 58 ((words6 a).take (run a).1)) = (words6 a).take (run a).1 from pieces_join _ (fun w hw => words6_mem (List.mem_of_mem_take hw)),
        show part (joinC 58 ((words6 a).drop ((run a).1 + (run a).2))) = (words6 a).drop ((run a).1 + (run a).2) from pieces_join _ (fun w hw => words6_mem (List.mem_of_mem_drop hw))]
      have hl : ((words6 a).take (run a).1).length + ((words6 a).drop ((run a).1 + (run a).2)).length = 8 - (run a).2 := by
        rw [List.length_take, List.length_drop, words6_len]; omega
      unfold loose6c
      rw [if_neg (by rw [hl]; simp), hl, show 8 - (8 - (run a).2) = (run a).2 by omega, words6_fill a h2.1, hm, Option.map_some, of6_grps h6]
theorem prog_iff (s : Bs) (a : Ad) : progParse s = some a ↔ rightA a = true ∧ textA a = s := by
  unfold progParse
  constructor
  · intro h
    cases hl : loose s with
    | none => rw [hl] at h; exact absurd h (by simp)
    | some b =>
      rw [hl] at h
      simp only [Option.bind_some] at h
      split at h
      · rename_i ht
        have := Option.some.inj h; subst this
        exact ⟨loose_right hl, ht⟩
      · exact absurd h (by simp)
  · rintro ⟨hr, rfl⟩
    rw [loose_text hr, Option.bind_some, if_pos rfl]
/-- The document's way. -/
def docWords (s : Bs) : Option (List Nat) := wordsF 16 65535 58 [] none s
def docGroups (s : Bs) : Option (List Nat) :=
  match cutAt s with
  | none => (docWords s).bind fun l => if l.length = 8 then some l else none
  | some k => (if 0 < k then docWords (s.take k) else some []).bind fun l => (if k + 2 < s.length then docWords (s.drop (k + 2)) else some []).bind fun m =>
      if 8 < l.length + m.length then none else some (l ++ List.replicate (8 - (l.length + m.length)) 0 ++ m)
def bytesG (l : List Nat) : Bs := l.flatMap fun g => [UInt8.ofNat (g / 256), UInt8.ofNat (g % 256)]
def doc6 (s : Bs) : Option Ad := (docGroups s).bind fun l => if textA (fromB 6 (bytesG l)) = s then some (fromB 6 (bytesG l)) else none
def docParse (s : Bs) : Option Ad :=
  match wordsF 10 255 46 [] none s with
  | some l => if l.length = 4 then some (fromB 4 (l.map UInt8.ofNat)) else doc6 s
  | none => doc6 s
theorem bytesG_len (l : List Nat) : (bytesG l).length = 2 * l.length := by
  induction l with
  | nil => rfl
  | cons g l ih =>
    show (UInt8.ofNat (g / 256) :: UInt8.ofNat (g % 256) :: bytesG l).length = _
    rw [List.length_cons, List.length_cons, ih, List.length_cons]; omega
theorem bytesG_val (l : List Nat) (h : ∀ x ∈ l, x ≤ 65535) : Px.val (bytesG l) = natV 65536 l := by
  suffices k : ∀ n, ∀ l : List Nat, l.length = n → (∀ x ∈ l, x ≤ 65535) → Px.val (bytesG l) = natV 65536 l from k _ l rfl h
  intro n
  induction n with
  | zero => intro l hl _; have : l = [] := List.length_eq_zero_iff.1 hl
            subst this; rfl
  | succ n ih =>
    intro l hl h
    obtain ⟨v, c, rfl⟩ : ∃ v c, l = v ++ [c] := ⟨l.dropLast, l.getLast (by intro e; simp [e] at hl), (List.dropLast_concat_getLast _).symm⟩
    have h1 := ih v (by simpa using hl) (fun x hx => h x (by simp [hx]))
    have h2 := h c (by simp)
    rw [natV_snoc, ← h1]
    rw [show bytesG (v ++ [c]) = (bytesG v ++ [UInt8.ofNat (c / 256)]) ++ [UInt8.ofNat (c % 256)] by unfold bytesG; rw [List.flatMap_append]; simp]
    rw [Px.val_snoc, Px.val_snoc, UInt8.toNat_ofNat', UInt8.toNat_ofNat']
    omega
theorem from6 {l : List Nat} (hl : l.length = 8) (h : ∀ x ∈ l, x ≤ 65535) : fromB 6 (bytesG l) = of6 l := by
  unfold fromB of6
  rw [if_pos (by rw [bytesG_len, hl]; rfl), bytesG_val l h]
theorem from4 {l : List Nat} (hl : l.length = 4) (h : ∀ x ∈ l, x ≤ 255) : fromB 4 (l.map UInt8.ofNat) = of4 l := by
  have hn := natV_lt 256 (by omega) l (fun x hx => by have := h x hx; omega)
  rw [hl] at hn
  unfold fromB of4
  rw [if_pos (by rw [List.length_map, hl]; rfl), val_natV, List.map_map]
  have : l.map (UInt8.toNat ∘ UInt8.ofNat) = l := by
    conv => rhs; rw [← List.map_id l]
    refine List.map_congr_left fun x hx => ?_
    have := h x hx
    show (UInt8.ofNat x).toNat = x
    rw [UInt8.toNat_ofNat']; omega
  rw [this]
  unfold ofNum
  rw [Nat.div_eq_of_lt (by omega)]; rfl
theorem docGroups_right {s : Bs} {l : List Nat} (h : docGroups s = some l) : l.length = 8 ∧ ∀ x ∈ l, x ≤ 65535 := by
  have hw : ∀ {t : Bs} {r : List Nat}, docWords t = some r → ∀ x ∈ r, x ≤ 65535 := fun {t r} h => ((words_iff 16 65535 58 (by omega) (by omega) (by omega) (.inr rfl) t r).1 h).2.2
  unfold docGroups at h
  split at h
  · cases hd : docWords s with
    | none => rw [hd] at h; exact absurd h (by simp)
    | some r =>
      rw [hd] at h; simp only [Option.bind_some] at h
      split at h
      · rename_i h8; have := Option.some.inj h; subst this; exact ⟨h8, hw hd⟩
      · exact absurd h (by simp)
  · rename_i k hk
    have hp : ∀ {c : Prop} [Decidable c] {t : Bs} {r : List Nat}, (if c then docWords t else some []) = some r → ∀ x ∈ r, x ≤ 65535 := by
      intro c _ t r h
      split at h
      · exact hw h
      · have := Option.some.inj h; subst this; simp
    cases h1 : (if 0 < k then docWords (s.take k) else some []) with
    | none => rw [h1] at h; exact absurd h (by simp)
    | some r =>
      rw [h1] at h; simp only [Option.bind_some] at h
      cases h2 : (if k + 2 < s.length then docWords (s.drop (k + 2)) else some []) with
      | none => rw [h2] at h; exact absurd h (by simp)
      | some m =>
        rw [h2] at h; simp only [Option.bind_some] at h
        split at h
        · exact absurd h (by simp)
        · rename_i h8
          have := Option.some.inj h; subst this
          refine ⟨by simp; omega, fun x hx => ?_⟩
          rw [List.mem_append, List.mem_append] at hx
          rcases hx with (hx | hx) | hx
          · exact hp h1 x hx
          · have := List.eq_of_mem_replicate hx; omega
          · exact hp h2 x hx
theorem words_join {l : List Nat} (h0 : l ≠ []) (h : ∀ x ∈ l, x ≤ 65535) : docWords (joinC 58 (l.map (digs 16))) = some l :=
  (words_iff 16 65535 58 (by omega) (by omega) (by omega) (.inr rfl) _ l).2 ⟨h0, rfl, h⟩
theorem joinC_ne {l : List Bs} (h0 : l ≠ []) (h : ∀ w ∈ l, w ≠ []) : 0 < (joinC 58 l).length := by
  rcases Nat.eq_zero_or_pos (joinC 58 l).length with k | k
  · exact absurd (joinC_nil 58 h (List.length_eq_zero_iff.1 k)) h0
  · exact k
theorem grps_fill (a : Ad) (h : 2 ≤ (run a).2) : (grps a).take (run a).1 ++ List.replicate (run a).2 0 ++ (grps a).drop ((run a).1 + (run a).2) = grps a := by
  have hg := (good (zf a)).run
  rw [show runR (zf a) = run a from rfl] at hg
  rcases hg with hg | ⟨_, h2, h3⟩
  · omega
  generalize (run a).1 = p at *
  generalize (run a).2 = m at *
  have hrep : List.replicate m 0 = ((grps a).drop p).take m := by
    apply List.ext_getElem?
    intro i
    by_cases hi : i < m
    · rw [List.getElem?_replicate, if_pos hi, List.getElem?_take, if_pos hi, List.getElem?_drop]
      have := h3 (p + i) (by omega) (by omega) (by omega)
      unfold zf at this
      unfold grps
      rw [List.getElem?_map, List.getElem?_range (by omega), Option.map_some, eq_of_beq this]
    · rw [List.getElem?_eq_none (by simp; omega), List.getElem?_eq_none (by simp [grps_len]; omega)]
  rw [hrep, ← List.drop_drop, List.append_assoc, List.take_append_drop, List.take_append_drop]
theorem docGroups_text (a : Ad) : docGroups (text6 a) = some (grps a) := by
  unfold docGroups
  have hmem : ∀ w ∈ words6 a, w ≠ [] ∧ (58 : UInt8) ∉ w := fun w hw => words6_mem hw
  by_cases h0 : (run a).2 = 0
  · rw [text6_none a h0, cut_words _ (fun w hw => (hmem w hw).1) (fun w hw => (hmem w hw).2)]
    dsimp only
    rw [words6_grps, words_join (by intro e; have := grps_len a; rw [e] at this; simp at this) (grps_le a), Option.bind_some, if_pos (grps_len a)]
  · have hrun := run_le a
    have h2 : 2 ≤ (run a).2 ∧ (run a).1 + (run a).2 ≤ 8 := by rcases hrun with h | h; exact absurd h.1 h0; exact h
    rw [text6_some a h0, cut_words2 _ (fun w hw => (words6_mem (List.mem_of_mem_take hw)).1) (fun w hw => (words6_mem (List.mem_of_mem_take hw)).2)]
    dsimp only
    rw [List.take_left, show ∀ (x y : Bs), (x ++ 58 :: 58 :: y).drop (x.length + 2) = y from fun x y => by
      rw [show x ++ 58 :: 58 :: y = (x ++ [58, 58]) ++ y by simp]; exact List.drop_left' (by simp)]
    have e1 : (if 0 < (joinC 58 ((words6 a).take (run a).1)).length then docWords (joinC 58 ((words6 a).take (run a).1)) else some []) = some ((grps a).take (run a).1) := by
      rw [words6_grps, ← List.map_take]
      by_cases hp : (grps a).take (run a).1 = []
      · rw [hp]; rfl
      · rw [if_pos (joinC_ne (by simpa using hp) (fun w hw => by obtain ⟨n, _, rfl⟩ := List.mem_map.1 hw; exact digs_ne _ _)), words_join hp (fun x hx => grps_le a x (List.mem_of_mem_take hx))]
    have e2 : ∀ P : Bs, (if P.length + 2 < (P ++ 58 :: 58 :: joinC 58 ((words6 a).drop ((run a).1 + (run a).2))).length then docWords (joinC 58 ((words6 a).drop ((run a).1 + (run a).2))) else some []) = some ((grps a).drop ((run a).1 + (run a).2)) := by
      intro P
      rw [words6_grps, ← List.map_drop]
      by_cases hp : (grps a).drop ((run a).1 + (run a).2) = []
      · rw [hp, if_neg (by simp [joinC])]
      · have := joinC_ne (l := ((grps a).drop ((run a).1 + (run a).2)).map (digs 16)) (by simpa using hp) (fun w hw => by obtain ⟨n, _, rfl⟩ := List.mem_map.1 hw; exact digs_ne _ _)
        rw [if_pos (by rw [List.length_append, List.length_cons, List.length_cons]; omega), words_join hp (fun x hx => grps_le a x (List.mem_of_mem_drop hx))]
    rw [e1, Option.bind_some, e2, Option.bind_some, List.length_take, List.length_drop, grps_len, if_neg (by omega)]
    rw [show 8 - (min (run a).1 8 + (8 - ((run a).1 + (run a).2))) = (run a).2 by omega, grps_fill a h2.1]
theorem words4_no6 {s : Bs} (h : (58 : UInt8) ∈ s) {l : List Nat} : wordsF 10 255 46 [] none s ≠ some l := by
  intro e
  obtain ⟨_, h2, h3⟩ := (words_iff 10 255 46 (by omega) (by omega) (by omega) (.inl rfl) s l).1 e
  rw [h2] at h
  refine joinC_all (P := fun x => x ≠ 58) 46 (by decide) _ ?_ 58 h rfl
  intro w hw x hx e
  obtain ⟨n, hn, rfl⟩ := List.mem_map.1 hw
  have := h3 n hn
  exact digs_sign 10 n (by omega) (by omega) (by omega) 58 (.inr rfl) (by rw [← e]; exact hx)
theorem doc6_iff (s : Bs) (a : Ad) (h : doc6 s = some a) : rightA a = true ∧ textA a = s ∧ a.1 = 6 := by
  unfold doc6 at h
  cases hg : docGroups s with
  | none => rw [hg] at h; exact absurd h (by simp)
  | some l =>
    rw [hg] at h; simp only [Option.bind_some] at h
    obtain ⟨h8, hx⟩ := docGroups_right hg
    split at h
    · rename_i ht
      have := Option.some.inj h; subst this
      have hf : (fromB 6 (bytesG l)).1 = 6 := by rw [from6 h8 hx]; rfl
      exact ⟨right6 hf, ht, hf⟩
    · exact absurd h (by simp)
theorem doc_iff (s : Bs) (a : Ad) : docParse s = some a ↔ rightA a = true ∧ textA a = s := by
  constructor
  · intro h
    unfold docParse at h
    split at h
    · rename_i l hl
      split at h
      · rename_i h4
        have := Option.some.inj h; subst this
        obtain ⟨_, h2, h3⟩ := (words_iff 10 255 46 (by omega) (by omega) (by omega) (.inl rfl) s l).1 hl
        rw [from4 h4 h3]
        have hr := of4_right h3 h4
        refine ⟨hr, ?_⟩
        rw [text_4 hr rfl, h2]
        unfold words4
        have hb : bytesA (of4 l) = l.map UInt8.ofNat := by
          have hn := natV_lt 256 (by omega) l (fun x hx => by have := h3 x hx; omega)
          rw [h4] at hn
          have hnum : num (of4 l) = natV 256 l := by
            unfold of4 num
            show (0 : UInt64).toNat * _ + (UInt64.ofNat (natV 256 l)).toNat = _
            rw [UInt64.toNat_ofNat', Nat.mod_eq_of_lt (by omega)]; simp
          unfold bytesA
          rw [if_pos hr, hnum, show Px.sizeB (of4 l) = 4 from rfl]
          match l, h4, h3 with
          | [p, q, r, t], _, h3 =>
            have h1 := h3 p (by simp); have h2 := h3 q (by simp); have h5 := h3 r (by simp); have h6 := h3 t (by simp)
            show [UInt8.ofNat ((256 * (256 * (256 * (256 * 0 + p) + q) + r) + t) / 256 ^ 3), UInt8.ofNat ((256 * (256 * (256 * (256 * 0 + p) + q) + r) + t) / 256 ^ 2), UInt8.ofNat ((256 * (256 * (256 * (256 * 0 + p) + q) + r) + t) / 256 ^ 1), UInt8.ofNat ((256 * (256 * (256 * (256 * 0 + p) + q) + r) + t) / 256 ^ 0)] = [UInt8.ofNat p, UInt8.ofNat q, UInt8.ofNat r, UInt8.ofNat t]
            simp only [show (256 : Nat) ^ 3 = 16777216 from rfl, show (256 : Nat) ^ 2 = 65536 from rfl, Nat.pow_one, Nat.pow_zero]
            have k1 : (256 * (256 * (256 * (256 * 0 + p) + q) + r) + t) / 16777216 = p := by omega
            have k2 : UInt8.ofNat ((256 * (256 * (256 * (256 * 0 + p) + q) + r) + t) / 65536) = UInt8.ofNat q := UInt8.toNat_inj.1 (by rw [UInt8.toNat_ofNat', UInt8.toNat_ofNat']; omega)
            have k3 : UInt8.ofNat ((256 * (256 * (256 * (256 * 0 + p) + q) + r) + t) / 256) = UInt8.ofNat r := UInt8.toNat_inj.1 (by rw [UInt8.toNat_ofNat', UInt8.toNat_ofNat']; omega)
            have k4 : UInt8.ofNat ((256 * (256 * (256 * (256 * 0 + p) + q) + r) + t) / 1) = UInt8.ofNat t := UInt8.toNat_inj.1 (by rw [UInt8.toNat_ofNat', UInt8.toNat_ofNat']; omega)
            rw [k1, k2, k3, k4]
        rw [hb, List.map_map]
        congr 1
        refine List.map_congr_left fun x hx => ?_
        have := h3 x hx
        show digs 10 (UInt8.ofNat x).toNat = digs 10 x
        rw [UInt8.toNat_ofNat', Nat.mod_eq_of_lt (by omega)]
      · exact ⟨(doc6_iff s a h).1, (doc6_iff s a h).2.1⟩
    · exact ⟨(doc6_iff s a h).1, (doc6_iff s a h).2.1⟩
  · rintro ⟨hr, rfl⟩
    unfold docParse
    rcases right_fam hr with h4 | h6
    · have hw : wordsF 10 255 46 [] none (textA a) = some ((bytesA a).map UInt8.toNat) := by
        rw [text_4 hr h4]
        refine (words_iff 10 255 46 (by omega) (by omega) (by omega) (.inl rfl) _ _).2 ⟨?_, ?_, ?_⟩
        · intro e
          have := congrArg List.length e
          rw [List.length_map, (bytes4_val hr h4).2] at this
          exact absurd this (by decide)
        · unfold words4; rw [List.map_map]; rfl
        · intro n hn
          obtain ⟨c, _, rfl⟩ := List.mem_map.1 hn
          have := c.toNat_lt; omega
      rw [hw]
      dsimp only
      rw [if_pos (by rw [List.length_map, (bytes4_val hr h4).2]), from4 (by rw [List.length_map, (bytes4_val hr h4).2]) (fun n hn => by
        obtain ⟨c, _, rfl⟩ := List.mem_map.1 hn
        have := c.toNat_lt; omega), of4_bytes hr h4]
    · have hw : wordsF 10 255 46 [] none (textA a) = none := by
        cases h : wordsF 10 255 46 [] none (textA a) with
        | none => rfl
        | some l => exact absurd h (words4_no6 (by rw [text_6 h6]; exact text6_colon a))
      rw [hw]
      dsimp only
      unfold doc6
      rw [text_6 h6, docGroups_text a, Option.bind_some, from6 (grps_len a) (grps_le a), of6_grps h6, if_pos (text_6 h6)]
theorem doc_prog (s : Bs) : docParse s = progParse s := by
  cases h : docParse s with
  | some a => exact ((prog_iff s a).2 ((doc_iff s a).1 h)).symm
  | none =>
    cases h2 : progParse s with
    | none => rfl
    | some a => rw [(doc_iff s a).2 ((prog_iff s a).1 h2)] at h; exact absurd h (by simp)
/-- Each right address has a text of its own. -/
theorem text_inj {a b : Ad} (ha : rightA a = true) (hb : rightA b = true) (h : textA a = textA b) : a = b := by
  have h1 := (prog_iff (textA a) a).2 ⟨ha, rfl⟩
  have h2 := (prog_iff (textA a) b).2 ⟨hb, h.symm⟩
  rw [h1] at h2
  exact Option.some.inj h2
end Go.Cph.Tx
