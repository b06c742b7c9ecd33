/- AddrBack, plainly: bytes and texts there and back. -/
import Derived.Test.YtmjjhnfdpiclfaaGreatDoorAz4
set_option linter.unusedVariables false
set_option linter.unusedSimpArgs false
set_option maxRecDepth 100000
namespace Go.Proofs.Tryz.Tx
open Go.RowKit Go.Cph Go.Cph.Tx
open Go.Cph.Ok (ofBs)
open Go.Cph.Px (Ad rightA bytesA zeroA lessA rank num rank_inj less_rank ad_ext rightA_iff fromB fromOk ofNum num_ofNum bytesN)
theorem bytesN_val : ∀ (n : Nat) (l : Bs), l.length = n → bytesN (Px.val l) n = l := by
  intro n
  induction n with
  | zero => intro l h; have : l = [] := List.length_eq_zero_iff.1 h
            subst this; rfl
  | succ n ih =>
    intro l h
    obtain ⟨v, c, rfl⟩ : ∃ v c, l = v ++ [c] := ⟨l.dropLast, l.getLast (by intro e; simp [e] at h), (List.dropLast_concat_getLast _).symm⟩
    have hv : v.length = n := by simpa using h
    have hc := c.toNat_lt
    rw [Px.bytesN_succ, Px.val_snoc, show (256 * Px.val v + c.toNat) / 256 = Px.val v by omega, ih v hv]
    congr 2
    refine UInt8.toNat_inj.1 ?_
    rw [UInt8.toNat_ofNat']; omega
theorem from_no {f : UInt8} {l : Bs} (h : fromOk f l.length = false) : fromB f l = zeroA := by unfold fromB; rw [h]; rfl
theorem zero_wrong : rightA zeroA = false := by decide
structure FromIs (f : UInt8) (l : Bs) (d : Ad) : Prop where
  right : rightA d = true
  bytes : bytesA d = l
  fam : d.1 = f
theorem from_ok2 {f : UInt8} {l : Bs} (h : fromOk f l.length = true) : FromIs f l (fromB f l) := by
  have hv := Pfx.val_lt l
  have e : fromB f l = ofNum f (Px.val l) := by unfold fromB; rw [h]; rfl
  rw [e]
  have hk : (f = 4 ∧ l.length = 4) ∨ (f = 6 ∧ l.length = 16) := by
    simpa [fromOk] using h
  rcases hk with ⟨rfl, hl⟩ | ⟨rfl, hl⟩
  · have hn : num (ofNum 4 (Px.val l)) = Px.val l := num_ofNum 4 _ (by rw [hl] at hv; omega)
    have hr : rightA (ofNum 4 (Px.val l)) = true := rightA_iff.2 (.inr ⟨rfl, by rw [hn]; rw [hl] at hv; omega⟩)
    refine ⟨hr, ?_, rfl⟩
    unfold bytesA
    rw [if_pos hr, hn]
    exact bytesN_val 4 l hl
  · have hn : num (ofNum 6 (Px.val l)) = Px.val l := num_ofNum 6 _ (by rw [hl] at hv; omega)
    have hr : rightA (ofNum 6 (Px.val l)) = true := rightA_iff.2 (.inl rfl)
    refine ⟨hr, ?_, rfl⟩
    unfold bytesA
    rw [if_pos hr, hn]
    exact bytesN_val 16 l hl
theorem from_bytes {a : Ad} (hr : rightA a = true) : fromB a.1 (bytesA a) = a ∧ fromOk a.1 (bytesA a).length = true := by
  have hl := bytes_len hr
  have hok : fromOk a.1 (bytesA a).length = true := by
    rw [hl]
    rcases right_fam hr with h | h <;> rw [h] <;> rfl
  refine ⟨?_, hok⟩
  have h := from_ok2 hok
  refine ad_ext h.fam ?_
  rw [← bytes_val h.right, h.bytes, bytes_val hr]
theorem bytes_eq {a b : Ad} (ha : rightA a = true) (hb : rightA b = true) : decide (bytesA a = bytesA b) = (a == b) := by
  by_cases h : a = b
  · subst h; simp
  · rw [show (a == b) = false from by simpa using h, decide_eq_false]
    intro e
    apply h
    have hl := congrArg List.length e
    rw [bytes_len ha, bytes_len hb] at hl
    have hf : a.1 = b.1 := by
      rcases right_fam ha with h1 | h1 <;> rcases right_fam hb with h2 | h2 <;> rw [h1, h2] at hl ⊢ <;> simp at hl
    refine ad_ext hf ?_
    rw [← bytes_val ha, ← bytes_val hb, e]
theorem text_eqb {a b : Ad} (ha : rightA a = true) (hb : rightA b = true) : decide (textA a = textA b) = (a == b) := by
  by_cases h : a = b
  · subst h; simp
  · rw [show (a == b) = false from by simpa using h, decide_eq_false]
    exact fun e => h (text_inj ha hb e)
/-- The first 2000 bytes of a text. -/
def cutL (s : ByteArray) : Bs := s.data.toList.take 2000
theorem cutL_le (s : ByteArray) : (cutL s).length ≤ 2000 := by unfold cutL; rw [List.length_take]; omega
theorem cut_all {s : ByteArray} (h : ¬ 2000 < s.size) : s = ofBs (cutL s) := by
  refine ByteArray.ext (Array.ext' ?_)
  show s.data.toList = (s.data.toList.take 2000).toArray.toList
  rw [List.take_of_length_le (by have : s.data.toList.length = s.size := rfl; omega)]
theorem cut_some (s : ByteArray) : s.extract 0 2000 = ofBs (cutL s) := by
  refine ByteArray.ext (Array.ext' ?_)
  rw [ByteArray.data_extract, Array.toList_extract, List.extract_eq_take_drop]
  rfl
theorem parse_some {l : Bs} {c : Ad} (h : progParse l = some c) : rightA c = true ∧ textA c = l := (prog_iff l c).1 h
theorem parse_text {a : Ad} (h : rightA a = true) : progParse (textA a) = some a := (prog_iff _ a).2 ⟨h, rfl⟩
theorem text_len (a : Ad) : (textA a).length ≤ 1000 := by
  unfold textA
  split
  · split
    · by_cases h : (run a).2 = 0
      · rw [text6_none a h]
        have := joinC_len 58 (words6 a) (words6_six a)
        rw [words6_len] at this; omega
      · rw [text6_some a h, List.length_append, List.length_cons, List.length_cons]
        have h1 := joinC_len 58 ((words6 a).take (run a).1) (fun x hx => words6_six a x (List.mem_of_mem_take hx))
        have h2 := joinC_len 58 ((words6 a).drop ((run a).1 + (run a).2)) (fun x hx => words6_six a x (List.mem_of_mem_drop hx))
        rw [List.length_take, words6_len] at h1
        rw [List.length_drop, words6_len] at h2
        omega
    · have h1 := joinC_len 46 (words4 a) (fun x hx => by obtain ⟨n, _, rfl⟩ := words4_mem hx; exact digs_len _ _)
      have h2 : (words4 a).length ≤ 16 := by
        unfold words4
        rw [List.length_map]; exact Pfx.bytesA_le a
      omega
  · exact Nat.zero_le _
end Go.Proofs.Tryz.Tx
