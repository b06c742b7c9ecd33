/- SkipBetween: the walk. -/
import Derived.Test.YthcakgnendnekaaSkK
open Go.RowKit Go.Cph Go.Cph.Skip
set_option linter.unusedVariables false
set_option linter.unusedSimpArgs false
namespace Go.Proofs.Try.SkS

theorem neq_of {a b : ByteArray} (h : a ≠ b) : (a.toList == b.toList) = false := by rw [beq_toList]; simp [h]

set_option maxRecDepth 100000 in
set_option maxHeartbeats 4000000 in
theorem between (v0 : Value) (acts : List Ac) (key other : ByteArray) (w : World) (hv : ActsAt w v0 acts) (hs : ∀ a ∈ acts, a.key.size ≤ maxLen ∧ a.val.size ≤ maxLen) (hkm : key.size ≤ maxLen) (hom : other.size ≤ maxLen) :
    Calls Try.prog 3 #[v0, .string key, .string other] w (AwakePost w) := by
  unfold maxLen at hkm hom
  have HV := Lib.hid hv
  have hgr := great v0 acts w hv hs
  clear hv
  go_enter Try.func3, Try.ntmps3
  go_wp2_with fail
  refine hgr.mono ?_
  rintro e w1 ⟨⟨g, rfl, hg⟩, hb⟩
  have HV1 := Lib.hid (HV.out.kept hb)
  have HB1 := Lib.hid hb
  clear hb hgr
  have haw := awake w1
  by_cases hc : g = true ∨ 20000 < key.size ∨ 20000 < other.size
  · have hc' : g = true ∨ (g = false ∧ 20000 < key.size) ∨ (g = false ∧ ¬ 20000 < key.size ∧ 20000 < other.size) := by
      cases g
      · rcases hc with h | h | h
        · exact absurd h (by simp)
        · exact .inr (.inl ⟨rfl, h⟩)
        · by_cases h' : 20000 < key.size
          · exact .inr (.inl ⟨rfl, h'⟩)
          · exact .inr (.inr ⟨rfl, h', h⟩)
      · exact .inl rfl
    clear hc hg
    rcases hc' with rfl | ⟨rfl, hc⟩ | ⟨rfl, hc, hc2⟩
    all_goals
      go_wp2_with (go_at_call 10; refine haw.mono ?_; rintro e w2 ⟨rfl, hb⟩)
      go_ret
      exact ⟨rfl, below_step HB1.out hb HB1.out.size⟩
  · have hgf : g = false := by cases g <;> simp_all
    subst hgf
    have hsm := Lib.hid (hg rfl)
    have hc1 : ¬ 20000 < key.size := fun h => hc (.inr (.inl h))
    have hc2 : ¬ 20000 < other.size := fun h => hc (.inr (.inr h))
    have hmade : Calls Try.prog 11 #[v0, .int .i64 3] w1 _ := made v0 acts 3 w1 HV1.out hsm.out.1
    clear hc hg haw
    go_wp2_with (go_at_call 11; refine hmade.mono ?_; rintro e w2 ⟨⟨p, nx, nodes, v, rfl, hat, hln, hkv, hlen, hft⟩, hb⟩)
    have HA := Lib.hid hat
    have HL := Lib.hid hln
    have HB2 := Lib.hid (below_step HB1.out hb HB1.out.size)
    clear hat hln hb hmade hft hkv hlen
    go_wp2_with fail
    refine (cSeek key w2 HA.out HL.out).mono ?_
    rintro e w3 ⟨⟨n, k, x, ok, rfl, hsk, t1⟩, hb⟩
    have HA3 := Lib.hid (HA.out.kept hb)
    have HB3 := Lib.hid (below_step HB2.out hb HB2.out.size)
    have HSK := Lib.hid hsk
    have T1 := Lib.hid t1
    clear hb hsk t1
    go_wp2_with fail
    refine (cAfter key w3 HA3.out HL.out).mono ?_
    rintro e w4 ⟨⟨n', m, u, is, rfl, hnx, t2⟩, hb⟩
    have HA4 := Lib.hid (HA3.out.kept hb)
    have HB4 := Lib.hid (below_step HB3.out hb HB3.out.size)
    have HNX := Lib.hid hnx
    have T2 := Lib.hid t2
    clear hb hnx t2
    go_wp2_with fail
    refine (cGet key w4 HA4.out HL.out).mono ?_
    rintro e w5 ⟨⟨a, k1, x1, there, rfl, h1, t3⟩, hb⟩
    have HA5 := Lib.hid (HA4.out.kept hb)
    have HB5 := Lib.hid (below_step HB4.out hb HB4.out.size)
    have H1 := Lib.hid h1
    have T3 := Lib.hid t3
    clear hb h1 t3
    go_wp2_with fail
    refine (cGet other w5 HA5.out HL.out).mono ?_
    rintro e w6 ⟨⟨b, k2, x2, some', rfl, h2, t4⟩, hb⟩
    have HA6 := Lib.hid (HA5.out.kept hb)
    have HB6 := Lib.hid (below_step HB5.out hb HB5.out.size)
    have hbet := betw HL.out HSK.out T1.out HNX.out T2.out H1.out T3.out h2 t4
    clear hb h2 t4
    rcases hbet with ⟨rfl, rfl, rfl, rfl, rfl, rfl, rfl, hso⟩ | ⟨rfl, rfl, rfl, rfl, rfl, q1, q2, hso⟩ | ⟨rfl, rfl, rfl, hso⟩
    · have haw := awake w6
      have z1 : (ByteArray.empty.toList == ByteArray.empty.toList) = true := by simp
      rcases hso with rfl | ⟨rfl, hlt⟩
      · go_wp2_with (go_at_call 10; refine haw.mono ?_; rintro e w7 ⟨rfl, hb⟩)
        go_ret
        exact ⟨rfl, below_step HB6.out hb HB6.out.size⟩
      · have hlt : Op.bytesLess other.toList key.toList = true := hlt
        go_wp2_with (go_at_call 10; refine haw.mono ?_; rintro e w7 ⟨rfl, hb⟩)
        go_ret
        exact ⟨rfl, below_step HB6.out hb HB6.out.size⟩
    · have q1 : Op.bytesLess m.toList key.toList = false := q1
      have q3 := neq_of q2
      have z1 : (m.toList == m.toList) = true := by simp
      have z2 : (u.toList == u.toList) = true := by simp
      have hall : ∀ (c2 c3 : Bool), Op.bytesLess other.toList key.toList = c2 → Op.bytesLess other.toList m.toList = c3 → True := fun _ _ _ _ => trivial
      go_wp2_with fail
      refine (cGet m w6 HA6.out HL.out).mono ?_
      rintro e w7 ⟨⟨c, k3, x3, at', rfl, h5, t5⟩, hb⟩
      obtain ⟨rfl, rfl⟩ := betw_get HL.out T1.out h5 t5
      have HB7 := Lib.hid (below_step HB6.out hb HB6.out.size)
      have haw := awake w7
      clear hb h5 t5 hall q2
      rcases hso with rfl | ⟨rfl, hlt | ⟨hlt, hlt2⟩⟩
      · go_wp2_with (go_at_call 10; refine haw.mono ?_; rintro e w7 ⟨rfl, hb⟩)
        go_ret
        exact ⟨rfl, below_step HB7.out hb HB7.out.size⟩
      · have hlt : Op.bytesLess other.toList key.toList = true := hlt
        go_wp2_with (go_at_call 10; refine haw.mono ?_; rintro e w7 ⟨rfl, hb⟩)
        go_ret
        exact ⟨rfl, below_step HB7.out hb HB7.out.size⟩
      · have hlt : Op.bytesLess other.toList key.toList = false := hlt
        have hlt2 : Op.bytesLess other.toList m.toList = false := hlt2
        go_wp2_with (go_at_call 10; refine haw.mono ?_; rintro e w7 ⟨rfl, hb⟩)
        go_ret
        exact ⟨rfl, below_step HB7.out hb HB7.out.size⟩
    · have z0 : Op.bytesLess k.toList k.toList = false := bl_irrefl _
      have z1 : (k.toList == k.toList) = true := by simp
      go_wp2_with fail
      refine (cGet k w6 HA6.out HL.out).mono ?_
      rintro e w7 ⟨⟨c, k3, x3, at', rfl, h5, t5⟩, hb⟩
      obtain ⟨rfl, rfl⟩ := betw_get HL.out T1.out h5 t5
      have HB7 := Lib.hid (below_step HB6.out hb HB6.out.size)
      have haw := awake w7
      have z2 : (x3.toList == x3.toList) = true := by simp
      clear hb h5 t5
      rcases hso with ⟨rfl, rfl | ⟨rfl, hlt | rfl⟩⟩ | ⟨rfl, hm, rfl | ⟨rfl, hlt | rfl | ⟨hlt, hlt2⟩⟩⟩
      · go_wp2_with (go_at_call 10; refine haw.mono ?_; rintro e w7 ⟨rfl, hb⟩)
        go_ret
        exact ⟨rfl, below_step HB7.out hb HB7.out.size⟩
      · have hlt : Op.bytesLess other.toList k.toList = true := hlt
        go_wp2_with (go_at_call 10; refine haw.mono ?_; rintro e w7 ⟨rfl, hb⟩)
        go_ret
        exact ⟨rfl, below_step HB7.out hb HB7.out.size⟩
      · go_wp2_with (go_at_call 10; refine haw.mono ?_; rintro e w7 ⟨rfl, hb⟩)
        go_ret
        exact ⟨rfl, below_step HB7.out hb HB7.out.size⟩
      all_goals
        have y1 : Op.bytesLess m.toList _ = false := klt_asymm hm
        have y2 := neq_of (show m ≠ _ from fun e => by rw [e, klt_irrefl] at hm; exact absurd hm (by simp))
      · go_wp2_with (go_at_call 10; refine haw.mono ?_; rintro e w7 ⟨rfl, hb⟩)
        go_ret
        exact ⟨rfl, below_step HB7.out hb HB7.out.size⟩
      · have hlt : Op.bytesLess other.toList k.toList = true := hlt
        go_wp2_with (go_at_call 10; refine haw.mono ?_; rintro e w7 ⟨rfl, hb⟩)
        go_ret
        exact ⟨rfl, below_step HB7.out hb HB7.out.size⟩
      · go_wp2_with (go_at_call 10; refine haw.mono ?_; rintro e w7 ⟨rfl, hb⟩)
        go_ret
        exact ⟨rfl, below_step HB7.out hb HB7.out.size⟩
      · have hlt' : Op.bytesLess other.toList k.toList = false := klt_asymm hlt
        have hlt3 := neq_of (show other ≠ k from fun e => by rw [e, klt_irrefl] at hlt; exact absurd hlt (by simp))
        have hlt2 : Op.bytesLess other.toList m.toList = false := hlt2
        go_wp2_with (go_at_call 10; refine haw.mono ?_; rintro e w7 ⟨rfl, hb⟩)
        go_ret
        exact ⟨rfl, below_step HB7.out hb HB7.out.size⟩
end Go.Proofs.Try.SkS
