/- The statements' own entries; two lists, and what is seen of them: awake. -/
import Derived.Test.YtggcdeabnibibaaMk7
set_option linter.unusedVariables false
set_option linter.unusedSimpArgs false
namespace Go.Proofs.Try.Mg
open Go.RowKit Go.Cph Go.Cph.Skip Go.Cph.So

def sA : ByteArray := ⟨#[97]⟩
def sB : ByteArray := ⟨#[98]⟩
def sC : ByteArray := ⟨#[99]⟩
def sV : ByteArray := ⟨#[118]⟩
abbrev putE' (k : ByteArray) (n : UInt64) : Ent := (k, sV, n, false)
abbrev goneE (k : ByteArray) (n : UInt64) : Ent := (k, ByteArray.empty, n, true)
def AwPost (w : World) (e : Ending) (w' : World) : Prop := e = .returned (.bool true) ∧ Below w.heap.size w w'
theorem put_call (k : ByteArray) (n : Int) (m : UInt64) (hm : n = (m.toNat : Int)) (w : World) : Calls Try.prog 23 #[.string k, .int .u64 n] w fun e w' => e = .returned (encP (putE' k m)) ∧ Below w.heap.size w w' := by
  subst hm
  go_enter Try.func23, Try.ntmps23
  go_wp2_with fail
  exact bodyPost_ret (v := encP (putE' k m)) (by simp [results, Try.results23, go_sem]; rfl) rfl ⟨rfl, (Below.refl _ _).alloc (Nat.le_refl _) _⟩
theorem gone_call (k : ByteArray) (n : Int) (m : UInt64) (hm : n = (m.toNat : Int)) (w : World) : Calls Try.prog 24 #[.string k, .int .u64 n] w fun e w' => e = .returned (encP (goneE k m)) ∧ Below w.heap.size w w' := by
  subst hm
  go_enter Try.func24, Try.ntmps24
  go_wp2_with fail
  exact bodyPost_ret (v := encP (goneE k m)) (by simp [results, Try.results24, go_sem]; rfl) rfl ⟨rfl, (Below.refl _ _).alloc (Nat.le_refl _) _⟩
theorem ents_block {w : World} {b : Nat} {l : List Ent} {E : TypeId} {fr : Nat × Nat} {cur : Array Value} (h : w.heap[b]? = some (.cells cur E fr)) (hc : cur.toList = l.flatMap encC) (n c : Nat) (hn : n = l.length) : EntsAt w (.slice (some ⟨b, 0, none⟩) n c) l := by
  subst hn
  refine ⟨⟨_, _, rfl, fun _ => ⟨b, 0, rfl, fun j hj => ?_⟩⟩, flat_length encC_len _⟩
  rw [Nat.zero_add, blk_cell h, ← hc]; simp
theorem lists_block {w : World} {b : Nat} {ls : List (List Ent)} {E : TypeId} {fr : Nat × Nat} {cur : Array Value} (h : w.heap[b]? = some (.cells cur E fr)) (hl : cur.size = ls.length) (he : ∀ j (h : j < cur.size) (k : j < ls.length), EntsAt w cur[j] ls[j]) (n c : Nat) (hn : n = ls.length) : EntsOf w (.slice (some ⟨b, 0, none⟩) n c) ls := by
  subst hn
  refine ⟨cur.toList, by simpa using hl, ⟨⟨_, _, rfl, fun _ => ⟨b, 0, rfl, fun j hj => ?_⟩⟩, by simpa using hl⟩, fun j hj hk => ?_⟩
  · rw [Nat.zero_add, blk_cell h]; simp
  · have := he j (by simpa using hj) hk
    simpa using this
def exM : List Ent := [goneE sA 5, putE' sA 3, putE' sB 4]
theorem exM_is : mergeL ltE [putE' sA 3, goneE sA 5, putE' sB 4] = exM := by decide +kernel
theorem exM_seen : seenL (mergeL ltE exM) 4 = [(sA, sV, false), (sB, sV, false)] := by decide +kernel
theorem exM_keep : keepL (mergeL ltE exM) true [] = [putE' sB 4] := by decide +kernel
theorem exM_split : splitL 1 exM = [[goneE sA 5, putE' sA 3], [putE' sB 4]] := by decide +kernel
theorem exM_right : rightL exM = true := by rw [rightL_iff]; unfold Strict; decide +kernel

set_option maxRecDepth 100000 in
set_option maxHeartbeats 8000000 in
theorem awake_any (w : World) : Calls Try.prog 10 #[] w (AwPost w) := by
  go_enter Try.func10, Try.ntmps10
  go_wp2_with fail
  refine (put_call sA 3 3 rfl _).mono ?_
  rintro e w1 ⟨rfl, hb⟩
  have HB1 := Lib.hid hb
  clear hb
  go_wp2_with fail
  refine (gone_call sA 5 5 rfl _).mono ?_
  rintro e w2 ⟨rfl, hb⟩
  have H1 := Lib.hid (blk_kept hb (heap_alloc_new _ _))
  have HB2 := Lib.hid (below_step (HB1.out.alloc HB1.out.size _) hb (HB1.out.alloc HB1.out.size _).size)
  obtain ⟨b1, hb1⟩ : ∃ b, b = w1.heap.size := ⟨_, rfl⟩
  rw [← hb1] at H1 ⊢
  clear hb hb1
  go_wp2_with fail
  refine (put_call sB 4 4 rfl _).mono ?_
  rintro e w3 ⟨rfl, hb⟩
  have H2 := Lib.hid (blk_kept hb H1.out)
  have HB3 := Lib.hid (below_step HB2.out hb HB2.out.size)
  clear hb H1
  have HX := Lib.hid (merge_any (.slice (some ⟨w3.heap.size + 1, 0, none⟩) 2 2) [[putE' sA 3], [goneE sA 5, putE' sB 4]] ((w3.alloc (.cells (encC (goneE sA 5) ++ encC (putE' sB 4)).toArray TE)).alloc (.cells #[.slice (some ⟨b1, 0, none⟩) 1 1, .slice (some ⟨w3.heap.size, 0, none⟩) 2 2] TS)) (by
    have g1 := heap_alloc_new (w3.alloc (.cells (encC (goneE sA 5) ++ encC (putE' sB 4)).toArray TE)) (.cells #[.slice (some ⟨b1, 0, none⟩) 1 1, .slice (some ⟨w3.heap.size, 0, none⟩) 2 2] TS)
    rw [World.size_alloc] at g1
    refine lists_block g1 rfl (fun j hj hk => ?_) 2 2 rfl
    rcases (show j = 0 ∨ j = 1 by simp at hj; omega) with rfl | rfl
    · exact ents_block (blk_alloc (blk_alloc H2.out _) _) rfl 1 1 rfl
    · exact ents_block (l := [goneE sA 5, putE' sB 4]) (blk_alloc (heap_alloc_new w3 _) _) rfl 2 2 rfl) (by simp) (by simp))
  have HBX := Lib.hid (show Below w.heap.size w ((w3.alloc (.cells (encC (goneE sA 5) ++ encC (putE' sB 4)).toArray TE)).alloc (.cells #[.slice (some ⟨b1, 0, none⟩) 1 1, .slice (some ⟨w3.heap.size, 0, none⟩) 2 2] TS)) from (HB3.out.alloc HB3.out.size _).alloc (HB3.out.alloc HB3.out.size _).size _)
  go_wp2_with fail
  refine HX.out.mono ?_
  rintro e w4 ⟨v4, rfl, ho, hb⟩
  have HB4 := Lib.hid (below_step HBX.out hb HBX.out.size)
  change w4.ownsRow _ _ _ _ (mergeL ltE [putE' sA 3, goneE sA 5, putE' sB 4]).length ((mergeL ltE [putE' sA 3, goneE sA 5, putE' sB 4]).flatMap encC) at ho
  rw [exM_is] at ho
  have HM4 := Lib.hid (show EntsAt w4 v4 exM from Seg.of_owns ho)
  clear ho hb HX HBX H2 HB3 HB2 HB1
  have HC := Lib.hid (seen_any v4 exM 4 w4 HM4.out (by decide))
  rw [exM_seen] at HC
  obtain ⟨o4, c4, hv4⟩ := elems_slice HM4.out
  subst hv4
  go_wp2_with fail
  refine HC.out.mono ?_
  rintro e w5 ⟨v5, rfl, ho, hb⟩
  have HB5 := Lib.hid (below_step HB4.out hb HB4.out.size)
  have HM5 := Lib.hid (HM4.out.kept hb)
  have HS5 := Lib.hid ho
  clear ho hb HC HM4 HB4
  have HC := Lib.hid (keep_any _ exM true (.slice none 0 0) [] w5 HM5.out (by decide) (Seg.nil _ _) (by simp))
  rw [exM_keep] at HC
  go_wp2_with fail
  refine HC.out.mono ?_
  rintro e w6 ⟨v6, rfl, ho, hb⟩
  have HB6 := Lib.hid (below_step HB5.out hb HB5.out.size)
  have HM6 := Lib.hid (HM5.out.kept hb)
  have HS6 := Lib.hid (HS5.out.kept hb)
  have HK6 := Lib.hid (show EntsAt w6 v6 [putE' sB 4] from Seg.of_owns ho)
  clear ho hb HC HM5 HB5 HS5
  have HC := Lib.hid (split_any _ exM 1 w6 HM6.out (by decide) (by decide +kernel) (by omega) (by omega))
  rw [exM_split] at HC
  go_wp2_with fail
  refine HC.out.mono ?_
  rintro e w7 ⟨v7, vp, p, vs, rfl, ho⟩
  have hb := ho.bel
  have HB7 := Lib.hid (below_step HB6.out hb HB6.out.size)
  have HM7 := Lib.hid (HM6.out.kept hb)
  have HS7 := Lib.hid (HS6.out.kept hb)
  have HK7 := Lib.hid (HK6.out.kept hb)
  have HP7 := Lib.hid ho.done
  clear ho hb HC HM6 HB6 HS6 HK6
  obtain ⟨mb, mo, mc, hve, hcm⟩ := ents_cells HM7.out (by decide)
  cases hve
  have m3 := (hcm 0 (by decide)).c3
  obtain ⟨sb, so, sc, hve, hcs⟩ := elems_shape encO_len HS7.out (by simp)
  subst hve
  have s0 := hcs 0 (by simp) 0 (by omega)
  obtain ⟨kb, ko, kc, hve, hck⟩ := ents_cells HK7.out (by simp)
  subst hve
  have k0 := (hck 0 (by simp)).c0
  obtain ⟨pb, po, pc, hve, hcp⟩ := HP7.out.cell (by simp)
  subst hve
  obtain ⟨u, hu, hue⟩ := hcp 0 (by simp)
  obtain ⟨uo, uc, huv⟩ := elems_slice hue
  subst huv
  have hrt := right_any _ exM w7 HM7.out (by decide)
  rw [exM_right] at hrt
  have HRT := Lib.hid hrt
  have e3 : exM.length = 3 := rfl
  have eA : sA.toList = [97] := by decide +kernel
  have eB : sB.toList = [98] := by decide +kernel
  have m3' : w7.cell? ⟨mb, mo + 3, none⟩ = some (.bool true) := by simpa [exM] using m3
  have s0' : w7.cell? ⟨sb, so, none⟩ = some (.string sA) := by simpa using s0
  have k0' : w7.cell? ⟨kb, ko, none⟩ = some (.string sB) := by simpa using k0
  have hu' : w7.cell? ⟨pb, po, none⟩ = some (.slice uo 2 uc) := by simpa using hu
  clear hrt hcm hcs hck hcp hu hue m3 s0 k0
  go_wp2_with fail
  refine HRT.out.mono ?_
  rintro e w8 ⟨rfl, hb⟩
  have HB8 := Lib.hid (below_step HB7.out hb HB7.out.size)
  clear hb m3' s0' k0' hu'
  go_wp2_with fail
  go_ret
  exact ⟨rfl, HB8.out⟩
end Go.Proofs.Try.Mg
