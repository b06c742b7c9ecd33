/- MergeKnown: the walk. -/
import Derived.Test.YtggcdeabnibibaaMz1
set_option linter.unusedVariables false
set_option linter.unusedSimpArgs false
namespace Go.Proofs.Try.Mg
open Go.RowKit Go.Cph Go.Cph.Skip Go.Cph.So

def sW : ByteArray := ⟨#[119]⟩
def kA : List Ent := [putE' sA 5, putE' sA 4, putE' sA 3, putE' sB 9]
def kL : List Ent := [goneE sA 7, putE' sA 5, putE' sB 9]
def kM : List Ent := [putE' sA 9, putE' sA 7, putE' sA 5, putE' sA 3]
def kN : List Ent := [goneE sA 9, putE' sA 7]
def kG : List Ent := [putE' sA 9, goneE sA 7]
def kP : List Ent := [putE' sA 5, putE' sA 3, putE' sB 9, putE' sC 1]
theorem k_merge : mergeL ltE [putE' sA 5, putE' sA 3, putE' sB 9, (sA, sW, 5, false), putE' sA 4] = kA := by decide +kernel
theorem k_seen9 : seenL (mergeL ltE kL) 9 = [(sB, sV, false)] := by decide +kernel
theorem k_seen6 : seenL (mergeL ltE kL) 6 = [(sA, sV, false), (sB, sV, false)] ∨ True := .inr trivial
theorem k_seen6' : seenL (mergeL ltE kL) 6 = [(sA, sV, false)] := by decide +kernel
theorem k_seen4 : seenL (mergeL ltE kL) 4 = [] := by decide +kernel
theorem k_keep0 : keepL (mergeL ltE kM) false [] = [putE' sA 9] := by decide +kernel
theorem k_keep6 : keepL (mergeL ltE kM) false [6] = [putE' sA 9, putE' sA 5] := by decide +kernel
theorem k_keep64 : keepL (mergeL ltE kM) false [6, 4] = [putE' sA 9, putE' sA 5, putE' sA 3] := by decide +kernel
theorem k_keepN : keepL (mergeL ltE kN) true [] = [] := by decide +kernel
theorem k_keepN8 : keepL (mergeL ltE kN) true [8] = [goneE sA 9, putE' sA 7] := by decide +kernel
theorem k_keepG : keepL (mergeL ltE kG) true [8] = [putE' sA 9] := by decide +kernel
theorem k_split : splitL 2 kP = [[putE' sA 5, putE' sA 3], [putE' sB 9], [putE' sC 1]] := by decide +kernel
def NewRowAt (base : Nat) (w : World) (v : Value) (l : List Ent) : Prop := w.ownsRow base TE 4 v l.length (l.flatMap encC)
theorem ops_block {w : World} {b : Nat} {l : List Opp} {E : TypeId} {fr : Nat × Nat} {cur : Array Value} (h : w.heap[b]? = some (.cells cur E fr)) (hc : cur.toList = l.flatMap encO) (n c : Nat) (hn : n = l.length) : OpsAt w (.slice (some ⟨b, 0, none⟩) n c) l := by
  subst hn
  refine ⟨⟨_, _, rfl, fun _ => ⟨b, 0, rfl, fun j hj => ?_⟩⟩, flat_length encO_len _⟩
  rw [Nat.zero_add, blk_cell h, ← hc]; simp
theorem nums_block {w : World} {b : Nat} {l : List UInt64} {E : TypeId} {fr : Nat × Nat} {cur : Array Value} (h : w.heap[b]? = some (.cells cur E fr)) (hc : cur.toList = l.flatMap encN) (n c : Nat) (hn : n = l.length) : NumsAt w (.slice (some ⟨b, 0, none⟩) n c) l := by
  subst hn
  refine ⟨⟨_, _, rfl, fun _ => ⟨b, 0, rfl, fun j hj => ?_⟩⟩, flat_length encN_len _⟩
  rw [Nat.zero_add, blk_cell h, ← hc]; simp

set_option maxRecDepth 100000 in
set_option maxHeartbeats 30000000 in
theorem known_walk (w : World) : Calls Try.prog 6 #[] w (AwPost w) := by
  go_enter Try.func6, Try.ntmps6
  go_wp2_with fail
  refine (put_call sA 5 5 rfl _).mono ?_
  rintro e w1 ⟨rfl, hb⟩
  have hbW := hb
  have HB_1 := Lib.hid hbW
  clear hb hbW
  go_wp2_with fail
  refine (put_call sA 3 3 rfl _).mono ?_
  rintro e w2 ⟨rfl, hb⟩
  have hbW := hb
  have HB_2 := Lib.hid (below_step HB_1.out hbW HB_1.out.size)
  clear hb hbW
  go_wp2_with fail
  refine (put_call sB 9 9 rfl _).mono ?_
  rintro e w3 ⟨rfl, hb⟩
  have hbW := below_step ((Below.refl w2.heap.size w2).alloc (Nat.le_refl _) _) hb (Nat.le_of_lt (by simp))
  have Hs1_3 := Lib.hid (blk_kept hb (heap_alloc_new w2 (.cells (encC (putE' sA 5) ++ encC (putE' sA 3)).toArray TE)))
  have HB_3 := Lib.hid (below_step HB_2.out hbW HB_2.out.size)
  obtain ⟨s1b, hs1b⟩ : ∃ b, b = w2.heap.size := ⟨_, rfl⟩
  rw [← hs1b]
  try rw [← hs1b] at Hs1_3
  clear hs1b
  clear hb hbW
  go_wp2_with fail
  refine (put_call sA 4 4 rfl _).mono ?_
  rintro e w4 ⟨rfl, hb⟩
  have hbW := below_step ((Below.refl w3.heap.size w3).alloc (Nat.le_refl _) _) hb (Nat.le_of_lt (by simp))
  have Hs2_4 := Lib.hid (blk_kept hb (heap_alloc_new w3 (.cells (encC (putE' sB 9)).toArray TE)))
  have Hs1_4 := Lib.hid (blk_kept hbW Hs1_3.out)
  have HB_4 := Lib.hid (below_step HB_3.out hbW HB_3.out.size)
  obtain ⟨s2b, hs2b⟩ : ∃ b, b = w3.heap.size := ⟨_, rfl⟩
  rw [← hs2b]
  try rw [← hs2b] at Hs2_4
  clear hs2b
  clear hb hbW
  have HX := Lib.hid (merge_any (.slice (some ⟨w4.heap.size + 1, 0, none⟩) 3 3) [[putE' sA 5, putE' sA 3], [putE' sB 9], [(sA, sW, 5, false), putE' sA 4]] ((w4.alloc (.cells (encC ((sA, sW, 5, false) : Ent) ++ encC (putE' sA 4)).toArray TE)).alloc (.cells #[.slice (some ⟨s1b, 0, none⟩) 2 2, .slice (some ⟨s2b, 0, none⟩) 1 1, .slice (some ⟨w4.heap.size, 0, none⟩) 2 2] TS)) (by
    refine lists_block (show ((w4.alloc (.cells (encC ((sA, sW, 5, false) : Ent) ++ encC (putE' sA 4)).toArray TE)).alloc (.cells #[.slice (some ⟨s1b, 0, none⟩) 2 2, .slice (some ⟨s2b, 0, none⟩) 1 1, .slice (some ⟨w4.heap.size, 0, none⟩) 2 2] TS)).heap[w4.heap.size + 1]? = some (.cells #[.slice (some ⟨s1b, 0, none⟩) 2 2, .slice (some ⟨s2b, 0, none⟩) 1 1, .slice (some ⟨w4.heap.size, 0, none⟩) 2 2] TS (0, 0)) from by have h := (heap_alloc_new (w4.alloc (.cells (encC ((sA, sW, 5, false) : Ent) ++ encC (putE' sA 4)).toArray TE)) (.cells #[.slice (some ⟨s1b, 0, none⟩) 2 2, .slice (some ⟨s2b, 0, none⟩) 1 1, .slice (some ⟨w4.heap.size, 0, none⟩) 2 2] TS)); simp only [World.size_alloc] at h; exact h) rfl (fun j hj hk => ?_) 3 3 rfl
    rcases (show j = 0 ∨ j = 1 ∨ j = 2 by simp at hj; omega) with rfl | rfl | rfl
    · exact ents_block (l := [putE' sA 5, putE' sA 3]) (blk_alloc (blk_alloc Hs1_4.out _) _) rfl 2 2 rfl
    · exact ents_block (l := [putE' sB 9]) (blk_alloc (blk_alloc Hs2_4.out _) _) rfl 1 1 rfl
    · exact ents_block (l := [(sA, sW, 5, false), putE' sA 4]) (blk_alloc (heap_alloc_new w4 (.cells (encC ((sA, sW, 5, false) : Ent) ++ encC (putE' sA 4)).toArray TE)) _) rfl 2 2 rfl) (by simp) (by simp))
  go_wp2_with fail
  refine (HX.out).mono ?_
  rintro e w5 ⟨v1, rfl, ho, hb⟩
  have hbW := below_step (((Below.refl w4.heap.size w4).alloc (Nat.le_refl _) _).alloc (by simp) _) hb (by simp; omega)
  have Hs3_5 := Lib.hid (blk_kept hb (blk_alloc (heap_alloc_new w4 (.cells (encC ((sA, sW, 5, false) : Ent) ++ encC (putE' sA 4)).toArray TE)) _))
  have Ho1_5 := Lib.hid (blk_kept hb (show ((w4.alloc (.cells (encC ((sA, sW, 5, false) : Ent) ++ encC (putE' sA 4)).toArray TE)).alloc (.cells #[.slice (some ⟨s1b, 0, none⟩) 2 2, .slice (some ⟨s2b, 0, none⟩) 1 1, .slice (some ⟨w4.heap.size, 0, none⟩) 2 2] TS)).heap[w4.heap.size + 1]? = some (.cells #[.slice (some ⟨s1b, 0, none⟩) 2 2, .slice (some ⟨s2b, 0, none⟩) 1 1, .slice (some ⟨w4.heap.size, 0, none⟩) 2 2] TS (0, 0)) from by have h := (heap_alloc_new (w4.alloc (.cells (encC ((sA, sW, 5, false) : Ent) ++ encC (putE' sA 4)).toArray TE)) (.cells #[.slice (some ⟨s1b, 0, none⟩) 2 2, .slice (some ⟨s2b, 0, none⟩) 1 1, .slice (some ⟨w4.heap.size, 0, none⟩) 2 2] TS)); simp only [World.size_alloc] at h; exact h))
  have Hs1_5 := Lib.hid (blk_kept hbW Hs1_4.out)
  have Hs2_5 := Lib.hid (blk_kept hbW Hs2_4.out)
  have HB_5 := Lib.hid (below_step HB_4.out hbW HB_4.out.size)
  obtain ⟨o1b, ho1b⟩ : ∃ b, b = w4.heap.size + 1 := ⟨_, rfl⟩
  rw [← ho1b]
  try rw [← ho1b] at Hs3_5
  try rw [← ho1b] at Ho1_5
  clear ho1b
  obtain ⟨s3b, hs3b⟩ : ∃ b, b = w4.heap.size := ⟨_, rfl⟩
  rw [← hs3b]
  try rw [← hs3b] at Hs3_5
  try rw [← hs3b] at Ho1_5
  clear hs3b
  change NewRowAt _ _ _ (mergeL ltE [putE' sA 5, putE' sA 3, putE' sB 9, (sA, sW, 5, false), putE' sA 4]) at ho
  unfold NewRowAt at ho
  rw [k_merge] at ho
  have HA_5 := Lib.hid (show EntsAt w5 v1 kA from Seg.of_owns ho)
  clear hb hbW ho
  clear Hs1_5
  clear Hs2_5
  clear Hs3_5
  clear Ho1_5
  clear HX
  go_wp2_with fail
  refine (gone_call sA 7 7 rfl _).mono ?_
  rintro e w6 ⟨rfl, hb⟩
  have hbW := hb
  have HA_6 := Lib.hid (HA_5.out.kept hbW)
  have HB_6 := Lib.hid (below_step HB_5.out hbW HB_5.out.size)
  clear hb hbW
  go_wp2_with fail
  refine (put_call sA 5 5 rfl _).mono ?_
  rintro e w7 ⟨rfl, hb⟩
  have hbW := hb
  have HA_7 := Lib.hid (HA_6.out.kept hbW)
  have HB_7 := Lib.hid (below_step HB_6.out hbW HB_6.out.size)
  clear hb hbW
  go_wp2_with fail
  refine (put_call sB 9 9 rfl _).mono ?_
  rintro e w8 ⟨rfl, hb⟩
  have hbW := hb
  have HA_8 := Lib.hid (HA_7.out.kept hbW)
  have HB_8 := Lib.hid (below_step HB_7.out hbW HB_7.out.size)
  clear hb hbW
  go_wp2_with fail
  refine (put_call sA 5 5 rfl _).mono ?_
  rintro e w9 ⟨rfl, hb⟩
  have hbW := below_step ((Below.refl w8.heap.size w8).alloc (Nat.le_refl _) _) hb (Nat.le_of_lt (by simp))
  have Hl_9 := Lib.hid (blk_kept hb (heap_alloc_new w8 (.cells (encC (goneE sA 7) ++ encC (putE' sA 5) ++ encC (putE' sB 9)).toArray TE)))
  have HA_9 := Lib.hid (HA_8.out.kept hbW)
  have HB_9 := Lib.hid (below_step HB_8.out hbW HB_8.out.size)
  obtain ⟨lb, hlb⟩ : ∃ b, b = w8.heap.size := ⟨_, rfl⟩
  rw [← hlb]
  try rw [← hlb] at Hl_9
  clear hlb
  clear hb hbW
  go_wp2_with fail
  refine (put_call sA 4 4 rfl _).mono ?_
  rintro e w10 ⟨rfl, hb⟩
  have hbW := hb
  have HA_10 := Lib.hid (HA_9.out.kept hbW)
  have Hl_10 := Lib.hid (blk_kept hbW Hl_9.out)
  have HB_10 := Lib.hid (below_step HB_9.out hbW HB_9.out.size)
  clear hb hbW
  go_wp2_with fail
  refine (put_call sA 3 3 rfl _).mono ?_
  rintro e w11 ⟨rfl, hb⟩
  have hbW := hb
  have HA_11 := Lib.hid (HA_10.out.kept hbW)
  have Hl_11 := Lib.hid (blk_kept hbW Hl_10.out)
  have HB_11 := Lib.hid (below_step HB_10.out hbW HB_10.out.size)
  clear hb hbW
  go_wp2_with fail
  refine (put_call sB 9 9 rfl _).mono ?_
  rintro e w12 ⟨rfl, hb⟩
  have hbW := hb
  have HA_12 := Lib.hid (HA_11.out.kept hbW)
  have Hl_12 := Lib.hid (blk_kept hbW Hl_11.out)
  have HB_12 := Lib.hid (below_step HB_11.out hbW HB_11.out.size)
  clear hb hbW
  have HX := Lib.hid (same v1 (.slice (some ⟨w12.heap.size, 0, none⟩) 4 4) kA kA (w12.alloc (.cells (encC (putE' sA 5) ++ encC (putE' sA 4) ++ encC (putE' sA 3) ++ encC (putE' sB 9)).toArray TE)) (HA_12.out.kept ((Below.refl w12.heap.size w12).alloc (Nat.le_refl _) _)) (ents_block (l := kA) (heap_alloc_new w12 (.cells (encC (putE' sA 5) ++ encC (putE' sA 4) ++ encC (putE' sA 3) ++ encC (putE' sB 9)).toArray TE)) rfl 4 4 rfl) (by decide) (by decide))
  simp only [decide_true] at HX
  obtain ⟨oA, cA, hvA⟩ := elems_slice HA_12.out
  subst hvA
  go_wp2_with fail
  refine (HX.out).mono ?_
  rintro e w13 ⟨rfl, hb⟩
  have hbW := below_step ((Below.refl w12.heap.size w12).alloc (Nat.le_refl _) _) hb (Nat.le_of_lt (by simp))
  have Hq_13 := Lib.hid (blk_kept hb (heap_alloc_new w12 (.cells (encC (putE' sA 5) ++ encC (putE' sA 4) ++ encC (putE' sA 3) ++ encC (putE' sB 9)).toArray TE)))
  have HA_13 := Lib.hid (HA_12.out.kept hbW)
  have Hl_13 := Lib.hid (blk_kept hbW Hl_12.out)
  have HB_13 := Lib.hid (below_step HB_12.out hbW HB_12.out.size)
  obtain ⟨qb, hqb⟩ : ∃ b, b = w12.heap.size := ⟨_, rfl⟩
  rw [← hqb]
  try rw [← hqb] at Hq_13
  clear hqb
  clear hb hbW
  clear Hq_13
  clear HA_13
  clear HX
  have HX := Lib.hid (seen_any (.slice (some ⟨lb, 0, none⟩) 3 3) kL 9 w13 (ents_block (l := kL) Hl_13.out rfl 3 3 rfl) (by decide))
  rw [k_seen9] at HX
  go_wp2_with fail
  refine (HX.out).mono ?_
  rintro e w14 ⟨x1, rfl, ho, hb⟩
  have hbW := hb
  have Hl_14 := Lib.hid (blk_kept hbW Hl_13.out)
  have HB_14 := Lib.hid (below_step HB_13.out hbW HB_13.out.size)
  have HOx1_14 := Lib.hid ho
  clear hb hbW ho
  obtain ⟨ox1, cx1, hvx1⟩ := elems_slice HOx1_14.out
  subst hvx1
  clear HX
  have HX := Lib.hid (ops (.slice ox1 1 cx1) (.slice (some ⟨w14.heap.size, 0, none⟩) 1 1) [(sB, sV, false)] [(sB, sV, false)] (w14.alloc (.cells #[.string sB, .string sV, .bool false] 45)) (HOx1_14.out.kept ((Below.refl w14.heap.size w14).alloc (Nat.le_refl _) _)) (ops_block (l := [(sB, sV, false)]) (heap_alloc_new w14 (.cells #[.string sB, .string sV, .bool false] 45)) rfl 1 1 rfl) (by decide) (by decide))
  simp only [decide_true] at HX
  go_wp2_with fail
  refine (HX.out).mono ?_
  rintro e w15 ⟨rfl, hb⟩
  have hbW := below_step ((Below.refl w14.heap.size w14).alloc (Nat.le_refl _) _) hb (Nat.le_of_lt (by simp))
  have Hp_15 := Lib.hid (blk_kept hb (heap_alloc_new w14 (.cells #[.string sB, .string sV, .bool false] 45)))
  have Hl_15 := Lib.hid (blk_kept hbW Hl_14.out)
  have HOx1_15 := Lib.hid (HOx1_14.out.kept hbW)
  have HB_15 := Lib.hid (below_step HB_14.out hbW HB_14.out.size)
  obtain ⟨pb, hpb⟩ : ∃ b, b = w14.heap.size := ⟨_, rfl⟩
  rw [← hpb]
  try rw [← hpb] at Hp_15
  clear hpb
  clear hb hbW
  clear Hp_15
  clear HOx1_15
  clear HX
  have HX := Lib.hid (seen_any (.slice (some ⟨lb, 0, none⟩) 3 3) kL 6 w15 (ents_block (l := kL) Hl_15.out rfl 3 3 rfl) (by decide))
  rw [k_seen6'] at HX
  go_wp2_with fail
  refine (HX.out).mono ?_
  rintro e w16 ⟨x2, rfl, ho, hb⟩
  have hbW := hb
  have Hl_16 := Lib.hid (blk_kept hbW Hl_15.out)
  have HB_16 := Lib.hid (below_step HB_15.out hbW HB_15.out.size)
  have HOx2_16 := Lib.hid ho
  clear hb hbW ho
  obtain ⟨ox2, cx2, hvx2⟩ := elems_slice HOx2_16.out
  subst hvx2
  clear HX
  have HX := Lib.hid (ops (.slice ox2 1 cx2) (.slice (some ⟨w16.heap.size, 0, none⟩) 1 1) [(sA, sV, false)] [(sA, sV, false)] (w16.alloc (.cells #[.string sA, .string sV, .bool false] 45)) (HOx2_16.out.kept ((Below.refl w16.heap.size w16).alloc (Nat.le_refl _) _)) (ops_block (l := [(sA, sV, false)]) (heap_alloc_new w16 (.cells #[.string sA, .string sV, .bool false] 45)) rfl 1 1 rfl) (by decide) (by decide))
  simp only [decide_true] at HX
  go_wp2_with fail
  refine (HX.out).mono ?_
  rintro e w17 ⟨rfl, hb⟩
  have hbW := below_step ((Below.refl w16.heap.size w16).alloc (Nat.le_refl _) _) hb (Nat.le_of_lt (by simp))
  have Hp_17 := Lib.hid (blk_kept hb (heap_alloc_new w16 (.cells #[.string sA, .string sV, .bool false] 45)))
  have Hl_17 := Lib.hid (blk_kept hbW Hl_16.out)
  have HOx2_17 := Lib.hid (HOx2_16.out.kept hbW)
  have HB_17 := Lib.hid (below_step HB_16.out hbW HB_16.out.size)
  obtain ⟨pb, hpb⟩ : ∃ b, b = w16.heap.size := ⟨_, rfl⟩
  rw [← hpb]
  try rw [← hpb] at Hp_17
  clear hpb
  clear hb hbW
  clear Hp_17
  clear HOx2_17
  clear HX
  have HX := Lib.hid (seen_any (.slice (some ⟨lb, 0, none⟩) 3 3) kL 4 w17 (ents_block (l := kL) Hl_17.out rfl 3 3 rfl) (by decide))
  rw [k_seen4] at HX
  go_wp2_with fail
  refine (HX.out).mono ?_
  rintro e w18 ⟨x3, rfl, ho, hb⟩
  have hbW := hb
  have Hl_18 := Lib.hid (blk_kept hbW Hl_17.out)
  have HB_18 := Lib.hid (below_step HB_17.out hbW HB_17.out.size)
  have HOx3_18 := Lib.hid ho
  clear hb hbW ho
  obtain ⟨ox3, cx3, hvx3⟩ := elems_slice HOx3_18.out
  subst hvx3
  clear HX
  clear HOx3_18
  clear Hl_18
  go_wp2_with fail
  refine (put_call sA 9 9 rfl _).mono ?_
  rintro e w19 ⟨rfl, hb⟩
  have hbW := hb
  have HB_19 := Lib.hid (below_step HB_18.out hbW HB_18.out.size)
  clear hb hbW
  go_wp2_with fail
  refine (put_call sA 7 7 rfl _).mono ?_
  rintro e w20 ⟨rfl, hb⟩
  have hbW := hb
  have HB_20 := Lib.hid (below_step HB_19.out hbW HB_19.out.size)
  clear hb hbW
  go_wp2_with fail
  refine (put_call sA 5 5 rfl _).mono ?_
  rintro e w21 ⟨rfl, hb⟩
  have hbW := hb
  have HB_21 := Lib.hid (below_step HB_20.out hbW HB_20.out.size)
  clear hb hbW
  go_wp2_with fail
  refine (put_call sA 3 3 rfl _).mono ?_
  rintro e w22 ⟨rfl, hb⟩
  have hbW := hb
  have HB_22 := Lib.hid (below_step HB_21.out hbW HB_21.out.size)
  clear hb hbW
  have HX := Lib.hid (keep_any (.slice (some ⟨w22.heap.size, 0, none⟩) 4 4) kM false (.slice none 0 0) [] (w22.alloc (.cells (encC (putE' sA 9) ++ encC (putE' sA 7) ++ encC (putE' sA 5) ++ encC (putE' sA 3)).toArray TE)) (ents_block (l := kM) (heap_alloc_new w22 (.cells (encC (putE' sA 9) ++ encC (putE' sA 7) ++ encC (putE' sA 5) ++ encC (putE' sA 3)).toArray TE)) rfl 4 4 rfl) (by decide) (Seg.nil _ _) (by decide))
  rw [k_keep0] at HX
  go_wp2_with fail
  refine (HX.out).mono ?_
  rintro e w23 ⟨y1, rfl, ho, hb⟩
  have hbW := below_step ((Below.refl w22.heap.size w22).alloc (Nat.le_refl _) _) hb (Nat.le_of_lt (by simp))
  have Hm_23 := Lib.hid (blk_kept hb (heap_alloc_new w22 (.cells (encC (putE' sA 9) ++ encC (putE' sA 7) ++ encC (putE' sA 5) ++ encC (putE' sA 3)).toArray TE)))
  have HB_23 := Lib.hid (below_step HB_22.out hbW HB_22.out.size)
  obtain ⟨mb, hmb⟩ : ∃ b, b = w22.heap.size := ⟨_, rfl⟩
  rw [← hmb]
  try rw [← hmb] at Hm_23
  clear hmb
  have HOy1_23 := Lib.hid (show EntsAt w23 y1 [putE' sA 9] from Seg.of_owns ho)
  clear hb hbW ho
  obtain ⟨oy1, cy1, hvy1⟩ := elems_slice HOy1_23.out
  subst hvy1
  clear HX
  have HX := Lib.hid (keep_any (.slice (some ⟨mb, 0, none⟩) 4 4) kM false (.slice (some ⟨w23.heap.size, 0, none⟩) 1 1) [6] (w23.alloc (.cells #[.int .u64 6] 30)) (ents_block (l := kM) (blk_alloc Hm_23.out _) rfl 4 4 rfl) (by decide) (nums_block (l := [6]) (heap_alloc_new w23 (.cells #[.int .u64 6] 30)) rfl 1 1 rfl) (by decide))
  rw [k_keep6] at HX
  go_wp2_with fail
  refine (HX.out).mono ?_
  rintro e w24 ⟨y2, rfl, ho, hb⟩
  have hbW := below_step ((Below.refl w23.heap.size w23).alloc (Nat.le_refl _) _) hb (Nat.le_of_lt (by simp))
  have Hnn_24 := Lib.hid (blk_kept hb (heap_alloc_new w23 (.cells #[.int .u64 6] 30)))
  have Hm_24 := Lib.hid (blk_kept hbW Hm_23.out)
  have HOy1_24 := Lib.hid (HOy1_23.out.kept hbW)
  have HB_24 := Lib.hid (below_step HB_23.out hbW HB_23.out.size)
  obtain ⟨nnb, hnnb⟩ : ∃ b, b = w23.heap.size := ⟨_, rfl⟩
  rw [← hnnb]
  try rw [← hnnb] at Hnn_24
  clear hnnb
  have HOy2_24 := Lib.hid (show EntsAt w24 y2 [putE' sA 9, putE' sA 5] from Seg.of_owns ho)
  clear hb hbW ho
  obtain ⟨oy2, cy2, hvy2⟩ := elems_slice HOy2_24.out
  subst hvy2
  clear HX
  clear Hnn_24
  have HX := Lib.hid (keep_any (.slice (some ⟨mb, 0, none⟩) 4 4) kM false (.slice (some ⟨w24.heap.size, 0, none⟩) 2 2) [6, 4] (w24.alloc (.cells #[.int .u64 6, .int .u64 4] 30)) (ents_block (l := kM) (blk_alloc Hm_24.out _) rfl 4 4 rfl) (by decide) (nums_block (l := [6, 4]) (heap_alloc_new w24 (.cells #[.int .u64 6, .int .u64 4] 30)) rfl 2 2 rfl) (by decide))
  rw [k_keep64] at HX
  go_wp2_with fail
  refine (HX.out).mono ?_
  rintro e w25 ⟨y3, rfl, ho, hb⟩
  have hbW := below_step ((Below.refl w24.heap.size w24).alloc (Nat.le_refl _) _) hb (Nat.le_of_lt (by simp))
  have Hnn_25 := Lib.hid (blk_kept hb (heap_alloc_new w24 (.cells #[.int .u64 6, .int .u64 4] 30)))
  have Hm_25 := Lib.hid (blk_kept hbW Hm_24.out)
  have HOy1_25 := Lib.hid (HOy1_24.out.kept hbW)
  have HOy2_25 := Lib.hid (HOy2_24.out.kept hbW)
  have HB_25 := Lib.hid (below_step HB_24.out hbW HB_24.out.size)
  obtain ⟨nnb, hnnb⟩ : ∃ b, b = w24.heap.size := ⟨_, rfl⟩
  rw [← hnnb]
  try rw [← hnnb] at Hnn_25
  clear hnnb
  have HOy3_25 := Lib.hid (show EntsAt w25 y3 [putE' sA 9, putE' sA 5, putE' sA 3] from Seg.of_owns ho)
  clear hb hbW ho
  obtain ⟨oy3, cy3, hvy3⟩ := elems_slice HOy3_25.out
  subst hvy3
  clear HX
  clear Hnn_25
  clear Hm_25
  go_wp2_with fail
  refine (gone_call sA 9 9 rfl _).mono ?_
  rintro e w26 ⟨rfl, hb⟩
  have hbW := hb
  have HOy1_26 := Lib.hid (HOy1_25.out.kept hbW)
  have HOy2_26 := Lib.hid (HOy2_25.out.kept hbW)
  have HOy3_26 := Lib.hid (HOy3_25.out.kept hbW)
  have HB_26 := Lib.hid (below_step HB_25.out hbW HB_25.out.size)
  clear hb hbW
  go_wp2_with fail
  refine (put_call sA 7 7 rfl _).mono ?_
  rintro e w27 ⟨rfl, hb⟩
  have hbW := hb
  have HOy1_27 := Lib.hid (HOy1_26.out.kept hbW)
  have HOy2_27 := Lib.hid (HOy2_26.out.kept hbW)
  have HOy3_27 := Lib.hid (HOy3_26.out.kept hbW)
  have HB_27 := Lib.hid (below_step HB_26.out hbW HB_26.out.size)
  clear hb hbW
  have HX := Lib.hid (keep_any (.slice (some ⟨w27.heap.size, 0, none⟩) 2 2) kN true (.slice none 0 0) [] (w27.alloc (.cells (encC (goneE sA 9) ++ encC (putE' sA 7)).toArray TE)) (ents_block (l := kN) (heap_alloc_new w27 (.cells (encC (goneE sA 9) ++ encC (putE' sA 7)).toArray TE)) rfl 2 2 rfl) (by decide) (Seg.nil _ _) (by decide))
  rw [k_keepN] at HX
  go_wp2_with fail
  refine (HX.out).mono ?_
  rintro e w28 ⟨y4, rfl, ho, hb⟩
  have hbW := below_step ((Below.refl w27.heap.size w27).alloc (Nat.le_refl _) _) hb (Nat.le_of_lt (by simp))
  have Hnq_28 := Lib.hid (blk_kept hb (heap_alloc_new w27 (.cells (encC (goneE sA 9) ++ encC (putE' sA 7)).toArray TE)))
  have HOy1_28 := Lib.hid (HOy1_27.out.kept hbW)
  have HOy2_28 := Lib.hid (HOy2_27.out.kept hbW)
  have HOy3_28 := Lib.hid (HOy3_27.out.kept hbW)
  have HB_28 := Lib.hid (below_step HB_27.out hbW HB_27.out.size)
  obtain ⟨nqb, hnqb⟩ : ∃ b, b = w27.heap.size := ⟨_, rfl⟩
  rw [← hnqb]
  try rw [← hnqb] at Hnq_28
  clear hnqb
  have HOy4_28 := Lib.hid (show EntsAt w28 y4 [] from Seg.of_owns ho)
  clear hb hbW ho
  obtain ⟨oy4, cy4, hvy4⟩ := elems_slice HOy4_28.out
  subst hvy4
  clear HX
  have HX := Lib.hid (keep_any (.slice (some ⟨nqb, 0, none⟩) 2 2) kN true (.slice (some ⟨w28.heap.size, 0, none⟩) 1 1) [8] (w28.alloc (.cells #[.int .u64 8] 30)) (ents_block (l := kN) (blk_alloc Hnq_28.out _) rfl 2 2 rfl) (by decide) (nums_block (l := [8]) (heap_alloc_new w28 (.cells #[.int .u64 8] 30)) rfl 1 1 rfl) (by decide))
  rw [k_keepN8] at HX
  go_wp2_with fail
  refine (HX.out).mono ?_
  rintro e w29 ⟨y5, rfl, ho, hb⟩
  have hbW := below_step ((Below.refl w28.heap.size w28).alloc (Nat.le_refl _) _) hb (Nat.le_of_lt (by simp))
  have Hnn_29 := Lib.hid (blk_kept hb (heap_alloc_new w28 (.cells #[.int .u64 8] 30)))
  have HOy1_29 := Lib.hid (HOy1_28.out.kept hbW)
  have HOy2_29 := Lib.hid (HOy2_28.out.kept hbW)
  have HOy3_29 := Lib.hid (HOy3_28.out.kept hbW)
  have Hnq_29 := Lib.hid (blk_kept hbW Hnq_28.out)
  have HOy4_29 := Lib.hid (HOy4_28.out.kept hbW)
  have HB_29 := Lib.hid (below_step HB_28.out hbW HB_28.out.size)
  obtain ⟨nnb, hnnb⟩ : ∃ b, b = w28.heap.size := ⟨_, rfl⟩
  rw [← hnnb]
  try rw [← hnnb] at Hnn_29
  clear hnnb
  have HOy5_29 := Lib.hid (show EntsAt w29 y5 [goneE sA 9, putE' sA 7] from Seg.of_owns ho)
  clear hb hbW ho
  obtain ⟨oy5, cy5, hvy5⟩ := elems_slice HOy5_29.out
  subst hvy5
  clear HX
  clear Hnn_29
  clear Hnq_29
  go_wp2_with fail
  refine (put_call sA 9 9 rfl _).mono ?_
  rintro e w30 ⟨rfl, hb⟩
  have hbW := hb
  have HOy1_30 := Lib.hid (HOy1_29.out.kept hbW)
  have HOy2_30 := Lib.hid (HOy2_29.out.kept hbW)
  have HOy3_30 := Lib.hid (HOy3_29.out.kept hbW)
  have HOy4_30 := Lib.hid (HOy4_29.out.kept hbW)
  have HOy5_30 := Lib.hid (HOy5_29.out.kept hbW)
  have HB_30 := Lib.hid (below_step HB_29.out hbW HB_29.out.size)
  clear hb hbW
  go_wp2_with fail
  refine (gone_call sA 7 7 rfl _).mono ?_
  rintro e w31 ⟨rfl, hb⟩
  have hbW := hb
  have HOy1_31 := Lib.hid (HOy1_30.out.kept hbW)
  have HOy2_31 := Lib.hid (HOy2_30.out.kept hbW)
  have HOy3_31 := Lib.hid (HOy3_30.out.kept hbW)
  have HOy4_31 := Lib.hid (HOy4_30.out.kept hbW)
  have HOy5_31 := Lib.hid (HOy5_30.out.kept hbW)
  have HB_31 := Lib.hid (below_step HB_30.out hbW HB_30.out.size)
  clear hb hbW
  have HX := Lib.hid (keep_any (.slice (some ⟨w31.heap.size, 0, none⟩) 2 2) kG true (.slice (some ⟨w31.heap.size + 1, 0, none⟩) 1 1) [8] ((w31.alloc (.cells (encC (putE' sA 9) ++ encC (goneE sA 7)).toArray TE)).alloc (.cells #[.int .u64 8] 30)) (ents_block (l := kG) (blk_alloc (heap_alloc_new w31 (.cells (encC (putE' sA 9) ++ encC (goneE sA 7)).toArray TE)) _) rfl 2 2 rfl) (by decide) (nums_block (l := [8]) (show ((w31.alloc (.cells (encC (putE' sA 9) ++ encC (goneE sA 7)).toArray TE)).alloc (.cells #[.int .u64 8] 30)).heap[w31.heap.size + 1]? = some (.cells #[.int .u64 8] 30 (0, 0)) from by have h := (heap_alloc_new (w31.alloc (.cells (encC (putE' sA 9) ++ encC (goneE sA 7)).toArray TE)) (.cells #[.int .u64 8] 30)); simp only [World.size_alloc] at h; exact h) rfl 1 1 rfl) (by decide))
  rw [k_keepG] at HX
  go_wp2_with fail
  refine (HX.out).mono ?_
  rintro e w32 ⟨y6, rfl, ho, hb⟩
  have hbW := below_step (((Below.refl w31.heap.size w31).alloc (Nat.le_refl _) _).alloc (by simp) _) hb (by simp; omega)
  have Hg_32 := Lib.hid (blk_kept hb (blk_alloc (heap_alloc_new w31 (.cells (encC (putE' sA 9) ++ encC (goneE sA 7)).toArray TE)) _))
  have Hnn_32 := Lib.hid (blk_kept hb (show ((w31.alloc (.cells (encC (putE' sA 9) ++ encC (goneE sA 7)).toArray TE)).alloc (.cells #[.int .u64 8] 30)).heap[w31.heap.size + 1]? = some (.cells #[.int .u64 8] 30 (0, 0)) from by have h := (heap_alloc_new (w31.alloc (.cells (encC (putE' sA 9) ++ encC (goneE sA 7)).toArray TE)) (.cells #[.int .u64 8] 30)); simp only [World.size_alloc] at h; exact h))
  have HOy1_32 := Lib.hid (HOy1_31.out.kept hbW)
  have HOy2_32 := Lib.hid (HOy2_31.out.kept hbW)
  have HOy3_32 := Lib.hid (HOy3_31.out.kept hbW)
  have HOy4_32 := Lib.hid (HOy4_31.out.kept hbW)
  have HOy5_32 := Lib.hid (HOy5_31.out.kept hbW)
  have HB_32 := Lib.hid (below_step HB_31.out hbW HB_31.out.size)
  obtain ⟨nnb, hnnb⟩ : ∃ b, b = w31.heap.size + 1 := ⟨_, rfl⟩
  rw [← hnnb]
  try rw [← hnnb] at Hg_32
  try rw [← hnnb] at Hnn_32
  clear hnnb
  obtain ⟨gb, hgb⟩ : ∃ b, b = w31.heap.size := ⟨_, rfl⟩
  rw [← hgb]
  try rw [← hgb] at Hg_32
  try rw [← hgb] at Hnn_32
  clear hgb
  have HOy6_32 := Lib.hid (show EntsAt w32 y6 [putE' sA 9] from Seg.of_owns ho)
  clear hb hbW ho
  obtain ⟨oy6, cy6, hvy6⟩ := elems_slice HOy6_32.out
  subst hvy6
  clear HX
  clear Hnn_32
  clear Hg_32
  obtain ⟨by1, fy1, dy1, hve, hcy1⟩ := ents_cells HOy1_32.out (by simp)
  injection hve with hx1 hx2 hx3
  subst hx1
  clear hx2 hx3
  have ey1 : w32.cell? ⟨by1, fy1 + 2, none⟩ = some (.int .u64 9) := by have h := (hcy1 0 (by simp)).c2; simpa using h
  clear hcy1
  obtain ⟨by2, fy2, dy2, hve, hcy2⟩ := ents_cells HOy2_32.out (by simp)
  injection hve with hx1 hx2 hx3
  subst hx1
  clear hx2 hx3
  have ey2 : w32.cell? ⟨by2, fy2 + 6, none⟩ = some (.int .u64 5) := by have h := (hcy2 1 (by simp)).c2; simpa using h
  clear hcy2
  obtain ⟨by3, fy3, dy3, hve, hcy3⟩ := ents_cells HOy3_32.out (by simp)
  injection hve with hx1 hx2 hx3
  subst hx1
  clear hx2 hx3
  have ey3 : w32.cell? ⟨by3, fy3 + 10, none⟩ = some (.int .u64 3) := by have h := (hcy3 2 (by simp)).c2; simpa using h
  clear hcy3
  obtain ⟨by6, fy6, dy6, hve, hcy6⟩ := ents_cells HOy6_32.out (by simp)
  injection hve with hx1 hx2 hx3
  subst hx1
  clear hx2 hx3
  have ey6 : w32.cell? ⟨by6, fy6 + 2, none⟩ = some (.int .u64 9) := by have h := (hcy6 0 (by simp)).c2; simpa using h
  clear hcy6
  go_wp2_with fail
  clear ey1 ey2 ey3 ey6
  clear HOy1_32
  clear HOy2_32
  clear HOy3_32
  clear HOy4_32
  clear HOy5_32
  clear HOy6_32
  refine (put_call sA 5 5 rfl _).mono ?_
  rintro e w33 ⟨rfl, hb⟩
  have hbW := hb
  have HB_33 := Lib.hid (below_step HB_32.out hbW HB_32.out.size)
  clear hb hbW
  go_wp2_with fail
  refine (put_call sA 3 3 rfl _).mono ?_
  rintro e w34 ⟨rfl, hb⟩
  have hbW := hb
  have HB_34 := Lib.hid (below_step HB_33.out hbW HB_33.out.size)
  clear hb hbW
  go_wp2_with fail
  refine (put_call sB 9 9 rfl _).mono ?_
  rintro e w35 ⟨rfl, hb⟩
  have hbW := hb
  have HB_35 := Lib.hid (below_step HB_34.out hbW HB_34.out.size)
  clear hb hbW
  go_wp2_with fail
  refine (put_call sC 1 1 rfl _).mono ?_
  rintro e w36 ⟨rfl, hb⟩
  have hbW := hb
  have HB_36 := Lib.hid (below_step HB_35.out hbW HB_35.out.size)
  clear hb hbW
  have HX := Lib.hid (split_any (.slice (some ⟨w36.heap.size, 0, none⟩) 4 4) kP 2 (w36.alloc (.cells (encC (putE' sA 5) ++ encC (putE' sA 3) ++ encC (putE' sB 9) ++ encC (putE' sC 1)).toArray TE)) (ents_block (l := kP) (heap_alloc_new w36 (.cells (encC (putE' sA 5) ++ encC (putE' sA 3) ++ encC (putE' sB 9) ++ encC (putE' sC 1)).toArray TE)) rfl 4 4 rfl) (by decide) (by decide +kernel) (by omega) (by omega))
  rw [k_split] at HX
  go_wp2_with fail
  refine HX.out.mono ?_
  rintro e w37 ⟨v11, vp, pp, vs, rfl, hp⟩
  have hb := hp.bel
  have HPL := Lib.hid hp.done
  have hbW := below_step ((Below.refl w36.heap.size w36).alloc (Nat.le_refl _) _) hb (Nat.le_of_lt (by simp))
  have HB_37 := Lib.hid (below_step HB_36.out hbW HB_36.out.size)
  clear hp hb hbW HX
  obtain ⟨pb, po, pc, hve, hcp⟩ := HPL.out.cell (by simp)
  subst hve
  obtain ⟨u0, hu0, hue0⟩ := hcp 0 (by simp)
  obtain ⟨uo0, uc0, huv0⟩ := elems_slice hue0
  subst huv0
  have g0 : w37.cell? ⟨pb, po, none⟩ = some (.slice uo0 2 uc0) := by simpa using hu0
  obtain ⟨u1, hu1, hue1⟩ := hcp 1 (by simp)
  obtain ⟨ub1, uo1, uc1, huv1, hc1⟩ := ents_cells hue1 (by simp)
  subst huv1
  have q1 : w37.cell? ⟨ub1, uo1, none⟩ = some (.string sB) := by have h := (hc1 0 (by simp)).c0; simpa using h
  clear hc1
  have g1 : w37.cell? ⟨pb, po + 1, none⟩ = some (.slice (some ⟨ub1, uo1, none⟩) 1 uc1) := by simpa using hu1
  obtain ⟨u2, hu2, hue2⟩ := hcp 2 (by simp)
  obtain ⟨ub2, uo2, uc2, huv2, hc2⟩ := ents_cells hue2 (by simp)
  subst huv2
  have q2 : w37.cell? ⟨ub2, uo2, none⟩ = some (.string sC) := by have h := (hc2 0 (by simp)).c0; simpa using h
  clear hc2
  have g2 : w37.cell? ⟨pb, po + 2, none⟩ = some (.slice (some ⟨ub2, uo2, none⟩) 1 uc2) := by simpa using hu2
  have eB : sB.toList = [98] := by decide +kernel
  have eC : sC.toList = [99] := by decide +kernel
  clear hcp hu0 hu1 hu2 hue0 hue1 hue2
  go_wp2_with fail
  refine (awake_any _).mono ?_
  rintro e w99 ⟨rfl, hb⟩
  have HBF := Lib.hid (below_step HB_37.out hb HB_37.out.size)
  clear hb q1 q2 g0 g1 g2 eB eC
  go_wp2_with fail
  go_ret
  exact ⟨rfl, HBF.out⟩
end Go.Proofs.Try.Mg
