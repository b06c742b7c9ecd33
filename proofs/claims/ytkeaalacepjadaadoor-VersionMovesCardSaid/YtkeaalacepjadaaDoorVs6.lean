/- The stable sort of entries, whole. -/
import Derived.Test.YtkeaalacepjadaaDoorVs5
set_option linter.unusedVariables false
set_option linter.unusedSimpArgs false
set_option maxRecDepth 100000
namespace Go.Proofs.Tryd.Vr
open Go.RowKit Go.Cph Go.Cph.Skip Go.Cph.So Go.Cph.Ve
variable {C : Cap}

theorem blk_first {bs : Nat} {l r : List Tb} (k : Blk (ltK C) bs l r) (h0 : 0 < bs) (hl : bs ≤ l.length) :
    ∃ c l' r', l = c ++ l' ∧ r = sortL (ltK C) c ++ r' ∧ c.length = bs ∧ Blk (ltK C) bs l' r' := by
  cases k with
  | nil => simp at hl; omega
  | last c h1 hc => exact ⟨l, [], [], by simp, by simp, by omega, .nil⟩
  | cons c hc k => exact ⟨c, _, _, rfl, rfl, hc, k⟩
def SortPost (w : World) (base : Nat) (s : Value) (l : List Tb) (e : Ending) (w' : World) : Prop :=
  e = .returned (.tuple #[]) ∧ w'.ownsRow base TE 8 s l.length (l.flatMap encC) ∧ w.grownBy w' s.ownBlock

set_option maxHeartbeats 4000000 in
theorem stable_nil (w : World) : Calls Tryd.prog 60 #[.slice none 0 0, .int .i64 0, (CMP C)] w fun e w' => e = .returned (.tuple #[]) ∧ w = w' := by
  have hi : ∀ W, Calls Tryd.prog 77 #[.slice none 0 0, .int .i64 0, .int .i64 0, (CMP C)] W fun e w' => e = .returned (.tuple #[]) ∧ W = w' := fun W => by
    go_enter Tryd.func77, Tryd.ntmps77
    go_wp2_with fail
    refine wp_loop_rounds 1 ?_
    rw [rounds_succ]
    go_wp2_with fail
    go_end0
    exact ⟨rfl, rfl⟩
  have HI := Lib.hid hi
  clear hi
  go_enter Tryd.func60, Tryd.ntmps60
  go_wp2_with fail
  refine wp_loop_rounds 1 ?_
  rw [rounds_succ]
  go_wp2_with fail
  refine (HI.out _).mono ?_
  rintro e w1 ⟨rfl, rfl⟩
  go_wp2_with fail
  refine wp_loop_rounds 1 ?_
  rw [rounds_succ]
  go_wp2_with fail
  go_end0
  exact ⟨rfl, rfl⟩

set_option maxHeartbeats 8000000 in
theorem stable {base g n cap : Nat} (l : List Tb) (w0 w : World) (h : Row C w0 base g n cap l w) (hn : n ≤ 1000000) :
    Calls Tryd.prog 60 #[.slice (some ⟨g, 0, none⟩) n cap, .int .i64 n, (CMP C)] w (RowPost C w0 base g n cap (sortL (ltK C) l)) := by
  have hl := h.len
  have HR := Lib.hid h
  have HL := Lib.hid hl
  clear h hl
  go_enter Tryd.func60, Tryd.ntmps60
  go_wp2_with fail
  go_loopw [7, 8] (fun va vb wr => ∃ k a b : Nat, a = k * 20 ∧ b = a + 20 ∧ a ≤ n ∧ va = .int .i64 a ∧ vb = .int .i64 b ∧ ∃ l1 r1 l2, l = l1 ++ l2 ∧ Full (ltK C) 20 k l1 r1 ∧ Row C w0 base g n cap (r1 ++ l2) wr) (fun va _ _ => n - (intOf va).toNat)
  case atStart => exact ⟨0, 0, 20, rfl, rfl, Nat.zero_le _, rfl, rfl, [], [], l, rfl, .nil, HR.out⟩
  case round =>
    obtain ⟨k, a, b, hka, hab, han, rfl, rfl, l1, r1, l2, hl12, hf, hr⟩ := hrel
    obtain ⟨ll, lr⟩ := hf.len (weakK C)
    have hll : l1.length + l2.length = n := by rw [← HL.out, hl12, List.length_append]
    have HF := Lib.hid hf
    have HE := Lib.hid hl12
    have HR1 := Lib.hid hr
    have HA := Lib.hid (show r1.length = a by omega)
    have HL2 := Lib.hid (show a + l2.length = n by omega)
    have HKA := Lib.hid hka
    have HAB := Lib.hid hab
    clear hf hl12 hr ll lr hll HR hka
    by_cases hb : b ≤ n
    · obtain ⟨c, q, rfl, hc⟩ : ∃ c q, l2 = c ++ q ∧ c.length = 20 := ⟨l2.take 20, l2.drop 20, (List.take_append_drop _ _).symm, by have := HL2.out; rw [List.length_take]; omega⟩
      have HI := Lib.hid (insertion a b r1 c q w0 wr HR1.out HA.out (by have := HA.out; omega) hn)
      have HC := Lib.hid hc
      have e1 : (b : Int) ≤ (n : Int) := by omega
      clear hc hab
      go_wp2_with fail
      refine HI.out.mono ?_
      rintro e w1 ⟨rfl, hr⟩
      have HR2 := Lib.hid hr
      clear hr
      go_wp2_with fail
      go_roundw
      case rel =>
        refine ⟨k + 1, b, b + 20, by have := HKA.out; have := HAB.out; omega, rfl, hb, rfl, by go_num, l1 ++ c, r1 ++ sortL (ltK C) c, q, by rw [HE.out]; simp, .snoc HF.out c HC.out, HR2.out.to (by simp)⟩
      case measure => have := HAB.out; simp [intOf]; omega
    · have hI := insertion a n r1 l2 [] w0 wr (by simpa using HR1.out) HA.out (by have := HA.out; have := HL2.out; omega) hn
      have HI := Lib.hid hI
      have HB := Lib.hid (show Blk (ltK C) 20 l (r1 ++ sortL (ltK C) l2) from by rw [HE.out]; exact HF.out.blk (.one (by have := HL2.out; have := HAB.out; omega)))
      have e1 : ¬ (b : Int) ≤ (n : Int) := by omega
      clear hI hab hb
      go_wp2_with fail
      refine HI.out.mono ?_
      rintro e w1 ⟨rfl, hr⟩
      have HR2 := Lib.hid (show ∃ r, Blk (ltK C) 20 l r ∧ Row C w0 base g n cap r w1 from ⟨_, HB.out, by simpa using hr⟩)
      clear hr e1
      go_wp2_with fail
      go_loopw [6] (fun vb wr2 => ∃ bs : Nat, 20 ≤ bs ∧ bs ≤ 2000000 ∧ vb = .int .i64 bs ∧ ∃ r, Blk (ltK C) bs l r ∧ Row C w0 base g n cap r wr2) (fun vb _ => n - (intOf vb).toNat)
      case atStart => exact ⟨20, by omega, by omega, rfl, HR2.out⟩
      case round =>
        obtain ⟨bs, hb20, hbm, rfl, r, hblk, hr⟩ := hrel
        have HBK := Lib.hid hblk
        have HR3 := Lib.hid hr
        clear hblk hr HR2 HR1 HI HB
        by_cases hbn : bs < n
        · obtain ⟨b2, hb2⟩ : ∃ b, b = 2 * bs := ⟨_, rfl⟩
          have e2 : 2 * (bs : Int) = (b2 : Int) := by omega
          have HB2 := Lib.hid hb2
          have hb2m : b2 ≤ 2000000 := by omega
          clear hb2
          obtain ⟨wo, rfl⟩ : ∃ wo : World, wo = wr := ⟨_, rfl⟩
          go_wp2_with fail
          go_loopw [7, 8] (fun va vb wr3 => ∃ k a b : Nat, a = k * b2 ∧ b = a + b2 ∧ a ≤ n ∧ va = .int .i64 a ∧ vb = .int .i64 b ∧ ∃ l1 r1 l2 r2, l = l1 ++ l2 ∧ Full (ltK C) b2 k l1 r1 ∧ Blk (ltK C) bs l2 r2 ∧ Row C w0 base g n cap (r1 ++ r2) wr3) (fun va _ _ => n - (intOf va).toNat)
          case atStart => exact ⟨0, 0, b2, by omega, by omega, Nat.zero_le _, rfl, rfl, [], [], l, r, rfl, .nil, HBK.out, HR3.out⟩
          case round =>
            obtain ⟨k, a, b, hka, hab, han, rfl, rfl, l1, r1, l2, r2, hl12, hf, hbk, hr⟩ := hrel
            obtain ⟨ll, lr⟩ := hf.len (weakK C)
            have hll : l1.length + l2.length = n := by rw [← HL.out, hl12, List.length_append]
            have HF3 := Lib.hid hf
            have HE3 := Lib.hid hl12
            have HBK3 := Lib.hid hbk
            have HR4 := Lib.hid hr
            have HA3 := Lib.hid (show r1.length = a by omega)
            have HL3 := Lib.hid (show a + l2.length = n by omega)
            have HKA3 := Lib.hid hka
            have HAB3 := Lib.hid hab
            clear hf hl12 hbk hr ll lr hll hka
            by_cases hb : b ≤ n
            · obtain ⟨c1, l3, r3, hl3, hr3, hc1, hk1⟩ := blk_first HBK3.out (by omega) (by have := HB2.out; have := HL3.out; omega)
              obtain ⟨c2, l4, r4, hl4, hr4, hc2, hk2⟩ := blk_first hk1 (by omega) (by have := HB2.out; have := HL3.out; rw [hl3, List.length_append] at this; omega)
              obtain ⟨m, hm⟩ : ∃ m, m = a + bs := ⟨_, rfl⟩
              have h2 := HB2.out
              have hS := sym_ok _ base g n cap a m b r1 (sortL (ltK C) c1) (sortL (ltK C) c2) r4 w0 wr (HR4.out.to (by rw [hr3, hr4]; simp)) HA3.out (by rw [sortL_length (weakK C)]; omega) (by rw [sortL_length (weakK C)]; omega) (by rw [sortL_length (weakK C)]; omega) (by rw [sortL_length (weakK C)]; omega) (sortL_is (weakK C) _).1 (sortL_is (weakK C) _).1 hn (Nat.le_refl _)
              rw [sortL_pair (weakK C)] at hS
              have HS := Lib.hid hS
              have HN := Lib.hid (show ∃ l1' r1' l2' r2', l = l1' ++ l2' ∧ Full (ltK C) b2 (k + 1) l1' r1' ∧ Blk (ltK C) bs l2' r2' ∧ r1 ++ (sortL (ltK C) (c1 ++ c2) ++ r4) = r1' ++ r2' from ⟨l1 ++ (c1 ++ c2), r1 ++ sortL (ltK C) (c1 ++ c2), l4, r4, by rw [HE3.out, hl3, hl4]; simp, .snoc HF3.out _ (by rw [List.length_append]; omega), hk2, by simp⟩)
              have e1 : (b : Int) ≤ (n : Int) := by omega
              have e3 : (a : Int) + (bs : Int) = (m : Int) := by omega
              have e4 : b ≤ n := hb
              clear hl3 hr3 hc1 hk1 hl4 hr4 hc2 hk2 hm h2 hS hab hb
              go_wp2_with fail
              refine HS.out.mono ?_
              rintro e w2 ⟨rfl, hr⟩
              have HR5 := Lib.hid hr
              clear hr
              go_wp2_with fail
              go_roundw
              case rel =>
                obtain ⟨l1', r1', l2', r2', g1, g2, g3, g4⟩ := HN.out
                refine ⟨k + 1, b, b + b2, by have := HKA3.out; have := HAB3.out; rw [Nat.succ_mul]; omega, rfl, e4, rfl, by go_num, l1', r1', l2', r2', g1, g2, g3, HR5.out.to g4⟩
              case measure => have := HAB3.out; simp [intOf]; omega
            · obtain ⟨m, hm⟩ : ∃ m, m = a + bs := ⟨_, rfl⟩
              have e1 : ¬ (b : Int) ≤ (n : Int) := by omega
              have e3 : (a : Int) + (bs : Int) = (m : Int) := by omega
              have h2 := HB2.out
              have h3 := HL3.out
              by_cases hmn : m < n
              · obtain ⟨c1, l3, r3, hl3, hr3, hc1, hk1⟩ := HBK3.out.two (weakK C) (by omega) (by omega)
                have hl3n : a + bs + l3.length = n := by rw [hl3, List.length_append] at h3; omega
                have hr3' : r3 = sortL (ltK C) l3 := hk1.whole (weakK C) (by omega) (by omega)
                have hS := sym_ok _ base g n cap a m n r1 (sortL (ltK C) c1) (sortL (ltK C) l3) [] w0 wr (HR4.out.to (by rw [hr3, hr3']; simp)) HA3.out (by rw [sortL_length (weakK C)]; omega) (by rw [sortL_length (weakK C)]; omega) (by rw [sortL_length (weakK C)]; omega) (by rw [sortL_length (weakK C)]; omega) (sortL_is (weakK C) _).1 (sortL_is (weakK C) _).1 hn (Nat.le_refl _)
                rw [sortL_pair (weakK C)] at hS
                have HS := Lib.hid hS
                have HN := Lib.hid (show Blk (ltK C) b2 l (r1 ++ (sortL (ltK C) (c1 ++ l3) ++ [])) from by
                  rw [HE3.out, hl3, List.append_nil]
                  exact HF3.out.blk (.one (by rw [List.length_append]; omega)))
                clear hl3 hr3 hc1 hk1 hl3n hr3' hm h2 h3 hS hab hb
                go_wp2_with fail
                refine HS.out.mono ?_
                rintro e w2 ⟨rfl, hr⟩
                have HR5 := Lib.hid hr
                clear hr
                go_wp2_with fail
                go_roundw
                case rel => exact ⟨b2, by have := HB2.out; omega, hb2m, by go_num, _, HN.out, HR5.out⟩
                case measure => have := HB2.out; simp [intOf]; omega
              · have hw := HBK3.out.whole (weakK C) (by omega) (by omega)
                have HN := Lib.hid (show Blk (ltK C) b2 l (r1 ++ r2) from by
                  rw [HE3.out, hw]
                  exact HF3.out.blk (.one (by omega)))
                clear hw hm h2 h3 hab hb
                go_wp2_with fail
                go_roundw
                case rel => exact ⟨b2, by have := HB2.out; omega, hb2m, by go_num, _, HN.out, HR4.out⟩
                case measure => have := HB2.out; simp [intOf]; omega
        · have HE := Lib.hid (HR3.out.to (HBK.out.whole (weakK C) (by rw [HL.out]; omega) (by omega)))
          go_wp2_with fail
          go_end0
          exact ⟨rfl, HE.out⟩

set_option maxHeartbeats 4000000 in
theorem sort_stable {base : Nat} (s : Value) (l : List Tb) (w : World) (hk : w.heap[C.kb]? = some (boxI C.kk)) (hfar : ∀ q, s.ownBlock = some q → C.kb ≠ q) (h : w.ownsRow base TE 8 s l.length (l.flatMap encC)) (hn : l.length ≤ 1000000) :
    Calls Tryd.prog 45 #[s, (CMP C)] w (SortPost w base s (sortL (ltK C) l)) := by
  have hown := h
  obtain ⟨h1, h2⟩ := h
  rcases h2 with ⟨rfl, h0⟩ | ⟨g, cap, cur, rfl, -, -, -, -, -, -⟩
  · obtain rfl : l = [] := List.eq_nil_of_length_eq_zero h0
    have HO := Lib.hid hown
    clear hown h1 h0
    go_enter Tryd.func45, Tryd.ntmps45
    go_wp2_with fail
    refine (stable_nil _).mono ?_
    rintro e w1 ⟨rfl, rfl⟩
    go_wp2_with fail
    go_end0
    exact ⟨rfl, HO.out, grown_refl _ _⟩
  · have HS := Lib.hid (stable l w w ⟨hown, grown_refl _ _, rfl, hk, hfar g rfl⟩ hn)
    clear hown h1
    go_enter Tryd.func45, Tryd.ntmps45
    go_wp2_with fail
    refine HS.out.mono ?_
    rintro e w1 ⟨rfl, hr⟩
    have HR := Lib.hid hr
    clear hr
    go_wp2_with fail
    go_end0
    refine ⟨rfl, ?_, HR.out.grown⟩
    rw [sortL_length (weakK C)]
    exact HR.out.own
end Go.Proofs.Tryd.Vr
