/- Versions, plainly: a plan that is carried out. No program in sight. -/
import Derived.Test.YtkeaalacepjadaaDoorWa1
set_option linter.unusedVariables false
set_option linter.unusedSimpArgs false
namespace Go.Cph.Ve
open Go.Cph Go.Cph.Skip Go.Cph.So

/-- Dropping numbers that are there, each once. -/
theorem drop_all : ∀ (ns : List UInt64) (L : List Tb), (L.map tN).Nodup → ns.Nodup → (∀ n ∈ ns, ∃ t ∈ L, tN t = n) →
    ns.foldl dropStep (some L) = some (L.filter fun t => !ns.contains (tN t)) ∧ (L.filter fun t => !ns.contains (tN t)).length + ns.length = L.length
  | [], L, _, _, _ => by
    refine ⟨?_, ?_⟩
    · have : (L.filter fun t => !([] : List UInt64).contains (tN t)) = L := by rw [List.filter_eq_self]; simp
      rw [this]; rfl
    · have : (L.filter fun t => !([] : List UInt64).contains (tN t)) = L := by rw [List.filter_eq_self]; simp
      rw [this]; rfl
  | n :: ns, L, hL, hn, hin => by
    obtain ⟨hn1, hn2⟩ := List.nodup_cons.1 hn
    have hh : hasN L n = true := hasN_iff.2 (hin n List.mem_cons_self)
    have e : dropStep (some L) n = some (lessN L n) := by unfold dropStep; simp [hh]
    have hL2 : ((lessN L n).map tN).Nodup := List.Sublist.nodup ((List.filter_sublist (p := fun t => tN t != n)).map tN) hL
    have hin2 : ∀ m ∈ ns, ∃ t ∈ lessN L n, tN t = m := fun m hm => by
      obtain ⟨t, ht, e⟩ := hin m (List.mem_cons_of_mem _ hm)
      refine ⟨t, List.mem_filter.2 ⟨ht, ?_⟩, e⟩
      rw [bne_iff_ne, e]
      rintro rfl
      exact hn1 hm
    obtain ⟨h1, h2⟩ := drop_all ns (lessN L n) hL2 hn2 hin2
    have hf : (lessN L n).filter (fun t => !ns.contains (tN t)) = L.filter fun t => !(n :: ns).contains (tN t) := by
      unfold lessN
      rw [List.filter_filter]
      congr 1
      funext t
      rw [List.contains_cons]
      cases h : tN t == n <;> simp [bne, h]
    have hlen : (lessN L n).length + 1 = L.length := by
      clear h1 h2 hf hin2 hin hn e
      unfold lessN
      obtain ⟨t, ht, e⟩ := hasN_iff.1 hh
      clear hh hL2 hn1 hn2
      induction L with
      | nil => cases ht
      | cons u L ih =>
        rw [List.map_cons, List.nodup_cons] at hL
        by_cases hu : tN u = n
        · have h0 : L.filter (fun t => tN t != n) = L := by
            rw [List.filter_eq_self]
            intro x hx
            rw [bne_iff_ne]
            intro ex
            exact hL.1 (by rw [hu, ← ex]; exact List.mem_map_of_mem hx)
          rw [List.filter_cons_of_neg (by simp [hu]), h0, List.length_cons]
        · have ht2 : t ∈ L := by
            rcases List.mem_cons.1 ht with rfl | h
            · exact absurd e hu
            · exact h
          rw [List.filter_cons_of_pos (by simpa using hu), List.length_cons, List.length_cons, ih hL.2 ht2]
    rw [List.foldl_cons, e, h1, hf]
    refine ⟨rfl, ?_⟩
    rw [← hf, List.length_cons]
    omega
/-- The plan's edit. -/
def moveT (A : Nat → List Tb) (k : Nat) (next seq : UInt64) : Tb := (next, (k : Int) + 1, 1, 1, fstF (bothK A k), lstL (bothK A k), 1, seq)
def moveE (A : Nat → List Tb) (k : Nat) (next seq : UInt64) : Ed := ([moveT A k next seq], (bothK A k).map tN, 0, 0, next + 40)
section
variable {A : Nat → List Tb} {log seq next : UInt64} {k : Nat}
theorem both_mem (hk : k < 3) {t : Tb} (h : t ∈ bothK A k) : t ∈ A k ∨ t ∈ A (k + 1) := by
  rcases List.mem_append.1 h with h | h
  · exact .inl (inK_sub h)
  · exact .inr (List.mem_filter.1 h).1
theorem both_tabs (hk : k < 3) {t : Tb} (h : t ∈ bothK A k) : t ∈ tabs A := by
  rcases both_mem hk h with h | h
  · exact mem_tabs.2 ⟨k, by omega, h⟩
  · exact mem_tabs.2 ⟨k + 1, by omega, h⟩
/-- Two tables of a right version with one number are one. -/
theorem num_one (h : RightV A log seq next) {t u : Tb} (ht : t ∈ tabs A) (hu : u ∈ tabs A) (e : tN t = tN u) : t = u := by
  have := h.nodup
  rw [List.nodup_iff_pairwise_ne, List.pairwise_map] at this
  generalize tabs A = L at *
  induction L with
  | nil => cases ht
  | cons x L ih =>
    obtain ⟨h1, h2⟩ := List.pairwise_cons.1 this
    rcases List.mem_cons.1 ht with rfl | ht'
    · rcases List.mem_cons.1 hu with rfl | hu'
      · rfl
      · exact absurd e (h1 u hu')
    · rcases List.mem_cons.1 hu with rfl | hu'
      · exact absurd e.symm (h1 t ht')
      · exact ih ht' hu' h2
theorem both_nodup (h : RightV A log seq next) (hk : k < 3) : ((bothK A k).map tN).Nodup := by
  have hs : List.Sublist (bothK A k) (A k ++ A (k + 1)) := by
    unfold bothK
    refine List.Sublist.append ?_ (List.filter_sublist)
    unfold inK
    split
    · subst k; exact List.Sublist.refl _
    · exact List.take_sublist _ _
  have hs2 : List.Sublist (A k ++ A (k + 1)) (tabs A) := by
    rw [tabs_eq]
    rcases (show k = 0 ∨ k = 1 ∨ k = 2 by omega) with rfl | rfl | rfl
    · rw [← List.append_assoc]
      exact List.sublist_append_left _ _
    · rw [← List.append_assoc (A 1)]
      exact (List.sublist_append_left (A 1 ++ A 2) (A 3)).trans (List.sublist_append_right _ _)
    · exact (List.sublist_append_right (A 1) (A 2 ++ A 3)).trans (List.sublist_append_right _ _)
  exact List.Sublist.nodup ((hs.trans hs2).map tN) h.nodup
/-- What stays on the level below lies apart from all that goes. -/
theorem stay_apart (h : RightV A log seq next) (hk : k < 3) (hp : 0 < (A k).length) {u : Tb} (hu : u ∈ A (k + 1)) (hn : u ∉ bothK A k) : klt (tL u) (fstF (bothK A k)) = true ∨ klt (lstL (bothK A k)) (tF u) = true := by
  have hr : ∀ t ∈ A (k + 1), rightT t = true := fun t ht => ((h.lev (k + 1) (by omega)).all t ht).1
  have hlo : klt (tL u) (tF u) = false := right_first (hr u hu)
  -- it does not meet what is chosen
  have hm : meetsT u (fstF (inK A k)) (lstL (inK A k)) = false := by
    cases e : meetsT u (fstF (inK A k)) (lstL (inK A k)) with
    | false => rfl
    | true => exact absurd (List.mem_append_right _ (List.mem_filter.2 ⟨hu, e⟩)) hn
  have hip := inK_pos (A := A) hp
  have hfl : klt (lstL (inK A k)) (fstF (inK A k)) = false := by
    obtain ⟨t, ht, e⟩ := fst_mem hip
    have h1 := lst_ge ht
    have h2 := right_first ((h.lev k (by omega)).all t (inK_sub ht)).1
    rw [e]
    exact kle_trans h2 h1
  unfold meetsT at hm
  rw [hfl] at hm
  -- side by side with each of the level
  have side : ∀ x ∈ A (k + 1), x ≠ u → klt (tL u) (tF x) = true ∨ klt (tL x) (tF u) = true := by
    have hpw := fit_pair (h.lev (k + 1) (by omega))
    intro x hx hne
    have key : ∀ (l : List Tb), l.Pairwise (fun a b => fitT (k + 1) a b = true) → x ∈ l → u ∈ l → klt (tL u) (tF x) = true ∨ klt (tL x) (tF u) = true := by
      intro l
      induction l with
      | nil => intro _ h; cases h
      | cons y l ih =>
        intro hl h1 h2
        obtain ⟨g1, g2⟩ := List.pairwise_cons.1 hl
        rcases List.mem_cons.1 h1 with rfl | h1'
        · rcases List.mem_cons.1 h2 with rfl | h2'
          · exact absurd rfl hne
          · have := g1 u h2'
            unfold fitT at this
            rw [if_neg (by omega)] at this
            exact .inr this
        · rcases List.mem_cons.1 h2 with rfl | h2'
          · have := g1 x h1'
            unfold fitT at this
            rw [if_neg (by omega)] at this
            exact .inl this
          · exact ih g2 h1' h2'
    exact key _ hpw hx hu
  have hbp := bothK_pos (A := A) hp
  cases ha : klt (lstL (inK A k)) (tF u) with
  | true =>
    -- it lies behind all
    refine .inr ?_
    obtain ⟨t, ht, e⟩ := lst_mem hbp
    rw [e]
    rcases List.mem_append.1 ht with ht | ht
    · exact klt_of_le_lt (lst_ge ht) ha
    · have hx := (List.mem_filter.1 ht).1
      have hmx := (List.mem_filter.1 ht).2
      unfold meetsT at hmx
      rw [hfl] at hmx
      simp only [Bool.not_false, Bool.true_and, Bool.and_eq_true, Bool.not_eq_true'] at hmx
      have hne : t ≠ u := fun e => hn (List.mem_append_right _ (e ▸ ht))
      rcases side t hx hne with h1 | h1
      · -- u ahead of t: t would begin behind the chosen
        have h2 := klt_of_le_lt hlo h1
        have h3 := klt_trans ha h2
        rw [hmx.1] at h3
        cases h3
      · exact h1
  | false =>
    rw [ha] at hm
    simp only [Bool.not_false, Bool.true_and, Bool.not_eq_false'] at hm
    refine .inl ?_
    obtain ⟨t, ht, e⟩ := fst_mem hbp
    rw [e]
    rcases List.mem_append.1 ht with ht | ht
    · exact klt_of_lt_le hm (fst_le ht)
    · have hx := (List.mem_filter.1 ht).1
      have hmx := (List.mem_filter.1 ht).2
      unfold meetsT at hmx
      rw [hfl] at hmx
      simp only [Bool.not_false, Bool.true_and, Bool.and_eq_true, Bool.not_eq_true'] at hmx
      have hne : t ≠ u := fun e => hn (List.mem_append_right _ (e ▸ ht))
      rcases side t hx hne with h1 | h1
      · exact h1
      · have h2 := klt_of_lt_le h1 hlo
        have h3 := klt_trans h2 hm
        rw [hmx.2] at h3
        cases h3
theorem both_right (h : RightV A log seq next) (hk : k < 3) {t : Tb} (ht : t ∈ bothK A k) : rightT t = true ∧ (tN t).toNat < next.toNat ∧ (tM t).toNat ≤ seq.toNat := by
  rcases both_mem hk ht with h1 | h1
  · obtain ⟨a, b, c, d⟩ := (h.lev k (by omega)).all t h1
    exact ⟨a, c, d⟩
  · obtain ⟨a, b, c, d⟩ := (h.lev (k + 1) (by omega)).all t h1
    exact ⟨a, c, d⟩
theorem right_keys {t : Tb} (h : rightT t = true) : keyB (tF t) = true ∧ keyB (tL t) = true ∧ 1 ≤ (tA t).toNat ∧ (tA t).toNat ≤ (tM t).toNat := by
  unfold rightT at h
  simp only [Bool.and_eq_true, decide_eq_true_eq] at h
  exact ⟨h.2.2.2.2.1, h.2.2.2.2.2.1, h.2.2.2.2.2.2.2.1, h.2.2.2.2.2.2.2.2⟩
def stayL (A : Nat → List Tb) (k : Nat) : List Tb := (tabs A).filter fun t => !((bothK A k).map tN).contains (tN t)
theorem stay_mem {t : Tb} : t ∈ stayL A k ↔ t ∈ tabs A ∧ ∀ u ∈ bothK A k, tN u ≠ tN t := by
  unfold stayL
  rw [List.mem_filter]
  simp only [Bool.not_eq_true', List.contains_eq_mem, decide_eq_false_iff_not, List.mem_map, not_exists, not_and]
theorem next_toNat (hx : next.toNat ≤ 1099511627726) : (next + 40).toNat = next.toNat + 40 := by
  rw [UInt64.toNat_add]
  have e : (40 : UInt64).toNat = 40 := rfl
  rw [e]
  exact Nat.mod_eq_of_lt (by omega)
theorem mx_small {a : UInt64} : mx a 0 = a := by
  unfold mx
  have e : (0 : UInt64).toNat = 0 := rfl
  rw [if_neg (by rw [e]; omega)]
theorem move_right (h : RightV A log seq next) (hk : k < 3) (hp : 0 < (A k).length) (hx : next.toNat ≤ 1099511627726) : RightD (stayL A k ++ [moveT A k next seq]) log seq (next + 40) := by
  have hr := (rel_tabs (m := (log, seq, next)) h).rd
  have hn40 := next_toNat hx
  have hbp := bothK_pos (A := A) hp
  have hall : ∀ t ∈ stayL A k, tableD t = true ∧ (tN t).toNat < (next + 40).toNat ∧ (tM t).toNat ≤ seq.toNat := fun t ht => by
    obtain ⟨a, b, c⟩ := hr.all t (stay_mem.1 ht).1
    exact ⟨a, by rw [hn40]; have b : (tN t).toNat < next.toNat := b; omega, c⟩
  obtain ⟨tf, htf, ef⟩ := fst_mem hbp
  obtain ⟨tl, htl, el⟩ := lst_mem hbp
  obtain ⟨rf, nf, mf⟩ := both_right h hk htf
  obtain ⟨rl, nl, ml⟩ := both_right h hk htl
  have hord : klt (lstL (bothK A k)) (fstF (bothK A k)) = false := by
    have h1 := lst_ge htf
    rw [ef]
    exact kle_trans (right_first rf) h1
  have hmt : tableD (moveT A k next seq) = true := by
    rw [tableD_iff]
    refine ⟨?_, ?_, ?_⟩
    · unfold rightT moveT tN tC tS tF tL tA tM
      have k1 : keyB (fstF (bothK A k)) = true := by rw [ef]; exact (right_keys rf).1
      have k2 : keyB (lstL (bothK A k)) = true := by rw [el]; exact (right_keys rl).2.1
      have k3 := (right_keys rf).2.2
      have k4 := h.nums.1
      dsimp only
      rw [k1, k2, hord]
      have e1 : (1 : UInt64).toNat = 1 := rfl
      simp only [Bool.not_false, Bool.true_and, Bool.and_eq_true, decide_eq_true_eq, e1]
      exact ⟨k4, by omega, by omega, by omega, by omega, by omega⟩
    · show (0 : Int) ≤ (k : Int) + 1; omega
    · show (k : Int) + 1 ≤ 3; omega
  refine ⟨⟨by rw [hn40]; omega, by rw [hn40]; omega, by rw [hn40]; have := h.nums.2.2; omega⟩, fun t ht => ?_, ?_⟩
  · rcases List.mem_append.1 ht with ht | ht
    · exact hall t ht
    · rw [List.mem_singleton] at ht
      subst ht
      exact ⟨hmt, by show next.toNat < _; rw [hn40]; omega, Nat.le_refl _⟩
  · refine List.pairwise_append.2 ⟨hr.pair.filter _, List.pairwise_singleton _ _, fun u hu t ht => ?_⟩
    rw [List.mem_singleton] at ht
    subst ht
    obtain ⟨hu1, hu2⟩ := stay_mem.1 hu
    refine ⟨fun e => ?_, fun ⟨e1, e2, e3⟩ => ?_⟩
    · have h1 : (tN u).toNat < next.toNat := (hr.all u hu1).2.1
      have h2 : tN u = next := e
      rw [h2] at h1
      omega
    · obtain ⟨j, hj, hm⟩ := mem_tabs.1 hu1
      have hv : tV u = (j : Int) := ((h.lev j hj).all u hm).2.1
      have e1 : tV u = (k : Int) + 1 := e1
      have hjk : j = k + 1 := by omega
      subst hjk
      have hnb : u ∉ bothK A k := fun hb => hu2 u hb rfl
      have hm0 : meetsT u (fstF (bothK A k)) (lstL (bothK A k)) = false := by
        unfold meetsT
        rcases stay_apart h hk hp hm hnb with h1 | h1
        · rw [h1]; simp
        · rw [h1]; simp
      have e3 : meetsT u (fstF (bothK A k)) (lstL (bothK A k)) = true := e3
      rw [hm0] at e3
      cases e3
theorem move_do (h : RightV A log seq next) (hk : k < 3) (hp : 0 < (A k).length) (hx : next.toNat ≤ 1099511627726) :
    doD (tabs A) (log, seq, next) (moveE A k next seq) = (0, stayL A k ++ [moveT A k next seq], (log, seq, next + 40)) ∧ (stayL A k).length + (bothK A k).length = (tabs A).length := by
  have hr := (rel_tabs (m := (log, seq, next)) h)
  obtain ⟨h1, h2⟩ := drop_all ((bothK A k).map tN) (tabs A) hr.nodup (both_nodup h hk) (fun n hn => by
    obtain ⟨t, ht, e⟩ := List.mem_map.1 hn
    exact ⟨t, both_tabs hk ht, e⟩)
  rw [List.length_map] at h2
  refine ⟨?_, h2⟩
  have hd : dropL (tabs A) (moveE A k next seq).2.1 = some (stayL A k) := h1
  have ha : addL (stayL A k) (moveE A k next seq).1 = some (stayL A k ++ [moveT A k next seq]) := by
    show [moveT A k next seq].foldl addStep (some (stayL A k)) = _
    have hn : hasN (stayL A k) (tN (moveT A k next seq)) = false := by
      rw [hasN_no]
      intro t ht e
      have h1 : (tN t).toNat < next.toNat := (hr.rd.all t (stay_mem.1 ht).1).2.1
      have h2 : tN t = next := e
      rw [h2] at h1
      omega
    simp [addStep, hn]
  have hm : mxN (log, seq, next) (moveE A k next seq).2.2 = (log, seq, next + 40) := by
    unfold mxN moveE
    dsimp only
    rw [mx_small, mx_small]
    have : mx next (next + 40) = next + 40 := by
      unfold mx
      rw [if_pos (by rw [next_toNat hx]; omega)]
    rw [this]
  have hb : rightDB (stayL A k ++ [moveT A k next seq]) (log, seq, next + 40) = true := rightDB_iff.2 (move_right h hk hp hx)
  unfold doD
  rw [hd]
  dsimp only
  rw [ha]
  dsimp only
  rw [hm, if_pos hb]
/-- Of what was chosen nothing is left. -/
theorem move_gone (h : RightV A log seq next) (hk : k < 3) {A' : Nat → List Tb} {m : Nm} (hR : Rel A' (stayL A k ++ [moveT A k next seq]) m) {t u : Tb} (ht : t ∈ tabs A') (hu : u ∈ bothK A k) : tN t ≠ tN u := by
  have hm : t ∈ stayL A k ++ [moveT A k next seq] := (tabs_perm hR.lvs.perm hR.inside).mem_iff.1 ht
  rcases List.mem_append.1 hm with hm | hm
  · exact fun e => (stay_mem.1 hm).2 u hu e.symm
  · rw [List.mem_singleton] at hm
    subst hm
    intro e
    have h1 := (both_right h hk hu).2.1
    have h2 : next = tN u := e
    rw [← h2] at h1
    omega
theorem move_len (h : RightV A log seq next) (hk : k < 3) (hp : 0 < (A k).length) (hx : next.toNat ≤ 1099511627726) {A' : Nat → List Tb} {m : Nm} (hR : Rel A' (stayL A k ++ [moveT A k next seq]) m) : (tabs A').length + (bothK A k).length = (tabs A).length + 1 := by
  have h1 := (tabs_perm hR.lvs.perm hR.inside).length_eq
  have h2 := (move_do h hk hp hx).2
  rw [List.length_append] at h1
  simp only [List.length_cons, List.length_nil] at h1
  omega
end
end Go.Cph.Ve
