/- A list cut into parts. -/
import Derived.Test.YtggcdeabnibibaaMk6
set_option linter.unusedVariables false
set_option linter.unusedSimpArgs false
namespace Go.Proofs.Try.Mg
open Go.RowKit Go.Cph Go.Cph.Skip Go.Cph.So

def szE (e : Ent) : Nat := e.1.size + e.2.1.size
def bytesL : List Ent → Nat
  | [] => 0
  | e :: l => szE e + bytesL l
theorem bytesL_append (a b : List Ent) : bytesL (a ++ b) = bytesL a + bytesL b := by
  induction a with
  | nil => simp [bytesL]
  | cons e a ih => rw [List.cons_append, bytesL, bytesL, ih]; omega
def cutB (size : Int) (b : Nat) (e : Ent) : List Ent → Bool
  | [] => true
  | f :: _ => decide (size ≤ (b : Int)) && decide (f.1 ≠ e.1)
def splitF (size : Int) : List Ent → Nat → List Ent → List (List Ent)
  | _, _, [] => []
  | p, b, e :: r => if cutB size (b + szE e) e r then (p ++ [e]) :: splitF size [] 0 r else splitF size (p ++ [e]) (b + szE e) r
def splitL (size : Int) (l : List Ent) : List (List Ent) := splitF size [] 0 l
/-- The row of parts, and the part that is being made. -/
structure Pts (w0 : World) (vo vp : Value) (gs : List (List Ent)) (p : List Ent) (vs : List Value) (w : World) : Prop where
  out : w.ownsRow w0.heap.size TS 1 vo gs.length vs
  len : vs.length = gs.length
  el : ∀ j (h : j < vs.length) (k : j < gs.length), w.ownsRow w0.heap.size TE 4 vs[j] gs[j].length (gs[j].flatMap encC)
  part : w.ownsRow w0.heap.size TE 4 vp p.length (p.flatMap encC)
  apart : ∀ j (h : j < vs.length), vs[j].ownBlock = none ∨ vs[j].ownBlock ≠ vp.ownBlock
  pair : ∀ j k (hj : j < vs.length) (hk : k < vs.length), j < k → vs[j].ownBlock = none ∨ vs[j].ownBlock ≠ vs[k].ownBlock
  bel : Below w0.heap.size w0 w
theorem Pts.kept {w0 w w' : World} {vo vp : Value} {gs : List (List Ent)} {p : List Ent} {vs : List Value} (h : Pts w0 vo vp gs p vs w) (hb : Below w.heap.size w w') : Pts w0 vo vp gs p vs w' :=
  ⟨row_kept1 h.out fun k hk => hb.block k (h.out.lt k hk).2, h.len, fun j hj hk => row_kept1 (h.el j hj hk) fun k hk' => hb.block k ((h.el j hj hk).lt k hk').2, row_kept1 h.part fun k hk => hb.block k (h.part.lt k hk).2, h.apart, h.pair, below_step h.bel hb h.bel.size⟩
theorem own_type {w : World} {base base' n n' s s' : Nat} {e e' : TypeId} {v v' : Value} {xs xs' : List Value} (h : w.ownsRow base e s v n xs) (k : w.ownsRow base' e' s' v' n' xs') (hne : e ≠ e') : v.ownBlock = none ∨ v.ownBlock ≠ v'.ownBlock := by
  obtain ⟨_, h2⟩ := h
  obtain ⟨_, k2⟩ := k
  rcases h2 with ⟨h2, _⟩ | ⟨g, cap, cur, h2, _, h3, _⟩
  · rw [h2]; exact .inl rfl
  · rcases k2 with ⟨k2, _⟩ | ⟨g', cap', cur', k2, _, k3, _⟩
    · rw [h2, k2]; exact .inr (by simp [Value.ownBlock])
    · rw [h2, k2]
      refine .inr fun e0 => hne ?_
      simp [Value.ownBlock] at e0
      subst e0
      rw [h3] at k3
      injection k3 with k3
      injection k3
theorem Pts.grow {w0 w w' : World} {vo vp v' : Value} {gs : List (List Ent)} {p : List Ent} {vs : List Value} (h : Pts w0 vo vp gs p vs w) (x : Ent) (ho : w'.ownsRow w0.heap.size TE 4 v' (p.length + 1) (p.flatMap encC ++ encC x)) (hg : w.grownBy w' vp.ownBlock)
    (hv : v'.ownBlock = vp.ownBlock ∨ v'.ownBlock = some w.heap.size) : Pts w0 vo v' gs (p ++ [x]) vs w' := by
  refine ⟨h.out.kept hg (own_type h.out h.part (by decide)), h.len, fun j hj hk => (h.el j hj hk).kept hg (h.apart j hj), by rw [List.length_append, List.flatMap_append]; simpa using ho, fun j hj => ?_, h.pair, below_grown h.bel hg h.part (Nat.le_refl _) h.bel.size⟩
  rcases h.apart j hj with e | e
  · exact .inl e
  · rcases hv with f | f
    · rw [f]; exact .inr e
    · rw [f]
      by_cases hk : j < gs.length
      · cases ho : vs[j].ownBlock with
        | none => exact .inl rfl
        | some k =>
          right; intro e2
          have := ((h.el j hj hk).lt k ho).2
          injection e2 with e2
          omega
      · have := h.len; omega
theorem Pts.put {w0 w w' : World} {vo vp v' : Value} {gs : List (List Ent)} {p : List Ent} {vs : List Value} (h : Pts w0 vo vp gs p vs w) (ho : w'.ownsRow w0.heap.size TS 1 v' (gs.length + 1) (vs ++ [vp])) (hg : w.grownBy w' vo.ownBlock) : Pts w0 v' (.slice none 0 0) (gs ++ [p]) [] (vs ++ [vp]) w' := by
  have hap : ∀ {base n : Nat} {v : Value} {xs : List Value}, w.ownsRow base TE 4 v n xs → v.ownBlock = none ∨ v.ownBlock ≠ vo.ownBlock := fun k => own_type k h.out (by decide)
  refine ⟨by rw [List.length_append]; exact ho, by rw [List.length_append, List.length_append, h.len]; rfl, fun j hj hk => ?_, World.ownsRow_nil _ _ _ _, fun j hj => ?_, fun j k hj hk hjk => ?_, below_grown h.bel hg h.out (Nat.le_refl _) h.bel.size⟩
  · by_cases hjl : j < gs.length
    · simp only [List.getElem_append_left (show j < vs.length by rw [h.len]; exact hjl), List.getElem_append_left hjl]
      exact (h.el j _ _).kept hg (hap (h.el j (by rw [h.len]; exact hjl) hjl))
    · rw [List.length_append] at hj hk
      have hjv := h.len
      simp only [List.length_singleton] at hj hk
      simp only [List.getElem_append_right (show vs.length ≤ j by omega), List.getElem_append_right (show gs.length ≤ j by omega), List.getElem_singleton]
      exact h.part.kept hg (hap h.part)
  · by_cases hn : (vs ++ [vp])[j].ownBlock = none
    · exact .inl hn
    · exact .inr hn
  · rw [List.length_append] at hj hk
    simp only [List.length_singleton] at hj hk
    have hjv : j < vs.length := by omega
    simp only [List.getElem_append_left hjv]
    by_cases hkv : k < vs.length
    · simp only [List.getElem_append_left hkv]; exact h.pair j k hjv hkv hjk
    · simp only [List.getElem_append_right (show vs.length ≤ k by omega), List.getElem_singleton]; exact h.apart j hjv
theorem Pts.done {w0 w : World} {vo vp : Value} {gs : List (List Ent)} {p : List Ent} {vs : List Value} (h : Pts w0 vo vp gs p vs w) : EntsOf w vo gs :=
  ⟨vs, h.len, Seg.of_owns h.out, fun j hj hk => Seg.of_owns (h.el j hj hk)⟩
/-- New parts: each lies in memory of its own, apart of each other one. -/
def PartsPost (w : World) (gs : List (List Ent)) (e : Ending) (w' : World) : Prop := ∃ v' vp p vs, e = .returned v' ∧ Pts w v' vp gs p vs w'

set_option maxRecDepth 100000 in
set_option maxHeartbeats 12000000 in
theorem split_any (v : Value) (l : List Ent) (size : Int) (w : World) (h : EntsAt w v l) (hn : l.length ≤ 100000) (hb : bytesL l ≤ 1000000000) (hs1 : -9223372036854775808 ≤ size) (hs2 : size ≤ 9223372036854775807) :
    Calls Try.prog 21 #[v, .int .i64 size] w (PartsPost w (splitL size l)) := by
  obtain ⟨ao, cap, hv⟩ := elems_slice h
  have HV := Lib.hid h
  subst hv
  clear h
  go_enter Try.func21, Try.ntmps21
  go_wp2_with fail
  go_loopw [5, 6, 7, 12] (fun vo vp vb vi wr => ∃ (k b : Nat) (gs : List (List Ent)) (p : List Ent) (vs : List Value), k ≤ l.length ∧ vi = .int .i64 k ∧ vb = .int .i64 b ∧ gs.length ≤ k ∧ p.length ≤ k ∧ b + bytesL (l.drop k) ≤ bytesL l ∧ gs ++ splitF size p b (l.drop k) = splitL size l ∧ Pts w vo vp gs p vs wr) (fun _ _ _ vi _ => l.length - (intOf vi).toNat)
  case atStart => exact ⟨0, 0, [], [], [], Nat.zero_le _, rfl, rfl, Nat.le_refl _, Nat.le_refl _, by simp, rfl, ⟨World.ownsRow_nil _ _ _ _, rfl, fun j h => by simp at h, World.ownsRow_nil _ _ _ _, fun j h => by simp at h, fun j k h => by simp at h, Below.refl _ _⟩⟩
  case round =>
    obtain ⟨k, b, gs, p, vs, hk, rfl, rfl, hgk, hpk, hbb, heq, hpts⟩ := hrel
    have HP := Lib.hid hpts
    have HE := Lib.hid heq
    have HBB := Lib.hid hbb
    obtain ⟨oo, oc, hov⟩ := owns_slice1 hpts.out
    subst hov
    obtain ⟨po, pc, hpv⟩ := owns_slice1 hpts.part
    subst hpv
    by_cases hlt : k < l.length
    · obtain ⟨lb, lo, lcap, hve, hcs⟩ := ents_cells HV.out (by omega)
      cases hve
      have hcx := (hcs k hlt).kept hpts.bel
      obtain ⟨x, hx⟩ : ∃ x, x = l[k] := ⟨_, rfl⟩
      obtain ⟨r, hr⟩ : ∃ r, r = l.drop (k + 1) := ⟨_, rfl⟩
      have hd : l.drop k = x :: r := by rw [List.drop_eq_getElem_cons hlt, hx, hr]
      rw [← hx] at hcx
      rw [hd] at hbb heq
      obtain ⟨b', hb'⟩ : ∃ b', b' = b + szE x := ⟨_, rfl⟩
      have hb1 : b' + bytesL r ≤ bytesL l := by rw [hb']; rw [bytesL] at hbb; omega
      have HS := Lib.hid (show gs ++ (if cutB size b' x r then (p ++ [x]) :: splitF size [] 0 r else splitF size (p ++ [x]) b' r) = splitL size l by rw [← heq, hb']; rfl)
      have HR := Lib.hid hr
      have HB1 := Lib.hid hb1
      have hbs : b' = b + (x.1.size + x.2.1.size) := hb'
      have HW := Lib.hid (World.size_alloc wr (.cells #[.string x.1, .string x.2.1, .int .u64 (x.2.2.1.toNat : Int), .bool x.2.2.2] TE))
      have hbx := heap_alloc_new wr (.cells #[.string x.1, .string x.2.1, .int .u64 (x.2.2.1.toNat : Int), .bool x.2.2.2] TE)
      have hbx2 := heap_alloc_new (wr.alloc (.cells #[.string x.1, .string x.2.1, .int .u64 (x.2.2.1.toNat : Int), .bool x.2.2.2] TE)) (.cells #[.string x.1, .string x.2.1, .int .u64 (x.2.2.1.toNat : Int), .bool x.2.2.2] TE)
      rw [HW.out] at hbx2
      have HPA := Lib.hid (hpts.kept ((Below.refl _ _).alloc (Nat.le_refl _) (.cells #[.string x.1, .string x.2.1, .int .u64 (x.2.2.1.toNat : Int), .bool x.2.2.2] TE)))
      have HPB := Lib.hid (HPA.out.kept ((Below.refl _ _).alloc (Nat.le_refl _) (.cells #[.string x.1, .string x.2.1, .int .u64 (x.2.2.1.toNat : Int), .bool x.2.2.2] TE)))
      have HBX := Lib.hid (blk_alloc hbx (.cells #[.string x.1, .string x.2.1, .int .u64 (x.2.2.1.toNat : Int), .bool x.2.2.2] TE))
      have HSEG := Lib.hid (show Seg ((wr.alloc (.cells #[.string x.1, .string x.2.1, .int .u64 (x.2.2.1.toNat : Int), .bool x.2.2.2] TE)).alloc (.cells #[.string x.1, .string x.2.1, .int .u64 (x.2.2.1.toNat : Int), .bool x.2.2.2] TE)) 4 (.slice (some ⟨wr.heap.size + 1, 0, none⟩) 1 1) 1 (encC x) from
        ⟨⟨_, _, rfl, fun _ => ⟨wr.heap.size + 1, 0, rfl, fun j hj => by rw [Nat.zero_add, blk_cell hbx2]; simp⟩⟩, rfl⟩)
      have HNX := Lib.hid (show ∀ W, Below w.heap.size w W → ∀ (h : k + 1 < l.length), CellsOf W lb (lo + (k + 1) * 4) l[k + 1] from fun W hb h => (hcs (k + 1) h).kept hb)
      have HL9 := Lib.hid (show p.length + 1 ≤ 1099511627776 by omega)
      have HL8 := Lib.hid (show gs.length + 1 ≤ 1099511627776 by omega)
      have HSZB := Lib.hid HPB.out.bel.size
      have k1 : (0 : Int) ≤ (k : Int) := by omega
      have k2 : (k : Int) < (l.length : Int) := by omega
      have hb'm : b' ≤ 1000000000 := by omega
      have d0 := hcx.c0
      have d1 := hcx.c1
      have d2 := hcx.c2
      have d3 := hcx.c3
      have HBS := Lib.hid hbs
      have s1 : (b : Int) + ((x.1.size : Int) + (x.2.1.size : Int)) = (b' : Int) := by omega
      have s2 : (x.1.size : Int) ≤ 1000000000 := by omega
      have s3 : (x.2.1.size : Int) ≤ 1000000000 := by omega
      clear hbx hbx2 hcs hcx hx hr hd hbb heq hb1 hpts hb' hbs
      go_wp2_with (at_builtin; refine wpList_append_seg rfl (.tmp 17) (.tmp 19) 25 rfl w.heap.size TE _ 4 48 Try.underlying25 infoE rfl (by decide) _ p.length (p.flatMap encC) rfl HPB.out.part _ 1 (encC x) rfl HSEG.out (encC_one1 x) HL9.out (by decide) HSZB.out ?_; intro v' w' ho hgr hv'; have HPC := Lib.hid (HPB.out.grow x ho hgr hv'); have HBX3 := Lib.hid ((hgr.block _ (blk_lt HBX.out) (fun e => by have := (HPB.out.part.lt _ e.symm).2; have := (HP.out.part.lt _ e.symm).2; omega)).trans HBX.out); clear ho hgr hv' d0 d1 d2 d3; have d0 : w'.cell? ⟨wr.heap.size, 0, none⟩ = some (.string x.1) := (by rw [blk_cell HBX3.out]; rfl); have d1 : w'.cell? ⟨wr.heap.size, 1, none⟩ = some (.string x.2.1) := (by rw [blk_cell HBX3.out]; rfl))
      obtain ⟨ob, oc2, hov'⟩ := owns_slice1 HPC.out.part
      subst hov'
      have hpl : (p ++ [x]).length ≤ 100001 := by rw [List.length_append]; simp; omega
      obtain ⟨pl, hpl'⟩ : ∃ n, n = (p ++ [x]).length := ⟨_, rfl⟩
      rw [← hpl'] at HPC ⊢
      clear hpl'
      clear HPA HPB HBX HSEG HP HW
      have k5 : IntKind.i64.wrap ((k : Int) + 1) = (k : Int) + 1 := by rw [IntKind.wrap_i64]; omega
      by_cases hlast : k + 1 < l.length
      · have hcy := HNX.out _ HPC.out.bel hlast
        obtain ⟨y, hy⟩ : ∃ y, y = l[k + 1] := ⟨_, rfl⟩
        rw [← hy] at hcy
        have f0 := hcy.c0
        have k3 : ((k : Int) + 1 == (l.length : Int)) = false := by simp; omega
        have k4 : (k : Int) + 1 < (l.length : Int) := by omega
        have k6 : (0 : Int) ≤ (k : Int) + 1 := by omega
        have k7 : ((k : Int) + 1).toNat = k + 1 := by omega
        have hry : ∃ r', r = y :: r' := ⟨l.drop (k + 1 + 1), by rw [HR.out, List.drop_eq_getElem_cons hlast, hy]⟩
        obtain ⟨r', hr'⟩ := hry
        have HCB := Lib.hid (show cutB size b' x r = (decide (size ≤ (b' : Int)) && decide (y.1 ≠ x.1)) by rw [hr']; rfl)
        clear hcy hy hr'
        by_cases hsz : size ≤ (b' : Int)
        · have k8 : decide (size ≤ (b' : Int)) = true := by simpa using hsz
          by_cases hky : y.1 = x.1
          · have k9 : (y.1.toList == x.1.toList) = true := by rw [beq_toList]; simpa using hky
            have hcut : cutB size b' x r = false := by rw [HCB.out]; simp [hky]
            clear hky
            have HC := Lib.hid (show gs ++ splitF size (p ++ [x]) b' r = splitL size l from by rw [← HS.out, hcut, if_neg (by simp)])
            clear hcut
            go_wp2_with fail
            go_quiet (fail)
            clear d0 d1
            have HPD := Lib.hid (show Pts w (.slice oo gs.length oc) (.slice ob pl oc2) gs (p ++ [x]) vs (w'.drewN nq) from HPC.out.kept ⟨rfl, rfl, rfl, Nat.le_refl _, fun _ _ => rfl⟩)
            clear HPC HBX3
            generalize w'.drewN nq = wq at *
            go_wp2_with fail
            go_roundw
            case rel =>
              refine ⟨k + 1, b', gs, p ++ [x], vs, hlt, by go_num, rfl, by omega, by rw [List.length_append]; simp; omega, ?_, by rw [← HR.out]; exact HC.out, HPD.out⟩
              rw [← HR.out]; exact HB1.out
            case measure => simp [intOf]; omega
          · have k9 : (y.1.toList == x.1.toList) = false := by rw [beq_toList]; simpa using hky
            have hcut : cutB size b' x r = true := by rw [HCB.out]; simp [hky, hsz]
            clear hky
            have HC := Lib.hid (show (gs ++ [p ++ [x]]) ++ splitF size [] 0 r = splitL size l from by rw [← HS.out, hcut, if_pos rfl]; simp)
            clear hcut
            go_wp2_with fail
            go_quiet (fail)
            clear d0 d1
            have HPD := Lib.hid (show Pts w (.slice oo gs.length oc) (.slice ob pl oc2) gs (p ++ [x]) vs (w'.drewN nq) from HPC.out.kept ⟨rfl, rfl, rfl, Nat.le_refl _, fun _ _ => rfl⟩)
            clear HPC HBX3
            generalize w'.drewN nq = wq at *
            have HPE := Lib.hid (HPD.out.kept ((Below.refl _ _).alloc (Nat.le_refl _) (.cells #[.slice ob pl oc2] TS)))
            have hby := heap_alloc_new wq (.cells #[.slice ob pl oc2] TS)
            have HSEG2 := Lib.hid (show Seg (wq.alloc (.cells #[.slice ob pl oc2] TS)) 1 (.slice (some ⟨wq.heap.size, 0, none⟩) 1 1) 1 [.slice ob pl oc2] from
              ⟨⟨_, _, rfl, fun _ => ⟨wq.heap.size, 0, rfl, fun j hj => by rw [Nat.zero_add, blk_cell hby]; simp⟩⟩, rfl⟩)
            have HSZE := Lib.hid HPE.out.bel.size
            clear hby
            go_wp2_with (at_builtin; refine wpList_append_seg rfl (.tmp 51) (.tmp 53) 22 rfl w.heap.size TS _ 1 24 Try.underlying22 infoS rfl (by decide) _ gs.length vs rfl HPE.out.out _ 1 [.slice ob pl oc2] rfl HSEG2.out (by intro u hu; simp at hu; subst hu; rfl) HL8.out (by decide) HSZE.out ?_; intro v2 w2 ho hgr _; have HPF := Lib.hid (HPE.out.put ho hgr); clear ho hgr)
            go_roundw
            case rel =>
              refine ⟨k + 1, 0, gs ++ [p ++ [x]], [], _, hlt, by go_num, rfl, by rw [List.length_append]; simp; omega, Nat.zero_le _, ?_, by rw [← HR.out]; exact HC.out, HPF.out⟩
              rw [← HR.out]; have := HB1.out; omega
            case measure => simp [intOf]; omega
        · have k8 : decide (size ≤ (b' : Int)) = false := by simpa using hsz
          have hcut : cutB size b' x r = false := by rw [HCB.out]; simp [hsz]
          have HC := Lib.hid (show gs ++ splitF size (p ++ [x]) b' r = splitL size l from by rw [← HS.out, hcut, if_neg (by simp)])
          clear hcut
          go_wp2_with fail
          go_quiet (fail)
          clear d0 d1
          have HPD := Lib.hid (show Pts w (.slice oo gs.length oc) (.slice ob pl oc2) gs (p ++ [x]) vs (w'.drewN nq) from HPC.out.kept ⟨rfl, rfl, rfl, Nat.le_refl _, fun _ _ => rfl⟩)
          clear HPC HBX3
          generalize w'.drewN nq = wq at *
          go_wp2_with fail
          go_roundw
          case rel =>
            refine ⟨k + 1, b', gs, p ++ [x], vs, hlt, by go_num, rfl, by omega, by rw [List.length_append]; simp; omega, ?_, by rw [← HR.out]; exact HC.out, HPD.out⟩
            rw [← HR.out]; exact HB1.out
          case measure => simp [intOf]; omega
      · have k3 : ((k : Int) + 1 == (l.length : Int)) = true := by simp; omega
        have hcut : cutB size b' x r = true := by
          have : r = [] := by rw [HR.out]; exact List.drop_of_length_le (by omega)
          rw [this]; rfl
        have HC := Lib.hid (show (gs ++ [p ++ [x]]) ++ splitF size [] 0 r = splitL size l from by rw [← HS.out, hcut, if_pos rfl]; simp)
        clear hcut
        go_wp2_with fail
        go_quiet (fail)
        clear d0 d1
        have HPD := Lib.hid (show Pts w (.slice oo gs.length oc) (.slice ob pl oc2) gs (p ++ [x]) vs (w'.drewN nq) from HPC.out.kept ⟨rfl, rfl, rfl, Nat.le_refl _, fun _ _ => rfl⟩)
        clear HPC HBX3
        generalize w'.drewN nq = wq at *
        have HPE := Lib.hid (HPD.out.kept ((Below.refl _ _).alloc (Nat.le_refl _) (.cells #[.slice ob pl oc2] TS)))
        have hby := heap_alloc_new wq (.cells #[.slice ob pl oc2] TS)
        have HSEG2 := Lib.hid (show Seg (wq.alloc (.cells #[.slice ob pl oc2] TS)) 1 (.slice (some ⟨wq.heap.size, 0, none⟩) 1 1) 1 [.slice ob pl oc2] from
          ⟨⟨_, _, rfl, fun _ => ⟨wq.heap.size, 0, rfl, fun j hj => by rw [Nat.zero_add, blk_cell hby]; simp⟩⟩, rfl⟩)
        have HSZE := Lib.hid HPE.out.bel.size
        clear hby
        go_wp2_with (at_builtin; refine wpList_append_seg rfl (.tmp 51) (.tmp 53) 22 rfl w.heap.size TS _ 1 24 Try.underlying22 infoS rfl (by decide) _ gs.length vs rfl HPE.out.out _ 1 [.slice ob pl oc2] rfl HSEG2.out (by intro u hu; simp at hu; subst hu; rfl) HL8.out (by decide) HSZE.out ?_; intro v2 w2 ho hgr _; have HPF := Lib.hid (HPE.out.put ho hgr); clear ho hgr)
        go_roundw
        case rel =>
          refine ⟨k + 1, 0, gs ++ [p ++ [x]], [], _, hlt, by go_num, rfl, by rw [List.length_append]; simp; omega, Nat.zero_le _, ?_, by rw [← HR.out]; exact HC.out, HPF.out⟩
          rw [← HR.out]; have := HB1.out; omega
        case measure => simp [intOf]; omega
    · have HF := Lib.hid (show gs = splitL size l from by
        rw [← heq, List.drop_of_length_le (by omega)]
        cases p <;> simp [splitF])
      clear hpts heq hbb
      go_wp2_with fail
      go_ret
      exact ⟨_, _, p, vs, rfl, by rw [← HF.out]; exact HP.out⟩
end Go.Proofs.Try.Mg
