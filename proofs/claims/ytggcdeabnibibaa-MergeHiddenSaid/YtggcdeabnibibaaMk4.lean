/- A list cut into the versions of its keys. -/
import Derived.Test.YtggcdeabnibibaaMk3
import Derived.Test.YtggcdeabnibibaaMp1
set_option linter.unusedVariables false
set_option linter.unusedSimpArgs false
namespace Go.Proofs.Try.Mg
open Go.RowKit Go.Cph Go.Cph.Skip Go.Cph.So

theorem infoS : (Try.prog.info? TS).map (fun i => (i.zero, i.size, i.bytes)) = some (some (.slice none 0 0), 1, 24) := by kernel_rfl
/-- Slices that have been put into a row of our own, and what they read as. -/
structure Outs (w0 : World) (T : TypeId) (w : World) (v : Value) (ls : List (List Ent)) (vs : List Value) : Prop where
  own : w.ownsRow w0.heap.size T 1 v ls.length vs
  len : vs.length = ls.length
  el : ∀ j (h : j < vs.length) (k : j < ls.length), EntsAt w0 vs[j] ls[j]
theorem Outs.done {w0 w : World} {T : TypeId} {v : Value} {ls : List (List Ent)} {vs : List Value} (h : Outs w0 T w v ls vs) (hb : Below w0.heap.size w0 w) : EntsOf w v ls :=
  ⟨vs, h.len, Seg.of_owns h.own, fun j hj hk => (h.el j hj hk).kept hb⟩
theorem Outs.more {w0 w w' : World} {T : TypeId} {v v' u : Value} {ls : List (List Ent)} {vs : List Value} {l : List Ent} (h : Outs w0 T w v ls vs) (ho : w'.ownsRow w0.heap.size T 1 v' (ls.length + 1) (vs ++ [u])) (hu : EntsAt w0 u l) : Outs w0 T w' v' (ls ++ [l]) (vs ++ [u]) := by
  refine ⟨by rw [List.length_append]; exact ho, by rw [List.length_append, List.length_append, h.len]; rfl, fun j hj hk => ?_⟩
  by_cases hjl : j < ls.length
  · rw [List.getElem_append_left (by rw [h.len]; exact hjl), List.getElem_append_left hjl]
    exact h.el j _ _
  · rw [List.length_append] at hj hk
    have hjv := h.len
    simp only [List.length_singleton] at hj hk
    rw [List.getElem_append_right (by omega), List.getElem_append_right (by omega)]
    simpa using hu
theorem flat_dropE (l : List Ent) (k : Nat) : (l.flatMap encC).drop (k * 4) = (l.drop k).flatMap encC := by
  induction l generalizing k with
  | nil => simp
  | cons x l ih =>
    cases k with
    | zero => simp
    | succ k =>
      rw [List.flatMap_cons, List.drop_succ_cons, ← ih, Nat.succ_mul, Nat.add_comm, ← List.drop_drop]
      congr 1
/-- A part of a slice of entries. -/
theorem ents_part {w : World} {b off cap : Nat} {l : List Ent} (h : EntsAt w (.slice (some ⟨b, off, none⟩) l.length cap) l) (i m cap' : Nat) (hn : i + m ≤ l.length) (hne : m = ((l.drop i).take m).length) : EntsAt w (.slice (some ⟨b, off + i * 4, none⟩) m cap') ((l.drop i).take m) := by
  obtain ⟨⟨ao, c, hv, hc⟩, hl⟩ := h
  cases hv
  refine ⟨⟨_, cap', by rw [← hne], fun h0 => ?_⟩, flat_length encC_len _⟩
  obtain ⟨b', off', hb, hcc⟩ := hc (by omega)
  cases hb
  refine ⟨b, off + i * 4, rfl, fun j hj => ?_⟩
  rw [← hne] at hj
  rw [Nat.add_assoc, hcc _ (by omega)]
  have e : ((l.drop i).take m).flatMap encC = ((l.flatMap encC).drop (i * 4)).take (m * 4) := by rw [flat_dropE, flat_takeE]
  rw [e, List.getElem?_take, if_pos hj, List.getElem?_drop]
def KeysPost (w : World) (l : List Ent) (e : Ending) (w' : World) : Prop := ∃ v', e = .returned v' ∧ EntsOf w' v' (groupsR l) ∧ Below w.heap.size w w'
/-- Where the rest of a list lies. -/
structure Rest (w : World) (r : List Ent) (o : Option Addr) (c : Nat) : Prop where
  at_ : EntsAt w (.slice o r.length c) r
  cap : r.length ≤ c

set_option maxRecDepth 100000 in
set_option maxHeartbeats 6000000 in
theorem keys_any (ao : Option Addr) (cap : Nat) (l : List Ent) (w : World) (h : EntsAt w (.slice ao l.length cap) l) (hcap : l.length ≤ cap) (hcm : cap ≤ maxLen) (hn : l.length ≤ 1000000) :
    Calls Try.prog 30 #[.slice ao l.length cap] w (KeysPost w l) := by
  have HR0 := Lib.hid (show Rest w l ao cap from ⟨h, hcap⟩)
  unfold maxLen at hcm
  clear h
  go_enter Try.func30, Try.ntmps30
  go_wp2_with fail
  go_loopw [0, 3] (fun vl vo wr => ∃ (r : List Ent) (o : Option Addr) (c : Nat) (gs : List (List Ent)) (vs : List Value), vl = .slice o r.length c ∧ r.length ≤ l.length ∧ c ≤ cap ∧ gs.length + r.length ≤ l.length ∧ Rest w r o c ∧ gs ++ groupsR r = groupsR l ∧ Outs w TS wr vo gs vs ∧ Below w.heap.size w wr) (fun vl _ _ => match vl with | .slice _ n _ => n | _ => 0)
  case atStart => exact ⟨l, ao, cap, [], [], rfl, Nat.le_refl _, Nat.le_refl _, by simp, HR0.out, rfl, ⟨World.ownsRow_nil _ _ _ _, rfl, fun j h => by simp at h⟩, Below.refl _ _⟩
  case round =>
    obtain ⟨r, o, c, gs, vs, rfl, hrl, hcc, hgl, hrest, hgr, hout, hbel⟩ := hrel
    have HREST := Lib.hid hrest
    have HGR := Lib.hid hgr
    have HOUT := Lib.hid hout
    have HBE := Lib.hid hbel
    have hrc := hrest.cap
    clear hrest hgr hout hbel HR0
    by_cases h0 : 0 < r.length
    · obtain ⟨b, off, c', hve, hcs⟩ := ents_cells HREST.out.at_ h0
      cases hve
      have HCS := Lib.hid hcs
      have k0 : (0 : Int) < (r.length : Int) := by omega
      clear hcs
      obtain ⟨x, hx⟩ : ∃ x, x = r[0] := ⟨_, rfl⟩
      have HX := Lib.hid hx
      obtain ⟨vb, vc, hvv⟩ := owns_slice1 HOUT.out.own
      subst hvv
      clear hx
      go_wp2_with fail
      go_loopw [4] (fun vn wr2 => ∃ n : Nat, 1 ≤ n ∧ n ≤ r.length ∧ vn = .int .i64 n ∧ (∀ j (hj : j < r.length), j < n → r[j].1 = x.1) ∧ ∃ q, wr2 = wr.drewN q) (fun vn _ => r.length - (intOf vn).toNat)
      case atStart => exact ⟨1, Nat.le_refl _, h0, rfl, fun j hj h1 => by simp only [show j = 0 by omega]; exact congrArg (·.1) HX.out.symm, 0, rfl⟩
      case round =>
        obtain ⟨wo, rfl⟩ : ∃ wo : World, wo = wr := ⟨_, rfl⟩
        obtain ⟨n, h1n, hnr, rfl, hall, q, hwq⟩ := hrel
        have HALL := Lib.hid hall
        subst hwq
        clear hall
        by_cases hlt : n < r.length
        · have hcn := (HCS.out n hlt).kept HBE.out
          have hc0 := (HCS.out 0 h0).kept HBE.out
          obtain ⟨y, hy⟩ : ∃ y, y = r[n] := ⟨_, rfl⟩
          rw [← hy] at hcn
          rw [← HX.out, Nat.zero_mul, Nat.add_zero] at hc0
          have HY := Lib.hid hy
          have d0 := hcn.c0
          have f0 := hc0.c0
          have z1 : (n : Int) < (r.length : Int) := by omega
          have z2 : (0 : Int) ≤ (n : Int) := by omega
          have z3 : decide (n < r.length) = true := by simpa using hlt
          have z4 : (0 : Int) < (r.length : Int) := by omega
          have z5 : 0 < r.length := h0
          clear hcn hc0 hy
          by_cases hk : y.1 = x.1
          · have e1 : (y.1.toList == x.1.toList) = true := by rw [beq_toList]; simpa using hk
            have HK := Lib.hid hk
            clear hk
            go_wp2_with fail
            go_quiet (fail)
            clear d0 f0 e1
            go_wp2_with fail
            go_roundw
            case rel =>
              refine ⟨n + 1, by omega, hlt, by go_num, fun j hj hjn => ?_, _, rfl⟩
              by_cases e : j = n
              · subst e; rw [← HY.out]; exact HK.out
              · exact HALL.out j hj (by omega)
            case measure => simp [intOf]; omega
          · have e1 : (y.1.toList == x.1.toList) = false := by rw [beq_toList]; simpa using hk
            have HCUT := Lib.hid (show groupsR r = r.take n :: groupsR (r.drop n) from groupsR_cut h1n hnr (fun j hj hjn => by rw [HALL.out j hj hjn, HX.out]) (fun h => by rw [← HY.out, ← HX.out]; exact hk))
            clear hk
            go_wp2_with fail
            go_quiet (fail)
            clear d0 f0 e1
            have HOQ := Lib.hid (show (wr.drewN (q + nq)).ownsRow w.heap.size TS 1 _ gs.length vs from HOUT.out.own)
            have HBQ := Lib.hid (show Below w.heap.size w (wr.drewN (q + nq)) from below_step HBE.out ⟨rfl, rfl, rfl, Nat.le_refl _, fun _ _ => rfl⟩ HBE.out.size)
            rw [World.drewN_drewN]
            generalize wr.drewN (q + nq) = wq at *
            have c1 : ¬ c = n := by omega
            have HADR := Lib.hid (show Rest w (r.drop n) (some ⟨b, off + n * 4, none⟩) (c - n) from ⟨by
              have hl : (r.drop n).length = r.length - n := List.length_drop
              have e : r.drop n = (r.drop n).take (r.length - n) := (List.take_of_length_le (by omega)).symm
              rw [hl]
              have := ents_part HREST.out.at_ n (r.length - n) (c - n) (by omega) (by rw [← e, hl])
              rw [← e] at this
              exact this, by rw [List.length_drop]; omega⟩)
            have HRD := Lib.hid (show r.length - n = (r.drop n).length by rw [List.length_drop])
            have HU := Lib.hid (show EntsAt w (.slice (some ⟨b, off, none⟩) n c) (r.take n) from by
              have := ents_part HREST.out.at_ 0 n c (by omega) (by rw [List.drop_zero, List.length_take]; omega)
              simpa using this)
            have HGSN := Lib.hid (show (gs ++ [r.take n]) ++ groupsR (r.drop n) = groupsR l from by rw [← HGR.out, HCUT.out]; simp)
            have HL9 := Lib.hid (show gs.length + 1 ≤ 1099511627776 by omega)
            have d1 : (n : Int) ≤ (r.length : Int) := by omega
            have d2 : (n : Int) ≤ (c : Int) := by omega
            have d3 : (0 : Int) ≤ (n : Int) := by omega
            have d4 : n ≤ c := by omega
            have d5 : (r.length : Int) ≤ (c : Int) := by omega
            have HN1 := Lib.hid (show gs.length + 1 + (r.drop n).length ≤ l.length ∧ (r.drop n).length ≤ l.length ∧ c - n ≤ cap ∧ (r.drop n).length < r.length by rw [List.length_drop]; omega)
            go_wp2_with (at_builtin; refine wpList_append1 rfl (.tmp 26) (.tmp 30) 22 rfl w.heap.size TS _ 1 24 Try.underlying22 infoS rfl (by decide) _ gs.length vs [.slice (some ⟨b, off, none⟩) n c] rfl HOQ.out _ 1 rfl rfl rfl (by intro u hu; simp at hu; subst hu; rfl) HL9.out (by decide) HBQ.out.size w.heap.size w HBQ.out (Nat.le_refl _) ?_; intro v' w' ho hgr hb' hsz'; have HO4 := Lib.hid ho; have HB4 := Lib.hid hb'; clear ho hgr hb' hsz')
            go_roundw
            case rel =>
              obtain ⟨g1, g2, g3, g4⟩ := HN1.out
              exact ⟨r.drop n, _, c - n, gs ++ [r.take n], _, by rw [HRD.out], g2, g3, by rw [List.length_append]; exact g1, HADR.out, HGSN.out, (Outs.more (w := wr) HOUT.out HO4.out HU.out), HB4.out⟩
            case measure => first | (rw [HRD.out]; exact HN1.out.2.2.2) | (simp; omega)
        · have z3 : decide (n < r.length) = false := by simpa using hlt
          have z4 : ¬ (n : Int) < (r.length : Int) := by omega
          have HCUT := Lib.hid (show groupsR r = r.take n :: groupsR (r.drop n) from groupsR_cut h1n hnr (fun j hj hjn => by rw [HALL.out j hj hjn, HX.out]) (fun h => absurd h hlt))
          go_wp2_with fail
          go_quiet (fail)
          have HOQ := Lib.hid (show (wr.drewN (q + nq)).ownsRow w.heap.size TS 1 _ gs.length vs from HOUT.out.own)
          have HBQ := Lib.hid (show Below w.heap.size w (wr.drewN (q + nq)) from below_step HBE.out ⟨rfl, rfl, rfl, Nat.le_refl _, fun _ _ => rfl⟩ HBE.out.size)
          rw [World.drewN_drewN]
          generalize wr.drewN (q + nq) = wq at *
          clear z3 z4
          by_cases hce : c = n
          · obtain rfl : c = n := hce
            have q1 : r.length = c := by omega
            have HQ1 := Lib.hid q1
            have c2 : (c : Int) ≤ (c : Int) := Int.le_refl _
            have HADR := Lib.hid (show Rest w (r.drop c) (some ⟨b, off, none⟩) (c - c) from ⟨by
              have e : r.drop c = [] := List.drop_of_length_le (by omega)
              rw [e]; exact ⟨⟨_, _, rfl, fun h => by simp at h⟩, rfl⟩, by rw [List.length_drop]; omega⟩)
            have HRD := Lib.hid (show r.length - c = (r.drop c).length by rw [List.length_drop])
            have HU := Lib.hid (show EntsAt w (.slice (some ⟨b, off, none⟩) c c) (r.take c) from by
              have := ents_part HREST.out.at_ 0 c c (by omega) (by rw [List.drop_zero, List.length_take]; omega)
              simpa using this)
            have HGSN := Lib.hid (show (gs ++ [r.take c]) ++ groupsR (r.drop c) = groupsR l from by rw [← HGR.out, HCUT.out]; simp)
            have HL9 := Lib.hid (show gs.length + 1 ≤ 1099511627776 by omega)
            have d1 : (c : Int) ≤ (r.length : Int) := by omega
            have d2 : (c : Int) ≤ (c : Int) := by omega
            have d3 : (0 : Int) ≤ (c : Int) := by omega
            have d4 : c ≤ c := by omega
            have d5 : (r.length : Int) ≤ (c : Int) := by omega
            have HN1 := Lib.hid (show gs.length + 1 + (r.drop c).length ≤ l.length ∧ (r.drop c).length ≤ l.length ∧ c - c ≤ cap ∧ (r.drop c).length < r.length by rw [List.length_drop]; omega)
            go_wp2_with (at_builtin; refine wpList_append1 rfl (.tmp 26) (.tmp 30) 22 rfl w.heap.size TS _ 1 24 Try.underlying22 infoS rfl (by decide) _ gs.length vs [.slice (some ⟨b, off, none⟩) c c] rfl HOQ.out _ 1 rfl rfl rfl (by intro u hu; simp at hu; subst hu; rfl) HL9.out (by decide) HBQ.out.size w.heap.size w HBQ.out (Nat.le_refl _) ?_; intro v' w' ho hgr hb' hsz'; have HO4 := Lib.hid ho; have HB4 := Lib.hid hb'; clear ho hgr hb' hsz')
            go_roundw
            case rel =>
              obtain ⟨g1, g2, g3, g4⟩ := HN1.out
              exact ⟨r.drop c, _, c - c, gs ++ [r.take c], _, by rw [← HRD.out]; simp [HQ1.out], g2, g3, by rw [List.length_append]; exact g1, HADR.out, HGSN.out, (Outs.more (w := wr) HOUT.out HO4.out HU.out), HB4.out⟩
            case measure => first | (rw [HRD.out]; exact HN1.out.2.2.2) | (simp; omega)
          · have c1 : ¬ c = n := hce
            have HADR := Lib.hid (show Rest w (r.drop n) (some ⟨b, off + n * 4, none⟩) (c - n) from ⟨by
              have hl : (r.drop n).length = r.length - n := List.length_drop
              have e : r.drop n = (r.drop n).take (r.length - n) := (List.take_of_length_le (by omega)).symm
              rw [hl]
              have := ents_part HREST.out.at_ n (r.length - n) (c - n) (by omega) (by rw [← e, hl])
              rw [← e] at this
              exact this, by rw [List.length_drop]; omega⟩)
            have HRD := Lib.hid (show r.length - n = (r.drop n).length by rw [List.length_drop])
            have HU := Lib.hid (show EntsAt w (.slice (some ⟨b, off, none⟩) n c) (r.take n) from by
              have := ents_part HREST.out.at_ 0 n c (by omega) (by rw [List.drop_zero, List.length_take]; omega)
              simpa using this)
            have HGSN := Lib.hid (show (gs ++ [r.take n]) ++ groupsR (r.drop n) = groupsR l from by rw [← HGR.out, HCUT.out]; simp)
            have HL9 := Lib.hid (show gs.length + 1 ≤ 1099511627776 by omega)
            have d1 : (n : Int) ≤ (r.length : Int) := by omega
            have d2 : (n : Int) ≤ (c : Int) := by omega
            have d3 : (0 : Int) ≤ (n : Int) := by omega
            have d4 : n ≤ c := by omega
            have d5 : (r.length : Int) ≤ (c : Int) := by omega
            have HN1 := Lib.hid (show gs.length + 1 + (r.drop n).length ≤ l.length ∧ (r.drop n).length ≤ l.length ∧ c - n ≤ cap ∧ (r.drop n).length < r.length by rw [List.length_drop]; omega)
            clear hce
            go_wp2_with (at_builtin; refine wpList_append1 rfl (.tmp 26) (.tmp 30) 22 rfl w.heap.size TS _ 1 24 Try.underlying22 infoS rfl (by decide) _ gs.length vs [.slice (some ⟨b, off, none⟩) n c] rfl HOQ.out _ 1 rfl rfl rfl (by intro u hu; simp at hu; subst hu; rfl) HL9.out (by decide) HBQ.out.size w.heap.size w HBQ.out (Nat.le_refl _) ?_; intro v' w' ho hgr hb' hsz'; have HO4 := Lib.hid ho; have HB4 := Lib.hid hb'; clear ho hgr hb' hsz')
            go_roundw
            case rel =>
              obtain ⟨g1, g2, g3, g4⟩ := HN1.out
              exact ⟨r.drop n, _, c - n, gs ++ [r.take n], _, by rw [HRD.out], g2, g3, by rw [List.length_append]; exact g1, HADR.out, HGSN.out, (Outs.more (w := wr) HOUT.out HO4.out HU.out), HB4.out⟩
            case measure => first | (rw [HRD.out]; exact HN1.out.2.2.2) | (simp; omega)
    · have h00 : r = [] := List.eq_nil_of_length_eq_zero (by omega)
      subst h00
      have HD := Lib.hid (show EntsOf wr _ (groupsR l) from by
        have := HOUT.out.done HBE.out
        rw [← HGR.out]; simpa [groupsR] using this)
      have k0 : ¬ (0 : Int) < (([] : List Ent).length : Int) := by simp
      clear h0
      go_wp2_with fail
      go_ret
      exact ⟨_, rfl, HD.out, HBE.out⟩
end Go.Proofs.Try.Mg
