/- cidr: the program's Cover. -/
import Derived.Test.YtmjjhnfdpiclfaaGreatDoorCq4
import Derived.Test.YtmjjhnfdpiclfaaGreatDoorAa2
set_option linter.unusedVariables false
set_option linter.unusedSimpArgs false
set_option maxRecDepth 100000
namespace Go.Proofs.Tryz.Cd
open Go.RowKit Go.Cph Go.Cph.Tx Go.Cph.Px Go.Cph.Cv Go.Proofs.Tryz.Tx Go.Proofs.Tryz.Pfx
open Go.Cph.Ok (ofBs)
open Go.Proofs.Tryz.Rows (boxZ)
open Go.Proofs.Tryz.Gp (nextA NearPost)
abbrev TP : TypeId := 26
abbrev TPs : TypeId := 41
abbrev encC (p : Pf) : List Value := [.int .u8 (p.1.1.toNat : Int), .int .u64 (p.1.2.1.toNat : Int), .int .u64 (p.1.2.2.toNat : Int), .int .i64 p.2]
theorem encC_len (p : Pf) : (encC p).length = 4 := rfl
theorem infoP : (Tryz.prog.info? TP).map (fun i => (i.zero, i.size, i.bytes)) = some (some (.agg #[.int .u8 0, .int .u64 0, .int .u64 0, .int .i64 0]), 4, 32) := by kernel_rfl
def CoverPost (l : List Pf) (w : World) (e : Ending) (w' : World) : Prop := ∃ v, e = .returned v ∧ w'.ownsRow w.heap.size TP 4 v l.length (l.flatMap encC) ∧ Below w.heap.size w w'
theorem nextB (a : Ad) (r : Ad × Bool) (h : nextA a = r) (W : World) : Calls Tryz.prog 45 #[encA a] W fun e w' => e = .returned (.tuple #[encA r.1, .bool r.2]) ∧ Below W.heap.size W w' := by
  have := Gp.next_any a W
  unfold NearPost at this
  rw [h] at this
  exact this
/-- Where the cover stands. -/
structure At (a b : Ad) (done : List (Nat × Nat)) (n : Nat) (ok : Bool) (A : Ad) : Prop where
  grows : Grows a b done n
  yes : ok = true → A = ofNum a.1 n
  no : ok = false → num b < n
theorem At.less {a b A : Ad} {done : List (Nat × Nat)} {n : Nat} (hc : CanP a b) (h : At a b done n true A) (hn : n < 2 ^ widF a.1) : lessA b A = decide (num b < n) := by
  rw [h.yes rfl, less_same (hc.2.2.symm.trans (ofNum_fam _ _).symm), (ofNum_right (can_fam hc) hn).2]
theorem At.goes {a b A : Ad} {done : List (Nat × Nat)} {n : Nat} (hc : CanP a b) (h : At a b done n true A) (hn : n ≤ num b) : CanP A b ∧ num A = n ∧ num A ≤ num b ∧ A.1 = a.1 := by
  have := go_on hc hn
  rw [← h.yes rfl] at this
  exact ⟨this.1, this.2, by rw [this.2]; exact hn, by rw [h.yes rfl]; exact ofNum_fam _ _⟩
/-- One block more. -/
theorem At.next {a b A : Ad} {done : List (Nat × Nat)} {n k : Nat} (hc : CanP a b) (h : At a b done n true A) (hn : n ≤ num b) (hk : IsGreat (widF A.1) (num A) (num b) k) :
    ∃ (B : Ad) (ok : Bool), nextA (lastR (A, width A.1 - (k : Int))) = (B, ok) ∧ (At a b (done ++ [(n, k)]) (n + 2 ^ k) ok B ∧ (ok = true → n + 2 ^ k < 2 ^ widF a.1)) ∧ pfB a.1 (n, k) = (A, width A.1 - (k : Int)) := by
  obtain ⟨g1, g2, g3, g4⟩ := h.goes hc hn
  rw [g4, g2] at hk
  have hg := h.grows.step hc hn hk
  have hb := num_widF hc.2.1
  rw [← hc.2.2] at hb
  have hle := hk.ok.le
  obtain ⟨r1, r2, r3⟩ := pfN_rt (can_fam hc) (n := n) (k := k) hk.le hk.ok.al (by omega)
  have ep : pfN a.1 n k = (A, width A.1 - (k : Int)) := by
    have e := pfN_self (a := A) k
    rw [g4, g2] at e
    rw [e, ← g4]
  have hnb := Gp.next_blk r1
  rw [r2, r3, ep] at hnb
  have ef : ((A, width A.1 - (k : Int)) : Pf).1.1 = a.1 := g4
  have ew : width A.1 = width a.1 := by rw [g4]
  rw [ef] at hnb
  rw [ew]
  rw [ew] at ep
  by_cases hlt : n + 2 ^ k < 2 ^ widF a.1
  · exact ⟨ofNum a.1 (n + 2 ^ k), true, hnb.1 hlt, ⟨⟨hg, fun _ => rfl, fun hh => (by cases hh)⟩, fun _ => hlt⟩, ep⟩
  · exact ⟨zeroA, false, hnb.2 hlt, ⟨⟨hg, fun hh => (by cases hh), fun _ => by omega⟩, fun hh => (by cases hh)⟩, ep⟩
theorem CoverPost.mk {a b : Ad} (hc : CanP a b) {done : List (Nat × Nat)} {n : Nat} (g : Grows a b done n) (hn : num b < n) {w w' : World} {v : Value} {base : Nat} (ho : w'.ownsRow base TP 4 v done.length ((done.map (pfB a.1)).flatMap encC)) (hbase : w.heap.size ≤ base) (hb : Below w.heap.size w w') : CoverPost (coverP a b) w (.returned v) w' := by
  rw [g.done hc hn]
  exact ⟨v, rfl, by rw [List.length_map]; exact owns_mono ho hbase, hb⟩
set_option maxHeartbeats 8000000 in
theorem cover_any (a b : Ad) (w : World) : Calls Tryz.prog 13 #[encA a, encA b] w (CoverPost (coverP a b) w) := by
  have HRa := Lib.hid (fun W => Pfx.right a W)
  have HRb := Lib.hid (fun W => Pfx.right b W)
  have HGR := Lib.hid (fun A h1 h2 W => great_any A b h1 h2 W)
  have HLS := Lib.hid (fun A W => Pfx.less b A W)
  have HNO := Lib.hid (@cover_not a b)
  obtain ⟨ra, hra⟩ : ∃ r, r = rightA a := ⟨_, rfl⟩
  obtain ⟨rb, hrb⟩ : ∃ r, r = rightA b := ⟨_, rfl⟩
  have HCAN := Lib.hid (show CanP a b ↔ (ra && (rb && a.1 == b.1)) = true from by unfold CanP; rw [hra, hrb]; simp only [Bool.and_eq_true, beq_iff_eq])
  rw [← hra] at HRa
  rw [← hrb] at HRb
  clear hra hrb
  obtain ⟨fa, xa, ya⟩ := a
  obtain ⟨fb, xb, yb⟩ := b
  have hfe : ((fa.toNat : Int) == (fb.toNat : Int)) = (fa == fb) := Pfx.u8_eq fa fb
  have HXa1 := Lib.hid (heap_alloc_new w (boxA (fa, xa, ya)))
  have HW1 := Lib.hid (show Below w.heap.size w (w.alloc (boxA (fa, xa, ya))) from (Below.refl _ _).alloc (Nat.le_refl _) _)
  have HXa2 := Lib.hid (blk_alloc HXa1.out (boxA (fb, xb, yb)))
  have hxb := heap_alloc_new (w.alloc (boxA (fa, xa, ya))) (boxA (fb, xb, yb))
  simp only [World.size_alloc] at hxb
  have HXb2 := Lib.hid hxb
  clear hxb
  have HW2 := Lib.hid (show Below w.heap.size w ((w.alloc (boxA (fa, xa, ya))).alloc (boxA (fb, xb, yb))) from HW1.out.alloc HW1.out.size _)
  go_enter Tryz.func13, Tryz.ntmps13
  go_upto_region 2 with (fail)
  obtain ⟨v3, hv3⟩ : ∃ v3, v3 = ((w.alloc (boxA (fa, xa, ya))).alloc (boxA (fb, xb, yb))) := ⟨_, rfl⟩
  rw [← hv3] at HXa2 HXb2 HW2 ⊢
  clear hv3
  go_cut [6] (fun s6 W => s6 = .bool (ra && (rb && fa == fb)) ∧ Below v3.heap.size v3 W)
  case first =>
    obtain ⟨a0, a1, a2⟩ := box_at HXa2.out
    obtain ⟨b0, b1, b2⟩ := box_at HXb2.out
    have HS0 := Lib.hid (show Below v3.heap.size v3 v3 from Below.refl _ _)
    go_wp2_with fail
    refine (HRa.out _).mono ?_
    rintro e v4 ⟨rfl, hb⟩
    have hb0 := hb
    clear a0 a1 a2 b0 b1 b2
    have HXa5 := Lib.hid (blk_kept hb HXa2.out)
    have HXb5 := Lib.hid (blk_kept hb HXb2.out)
    have HW5 := Lib.hid (below_step HW2.out hb HW2.out.size)
    clear hb
    have HD6 := Lib.hid (below_step HS0.out hb0 HS0.out.size)
    clear hb0
    obtain ⟨a0, a1, a2⟩ := box_at HXa5.out
    obtain ⟨b0, b1, b2⟩ := box_at HXb5.out
    cases ra
    · go_wp2_with fail
      go_meet
      case rel => exact ⟨rfl, HD6.out⟩
    · go_wp2_with fail
      refine (HRb.out _).mono ?_
      rintro e v7 ⟨rfl, hb⟩
      have hb0 := hb
      clear a0 a1 a2 b0 b1 b2
      have HXa8 := Lib.hid (blk_kept hb HXa5.out)
      have HXb8 := Lib.hid (blk_kept hb HXb5.out)
      have HW8 := Lib.hid (below_step HW5.out hb HW5.out.size)
      clear hb
      have HD9 := Lib.hid (below_step HD6.out hb0 HD6.out.size)
      clear hb0
      obtain ⟨a0, a1, a2⟩ := box_at HXa8.out
      obtain ⟨b0, b1, b2⟩ := box_at HXb8.out
      cases rb
      · go_wp2_with fail
        go_meet
        case rel => exact ⟨rfl, HD9.out⟩
      · go_wp2_with fail
        go_meet
        case rel => exact ⟨by simp, HD9.out⟩
  case rest =>
    obtain ⟨w3, hw3⟩ : ∃ w3, w3 = wc := ⟨_, rfl⟩
    subst hw3
    obtain ⟨rfl, hb⟩ := hcut
    have HXa10 := Lib.hid (blk_kept hb HXa2.out)
    have HXb10 := Lib.hid (blk_kept hb HXb2.out)
    have HW10 := Lib.hid (below_step HW2.out hb HW2.out.size)
    clear hb
    obtain ⟨ok, hok⟩ : ∃ ok, ok = (ra && (rb && fa == fb)) := ⟨_, rfl⟩
    rw [← hok]
    cases ok
    · have HV := Lib.hid (HNO.out (fun h => by have := HCAN.out.1 h; rw [show ((fa, xa, ya) : Ad).1 = fa from rfl, show ((fb, xb, yb) : Ad).1 = fb from rfl, ← hok] at this; cases this))
      clear hok HCAN HNO HRa HRb
      go_wp2_with fail
      go_loopw [5, 6] (fun v5 v6 W => v5 = .slice none 0 0 ∧ v6 = .bool false ∧ W = w3) (fun _ _ _ => 0)
      case atStart => exact ⟨rfl, rfl, rfl⟩
      case round =>
        obtain ⟨rfl, rfl, rfl⟩ := hrel
        go_wp2_with fail
        go_ret
        rw [HV.out]
        exact ⟨_, rfl, World.ownsRow_nil _ _ _ _, HW10.out⟩
    · have HCP := Lib.hid (HCAN.out.2 hok.symm)
      clear hok HCAN HNO HRa HRb
      go_wp2_with fail
      have hsz3 := blk_lt HXb10.out
      have HSZ := Lib.hid hsz3
      clear hsz3
      go_loopw [5, 6, 7] (fun v5 v6 v7 W => ∃ (done : List (Nat × Nat)) (n : Nat) (okb : Bool) (A : Ad), v6 = .bool okb ∧ Hid (At (fa, xa, ya) (fb, xb, yb) done n okb A ∧ (okb = true → n < 2 ^ widF fa)) ∧ lenOf v5 = done.length ∧ W.ownsRow w3.heap.size TP 4 v5 done.length ((done.map (pfB fa)).flatMap encC) ∧ W.heap[w.heap.size]? = some (boxA A) ∧ W.heap[w.heap.size + 1]? = some (boxA (fb, xb, yb)) ∧ Below w.heap.size w W ∧ w3.heap.size ≤ W.heap.size ∧ done.length ≤ 254) (fun v5 v6 _ _ => 2 * (300 - lenOf v5) + (match v6 with | .bool true => 1 | _ => 0))
      case atStart => exact ⟨[], num (fa, xa, ya), true, (fa, xa, ya), rfl, Lib.hid ⟨⟨Grows.start HCP.out, fun _ => ofNum_self.symm, fun hh => (by cases hh)⟩, fun _ => num_widF HCP.out.1⟩, rfl, World.ownsRow_nil _ _ _ _, HXa10.out, HXb10.out, HW10.out, Nat.le_refl _, by simp⟩
      case round =>
        obtain ⟨done, n, okb, A, rfl, HAT, hlen, ho, ha, hbx, hb, hsz, hd⟩ := hrel
        obtain ⟨ao, cap, rfl⟩ := owns_slice1 ho
        have HXa0 := Lib.hid ha
        have HXb0 := Lib.hid hbx
        have HW0 := Lib.hid hb
        have HO := Lib.hid ho
        have HSR := Lib.hid hsz
        have HDL := Lib.hid hd
        clear ha hbx hb ho hlen hsz hd
        obtain ⟨fA, xA, yA⟩ := A
        cases okb
        · have HV := Lib.hid (HAT.out.1.no rfl)
          go_wp2_with fail
          go_ret
          exact CoverPost.mk HCP.out HAT.out.1.grows HV.out HO.out (Nat.le_of_lt (Nat.lt_of_lt_of_le (Nat.lt_succ_self _) (Nat.le_of_lt HSZ.out))) HW0.out
        · have hl := HAT.out.1.less HCP.out (HAT.out.2 rfl)
          have HLA := Lib.hid (fun W => HLS.out (fA, xA, yA) W)
          rw [hl] at HLA
          clear hl
          by_cases hn : num (fb, xb, yb) < n
          · have HV := Lib.hid hn
            rw [decide_eq_true hn] at HLA
            clear hn
            obtain ⟨a0, a1, a2⟩ := box_at HXa0.out
            obtain ⟨b0, b1, b2⟩ := box_at HXb0.out
            go_wp2_with fail
            refine (HLA.out _).mono ?_
            rintro e w4 ⟨rfl, hb⟩
            have HZQ := Lib.hid hb
            clear a0 a1 a2 b0 b1 b2
            have HXa11 := Lib.hid (blk_kept hb HXa0.out)
            have HXb11 := Lib.hid (blk_kept hb HXb0.out)
            have HW11 := Lib.hid (below_step HW0.out hb HW0.out.size)
            clear hb
            go_wp2_with fail
            go_ret
            exact CoverPost.mk HCP.out HAT.out.1.grows HV.out (row_kept1 HO.out fun q hq => HZQ.out.block q (HO.out.lt q hq).2) (Nat.le_of_lt (Nat.lt_of_lt_of_le (Nat.lt_succ_self _) (Nat.le_of_lt HSZ.out))) HW11.out
          · have hn2 : n ≤ num (fb, xb, yb) := by omega
            rw [decide_eq_false hn] at HLA
            have HSM := Lib.hid (HAT.out.1.grows.small HCP.out hn2)
            obtain ⟨g1, g2, g3, g4⟩ := HAT.out.1.goes HCP.out hn2
            have HGA := Lib.hid (fun W => HGR.out (fA, xA, yA) g1 g3 W)
            have HNX := Lib.hid (fun k hk => @At.next _ _ _ done n k HCP.out HAT.out.1 hn2 hk)
            clear hn hn2 g1 g2 g3 g4
            obtain ⟨a0, a1, a2⟩ := box_at HXa0.out
            obtain ⟨b0, b1, b2⟩ := box_at HXb0.out
            go_wp2_with fail
            refine (HLA.out _).mono ?_
            rintro e w4 ⟨rfl, hb⟩
            have HZQ := Lib.hid hb
            clear a0 a1 a2 b0 b1 b2
            have HXa12 := Lib.hid (blk_kept hb HXa0.out)
            have HXb12 := Lib.hid (blk_kept hb HXb0.out)
            have HW12 := Lib.hid (below_step HW0.out hb HW0.out.size)
            clear hb
            obtain ⟨a0, a1, a2⟩ := box_at HXa12.out
            obtain ⟨b0, b1, b2⟩ := box_at HXb12.out
            go_wp2_with fail
            refine (HGA.out _).mono ?_
            rintro e w5 ⟨k, hk, rfl, hb⟩
            clear a0 a1 a2 b0 b1 b2
            have HB5 := Lib.hid hb
            have HXa13 := Lib.hid (blk_kept hb HXa12.out)
            have HXb13 := Lib.hid (blk_kept hb HXb12.out)
            have HW13 := Lib.hid (below_step HW12.out hb HW12.out.size)
            clear hb
            obtain ⟨B, okB, hnx, hat, hpf⟩ := HNX.out k hk
            have HAT2 := Lib.hid hat
            have HPF := Lib.hid hpf
            have HNB := Lib.hid (fun W => nextB (lastR ((fA, xA, yA), width fA - (k : Int))) _ hnx W)
            have HLP := Lib.hid (fun W => last_any ((fA, xA, yA), width fA - (k : Int)) W)
            obtain ⟨L, hL⟩ : ∃ L, L = lastR ((fA, xA, yA), width fA - (k : Int)) := ⟨_, rfl⟩
            rw [← hL] at HNB HLP
            obtain ⟨z, hz⟩ : ∃ z, z = width fA - (k : Int) := ⟨_, rfl⟩
            have HPF2 := Lib.hid (show pfB fa (n, k) = ((fA, xA, yA), z) from by rw [hz]; exact HPF.out)
            rw [show width ((fA, xA, yA) : Ad).1 = width fA from rfl, ← hz]
            rw [← hz] at HLP
            clear hnx hat hpf hL hz hk HPF HGA HNX
            obtain ⟨fl, xl, yl⟩ := L
            obtain ⟨fB, xB, yB⟩ := B
            have HXa14 := Lib.hid (blk_alloc HXa13.out (boxP ((fA, xA, yA), z)))
            have HXb14 := Lib.hid (blk_alloc HXb13.out (boxP ((fA, xA, yA), z)))
            have HXp14 := Lib.hid (heap_alloc_new w5 (boxP ((fA, xA, yA), z)))
            have HW14 := Lib.hid (show Below w.heap.size w (w5.alloc (boxP ((fA, xA, yA), z))) from HW13.out.alloc HW13.out.size _)
            obtain ⟨a0, a1, a2⟩ := box_at HXa14.out
            obtain ⟨b0, b1, b2⟩ := box_at HXb14.out
            obtain ⟨p0, p1, p2, p3⟩ := boxP_at HXp14.out
            have HO2 := Lib.hid (show (w5.alloc (boxP ((fA, xA, yA), z))).ownsRow w3.heap.size TP 4 (.slice ao done.length cap) done.length ((done.map (pfB fa)).flatMap encC) from ((row_kept1 (row_kept1 HO.out fun q hq => HZQ.out.block q (HO.out.lt q hq).2) fun q hq => HB5.out.block q (Nat.lt_of_lt_of_le (HO.out.lt q hq).2 HZQ.out.size)).alloc _))
            have HSZ5 := Lib.hid (show w3.heap.size ≤ (w5.alloc (boxP ((fA, xA, yA), z))).heap.size from Nat.le_trans (Nat.le_trans HSR.out (Nat.le_trans HZQ.out.size HB5.out.size)) (by rw [World.size_alloc]; omega))
            have HLN := Lib.hid (show done.length + 1 ≤ 1099511627776 from by have := HSM.out; omega)
            have HZ3 := Lib.hid HSZ.out
            clear a0 a1 a2 b0 b1 b2 p0 p1 p2 p3
            obtain ⟨p0, p1, p2, p3⟩ := boxP_at HXp14.out
            go_wp2_with (at_builtin; refine wpList_append1 rfl (.tmp 31) (.tmp 33) TPs rfl w3.heap.size TP _ 4 32 Tryz.underlying41 infoP rfl (by decide) _ done.length ((done.map (pfB fa)).flatMap encC) [.int .u8 (fA.toNat : Int), .int .u64 (xA.toNat : Int), .int .u64 (yA.toNat : Int), .int .i64 z] rfl HO2.out _ 1 (by rw [World.size_alloc]; rfl) rfl rfl (by simp [Value.oneCell']) HLN.out (by decide) HSZ5.out w3.heap.size (w5.alloc (boxP ((fA, xA, yA), z))) (Below.refl _ _) (Nat.le_refl _) ?_; intro v' w7 ho hgr hb' hsz'; obtain ⟨o7, c7, hv7⟩ := owns_slice1 ho; subst hv7; have HO7 := Lib.hid ho; have HB7 := Lib.hid hb'; have HXp7 := Lib.hid ((hgr.block w5.heap.size (by rw [World.size_alloc, World.size_alloc]; omega) (fun e => by have h1 := (HO.out.lt _ e.symm).2; have h2 := HZQ.out.size; have h3 := HB5.out.size; omega)).trans (blk_alloc HXp14.out _)); have HXa7 := Lib.hid (blk_below hb' HXa14.out (Nat.lt_of_lt_of_le (Nat.lt_succ_self _) (Nat.le_of_lt HSZ.out))); have HXb7 := Lib.hid (blk_below hb' HXb14.out HSZ.out); have HW7 := Lib.hid (HW14.out.trans (hb'.mono (Nat.le_of_lt (Nat.lt_of_lt_of_le (Nat.lt_succ_self _) (Nat.le_of_lt HSZ.out))))); have HS7 := Lib.hid (show w3.heap.size ≤ w7.heap.size from Nat.le_trans HSZ5.out (Nat.le_of_lt hsz')); clear ho hgr hb' hsz' p0 p1 p2 p3; obtain ⟨p0, p1, p2, p3⟩ := boxP_at HXp7.out)
            refine (HLP.out _).mono ?_
            rintro e w8 ⟨rfl, hb⟩
            have HC8 := Lib.hid hb
            clear p0 p1 p2 p3
            have HXa15 := Lib.hid (blk_kept hb HXa7.out)
            have HXb15 := Lib.hid (blk_kept hb HXb7.out)
            have HXp15 := Lib.hid (blk_kept hb HXp7.out)
            have HW15 := Lib.hid (below_step HW7.out hb HW7.out.size)
            clear hb
            go_wp2_with fail
            refine (HNB.out _).mono ?_
            rintro e w9 ⟨rfl, hb⟩
            have HC9 := Lib.hid hb
            have HXa16 := Lib.hid (blk_kept hb HXa15.out)
            have HXb16 := Lib.hid (blk_kept hb HXb15.out)
            have HXp16 := Lib.hid (blk_kept hb HXp15.out)
            have HW16 := Lib.hid (below_step HW15.out hb HW15.out.size)
            clear hb
            obtain ⟨a0, a1, a2⟩ := box_at HXa16.out
            obtain ⟨af0, af1, af2⟩ := box_free HXa16.out
            go_wp2_with fail
            clear a0 a1 a2 af0 af1 af2
            have hz3 := HZ3.out
            have HO9 := Lib.hid (show ((((w9.setCell ⟨w.heap.size, 0, none⟩ (.int .u8 (fB.toNat : Int))).setCell ⟨w.heap.size, 1, none⟩ (.int .u64 (xB.toNat : Int))).setCell ⟨w.heap.size, 2, none⟩ (.int .u64 (yB.toNat : Int)))).ownsRow w3.heap.size TP 4 (.slice o7 (done.length + 1) c7) (done.length + 1) ((done.map (pfB fa)).flatMap encC ++ [.int .u8 (fA.toNat : Int), .int .u64 (xA.toNat : Int), .int .u64 (yA.toNat : Int), .int .i64 z]) from row_kept1 HO7.out fun q hq => by
              obtain ⟨l1, l2⟩ := HO7.out.lt q hq
              have hne : q ≠ w.heap.size := by omega
              rw [blk_set_other hne, blk_set_other hne, blk_set_other hne, HC9.out.block q (Nat.lt_of_lt_of_le l2 HC8.out.size), HC8.out.block q l2])
            have HSZ9 := Lib.hid (show w3.heap.size ≤ ((((w9.setCell ⟨w.heap.size, 0, none⟩ (.int .u8 (fB.toNat : Int))).setCell ⟨w.heap.size, 1, none⟩ (.int .u64 (xB.toNat : Int))).setCell ⟨w.heap.size, 2, none⟩ (.int .u64 (yB.toNat : Int)))).heap.size from by simp only [World.size_setCell]; exact Nat.le_trans HS7.out (Nat.le_trans HC8.out.size HC9.out.size))
            clear hz3
            obtain ⟨X8, hX8⟩ : ∃ X8, X8 = (((w9.setCell ⟨w.heap.size, 0, none⟩ (.int .u8 (fB.toNat : Int))).setCell ⟨w.heap.size, 1, none⟩ (.int .u64 (xB.toNat : Int))).setCell ⟨w.heap.size, 2, none⟩ (.int .u64 (yB.toNat : Int))) := ⟨_, rfl⟩
            have hHXa9 : X8.heap[w.heap.size]? = some (boxA (fB, xB, yB)) := by rw [hX8]; exact set3_heap HXa16.out _ _ _
            have hHXb9 : X8.heap[w.heap.size + 1]? = some (boxA (fb, xb, yb)) := by rw [hX8]; exact set3_far HXb16.out (Nat.succ_ne_self _) _ _ _
            have hB8 : Below w.heap.size w X8 := by rw [hX8]; exact set3 HW16.out (Nat.le_refl _) _ _ _
            rw [← hX8] at HO9 HSZ9
            rw [← hX8]
            clear hX8
            obtain ⟨X9, rfl⟩ : ∃ X9, X9 = X8 := ⟨_, rfl⟩
            have HXa9 := Lib.hid hHXa9
            have HXb9 := Lib.hid hHXb9
            have HB9 := Lib.hid hB8
            clear hB8 hHXa9 hHXb9
            go_roundw
            case rel =>
              refine ⟨done ++ [(n, k)], n + 2 ^ k, okB, (fB, xB, yB), rfl, Lib.hid HAT2.out, by simp [lenOf], ?_, HXa9.out, HXb9.out, HB9.out, HSZ9.out, by have := HSM.out; simp; omega⟩
              rw [List.map_append, List.flatMap_append, List.length_append]
              simpa [HPF2.out] using HO9.out
            case measure =>
              have := HSM.out
              cases okB <;> simp only [lenOf] <;> omega
end Go.Proofs.Tryz.Cd
