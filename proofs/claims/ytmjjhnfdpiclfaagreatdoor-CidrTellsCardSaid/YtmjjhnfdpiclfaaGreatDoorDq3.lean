/- The document's Text, Parse of prefixes. -/
import Derived.Test.YtmjjhnfdpiclfaaGreatDoorDq1
import Derived.Test.YtmjjhnfdpiclfaaGreatDoorDq0
import Derived.Test.YtmjjhnfdpiclfaaGreatDoorBu6
set_option linter.unusedVariables false
set_option linter.unusedSimpArgs false
set_option maxRecDepth 100000
namespace Go.Proofs.Tryz.Cd
open Go.RowKit Go.Cph Go.Cph.Tx Go.Cph.Px Go.Cph.Cv Go.Proofs.Tryz.Tx Go.Proofs.Tryz.Pfx
open Go.Cph.Ok (ofBs)
open Go.Proofs.Tryz.Rows (boxZ boxZR)
set_option maxHeartbeats 4000000 in
theorem rtext20 (p : Pf) (w : World) : Calls Tryz.prog 20 #[encP p] w fun e w' => e = .returned (.string (ofBs (textP p))) ∧ Below w.heap.size w w' := by
  have HR := Lib.hid (fun W => rrightP p W)
  have HTX := Lib.hid (show ∀ W, Calls Tryz.prog 52 #[encA p.1] W fun e w' => e = .returned (.string (ofBs (textA p.1))) ∧ Below W.heap.size W w' from fun W => rtext_any p.1 W)
  have HVF := Lib.hid (@textP_wrong p)
  have HVT := Lib.hid (@textP_right p)
  have HBB := Lib.hid (@bits_small p)
  obtain ⟨r, hr⟩ : ∃ r, r = rightP p := ⟨_, rfl⟩
  rw [← hr] at HR HVF HVT HBB
  have HTL := Lib.hid (text_len p.1)
  obtain ⟨ta, hta⟩ : ∃ t, t = textA p.1 := ⟨_, rfl⟩
  obtain ⟨tp, htp⟩ : ∃ t, t = textP p := ⟨_, rfl⟩
  rw [← hta] at HTX HVT HTL
  rw [← htp] at HVF HVT ⊢
  clear hr hta htp
  cases r
  · have HV := Lib.hid (HVF.out rfl)
    obtain ⟨⟨f, x, y⟩, b⟩ := p
    have HXp1 := Lib.hid (heap_alloc_new w (boxRP ((f, x, y), b)))
    have HW1 := Lib.hid (show Below w.heap.size w (w.alloc (boxRP ((f, x, y), b))) from (Below.refl _ _).alloc (Nat.le_refl _) _)
    obtain ⟨p0, p1, p2, p3⟩ := boxRP_at HXp1.out
    go_enter Tryz.func20, Tryz.ntmps20
    go_wp2_with fail
    refine (HR.out _).mono ?_
    rintro e v2 ⟨rfl, hb⟩
    clear p0 p1 p2 p3
    have HXp3 := Lib.hid (blk_kept hb HXp1.out)
    have HW3 := Lib.hid (below_step HW1.out hb HW1.out.size)
    clear hb
    go_wp2_with fail
    go_ret
    exact ⟨ret_str (by rw [HV.out]; rfl), HW3.out⟩
  · have HV := Lib.hid (HVT.out rfl)
    obtain ⟨hb1, hb2⟩ := HBB.out rfl
    obtain ⟨n, hn⟩ : ∃ n, n = p.2.toNat := ⟨_, rfl⟩
    rw [← hn] at HV hb1 hb2
    obtain ⟨⟨f, x, y⟩, b⟩ := p
    obtain rfl : b = (n : Int) := hb2.symm
    have HIT := Lib.hid (fun W => rdigits n (by omega) W)
    have HDL := Lib.hid (digs_len 10 n)
    obtain ⟨dg, hdg⟩ : ∃ d, d = digs 10 n := ⟨_, rfl⟩
    rw [← hdg] at HV HIT HDL
    have hk1 : ∀ W, (Op.stringOp .add (ofBs ta) ⟨#[47]⟩).run Tryz.prog W = .ok (.string (ofBs (ta ++ [47]))) W := cat_run ta [47] (by simp; have := HTL.out; omega)
    have hk2 : ∀ W, (Op.stringOp .add (ofBs (ta ++ [47])) (ofBs dg)).run Tryz.prog W = .ok (.string (ofBs (ta ++ [47] ++ dg))) W := cat_run (ta ++ [47]) dg (by simp; have := HTL.out; have := HDL.out; omega)
    have HS := Lib.hid (show tp = ta ++ [47] ++ dg from by rw [HV.out]; simp)
    obtain ⟨s1, hs1⟩ : ∃ s, s = ofBs ta := ⟨_, rfl⟩
    obtain ⟨s2, hs2⟩ : ∃ s, s = ofBs (ta ++ [47]) := ⟨_, rfl⟩
    obtain ⟨s3, hs3⟩ : ∃ s, s = ofBs dg := ⟨_, rfl⟩
    obtain ⟨s4, hs4⟩ : ∃ s, s = ofBs (ta ++ [47] ++ dg) := ⟨_, rfl⟩
    rw [← hs1] at HTX hk1
    rw [← hs2] at hk1 hk2
    rw [← hs3] at HIT hk2
    rw [← hs4] at hk2
    have HS4 := Lib.hid (show ofBs tp = s4 from by rw [hs4, HS.out])
    clear hn hdg hs1 hs2 hs3 hs4 HVF HVT HBB HDL HTL HS hb1 hb2
    have HXp1 := Lib.hid (heap_alloc_new w (boxRP ((f, x, y), (n : Int))))
    have HW1 := Lib.hid (show Below w.heap.size w (w.alloc (boxRP ((f, x, y), (n : Int)))) from (Below.refl _ _).alloc (Nat.le_refl _) _)
    obtain ⟨p0, p1, p2, p3⟩ := boxRP_at HXp1.out
    go_enter Tryz.func20, Tryz.ntmps20
    go_wp2_with fail
    refine (HR.out _).mono ?_
    rintro e v2 ⟨rfl, hb⟩
    clear p0 p1 p2 p3
    have HXp3 := Lib.hid (blk_kept hb HXp1.out)
    have HW3 := Lib.hid (below_step HW1.out hb HW1.out.size)
    clear hb
    go_wp2_with fail
    obtain ⟨p0, p1, p2, p3⟩ := later_boxRP HXp3.out
    refine wp_region_later v2.heap.size (by kernel_rfl) (by kernel_rfl) ?_
    repeat (go_big_quiet_step (first | (go_at_call 52; exact Later.calls (Nat.le_refl _) (HTX.out _)) | (go_at_call 39; exact Later.calls (Nat.le_refl _) (HIT.out _))))
    refine wpQuiet_nil ?_
    rintro v4 ⟨zz, rfl⟩
    have hb := zz.prop
    have HZ0 := Lib.hid hb
    clear p0 p1 p2 p3
    generalize zz.val = v4 at *
    have HXp5 := Lib.hid (blk_kept hb HXp3.out)
    have HW5 := Lib.hid (below_step HW3.out hb HW3.out.size)
    clear hb
    go_wp2_with fail
    go_ret
    exact ⟨ret_str HS4.out.symm, HW5.out⟩
theorem ext_tail (l : Bs) (k : Nat) (h : k ≤ l.length) : (ofBs l).extract k l.length = ofBs (l.drop k) := by
  apply ByteArray.ext
  apply Array.ext'
  simp [ofBs]
  exact List.take_of_length_le (by simp)
theorem ext_head (l : Bs) (k : Nat) : (ofBs l).extract 0 k = ofBs (l.take k) := by
  apply ByteArray.ext
  apply Array.ext'
  simp [ofBs]
theorem int_ne {c : UInt8} (h : c ≠ 47) : ((c.toNat : Int) != 47) = true := by
  rw [bne, show ((c.toNat : Int) == 47) = (c == 47) from Pfx.u8_eq c 47]
  simpa using h
theorem int_eq {c : UInt8} (h : c = 47) : ((c.toNat : Int) != 47) = false := by rw [h]; rfl
theorem bs_at (l : Bs) (k : Nat) (h : k < l.length) (h2 : k < (ofBs l).size) : (ofBs l)[k]'h2 = l[k] := rfl
theorem encE_pair (r : Option Ad) : ∃ (a : Ad) (c : Int), encE r = .tuple #[encA a, .int .i64 c] ∧ ((c = 0 ∧ r = some a) ∨ (c = 8 ∧ r = none)) := by
  cases r with
  | none => exact ⟨zeroA, 8, rfl, .inr ⟨rfl, rfl⟩⟩
  | some a => exact ⟨a, 0, rfl, .inl ⟨rfl, rfl⟩⟩
theorem to_bs (x : Bs) : (ofBs x).toList = x := by rw [ByteArray.toList_eq]; rfl
set_option maxHeartbeats 16000000 in
theorem rparse20 (l : Bs) (hl : l.length ≤ 1000000) (w : World) : Calls Tryz.prog 10 #[.string (ofBs l)] w (ParsePost l w) := by
  obtain ⟨h, H0⟩ := head_of l
  have HH := Lib.hid H0
  have HLL := Lib.hid hl
  have HPA := Lib.hid (fun W => rparse_any h (by have := H0.le; omega) W)
  have HHT := Lib.hid (ext_head l h.length)
  rw [H0.take] at HHT
  obtain ⟨n, hn⟩ : ∃ n, n = l.length := ⟨_, rfl⟩
  obtain ⟨k, hk⟩ : ∃ k, k = h.length := ⟨_, rfl⟩
  have hkn : k ≤ n := by rw [hn, hk]; exact H0.le
  have hsz : (ofBs l).size = n := by rw [ofBs_size, hn]
  rw [← hk] at HHT
  have hht := HHT.out
  have HN := Lib.hid hn
  have HK := Lib.hid hk
  have hn6 : n ≤ 1000000 := by omega
  clear H0 hn hk hl
  have HXz1 := Lib.hid (heap_alloc_new w boxZRP)
  have HW1 := Lib.hid (show Below w.heap.size w (w.alloc boxZRP) from (Below.refl _ _).alloc (Nat.le_refl _) _)
  go_enter Tryz.func10, Tryz.ntmps10
  go_wp2_with fail
  obtain ⟨v2, hv2⟩ : ∃ v2, v2 = (w.alloc boxZRP) := ⟨_, rfl⟩
  rw [← hv2] at HXz1 HW1 ⊢
  clear hv2
  go_loop [4] (fun v4 => ∃ i : Nat, v4 = .int .i64 (i : Int) ∧ i ≤ k) (fun v4 => (k - (intOf v4).toNat))
  case atStart => exact ⟨0, rfl, Nat.zero_le _⟩
  case round =>
    obtain ⟨i, rfl, hi⟩ := hrel
    by_cases hlt : i < k
    · have hin : (i : Int) < (n : Int) := by omega
      have hin2 : i < n := by omega
      have hi2 : i < (ofBs l).size := by omega
      have hgt := bs_at l i (by rw [← HN.out]; omega) hi2
      have hne : (((ofBs l)[i]'hi2).toNat : Int) != 47 := by
        have h1 := HH.out.plain i (by rw [← HK.out]; omega) (by rw [← HN.out]; omega)
        rw [hgt]
        exact int_ne h1
      clear hgt
      go_wp2_with fail
      go_round
      case rel => exact ⟨i + 1, by go_num, by omega⟩
      case measure => simp [intOf]; omega
    obtain rfl : i = k := by omega
    clear hlt hi
    rcases HH.out.last with ⟨he, hs⟩ | ⟨hk, h47, hs⟩
    · have HV := Lib.hid (parse_flat hs)
      have hkn2 : ¬ ((i : Int) < (n : Int)) := by rw [HN.out, HK.out, he]; omega
      have hkq : ((i : Int) == (n : Int)) = true := by rw [HN.out, HK.out, he]; simp
      clear he hs
      go_wp2_with fail
      refine (HPA.out _).mono ?_
      rintro e w1 ⟨rfl, hb⟩
      obtain ⟨a, c, he, hc⟩ := encE_pair (docParse h)
      rw [he]
      have HC := Lib.hid hc
      clear he hc
      have HXz3 := Lib.hid (blk_kept hb HXz1.out)
      have HW3 := Lib.hid (below_step HW1.out hb HW1.out.size)
      clear hb
      obtain ⟨fa, xa, ya⟩ := a
      have HXz4 := Lib.hid (blk_alloc HXz3.out (boxRA (fa, xa, ya)))
      have HXa4 := Lib.hid (heap_alloc_new w1 (boxRA (fa, xa, ya)))
      have HW4 := Lib.hid (show Below w.heap.size w (w1.alloc (boxRA (fa, xa, ya))) from HW3.out.alloc HW3.out.size _)
      rcases HC.out with ⟨rfl, hq⟩ | ⟨rfl, hq⟩
      · clear hq
        obtain ⟨z0, z1, z2, z3⟩ := boxZRP_at HXz4.out
        obtain ⟨zf0, zf1, zf2, zf3⟩ := boxZRP_free HXz4.out
        go_wp2_with fail
        exact bodyPost_ret (v := .tuple #[.agg #[.int .u8 0, .int .u64 0, .int .u64 0, .int .i64 0], .int .i64 8]) (by simp [results, Tryz.results10, go_sem, z0, z1, z2, z3]) rfl (ParsePost.none HV.out (set4 HW4.out (Nat.le_refl _) _ _ _ _))
      · clear hq
        obtain ⟨z0, z1, z2, z3⟩ := boxZRP_at HXz4.out
        obtain ⟨zf0, zf1, zf2, zf3⟩ := boxZRP_free HXz4.out
        go_wp2_with fail
        exact bodyPost_ret (v := .tuple #[.agg #[.int .u8 0, .int .u64 0, .int .u64 0, .int .i64 0], .int .i64 8]) (by simp [results, Tryz.results10, go_sem, z0, z1, z2, z3]) rfl (ParsePost.none HV.out (set4 HW4.out (Nat.le_refl _) _ _ _ _))
    · have HSL := Lib.hid hs
      have hkn2 : (i : Int) < (n : Int) := by rw [HN.out, HK.out]; omega
      have hkn3 : i < n := by omega
      have hkq : ((i : Int) == (n : Int)) = false := by simp; omega
      have hi2 : i < (ofBs l).size := by omega
      have hne : ((((ofBs l)[i]'hi2).toNat : Int) != 47) = false := by
        rw [bs_at l i (by rw [← HN.out]; omega) hi2]
        have h1 : l[i]'(by rw [← HN.out]; omega) = 47 := by
          have := HK.out
          subst this
          exact h47
        exact int_eq h1
      clear hs h47 hk
      go_wp2_with fail
      refine (HPA.out _).mono ?_
      rintro e w1 ⟨rfl, hb⟩
      obtain ⟨a, c, he, hc⟩ := encE_pair (docParse h)
      rw [he]
      have HC := Lib.hid hc
      clear he hc
      have HXz5 := Lib.hid (blk_kept hb HXz1.out)
      have HW5 := Lib.hid (below_step HW1.out hb HW1.out.size)
      clear hb
      obtain ⟨fa, xa, ya⟩ := a
      have HXz6 := Lib.hid (blk_alloc HXz5.out (boxRA (fa, xa, ya)))
      have HXa6 := Lib.hid (heap_alloc_new w1 (boxRA (fa, xa, ya)))
      have HW6 := Lib.hid (show Below w.heap.size w (w1.alloc (boxRA (fa, xa, ya))) from HW5.out.alloc HW5.out.size _)
      clear hne
      rcases HC.out with ⟨rfl, hq⟩ | ⟨rfl, hq⟩
      · have HDS := Lib.hid hq
        clear hq
        obtain ⟨t, ht⟩ : ∃ t, t = l.drop (i + 1) := ⟨_, rfl⟩
        have hsl := HSL.out
        rw [← HK.out, ← ht] at hsl
        have HSL2 := Lib.hid hsl
        have hk1 : IntKind.i64.wrap ((i : Int) + 1) = ((i + 1 : Nat) : Int) := by rw [IntKind.wrap_i64]; omega
        have hk2 : ((i + 1 : Nat) : Int) ≤ (n : Int) := by omega
        have hk3 : i + 1 ≤ n := by omega
        have hex := ext_tail l (i + 1) (by rw [← HN.out]; omega)
        rw [← ht, ← HN.out] at hex
        obtain ⟨tx, htx⟩ : ∃ x, x = ofBs t := ⟨_, rfl⟩
        have HTX := Lib.hid htx
        rw [← htx] at hex
        clear hsl ht htx HSL
        go_wp2_with fail
        go_loopw [7] (fun v7 W => ∃ j : Nat, v7 = .int .i64 (j : Int) ∧ j ≤ 129 ∧ Hid (∀ m, m < j → t = digs 10 m → rightP ((fa, xa, ya), (m : Int)) = false) ∧ W.heap[w.heap.size]? = some boxZRP ∧ W.heap[w1.heap.size]? = some (boxRA (fa, xa, ya)) ∧ Below w.heap.size w W) (fun v7 _ => 129 - (intOf v7).toNat)
        case atStart => exact ⟨0, rfl, Nat.zero_le _, Lib.hid (fun m hm => absurd hm (Nat.not_lt_zero _)), HXz6.out, HXa6.out, HW6.out⟩
        case round =>
          obtain ⟨j, rfl, hj, HI, hz, ha, hb⟩ := hrel
          have HXz0 := Lib.hid hz
          have HXa0 := Lib.hid ha
          have HW0 := Lib.hid hb
          clear hz ha hb
          by_cases hlt : j < 129
          · have hjj : (j : Int) ≤ 128 := by omega
            have HDG := Lib.hid (fun W => rdigits j (by omega) W)
            have HRR := Lib.hid (fun W => rrightP ((fa, xa, ya), (j : Int)) W)
            obtain ⟨rp, hrp⟩ : ∃ r, r = rightP ((fa, xa, ya), (j : Int)) := ⟨_, rfl⟩
            have HRP := Lib.hid hrp
            rw [← hrp] at HRR
            obtain ⟨dx, hdx⟩ : ∃ d, d = ofBs (digs 10 j) := ⟨_, rfl⟩
            rw [← hdx] at HDG
            obtain ⟨cb, hcb⟩ : ∃ b, (tx.toList == dx.toList) = b := ⟨_, rfl⟩
            have HCB := Lib.hid (show cb = (t == digs 10 j) from by rw [← hcb, HTX.out, hdx, to_bs, to_bs])
            clear hrp hdx
            obtain ⟨a0, a1, a2⟩ := boxRA_at HXa0.out
            go_wp2_with fail
            have HXz7 := Lib.hid (blk_alloc HXz0.out (boxRP ((fa, xa, ya), (j : Int))))
            have HXa7 := Lib.hid (blk_alloc HXa0.out (boxRP ((fa, xa, ya), (j : Int))))
            have HXp7 := Lib.hid (heap_alloc_new wr (boxRP ((fa, xa, ya), (j : Int))))
            have HW7 := Lib.hid (show Below w.heap.size w (wr.alloc (boxRP ((fa, xa, ya), (j : Int)))) from HW0.out.alloc HW0.out.size _)
            clear a0 a1 a2
            cases cb
            · obtain ⟨p0, p1, p2, p3⟩ := later_boxRP HXp7.out
              refine wp_region_later (wr.alloc (boxRP ((fa, xa, ya), (j : Int)))).heap.size (by kernel_rfl) (by kernel_rfl) ?_
              repeat (go_big_quiet_step (first | (go_at_call 39; exact Later.calls (Nat.le_refl _) (HDG.out _)) | (go_at_call 22; exact Later.calls (Nat.le_refl _) (HRR.out _))))
              refine wpQuiet_nil ?_
              rintro v8 ⟨zz, rfl⟩
              have hb := zz.prop
              have HZ0 := Lib.hid hb
              clear p0 p1 p2 p3
              generalize zz.val = v8 at *
              have HXz9 := Lib.hid (blk_kept hb HXz7.out)
              have HXa9 := Lib.hid (blk_kept hb HXa7.out)
              have HXp9 := Lib.hid (blk_kept hb HXp7.out)
              have HW9 := Lib.hid (below_step HW7.out hb HW7.out.size)
              clear hb
              clear hcb hex
              have HI2 := Lib.hid (show ∀ m, m < j + 1 → t = digs 10 m → rightP ((fa, xa, ya), (m : Int)) = false from fun m hm ht => by
                by_cases hmj : m < j
                · exact HI.out m hmj ht
                · obtain rfl : m = j := by omega
                  rw [ht] at HCB; have := HCB.out; simp at this)
              go_wp2_with fail
              go_roundw
              case rel => exact ⟨j + 1, by go_num, by omega, HI2, HXz9.out, HXa9.out, HW9.out⟩
              case measure => simp [intOf]; omega
            · cases rp
              · obtain ⟨p0, p1, p2, p3⟩ := later_boxRP HXp7.out
                refine wp_region_later (wr.alloc (boxRP ((fa, xa, ya), (j : Int)))).heap.size (by kernel_rfl) (by kernel_rfl) ?_
                repeat (go_big_quiet_step (first | (go_at_call 39; exact Later.calls (Nat.le_refl _) (HDG.out _)) | (go_at_call 22; exact Later.calls (Nat.le_refl _) (HRR.out _))))
                refine wpQuiet_nil ?_
                rintro v10 ⟨zz, rfl⟩
                have hb := zz.prop
                have HZ0 := Lib.hid hb
                clear p0 p1 p2 p3
                generalize zz.val = v10 at *
                have HXz11 := Lib.hid (blk_kept hb HXz7.out)
                have HXa11 := Lib.hid (blk_kept hb HXa7.out)
                have HXp11 := Lib.hid (blk_kept hb HXp7.out)
                have HW11 := Lib.hid (below_step HW7.out hb HW7.out.size)
                clear hb
                clear hcb hex
                have HI2 := Lib.hid (show ∀ m, m < j + 1 → t = digs 10 m → rightP ((fa, xa, ya), (m : Int)) = false from fun m hm ht => by
                  by_cases hmj : m < j
                  · exact HI.out m hmj ht
                  · obtain rfl : m = j := by omega
                    exact HRP.out.symm)
                go_wp2_with fail
                go_roundw
                case rel => exact ⟨j + 1, by go_num, by omega, HI2, HXz11.out, HXa11.out, HW11.out⟩
                case measure => simp [intOf]; omega
              · obtain ⟨p0, p1, p2, p3⟩ := later_boxRP HXp7.out
                refine wp_region_later (wr.alloc (boxRP ((fa, xa, ya), (j : Int)))).heap.size (by kernel_rfl) (by kernel_rfl) ?_
                repeat (go_big_quiet_step (first | (go_at_call 39; exact Later.calls (Nat.le_refl _) (HDG.out _)) | (go_at_call 22; exact Later.calls (Nat.le_refl _) (HRR.out _))))
                refine wpQuiet_nil ?_
                rintro v12 ⟨zz, rfl⟩
                have hb := zz.prop
                have HZ0 := Lib.hid hb
                clear p0 p1 p2 p3
                generalize zz.val = v12 at *
                have HXz13 := Lib.hid (blk_kept hb HXz7.out)
                have HXa13 := Lib.hid (blk_kept hb HXa7.out)
                have HXp13 := Lib.hid (blk_kept hb HXp7.out)
                have HW13 := Lib.hid (below_step HW7.out hb HW7.out.size)
                clear hb
                clear hcb hex
                have HV := Lib.hid (doc_found HSL2.out HDS.out (by have := HCB.out; simpa using this.symm) HRP.out.symm)
                obtain ⟨z0, z1, z2, z3⟩ := boxZRP_at HXz13.out
                obtain ⟨zf0, zf1, zf2, zf3⟩ := boxZRP_free HXz13.out
                obtain ⟨p0, p1, p2, p3⟩ := boxRP_at HXp13.out
                go_wp2_with fail
                exact bodyPost_ret (v := .tuple #[.agg #[.int .u8 (fa.toNat : Int), .int .u64 (xa.toNat : Int), .int .u64 (ya.toNat : Int), .int .i64 (j : Int)], .int .i64 0]) (by simp [results, Tryz.results10, go_sem, z0, z1, z2, z3]) rfl (ParsePost.some HV.out (set4 HW13.out (Nat.le_refl _) _ _ _ _))
          · have hjj : ¬ (j : Int) ≤ 128 := by omega
            have HV := Lib.hid (doc_bits HSL2.out HDS.out (fun m hm ht => HI.out m (by omega) ht))
            clear hex
            obtain ⟨z0, z1, z2, z3⟩ := boxZRP_at HXz0.out
            obtain ⟨zf0, zf1, zf2, zf3⟩ := boxZRP_free HXz0.out
            go_wp2_with fail
            exact bodyPost_ret (v := .tuple #[.agg #[.int .u8 0, .int .u64 0, .int .u64 0, .int .i64 0], .int .i64 8]) (by simp [results, Tryz.results10, go_sem, z0, z1, z2, z3]) rfl (ParsePost.none HV.out (set4 HW0.out (Nat.le_refl _) _ _ _ _))
      · have hsl := HSL.out
        have HV := Lib.hid (doc_head hsl hq)
        clear hq hsl
        obtain ⟨z0, z1, z2, z3⟩ := boxZRP_at HXz6.out
        obtain ⟨zf0, zf1, zf2, zf3⟩ := boxZRP_free HXz6.out
        go_wp2_with fail
        exact bodyPost_ret (v := .tuple #[.agg #[.int .u8 0, .int .u64 0, .int .u64 0, .int .i64 0], .int .i64 8]) (by simp [results, Tryz.results10, go_sem, z0, z1, z2, z3]) rfl (ParsePost.none HV.out (set4 HW6.out (Nat.le_refl _) _ _ _ _))
end Go.Proofs.Tryz.Cd
