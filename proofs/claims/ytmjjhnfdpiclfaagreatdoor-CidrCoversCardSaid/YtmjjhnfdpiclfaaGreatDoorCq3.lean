/- cidr: the program's Text, Parse. -/
import Derived.Test.YtmjjhnfdpiclfaaGreatDoorCq2
import Derived.Test.YtmjjhnfdpiclfaaGreatDoorMV
import Derived.Test.YtmjjhnfdpiclfaaGreatDoorBz1
set_option linter.unusedVariables false
set_option linter.unusedSimpArgs false
set_option maxRecDepth 100000
namespace Go.Proofs.Tryz.Cd
open Go.RowKit Go.Cph Go.Cph.Tx Go.Cph.Px Go.Proofs.Tryz.Tx Go.Proofs.Tryz.Pfx
open Go.Cph.Ok (ofBs)
open Go.Proofs.Tryz.Rows (boxZ)
theorem itoa128 (n : Nat) (hn : n < 256) (w : World) (henv : Env w) : Calls Tryz.prog 51 #[.int .i64 (n : Int)] w fun e w' => e = .returned (.string (ofBs (digs 10 n))) ∧ Below w.heap.size w w' := by
  have h := itoa_any (UInt8.ofNat n) w henv
  rwa [show (UInt8.ofNat n).toNat = n by rw [UInt8.toNat_ofNat']; omega] at h
theorem textP_len (p : Pf) : (textP p).length ≤ 1010 := by
  unfold textP
  split
  · rw [List.length_append, List.length_cons]
    have := text_len p.1
    have := digs_len 10 p.2.toNat
    omega
  · simp
set_option maxHeartbeats 2000000 in
theorem ptext_any (p : Pf) (w : World) (henv : Env w) : Calls Tryz.prog 19 #[encP p] w fun e w' => e = .returned (.string (ofBs (textP p))) ∧ Below w.heap.size w w' := by
  have HE := Lib.hid henv
  have HR := Lib.hid (fun W => rightP_any p W)
  have HTX := Lib.hid (fun W he => text_any p.1 W he)
  have HVF := Lib.hid (@textP_wrong p)
  have HVT := Lib.hid (@textP_right p)
  have HBB := Lib.hid (@bits_small p)
  obtain ⟨r, hr⟩ : ∃ r, r = rightP p := ⟨_, rfl⟩
  rw [← hr] at HR HVF HVT HBB
  have HTL := Lib.hid (text_len p.1)
  obtain ⟨ta, hta⟩ : ∃ t, t = textA p.1 := ⟨_, rfl⟩
  obtain ⟨tp, htp⟩ : ∃ t, t = textP p := ⟨_, rfl⟩
  rw [← hta] at HTX HVT HTL
  rw [← htp] at HVF HVT ⊢
  clear henv hr hta htp
  cases r
  · have HV := Lib.hid (HVF.out rfl)
    obtain ⟨⟨f, x, y⟩, b⟩ := p
    have HXp1 := Lib.hid (heap_alloc_new w (boxP ((f, x, y), b)))
    have HW1 := Lib.hid (show Below w.heap.size w (w.alloc (boxP ((f, x, y), b))) from (Below.refl _ _).alloc (Nat.le_refl _) _)
    obtain ⟨p0, p1, p2, p3⟩ := boxP_at HXp1.out
    go_enter Tryz.func19, Tryz.ntmps19
    go_wp2_with fail
    refine (HR.out _).mono ?_
    rintro e v2 ⟨rfl, hb⟩
    clear p0 p1 p2 p3
    have HXp3 := Lib.hid (blk_kept hb HXp1.out)
    have HW3 := Lib.hid (below_step HW1.out hb HW1.out.size)
    clear hb
    go_wp2_with fail
    go_ret
    exact ⟨ret_str (by rw [HV.out]; rfl), HW3.out⟩
  · have HV := Lib.hid (HVT.out rfl)
    obtain ⟨hb1, hb2⟩ := HBB.out rfl
    obtain ⟨n, hn⟩ : ∃ n, n = p.2.toNat := ⟨_, rfl⟩
    rw [← hn] at HV hb1 hb2
    obtain ⟨⟨f, x, y⟩, b⟩ := p
    obtain rfl : b = (n : Int) := hb2.symm
    have HIT := Lib.hid (fun W he => itoa128 n (by omega) W he)
    have HDL := Lib.hid (digs_len 10 n)
    obtain ⟨dg, hdg⟩ : ∃ d, d = digs 10 n := ⟨_, rfl⟩
    rw [← hdg] at HV HIT HDL
    have hk1 : ∀ W, (Op.stringOp .add (ofBs ta) ⟨#[47]⟩).run Tryz.prog W = .ok (.string (ofBs (ta ++ [47]))) W := cat_run ta [47] (by simp; have := HTL.out; omega)
    have hk2 : ∀ W, (Op.stringOp .add (ofBs (ta ++ [47])) (ofBs dg)).run Tryz.prog W = .ok (.string (ofBs (ta ++ [47] ++ dg))) W := cat_run (ta ++ [47]) dg (by simp; have := HTL.out; have := HDL.out; omega)
    have HS := Lib.hid (show tp = ta ++ [47] ++ dg from by rw [HV.out]; simp)
    obtain ⟨s1, hs1⟩ : ∃ s, s = ofBs ta := ⟨_, rfl⟩
    obtain ⟨s2, hs2⟩ : ∃ s, s = ofBs (ta ++ [47]) := ⟨_, rfl⟩
    obtain ⟨s3, hs3⟩ : ∃ s, s = ofBs dg := ⟨_, rfl⟩
    obtain ⟨s4, hs4⟩ : ∃ s, s = ofBs (ta ++ [47] ++ dg) := ⟨_, rfl⟩
    rw [← hs1] at HTX hk1
    rw [← hs2] at hk1 hk2
    rw [← hs3] at HIT hk2
    rw [← hs4] at hk2
    have HS4 := Lib.hid (show ofBs tp = s4 from by rw [hs4, HS.out])
    clear hn hdg hs1 hs2 hs3 hs4 HVF HVT HBB HDL HTL HS hb1 hb2
    have HXp1 := Lib.hid (heap_alloc_new w (boxP ((f, x, y), (n : Int))))
    have HW1 := Lib.hid (show Below w.heap.size w (w.alloc (boxP ((f, x, y), (n : Int)))) from (Below.refl _ _).alloc (Nat.le_refl _) _)
    obtain ⟨p0, p1, p2, p3⟩ := boxP_at HXp1.out
    go_enter Tryz.func19, Tryz.ntmps19
    go_wp2_with fail
    refine (HR.out _).mono ?_
    rintro e v2 ⟨rfl, hb⟩
    clear p0 p1 p2 p3
    have HXp3 := Lib.hid (blk_kept hb HXp1.out)
    have HW3 := Lib.hid (below_step HW1.out hb HW1.out.size)
    clear hb
    go_wp2_with fail
    obtain ⟨p0, p1, p2, p3⟩ := later_boxP HXp3.out
    refine wp_region_later v2.heap.size (by kernel_rfl) (by kernel_rfl) ?_
    repeat (go_big_quiet_step (first | (go_at_call 50; exact Later.calls (Nat.le_refl _) (HTX.out _ (HE.out.kept (below_step HW3.out (Later.prop _) HW3.out.size)))) | (go_at_call 51; exact Later.calls (Nat.le_refl _) (HIT.out _ (HE.out.kept (below_step HW3.out (Later.prop _) HW3.out.size))))))
    refine wpQuiet_nil ?_
    rintro v4 ⟨zz, rfl⟩
    have hb := zz.prop
    have HZ0 := Lib.hid hb
    clear p0 p1 p2 p3
    generalize zz.val = v4 at *
    have HXp5 := Lib.hid (blk_kept hb HXp3.out)
    have HW5 := Lib.hid (below_step HW3.out hb HW3.out.size)
    clear hb
    go_wp2_with fail
    go_ret
    exact ⟨ret_str HS4.out.symm, HW5.out⟩
theorem atoi_ok (t : Bs) (ht : t.length ≤ 1000000) {n : Int} (h : Lib.atoiAll t = .ok n) (w : World) : Calls Tryz.prog 37 #[.string (ofBs t)] w fun e w' => e = .returned (.tuple #[.int .i64 n, .nilIface]) ∧ Below w.heap.size w w' := by
  refine (Tryz.strconv_Atoi_ok (ofBs t) (by rw [ofBs_size]; omega) n h w).mono ?_
  rintro e w' ⟨rfl, hw⟩
  refine ⟨rfl, ?_⟩
  rcases hw with rfl | ⟨t, rfl⟩
  · exact Below.refl _ _
  · exact Lib.bytesWorld_below _ _ _
abbrev TNE : TypeId := 117
theorem atoi_no (t : Bs) (ht : t.length ≤ 1000000) (h : ∀ n, Lib.atoiAll t ≠ .ok n) : ∃ n : Int, ∀ w, Env w → Calls Tryz.prog 37 #[.string (ofBs t)] w fun e w' => (∃ v : Value, e = .returned (.tuple #[.int .i64 n, .iface TNE v])) ∧ Below w.heap.size w w' := by
  cases hc : Lib.atoiAll t with
  | ok n => exact absurd hc (h n)
  | «syntax» =>
    refine ⟨0, fun w he => ?_⟩
    obtain ⟨tt, pp, hv⟩ := he.syn
    refine (Tryz.strconv_Atoi_syntax (ofBs t) (by rw [ofBs_size]; omega) hc _ w hv (.inr ⟨_, _, rfl⟩)).mono ?_
    rintro e w' ⟨N, rfl, h1, h2, h3⟩
    exact ⟨⟨_, rfl⟩, h3⟩
  | range =>
    refine ⟨Lib.atoiSat t, fun w he => ?_⟩
    obtain ⟨tt, pp, hv⟩ := he.rng
    refine (Tryz.strconv_Atoi_range (ofBs t) (by rw [ofBs_size]; omega) hc _ w hv (.inr ⟨_, _, rfl⟩)).mono ?_
    rintro e w' ⟨N, rfl, h1, h2, h3⟩
    exact ⟨⟨_, rfl⟩, h3⟩
/-- What the library's cut at a slash hands back. -/
def headS (s : Bs) : Bs := match slash s with | none => s | some x => x.1
def tailS (s : Bs) : Bs := match slash s with | none => [] | some x => x.2
theorem cutS_any (s : Bs) (hs : s.length ≤ 1000000) (w : World) (henv : Env w) : Calls Tryz.prog 35 #[.string (ofBs s), .string ⟨#[47]⟩] w fun e w' => (∃ b, e = .returned (.tuple #[.string (ofBs (headS s)), .string (ofBs (tailS s)), .bool b])) ∧ Below w.heap.size w w' := by
  obtain ⟨mx, hmx⟩ := henv.len
  have h := Tryz.strings_Cut (ofBs s) ⟨#[47]⟩ mx w (by rw [ofBs_size]; omega) hmx
  have hd : (ofBs s).data.toList = s := rfl
  have hd2 : (⟨#[47]⟩ : ByteArray).data.toList = [47] := rfl
  rw [hd, hd2, cut_slash] at h
  refine h.mono ?_
  rintro e w' ⟨rfl, n, rfl⟩
  refine ⟨?_, ⟨rfl, rfl, rfl, Nat.le_refl _, fun _ _ => rfl⟩⟩
  unfold headS tailS
  cases slash s with
  | none => exact ⟨_, rfl⟩
  | some x => exact ⟨_, rfl⟩
theorem headS_len (s : Bs) : (headS s).length ≤ s.length ∧ (tailS s).length ≤ s.length := by
  unfold headS tailS
  cases h : slash s with
  | none => simp
  | some x =>
    obtain ⟨a, b⟩ := x
    obtain ⟨e, _⟩ := slash_some h
    rw [e]; simp; omega
/-- What a prefix's Parse hands back. -/
def encR (r : Option Pf) : Value := match r with
  | some p => .tuple #[encP p, .int .i64 0]
  | none => .tuple #[.agg #[.int .u8 0, .int .u64 0, .int .u64 0, .int .i64 0], .int .i64 8]
def ParsePost (s : Bs) (w : World) (e : Ending) (w' : World) : Prop := ∃ r, ParseIs s r ∧ e = .returned (encR r) ∧ Below w.heap.size w w'
theorem ParsePost.none {s : Bs} {w w' : World} (h : ParseIs s .none) (hb : Below w.heap.size w w') : ParsePost s w (.returned (.tuple #[.agg #[.int .u8 0, .int .u64 0, .int .u64 0, .int .i64 0], .int .i64 8])) w' := ⟨_, h, rfl, hb⟩
theorem ParsePost.some {s : Bs} {w w' : World} {f : UInt8} {x y : UInt64} {b : Int} (h : ParseIs s (.some ((f, x, y), b))) (hb : Below w.heap.size w w') : ParsePost s w (.returned (.tuple #[.agg #[.int .u8 (f.toNat : Int), .int .u64 (x.toNat : Int), .int .u64 (y.toNat : Int), .int .i64 b], .int .i64 0])) w' := ⟨_, h, rfl, hb⟩
/-- Which text it is, by what its parts are. -/
theorem parse_by_head {s : Bs} (h : progParse (headS s) = none) : ParseIs s none := by
  unfold headS at h
  cases hs : slash s with
  | none => exact parse_flat hs
  | some x => rw [hs] at h; exact parse_head (h := x.1) (t := x.2) hs h
theorem parse_by_tail {s : Bs} (h : ∀ n, Lib.atoiAll (tailS s) ≠ .ok n) : ParseIs s none := by
  unfold tailS at h
  cases hs : slash s with
  | none => exact parse_flat hs
  | some x =>
    rw [hs] at h
    refine parse_tail (h := x.1) (t := x.2) hs fun n hn e => ?_
    have := atoi_digs n hn
    rw [← e] at this
    exact h _ this
theorem tail_some {s : Bs} {n : Int} (h : Lib.atoiAll (tailS s) = .ok n) : ∃ x, slash s = some x ∧ headS s = x.1 ∧ tailS s = x.2 := by
  unfold tailS headS
  cases hs : slash s with
  | none =>
    unfold tailS at h
    rw [hs] at h
    have e : Lib.atoiAll ([] : Bs) = .«syntax» := rfl
    exact absurd (e.symm.trans h) (by intro k; cases k)
  | some x => exact ⟨x, rfl, rfl, rfl⟩
theorem parse_by_text {s : Bs} {a : Ad} {n : Int} (ha : progParse (headS s) = some a) (hn : Lib.atoiAll (tailS s) = .ok n) : (textP (a, n) ≠ s → ParseIs s none) ∧ (textP (a, n) = s → ParseIs s (some (a, n))) := by
  obtain ⟨x, h1, h2, h3⟩ := tail_some hn
  rw [h2] at ha
  refine ⟨fun k => parse_other h1 ha (fun m hm e => ?_) k, fun k => parse_it h1 ha k⟩
  have := atoi_digs m hm
  rw [← e, ← h3, hn] at this
  injection this
set_option maxHeartbeats 4000000 in
theorem pparse_any (s : Bs) (hs : s.length ≤ 1000000) (w : World) (henv : Env w) : Calls Tryz.prog 9 #[.string (ofBs s)] w (ParsePost s w) := by
  have HE := Lib.hid henv
  have HCS := Lib.hid (fun W he => cutS_any s hs W he)
  have hl := headS_len s
  have HPA := Lib.hid (fun W he => parse_any (headS s) (by omega) W he)
  have HNH := Lib.hid (@parse_by_head s)
  have HNT := Lib.hid (@parse_by_tail s)
  have HNX := Lib.hid (fun a n => @parse_by_text s a n)
  have HAO := Lib.hid (fun n => @atoi_ok (tailS s) (by omega) n)
  have HAN := Lib.hid (atoi_no (tailS s) (by omega))
  obtain ⟨h, hh⟩ : ∃ h, h = headS s := ⟨_, rfl⟩
  obtain ⟨t, ht⟩ : ∃ t, t = tailS s := ⟨_, rfl⟩
  rw [← hh] at HCS HPA HNH HNX
  rw [← ht] at HCS HNT HNX HAO HAN
  clear henv hl hh ht
  have HPX := Lib.hid (fun (a : Ad) (n : Int) W he => ptext_any (a, n) W he)
  have HSE := Lib.hid (fun (a : Ad) (n : Int) => str_eq (textP (a, n)) s)
  obtain ⟨sb, hsb⟩ : ∃ sb, sb = ofBs s := ⟨_, rfl⟩
  obtain ⟨hbs, hhb⟩ : ∃ sb, sb = ofBs h := ⟨_, rfl⟩
  obtain ⟨tbs, htb⟩ : ∃ sb, sb = ofBs t := ⟨_, rfl⟩
  rw [← hsb] at HCS HSE ⊢
  rw [← hhb, ← htb] at HCS
  rw [← hhb] at HPA
  rw [← htb] at HAO HAN
  clear hsb hhb htb
  have HXz1 := Lib.hid (heap_alloc_new w boxPZ)
  have HW1 := Lib.hid (show Below w.heap.size w (w.alloc boxPZ) from (Below.refl _ _).alloc (Nat.le_refl _) _)
  go_enter Tryz.func9, Tryz.ntmps9
  go_wp2_with fail
  refine (HCS.out _ (HE.out.kept HW1.out)).mono ?_
  rintro e v2 ⟨⟨bb, rfl⟩, hb⟩
  have HXz3 := Lib.hid (blk_kept hb HXz1.out)
  have HW3 := Lib.hid (below_step HW1.out hb HW1.out.size)
  clear hb
  cases hp : progParse h with
  | none =>
    have HV := Lib.hid (HNH.out hp)
    rw [hp] at HPA
    clear hp HNH HNT HNX
    have HPA2 := Lib.hid (show ∀ W, Env W → Calls Tryz.prog 36 #[.string hbs] W fun e w' => e = .returned (.tuple #[.agg #[.int .u8 0, .int .u64 0, .int .u64 0], .int .i64 8]) ∧ Below W.heap.size W w' from HPA.out)
    clear HPA
    go_wp2_with fail
    refine (HPA2.out _ (HE.out.kept HW3.out)).mono ?_
    rintro e v4 ⟨rfl, hb⟩
    have HXz5 := Lib.hid (blk_kept hb HXz3.out)
    have HW5 := Lib.hid (below_step HW3.out hb HW3.out.size)
    clear hb
    have HXz6 := Lib.hid (blk_alloc HXz5.out boxZ)
    have HXc6 := Lib.hid (heap_alloc_new v4 boxZ)
    have HW6 := Lib.hid (show Below w.heap.size w (v4.alloc boxZ) from HW5.out.alloc HW5.out.size _)
    by_cases ha : ∃ n, Lib.atoiAll t = .ok n
    · obtain ⟨n, hn⟩ := ha
      have HA2 := Lib.hid (HAO.out n hn)
      clear hn HAO HAN
      obtain ⟨c0, c1, c2⟩ := boxZA_at HXc6.out
      go_wp2_with fail
      refine (HA2.out _).mono ?_
      rintro e v7 ⟨rfl, hb⟩
      clear c0 c1 c2
      have HXz8 := Lib.hid (blk_kept hb HXz6.out)
      have HXc8 := Lib.hid (blk_kept hb HXc6.out)
      have HW8 := Lib.hid (below_step HW6.out hb HW6.out.size)
      clear hb
      obtain ⟨c0, c1, c2⟩ := boxZA_at HXc8.out
      have HXz9 := Lib.hid (blk_alloc HXz8.out (.cells #[.int .u8 0, .int .u64 0, .int .u64 0, .int .i64 n] 26))
      have HXc9 := Lib.hid (blk_alloc HXc8.out (.cells #[.int .u8 0, .int .u64 0, .int .u64 0, .int .i64 n] 26))
      have HXd9 := Lib.hid (heap_alloc_new v7 (.cells #[.int .u8 0, .int .u64 0, .int .u64 0, .int .i64 n] 26))
      have HW9 := Lib.hid (show Below w.heap.size w (v7.alloc (.cells #[.int .u8 0, .int .u64 0, .int .u64 0, .int .i64 n] 26)) from HW8.out.alloc HW8.out.size _)
      obtain ⟨z0, z1, z2, z3⟩ := boxPZ_at HXz9.out
      obtain ⟨zf0, zf1, zf2, zf3⟩ := boxPZ_free HXz9.out
      go_wp2_with fail
      exact bodyPost_ret (v := .tuple #[.agg #[.int .u8 0, .int .u64 0, .int .u64 0, .int .i64 0], .int .i64 8]) (by simp [results, Tryz.results9, go_sem, z0, z1, z2, z3]) rfl (ParsePost.none HV.out (by first | exact HW9.out | exact set4 HW9.out (Nat.le_refl _) _ _ _ _))
    · obtain ⟨n, hn⟩ := HAN.out (fun n h => ha ⟨n, h⟩)
      have HA2 := Lib.hid hn
      clear hn HAO HAN ha
      obtain ⟨c0, c1, c2⟩ := boxZA_at HXc6.out
      go_wp2_with fail
      refine (HA2.out _ (HE.out.kept HW6.out)).mono ?_
      rintro e v10 ⟨⟨v, rfl⟩, hb⟩
      clear c0 c1 c2
      have HXz11 := Lib.hid (blk_kept hb HXz6.out)
      have HXc11 := Lib.hid (blk_kept hb HXc6.out)
      have HW11 := Lib.hid (below_step HW6.out hb HW6.out.size)
      clear hb
      obtain ⟨c0, c1, c2⟩ := boxZA_at HXc11.out
      have HXz12 := Lib.hid (blk_alloc HXz11.out (.cells #[.int .u8 0, .int .u64 0, .int .u64 0, .int .i64 n] 26))
      have HXc12 := Lib.hid (blk_alloc HXc11.out (.cells #[.int .u8 0, .int .u64 0, .int .u64 0, .int .i64 n] 26))
      have HXd12 := Lib.hid (heap_alloc_new v10 (.cells #[.int .u8 0, .int .u64 0, .int .u64 0, .int .i64 n] 26))
      have HW12 := Lib.hid (show Below w.heap.size w (v10.alloc (.cells #[.int .u8 0, .int .u64 0, .int .u64 0, .int .i64 n] 26)) from HW11.out.alloc HW11.out.size _)
      obtain ⟨z0, z1, z2, z3⟩ := boxPZ_at HXz12.out
      obtain ⟨zf0, zf1, zf2, zf3⟩ := boxPZ_free HXz12.out
      go_wp2_with fail
      exact bodyPost_ret (v := .tuple #[.agg #[.int .u8 0, .int .u64 0, .int .u64 0, .int .i64 0], .int .i64 8]) (by simp [results, Tryz.results9, go_sem, z0, z1, z2, z3]) rfl (ParsePost.none HV.out (by first | exact HW12.out | exact set4 HW12.out (Nat.le_refl _) _ _ _ _))
  | some A =>
    rw [hp] at HPA
    have HPA2 := Lib.hid (show ∀ W, Env W → Calls Tryz.prog 36 #[.string hbs] W fun e w' => e = .returned (.tuple #[encA A, .int .i64 0]) ∧ Below W.heap.size W w' from HPA.out)
    have HP := Lib.hid hp
    clear HPA hp HNH
    obtain ⟨f, x, y⟩ := A
    go_wp2_with fail
    refine (HPA2.out _ (HE.out.kept HW3.out)).mono ?_
    rintro e v13 ⟨rfl, hb⟩
    have HXz14 := Lib.hid (blk_kept hb HXz3.out)
    have HW14 := Lib.hid (below_step HW3.out hb HW3.out.size)
    clear hb
    have HXz15 := Lib.hid (blk_alloc HXz14.out (boxA (f, x, y)))
    have HXc15 := Lib.hid (heap_alloc_new v13 (boxA (f, x, y)))
    have HW15 := Lib.hid (show Below w.heap.size w (v13.alloc (boxA (f, x, y))) from HW14.out.alloc HW14.out.size _)
    by_cases ha : ∃ n, Lib.atoiAll t = .ok n
    · obtain ⟨n, hn⟩ := ha
      have HA2 := Lib.hid (HAO.out n hn)
      obtain ⟨hx1, hx2⟩ := HNX.out _ _ HP.out hn
      have HX1 := Lib.hid hx1
      have HX2 := Lib.hid hx2
      have HTP := Lib.hid (fun W he => HPX.out (f, x, y) n W he)
      have hse := HSE.out (f, x, y) n
      obtain ⟨eq, heq⟩ : ∃ eq, eq = decide (textP ((f, x, y), n) = s) := ⟨_, rfl⟩
      have HEQ := Lib.hid heq
      rw [← heq] at hse
      obtain ⟨tx, htx⟩ : ∃ tx, tx = ofBs (textP ((f, x, y), n)) := ⟨_, rfl⟩
      rw [← htx] at hse HTP
      have HSE2 := Lib.hid hse
      clear hn HAO HAN hx1 hx2 hse heq htx HPX HSE HNX HNT
      obtain ⟨c0, c1, c2⟩ := box_at HXc15.out
      go_wp2_with fail
      refine (HA2.out _).mono ?_
      rintro e v16 ⟨rfl, hb⟩
      clear c0 c1 c2
      have HXz17 := Lib.hid (blk_kept hb HXz15.out)
      have HXc17 := Lib.hid (blk_kept hb HXc15.out)
      have HW17 := Lib.hid (below_step HW15.out hb HW15.out.size)
      clear hb
      obtain ⟨c0, c1, c2⟩ := box_at HXc17.out
      have HXz18 := Lib.hid (blk_alloc HXz17.out (boxP ((f, x, y), n)))
      have HXc18 := Lib.hid (blk_alloc HXc17.out (boxP ((f, x, y), n)))
      have HXd18 := Lib.hid (heap_alloc_new v16 (boxP ((f, x, y), n)))
      have HW18 := Lib.hid (show Below w.heap.size w (v16.alloc (boxP ((f, x, y), n))) from HW17.out.alloc HW17.out.size _)
      obtain ⟨d0, d1, d2, d3⟩ := boxP_at HXd18.out
      go_wp2_with fail
      refine (HTP.out _ (HE.out.kept HW18.out)).mono ?_
      rintro e v19 ⟨rfl, hb⟩
      clear c0 c1 c2 d0 d1 d2 d3
      have HXz20 := Lib.hid (blk_kept hb HXz18.out)
      have HXc20 := Lib.hid (blk_kept hb HXc18.out)
      have HXd20 := Lib.hid (blk_kept hb HXd18.out)
      have HW20 := Lib.hid (below_step HW18.out hb HW18.out.size)
      clear hb
      have hse := HSE2.out
      cases eq
      · have HV := Lib.hid (HX1.out (of_decide_eq_false HEQ.out.symm))
        have hse2 : (tx.toList != sb.toList) = true := by rw [bne, hse]; rfl
        obtain ⟨z0, z1, z2, z3⟩ := boxPZ_at HXz20.out
        obtain ⟨zf0, zf1, zf2, zf3⟩ := boxPZ_free HXz20.out
        go_wp2_with fail
        exact bodyPost_ret (v := .tuple #[.agg #[.int .u8 0, .int .u64 0, .int .u64 0, .int .i64 0], .int .i64 8]) (by simp [results, Tryz.results9, go_sem, z0, z1, z2, z3]) rfl (ParsePost.none HV.out (by first | exact HW20.out | exact set4 HW20.out (Nat.le_refl _) _ _ _ _))
      · have HV := Lib.hid (HX2.out (of_decide_eq_true HEQ.out.symm))
        have hse2 : (tx.toList != sb.toList) = false := by rw [bne, hse]; rfl
        obtain ⟨d0, d1, d2, d3⟩ := boxP_at HXd20.out
        obtain ⟨z0, z1, z2, z3⟩ := boxPZ_at HXz20.out
        obtain ⟨zf0, zf1, zf2, zf3⟩ := boxPZ_free HXz20.out
        go_wp2_with fail
        exact bodyPost_ret (v := .tuple #[.agg #[.int .u8 (f.toNat : Int), .int .u64 (x.toNat : Int), .int .u64 (y.toNat : Int), .int .i64 n], .int .i64 0]) (by simp [results, Tryz.results9, go_sem, z0, z1, z2, z3]) rfl (ParsePost.some HV.out (set4 HW20.out (Nat.le_refl _) _ _ _ _))
    · have HV := Lib.hid (HNT.out (fun n h => ha ⟨n, h⟩))
      obtain ⟨n, hn⟩ := HAN.out (fun n h => ha ⟨n, h⟩)
      have HA2 := Lib.hid hn
      clear hn HAO HAN ha HNT HNX
      obtain ⟨c0, c1, c2⟩ := box_at HXc15.out
      go_wp2_with fail
      refine (HA2.out _ (HE.out.kept HW15.out)).mono ?_
      rintro e v21 ⟨⟨v, rfl⟩, hb⟩
      clear c0 c1 c2
      have HXz22 := Lib.hid (blk_kept hb HXz15.out)
      have HXc22 := Lib.hid (blk_kept hb HXc15.out)
      have HW22 := Lib.hid (below_step HW15.out hb HW15.out.size)
      clear hb
      obtain ⟨c0, c1, c2⟩ := box_at HXc22.out
      have HXz23 := Lib.hid (blk_alloc HXz22.out (.cells #[.int .u8 (f.toNat : Int), .int .u64 (x.toNat : Int), .int .u64 (y.toNat : Int), .int .i64 n] 26))
      have HXc23 := Lib.hid (blk_alloc HXc22.out (.cells #[.int .u8 (f.toNat : Int), .int .u64 (x.toNat : Int), .int .u64 (y.toNat : Int), .int .i64 n] 26))
      have HXd23 := Lib.hid (heap_alloc_new v21 (.cells #[.int .u8 (f.toNat : Int), .int .u64 (x.toNat : Int), .int .u64 (y.toNat : Int), .int .i64 n] 26))
      have HW23 := Lib.hid (show Below w.heap.size w (v21.alloc (.cells #[.int .u8 (f.toNat : Int), .int .u64 (x.toNat : Int), .int .u64 (y.toNat : Int), .int .i64 n] 26)) from HW22.out.alloc HW22.out.size _)
      obtain ⟨z0, z1, z2, z3⟩ := boxPZ_at HXz23.out
      obtain ⟨zf0, zf1, zf2, zf3⟩ := boxPZ_free HXz23.out
      go_wp2_with fail
      exact bodyPost_ret (v := .tuple #[.agg #[.int .u8 0, .int .u64 0, .int .u64 0, .int .i64 0], .int .i64 8]) (by simp [results, Tryz.results9, go_sem, z0, z1, z2, z3]) rfl (ParsePost.none HV.out (by first | exact HW23.out | exact set4 HW23.out (Nat.le_refl _) _ _ _ _))
end Go.Proofs.Tryz.Cd
