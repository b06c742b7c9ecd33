/- AddrBack's walk. -/
import Derived.Test.YtpikpfbpoihioaaDoorBz1
import Derived.Test.YtpikpfbpoihioaaDoorAa1
import Derived.Deep.RegionHeld3
set_option linter.unusedVariables false
set_option linter.unusedSimpArgs false
set_option maxRecDepth 100000
namespace Go.Proofs.Tryd.Tx
open Go.RowKit Go.Cph Go.Cph.Tx
open Go.Cph.Ok (ofBs)
open Go.Cph.Px (Ad rightA bytesA zeroA lessA fromB fromOk)
open Go.Proofs.Tryd.Pfx (encA bcell ad_eq)
open Go.Proofs.Tryd.Rows (boxZ below_set3)
theorem ofBs_toList (l : Bs) : (ofBs l).toList = l := by rw [ByteArray.toList_eq]; rfl
theorem encE_pair (r : Option Ad) : ∃ (a : Ad) (c : Int), encE r = .tuple #[encA a, .int .i64 c] ∧ ((c = 0 ∧ r = some a) ∨ (c = 8 ∧ r = none ∧ a = zeroA)) := by
  cases r with
  | none => exact ⟨zeroA, 8, rfl, .inr ⟨rfl, rfl, rfl⟩⟩
  | some a => exact ⟨a, 0, rfl, .inl ⟨rfl, rfl⟩⟩
theorem parse_pair (l : Bs) (hl : l.length ≤ 1000000) : ∃ (a : Ad) (c : Int), (∀ W, Env W → Calls Tryd.prog 16 #[.string (ofBs l)] W fun e w' => e = .returned (.tuple #[encA a, .int .i64 c]) ∧ Below W.heap.size W w') ∧ ((c = 0 ∧ progParse l = some a) ∨ (c = 8 ∧ progParse l = none ∧ a = zeroA)) := by
  obtain ⟨a, c, h1, h2⟩ := encE_pair (progParse l)
  refine ⟨a, c, fun W he => ?_, h2⟩
  have := parse_any l hl W he
  rw [h1] at this
  exact this
theorem from_pair (fam : UInt8) (l : Bs) (hl : l.length ≤ 1000000) (W : World) : Calls Tryd.prog 26 #[.int .u8 (fam.toNat : Int), .string (ofBs l)] W fun e w' => e = .returned (.tuple #[encA (fromB fam l), .bool (fromOk fam l.length)]) ∧ Below W.heap.size W w' := by
  have := Rows.fromBytes fam (ofBs l) W (by rw [ofBs_size]; omega)
  unfold Rows.encFB at this
  rw [ofBs_size] at this
  exact this
theorem bel_drew {w W : World} (h : Below w.heap.size w W) : Below w.heap.size w W.drew := h.drew
theorem bel_alloc {w W : World} (h : Below w.heap.size w W) (o : Obj) : Below w.heap.size w (W.alloc o) := h.alloc h.size o
theorem bel_set {w W : World} (h : Below w.heap.size w W) {p : Addr} (hp : w.heap.size ≤ p.block) (v : Value) : Below w.heap.size w (W.setCell p v) := h.setCell hp v
set_option maxHeartbeats 16000000 in
theorem back_law (a b : Ad) (fam : UInt8) (s : ByteArray) (w : World) (henv : Env w) : Calls Tryd.prog 8 #[encA a, encA b, .int .u8 (fam.toNat : Int), .string s] w fun e w' => e = .returned (.bool true) ∧ Below w.heap.size w w' := by
  have HE := Lib.hid henv
  have HAW := Lib.hid (fun W he => awake_any W he)
  have HRa := Lib.hid (fun W => Pfx.right a W)
  have HRb := Lib.hid (fun W => Pfx.right b W)
  have HYa := Lib.hid (fun W => Rows.abytes a W)
  have HYb := Lib.hid (fun W => Rows.abytes b W)
  have HTa := Lib.hid (fun W he => text_any a W he)
  have HTb := Lib.hid (fun W he => text_any b W he)
  have HFB := Lib.hid (@from_bytes a)
  have HTE := Lib.hid (@text_eqb a b)
  have HBE := Lib.hid (@bytes_eq a b)
  have HPT := Lib.hid (@parse_text a)
  have HNT := Lib.hid (@text_no a)
  have HNB := Lib.hid (show rightA a = false → bytesA a = [] from fun h => by unfold bytesA; rw [h]; rfl)
  have HQA := Lib.hid (fun W => run_neqA a a W)
  have HQB := Lib.hid (fun W => run_eqlA a b W)
  have HTL := Lib.hid (text_len a)
  have HBL := Lib.hid (Pfx.bytesA_le a)
  obtain ⟨l, hl⟩ : ∃ l, l = cutL s := ⟨_, rfl⟩
  have HLL := Lib.hid (show l.length ≤ 2000 from by rw [hl]; exact cutL_le s)
  have HC1 := Lib.hid (show ¬ 2000 < s.size → s = ofBs l from fun h => by rw [hl]; exact cut_all h)
  have HC2 := Lib.hid (show s.extract 0 2000 = ofBs l from by rw [hl]; exact cut_some s)
  clear hl henv
  obtain ⟨ra, hra⟩ : ∃ r, r = rightA a := ⟨_, rfl⟩
  obtain ⟨rb, hrb⟩ : ∃ r, r = rightA b := ⟨_, rfl⟩
  obtain ⟨ta, hta⟩ : ∃ r, r = textA a := ⟨_, rfl⟩
  obtain ⟨tb, htb⟩ : ∃ r, r = textA b := ⟨_, rfl⟩
  obtain ⟨ba, hba⟩ : ∃ r, r = bytesA a := ⟨_, rfl⟩
  obtain ⟨bb, hbb⟩ : ∃ r, r = bytesA b := ⟨_, rfl⟩
  obtain ⟨qq, hqq⟩ : ∃ r, r = (a == b) := ⟨_, rfl⟩
  rw [← hra] at HRa HFB HTE HBE HPT HNT HNB
  rw [← hrb] at HRb HTE HBE
  rw [← hta] at HTa HTE HPT HNT HTL
  rw [← htb] at HTb HTE
  rw [← hba] at HYa HFB HBE HNB HBL
  rw [← hbb] at HYb HBE
  rw [← hqq] at HTE HBE HQB
  clear hra hrb hta htb hba hbb hqq
  have HFBf := Lib.hid (fun W => from_pair a.1 ba (by have := HBL.out; omega) W)
  obtain ⟨fa, xa, ya⟩ := a
  obtain ⟨fb, xb, yb⟩ := b
  have HPA := Lib.hid (show ra = true → ∀ W, Env W → Calls Tryd.prog 16 #[.string (ofBs ta)] W fun e w' => e = .returned (.tuple #[encA (fa, xa, ya), .int .i64 0]) ∧ Below W.heap.size W w' from fun h W he => by
    have := parse_any ta (by have := HTL.out; omega) W he
    rw [HPT.out h] at this
    exact this)
  have HFB2 := Lib.hid (show ra = true → ∀ W, Calls Tryd.prog 26 #[.int .u8 (fa.toNat : Int), .string (ofBs ba)] W fun e w' => e = .returned (.tuple #[encA (fa, xa, ya), .bool true]) ∧ Below W.heap.size W w' from fun h W => by
    have := HFBf.out W
    rw [(HFB.out h).1, (HFB.out h).2] at this
    exact this)
  have HQQ := Lib.hid (show ∀ W, (binOp .neq 24 (encA (fa, xa, ya)) (encA (fa, xa, ya))).run Tryd.prog W = .ok (.bool false) W from fun W => by rw [HQA.out W]; simp)
  clear HFBf HFB HPT HQA
  have HXa1 := Lib.hid (heap_alloc_new w (boxA (fa, xa, ya)))
  have HW1 := Lib.hid (show Below w.heap.size w (w.alloc (boxA (fa, xa, ya))) from (Below.refl _ _).alloc (Nat.le_refl _) _)
  have HXa2 := Lib.hid (blk_alloc HXa1.out (boxA (fb, xb, yb)))
  have hxb := heap_alloc_new (w.alloc (boxA (fa, xa, ya))) (boxA (fb, xb, yb))
  simp only [World.size_alloc] at hxb
  have HXb2 := Lib.hid hxb
  clear hxb
  have HW2 := Lib.hid (show Below w.heap.size w ((w.alloc (boxA (fa, xa, ya))).alloc (boxA (fb, xb, yb))) from HW1.out.alloc HW1.out.size _)
  go_enter Tryd.func8, Tryd.ntmps8
  go_upto_if 19 with (fail)
  obtain ⟨v3, hv3⟩ : ∃ v3, v3 = ((w.alloc (boxA (fa, xa, ya))).alloc (boxA (fb, xb, yb))) := ⟨_, rfl⟩
  rw [← hv3] at HXa2 HXb2 HW2 ⊢
  clear hv3
  go_cut [3] (fun s3 wx => s3 = .string (ofBs l) ∧ wx = v3)
  case first =>
    by_cases h2 : 2000 < s.size
    · have h2i : (2000 : Int) < (s.size : Int) := by omega
      go_wp2_with fail
      go_meet
      case rel => exact ⟨by rw [← HC2.out], rfl⟩
    · have h2i : ¬ (2000 : Int) < (s.size : Int) := by omega
      have HS := Lib.hid (HC1.out h2)
      clear h2
      go_wp2_with fail
      go_meet
      case rel => exact ⟨by rw [← HS.out], rfl⟩
  case rest =>
    obtain ⟨rfl, hwx⟩ := hcut
    subst hwx
    clear HC1 HC2
    obtain ⟨a0, a1, a2⟩ := box_at HXa2.out
    obtain ⟨b0, b1, b2⟩ := box_at HXb2.out
    go_wp2_with fail
    refine (HRa.out _).mono ?_
    rintro e v4 ⟨rfl, hb⟩
    clear a0 a1 a2 b0 b1 b2
    have HXa5 := Lib.hid (blk_kept hb HXa2.out)
    have HXb5 := Lib.hid (blk_kept hb HXb2.out)
    have HW5 := Lib.hid (below_step HW2.out hb HW2.out.size)
    clear hb
    obtain ⟨a0, a1, a2⟩ := box_at HXa5.out
    obtain ⟨b0, b1, b2⟩ := box_at HXb5.out
    go_upto_if 23 with (fail)
    go_cut [8] (fun s8 wx => s8 = .bool false ∧ Below v4.heap.size v4 wx)
    case first =>
      have HBASE := Lib.hid (show Below v4.heap.size v4 v4 from Below.refl _ _)
      cases ra
      · obtain rfl : ta = [] := HNT.out rfl
        obtain rfl : ba = [] := HNB.out rfl
        have he : (ofBs []).toList.isEmpty = true := by rw [ofBs_toList]; rfl
        go_wp2_with fail
        refine (HTa.out _ (HE.out.kept HW5.out)).mono ?_
        rintro e v6 ⟨rfl, hb⟩
        have hb0 := hb
        have HD7 := Lib.hid (below_step HBASE.out hb0 HBASE.out.size)
        clear hb0
        clear a0 a1 a2 b0 b1 b2
        have HXa8 := Lib.hid (blk_kept hb HXa5.out)
        have HXb8 := Lib.hid (blk_kept hb HXb5.out)
        have HW8 := Lib.hid (below_step HW5.out hb HW5.out.size)
        clear hb
        obtain ⟨a0, a1, a2⟩ := box_at HXa8.out
        obtain ⟨b0, b1, b2⟩ := box_at HXb8.out
        go_wp2_with fail
        refine (HYa.out _).mono ?_
        rintro e v9 ⟨rfl, hb⟩
        have hb0 := hb
        have HD10 := Lib.hid (below_step HD7.out hb0 HD7.out.size)
        clear hb0
        clear a0 a1 a2 b0 b1 b2
        have HXa11 := Lib.hid (blk_kept hb HXa8.out)
        have HXb11 := Lib.hid (blk_kept hb HXb8.out)
        have HW11 := Lib.hid (below_step HW8.out hb HW8.out.size)
        clear hb
        go_wp2_with fail
        go_meet
        case rel => exact ⟨rfl, HD10.out⟩
      · go_wp2_with fail
        refine (HTa.out _ (HE.out.kept HW5.out)).mono ?_
        rintro e v12 ⟨rfl, hb⟩
        have hb0 := hb
        have HD13 := Lib.hid (below_step HBASE.out hb0 HBASE.out.size)
        clear hb0
        clear a0 a1 a2 b0 b1 b2
        have HXa14 := Lib.hid (blk_kept hb HXa5.out)
        have HXb14 := Lib.hid (blk_kept hb HXb5.out)
        have HW14 := Lib.hid (below_step HW5.out hb HW5.out.size)
        clear hb
        obtain ⟨a0, a1, a2⟩ := box_at HXa14.out
        obtain ⟨b0, b1, b2⟩ := box_at HXb14.out
        go_wp2_with fail
        refine (HPA.out (by simp) _ (HE.out.kept HW14.out)).mono ?_
        rintro e v15 ⟨rfl, hb⟩
        have hb0 := hb
        have HD16 := Lib.hid (below_step HD13.out hb0 HD13.out.size)
        clear hb0
        clear a0 a1 a2 b0 b1 b2
        have HXa17 := Lib.hid (blk_kept hb HXa14.out)
        have HXb17 := Lib.hid (blk_kept hb HXb14.out)
        have HW17 := Lib.hid (below_step HW14.out hb HW14.out.size)
        clear hb
        have HXa18 := Lib.hid (blk_alloc HXa17.out (boxA (fa, xa, ya)))
        have HXb18 := Lib.hid (blk_alloc HXb17.out (boxA (fa, xa, ya)))
        have HXc18 := Lib.hid (heap_alloc_new v15 (boxA (fa, xa, ya)))
        have HW18 := Lib.hid (show Below w.heap.size w (v15.alloc (boxA (fa, xa, ya))) from HW17.out.alloc HW17.out.size _)
        obtain ⟨a0, a1, a2⟩ := box_at HXa18.out
        obtain ⟨b0, b1, b2⟩ := box_at HXb18.out
        obtain ⟨c0, c1, c2⟩ := box_at HXc18.out
        have HD19 := Lib.hid (bel_alloc HD16.out (boxA (fa, xa, ya)))
        go_wp2_with fail
        obtain ⟨v20, hv20⟩ : ∃ v20, v20 = (v15.alloc (boxA (fa, xa, ya))) := ⟨_, rfl⟩
        rw [← hv20] at HXa18 HXb18 HXc18 HD19 HW18 ⊢
        clear hv20
        clear a0 a1 a2 b0 b1 b2 c0 c1 c2
        obtain ⟨a0, a1, a2⟩ := box_at HXa18.out
        obtain ⟨b0, b1, b2⟩ := box_at HXb18.out
        obtain ⟨c0, c1, c2⟩ := box_at HXc18.out
        have hkeep := HXa18.out
        have HKA := Lib.hid (show ∀ W, Below v20.heap.size v20 W → W.heap[w.heap.size]? = some (boxA (fa, xa, ya)) from fun W h => blk_kept h HXa18.out)
        clear hkeep
        go_cut [11, 12] (fun s11 s12 wx => ∃ g, s11 = .pointer (some ⟨g, 0, none⟩) ∧ s12 = .bool true ∧ wx.heap[g]? = some (boxA (fa, xa, ya)) ∧ Below v20.heap.size v20 wx)
        case first =>
          have HCA := Lib.hid (show ∀ W, Below v20.heap.size v20 W → W.cell? ⟨w.heap.size, 0, none⟩ = some (.int .u8 (fa.toNat : Int)) ∧ W.cell? ⟨w.heap.size, 1, none⟩ = some (.int .u64 (xa.toNat : Int)) ∧ W.cell? ⟨w.heap.size, 2, none⟩ = some (.int .u64 (ya.toNat : Int)) from fun W h => box_at (HKA.out W h))
          have HS0 := Lib.hid (show Below v20.heap.size v20 v20 from Below.refl _ _)
          go_region_held3 (fun W => W.cell? ⟨w.heap.size, 0, none⟩ = some (.int .u8 (fa.toNat : Int)) ∧ W.cell? ⟨w.heap.size, 1, none⟩ = some (.int .u64 (xa.toNat : Int)) ∧ W.cell? ⟨w.heap.size, 2, none⟩ = some (.int .u64 (ya.toNat : Int))) ((refine HCA.out _ ?_; (repeat (first | exact B2.out | exact B1.out | exact HS0.out | refine bel_drew ?_ | refine bel_alloc ?_ _ | refine bel_set ?_ (by first | exact Nat.le_refl _ | exact B1.out.size | exact B2.out.size) _)); done))
            (first
              | (go_at_call 12; (with_reducible refine (HYa.out _).mono ?_); rintro e u1 ⟨rfl, hb⟩; (have B1 := Lib.hid (show Below v20.heap.size v20 u1 from by first | exact below_step HS0.out.drew hb HS0.out.drew.size | exact below_step (HS0.out.drew.alloc HS0.out.drew.size _) hb (HS0.out.drew.alloc HS0.out.drew.size _).size)); (try (have K1 := Lib.hid (show u1.heap[v20.heap.size]? = some boxZ from blk_kept hb (heap_alloc_new _ _)))); clear hb; obtain ⟨d0, d1, d2⟩ := box_at (HKA.out u1 B1.out))
              | (go_at_call 26; (with_reducible refine (HFB2.out (by simp) _).mono ?_); rintro e u2 ⟨rfl, hb⟩; (have B2 := Lib.hid (show Below v20.heap.size v20 u2 from by first | exact below_step B1.out hb B1.out.size | exact below_step (B1.out.alloc B1.out.size _) hb (B1.out.alloc B1.out.size _).size)); (try (have K2 := Lib.hid (show u2.heap[v20.heap.size]? = some boxZ from blk_kept hb K1.out))); (try (have K3 := Lib.hid (show u2.heap[u1.heap.size]? = some boxZ from blk_kept hb (heap_alloc_new _ _)))); clear hb; (try (have k2c0 : u2.cell? ⟨v20.heap.size, 0, none⟩ = some (.int .u8 0) := (by rw [blk_cell K2.out]; rfl); have k2c1 : u2.cell? ⟨v20.heap.size, 1, none⟩ = some (.int .u64 0) := (by rw [blk_cell K2.out]; rfl); have k2c2 : u2.cell? ⟨v20.heap.size, 2, none⟩ = some (.int .u64 0) := (by rw [blk_cell K2.out]; rfl); have k2f : ∀ j, u2.frozen? ⟨v20.heap.size, j, none⟩ = false := (fun j => by rw [blk_frozen K2.out]; simp))); (try (have k3c0 : u2.cell? ⟨u1.heap.size, 0, none⟩ = some (.int .u8 0) := (by rw [blk_cell K3.out]; rfl); have k3c1 : u2.cell? ⟨u1.heap.size, 1, none⟩ = some (.int .u64 0) := (by rw [blk_cell K3.out]; rfl); have k3c2 : u2.cell? ⟨u1.heap.size, 2, none⟩ = some (.int .u64 0) := (by rw [blk_cell K3.out]; rfl); have k3f : ∀ j, u2.frozen? ⟨u1.heap.size, j, none⟩ = false := (fun j => by rw [blk_frozen K3.out]; simp))); obtain ⟨e0, e1, e2⟩ := box_at (HKA.out u2 B2.out)))
          all_goals go_wp2_with fail
          all_goals go_meet
          all_goals case rel =>
            refine ⟨_, rfl, rfl, ?_, ?_⟩
            · first
                | exact heap_alloc_new u2 _
                | (rw [blk_set (blk_set (blk_set K3.out 0 _) 1 _) 2 _]; rfl)
                | (rw [blk_set (blk_set (blk_set K2.out 0 _) 1 _) 2 _]; rfl)
            · first
                | exact bel_alloc B2.out _
                | exact bel_set (bel_set (bel_set B2.out B1.out.size _) B1.out.size _) B1.out.size _
                | exact bel_set (bel_set (bel_set B2.out (Nat.le_refl _) _) (Nat.le_refl _) _) (Nat.le_refl _) _
        case rest =>
          obtain ⟨g, rfl, rfl, hg, hb⟩ := hcut
          have hb0 := hb
          have HD21 := Lib.hid (below_step HD19.out hb0 HD19.out.size)
          clear hb0
          have HXd0 := Lib.hid hg
          clear hg
          clear a0 a1 a2 b0 b1 b2 c0 c1 c2
          have HXa22 := Lib.hid (blk_kept hb HXa18.out)
          have HXb22 := Lib.hid (blk_kept hb HXb18.out)
          have HXc22 := Lib.hid (blk_kept hb HXc18.out)
          have HW22 := Lib.hid (below_step HW18.out hb HW18.out.size)
          clear hb
          obtain ⟨a0, a1, a2⟩ := box_at HXa22.out
          obtain ⟨b0, b1, b2⟩ := box_at HXb22.out
          obtain ⟨c0, c1, c2⟩ := box_at HXc22.out
          obtain ⟨d0, d1, d2⟩ := box_at HXd0.out
          have hq := HQQ.out
          have hqb := HQB.out
          go_wp2_with fail
          clear a0 a1 a2 b0 b1 b2 c0 c1 c2 d0 d1 d2
          obtain ⟨a0, a1, a2⟩ := later_box HXa22.out
          obtain ⟨b0, b1, b2⟩ := later_box HXb22.out
          obtain ⟨c0, c1, c2⟩ := later_box HXc22.out
          obtain ⟨d0, d1, d2⟩ := later_box HXd0.out
          cases rb
          · refine wp_region_later wc.heap.size (by kernel_rfl) (by kernel_rfl) ?_
            repeat (go_big_quiet_step ((go_at_call 10; exact Later.calls (Nat.le_refl _) (HRb.out _))))
            refine wpQuiet_nil ?_
            rintro v23 ⟨zz, rfl⟩
            have hb := zz.prop
            have HZ0 := Lib.hid hb
            clear a0 a1 a2 b0 b1 b2 c0 c1 c2 d0 d1 d2
            generalize zz.val = v23 at *
            have HXa24 := Lib.hid (blk_kept hb HXa22.out)
            have HXb24 := Lib.hid (blk_kept hb HXb22.out)
            have HXc24 := Lib.hid (blk_kept hb HXc22.out)
            have HXd24 := Lib.hid (blk_kept hb HXd0.out)
            have HW24 := Lib.hid (below_step HW22.out hb HW22.out.size)
            clear hb
            go_wp2_with fail
            go_meet
            case rel => exact ⟨rfl, below_step HD21.out (show Below wc.heap.size wc v23 from HZ0.out) HD21.out.size⟩
          · have ht := HTE.out (by simp) (by simp)
            have hb9 := HBE.out (by simp) (by simp)
            have hts : ((ofBs ta).toList == (ofBs tb).toList) = qq := by rw [str_eq]; exact ht
            have hbs : ((ofBs ba).toList == (ofBs bb).toList) = qq := by rw [str_eq]; exact hb9
            clear ht hb9
            cases qq
            all_goals
              refine wp_region_later wc.heap.size (by kernel_rfl) (by kernel_rfl) ?_
              repeat (go_big_quiet_step (first | (go_at_call 10; exact Later.calls (Nat.le_refl _) (HRb.out _)) | (go_at_call 15; first | with_reducible exact Later.calls (Nat.le_refl _) (HTa.out _ (HE.out.kept (below_step HW22.out (Later.prop _) HW22.out.size))) | with_reducible exact Later.calls (Nat.le_refl _) (HTb.out _ (HE.out.kept (below_step HW22.out (Later.prop _) HW22.out.size)))) | (go_at_call 12; first | with_reducible exact Later.calls (Nat.le_refl _) (HYa.out _) | with_reducible exact Later.calls (Nat.le_refl _) (HYb.out _))))
              refine wpQuiet_nil ?_
              rintro v25 ⟨zz, rfl⟩
              have hb := zz.prop
              have HZ0 := Lib.hid hb
              clear a0 a1 a2 b0 b1 b2 c0 c1 c2 d0 d1 d2
              generalize zz.val = v25 at *
              have HXa26 := Lib.hid (blk_kept hb HXa22.out)
              have HXb26 := Lib.hid (blk_kept hb HXb22.out)
              have HXc26 := Lib.hid (blk_kept hb HXc22.out)
              have HXd26 := Lib.hid (blk_kept hb HXd0.out)
              have HW26 := Lib.hid (below_step HW22.out hb HW22.out.size)
              clear hb
              go_wp2_with fail
              go_meet
              case rel => exact ⟨rfl, below_step HD21.out (show Below wc.heap.size wc v25 from HZ0.out) HD21.out.size⟩
    case rest =>
      obtain ⟨rfl, hb⟩ := hcut
      clear a0 a1 a2 b0 b1 b2
      have HXa27 := Lib.hid (blk_kept hb HXa5.out)
      have HXb27 := Lib.hid (blk_kept hb HXb5.out)
      have HW27 := Lib.hid (below_step HW5.out hb HW5.out.size)
      clear hb
      obtain ⟨⟨fc, xc, yc⟩, cc, hpc, hcc⟩ := parse_pair l (by have := HLL.out; omega)
      have HPC := Lib.hid hpc
      have HCC := Lib.hid hcc
      clear hpc hcc
      have HRc := Lib.hid (fun W => Pfx.right (fc, xc, yc) W)
      have HTc := Lib.hid (fun W he => text_any (fc, xc, yc) W he)
      obtain ⟨rc, hrc⟩ : ∃ r, r = rightA (fc, xc, yc) := ⟨_, rfl⟩
      obtain ⟨tc, htc⟩ : ∃ r, r = textA (fc, xc, yc) := ⟨_, rfl⟩
      have HCF := Lib.hid (show (cc = 0 ∧ rc = true ∧ tc = l) ∨ (cc = 8 ∧ rc = false) from by
        rcases HCC.out with ⟨h1, h2⟩ | ⟨h1, h2, h3⟩
        · obtain ⟨k1, k2⟩ := parse_some h2
          exact .inl ⟨h1, by rw [hrc, k1], by rw [htc, k2]⟩
        · exact .inr ⟨h1, by rw [hrc, h3]; decide⟩)
      rw [← hrc] at HRc
      rw [← htc] at HTc
      clear hrc htc HCC
      have HF := Lib.hid (fun W => from_pair fam l (by have := HLL.out; omega) W)
      obtain ⟨⟨fd, xd, yd⟩, hd⟩ : ∃ d, d = fromB fam l := ⟨_, rfl⟩
      obtain ⟨od, hod⟩ : ∃ o, o = fromOk fam l.length := ⟨_, rfl⟩
      have HRd := Lib.hid (fun W => Pfx.right (fd, xd, yd) W)
      have HYd := Lib.hid (fun W => Rows.abytes (fd, xd, yd) W)
      obtain ⟨rd, hrd⟩ : ∃ r, r = rightA (fd, xd, yd) := ⟨_, rfl⟩
      obtain ⟨bd, hbd⟩ : ∃ r, r = bytesA (fd, xd, yd) := ⟨_, rfl⟩
      have HDF := Lib.hid (show (od = true ∧ rd = true ∧ bd = l ∧ fd = fam) ∨ (od = false ∧ rd = false) from by
        cases h : fromOk fam l.length with
        | true =>
          have k := from_ok2 h
          rw [← hd] at k
          exact .inl ⟨by rw [hod, h], by rw [hrd, k.right], by rw [hbd, k.bytes], k.fam⟩
        | false =>
          have k := from_no h
          rw [← hd] at k
          exact .inr ⟨by rw [hod, h], by rw [hrd, k]; decide⟩)
      rw [← hd, ← hod] at HF
      rw [← hrd] at HRd
      rw [← hbd] at HYd
      clear hd hod hrd hbd
      go_wp2_with fail
      refine (HPC.out _ (HE.out.kept HW27.out)).mono ?_
      rintro e v28 ⟨rfl, hb⟩
      have HXa29 := Lib.hid (blk_kept hb HXa27.out)
      have HXb29 := Lib.hid (blk_kept hb HXb27.out)
      have HW29 := Lib.hid (below_step HW27.out hb HW27.out.size)
      clear hb
      have HXa30 := Lib.hid (blk_alloc HXa29.out (boxA (fc, xc, yc)))
      have HXb30 := Lib.hid (blk_alloc HXb29.out (boxA (fc, xc, yc)))
      have HXe30 := Lib.hid (heap_alloc_new v28 (boxA (fc, xc, yc)))
      have HW30 := Lib.hid (show Below w.heap.size w (v28.alloc (boxA (fc, xc, yc))) from HW29.out.alloc HW29.out.size _)
      obtain ⟨a0, a1, a2⟩ := box_at HXa30.out
      obtain ⟨b0, b1, b2⟩ := box_at HXb30.out
      obtain ⟨e0, e1, e2⟩ := box_at HXe30.out
      rcases HCF.out with ⟨rfl, rfl, rfl⟩ | ⟨rfl, rfl⟩
      · go_wp2_with fail
        refine (HRc.out _).mono ?_
        rintro e v31 ⟨rfl, hb⟩
        clear a0 a1 a2 b0 b1 b2 e0 e1 e2
        have HXa32 := Lib.hid (blk_kept hb HXa30.out)
        have HXb32 := Lib.hid (blk_kept hb HXb30.out)
        have HXe32 := Lib.hid (blk_kept hb HXe30.out)
        have HW32 := Lib.hid (below_step HW30.out hb HW30.out.size)
        clear hb
        obtain ⟨a0, a1, a2⟩ := box_at HXa32.out
        obtain ⟨b0, b1, b2⟩ := box_at HXb32.out
        obtain ⟨e0, e1, e2⟩ := box_at HXe32.out
        have hte : ((ofBs tc).toList != (ofBs tc).toList) = false := by simp
        go_wp2_with fail
        refine (HTc.out _ (HE.out.kept HW32.out)).mono ?_
        rintro e v33 ⟨rfl, hb⟩
        clear a0 a1 a2 b0 b1 b2 e0 e1 e2
        have HXa34 := Lib.hid (blk_kept hb HXa32.out)
        have HXb34 := Lib.hid (blk_kept hb HXb32.out)
        have HXe34 := Lib.hid (blk_kept hb HXe32.out)
        have HW34 := Lib.hid (below_step HW32.out hb HW32.out.size)
        clear hb
        obtain ⟨a0, a1, a2⟩ := box_at HXa34.out
        obtain ⟨b0, b1, b2⟩ := box_at HXb34.out
        obtain ⟨e0, e1, e2⟩ := box_at HXe34.out
        go_wp2_with fail
        refine (HF.out _).mono ?_
        rintro e v35 ⟨rfl, hb⟩
        clear a0 a1 a2 b0 b1 b2 e0 e1 e2
        have HXa36 := Lib.hid (blk_kept hb HXa34.out)
        have HXb36 := Lib.hid (blk_kept hb HXb34.out)
        have HXe36 := Lib.hid (blk_kept hb HXe34.out)
        have HW36 := Lib.hid (below_step HW34.out hb HW34.out.size)
        clear hb
        have HXa37 := Lib.hid (blk_alloc HXa36.out (boxA (fd, xd, yd)))
        have HXb37 := Lib.hid (blk_alloc HXb36.out (boxA (fd, xd, yd)))
        have HXe37 := Lib.hid (blk_alloc HXe36.out (boxA (fd, xd, yd)))
        have HXf37 := Lib.hid (heap_alloc_new v35 (boxA (fd, xd, yd)))
        have HW37 := Lib.hid (show Below w.heap.size w (v35.alloc (boxA (fd, xd, yd))) from HW36.out.alloc HW36.out.size _)
        obtain ⟨a0, a1, a2⟩ := box_at HXa37.out
        obtain ⟨b0, b1, b2⟩ := box_at HXb37.out
        obtain ⟨e0, e1, e2⟩ := box_at HXe37.out
        obtain ⟨f0, f1, f2⟩ := box_at HXf37.out
        rcases HDF.out with ⟨rfl, rfl, rfl, rfl⟩ | ⟨rfl, rfl⟩
        · go_wp2_with fail
          refine (HRd.out _).mono ?_
          rintro e v38 ⟨rfl, hb⟩
          clear a0 a1 a2 b0 b1 b2 e0 e1 e2 f0 f1 f2
          have HXa39 := Lib.hid (blk_kept hb HXa37.out)
          have HXb39 := Lib.hid (blk_kept hb HXb37.out)
          have HXe39 := Lib.hid (blk_kept hb HXe37.out)
          have HXf39 := Lib.hid (blk_kept hb HXf37.out)
          have HW39 := Lib.hid (below_step HW37.out hb HW37.out.size)
          clear hb
          obtain ⟨a0, a1, a2⟩ := box_at HXa39.out
          obtain ⟨b0, b1, b2⟩ := box_at HXb39.out
          obtain ⟨e0, e1, e2⟩ := box_at HXe39.out
          obtain ⟨f0, f1, f2⟩ := box_at HXf39.out
          have hbe : ((ofBs bd).toList == (ofBs bd).toList) = true := by simp
          go_wp2_with fail
          refine (HYd.out _).mono ?_
          rintro e v40 ⟨rfl, hb⟩
          clear a0 a1 a2 b0 b1 b2 e0 e1 e2 f0 f1 f2
          have HXa41 := Lib.hid (blk_kept hb HXa39.out)
          have HXb41 := Lib.hid (blk_kept hb HXb39.out)
          have HXe41 := Lib.hid (blk_kept hb HXe39.out)
          have HXf41 := Lib.hid (blk_kept hb HXf39.out)
          have HW41 := Lib.hid (below_step HW39.out hb HW39.out.size)
          clear hb
          obtain ⟨a0, a1, a2⟩ := box_at HXa41.out
          obtain ⟨b0, b1, b2⟩ := box_at HXb41.out
          obtain ⟨e0, e1, e2⟩ := box_at HXe41.out
          obtain ⟨f0, f1, f2⟩ := box_at HXf41.out
          go_wp2_with fail
          refine (HAW.out _ (HE.out.kept HW41.out)).mono ?_
          rintro e v42 ⟨rfl, hb⟩
          clear a0 a1 a2 b0 b1 b2 e0 e1 e2 f0 f1 f2
          have HXa43 := Lib.hid (blk_kept hb HXa41.out)
          have HXb43 := Lib.hid (blk_kept hb HXb41.out)
          have HXe43 := Lib.hid (blk_kept hb HXe41.out)
          have HXf43 := Lib.hid (blk_kept hb HXf41.out)
          have HW43 := Lib.hid (below_step HW41.out hb HW41.out.size)
          clear hb
          go_wp2_with fail
          go_ret
          exact ⟨rfl, HW43.out⟩
        · go_wp2_with fail
          refine (HRd.out _).mono ?_
          rintro e v44 ⟨rfl, hb⟩
          clear a0 a1 a2 b0 b1 b2 e0 e1 e2 f0 f1 f2
          have HXa45 := Lib.hid (blk_kept hb HXa37.out)
          have HXb45 := Lib.hid (blk_kept hb HXb37.out)
          have HXe45 := Lib.hid (blk_kept hb HXe37.out)
          have HXf45 := Lib.hid (blk_kept hb HXf37.out)
          have HW45 := Lib.hid (below_step HW37.out hb HW37.out.size)
          clear hb
          obtain ⟨a0, a1, a2⟩ := box_at HXa45.out
          obtain ⟨b0, b1, b2⟩ := box_at HXb45.out
          obtain ⟨e0, e1, e2⟩ := box_at HXe45.out
          obtain ⟨f0, f1, f2⟩ := box_at HXf45.out
          go_wp2_with fail
          refine (HAW.out _ (HE.out.kept HW45.out)).mono ?_
          rintro e v46 ⟨rfl, hb⟩
          clear a0 a1 a2 b0 b1 b2 e0 e1 e2 f0 f1 f2
          have HXa47 := Lib.hid (blk_kept hb HXa45.out)
          have HXb47 := Lib.hid (blk_kept hb HXb45.out)
          have HXe47 := Lib.hid (blk_kept hb HXe45.out)
          have HXf47 := Lib.hid (blk_kept hb HXf45.out)
          have HW47 := Lib.hid (below_step HW45.out hb HW45.out.size)
          clear hb
          go_wp2_with fail
          go_ret
          exact ⟨rfl, HW47.out⟩
      · go_wp2_with fail
        refine (HRc.out _).mono ?_
        rintro e v48 ⟨rfl, hb⟩
        clear a0 a1 a2 b0 b1 b2 e0 e1 e2
        have HXa49 := Lib.hid (blk_kept hb HXa30.out)
        have HXb49 := Lib.hid (blk_kept hb HXb30.out)
        have HXe49 := Lib.hid (blk_kept hb HXe30.out)
        have HW49 := Lib.hid (below_step HW30.out hb HW30.out.size)
        clear hb
        obtain ⟨a0, a1, a2⟩ := box_at HXa49.out
        obtain ⟨b0, b1, b2⟩ := box_at HXb49.out
        obtain ⟨e0, e1, e2⟩ := box_at HXe49.out
        go_wp2_with fail
        refine (HF.out _).mono ?_
        rintro e v50 ⟨rfl, hb⟩
        clear a0 a1 a2 b0 b1 b2 e0 e1 e2
        have HXa51 := Lib.hid (blk_kept hb HXa49.out)
        have HXb51 := Lib.hid (blk_kept hb HXb49.out)
        have HXe51 := Lib.hid (blk_kept hb HXe49.out)
        have HW51 := Lib.hid (below_step HW49.out hb HW49.out.size)
        clear hb
        have HXa52 := Lib.hid (blk_alloc HXa51.out (boxA (fd, xd, yd)))
        have HXb52 := Lib.hid (blk_alloc HXb51.out (boxA (fd, xd, yd)))
        have HXe52 := Lib.hid (blk_alloc HXe51.out (boxA (fd, xd, yd)))
        have HXf52 := Lib.hid (heap_alloc_new v50 (boxA (fd, xd, yd)))
        have HW52 := Lib.hid (show Below w.heap.size w (v50.alloc (boxA (fd, xd, yd))) from HW51.out.alloc HW51.out.size _)
        obtain ⟨a0, a1, a2⟩ := box_at HXa52.out
        obtain ⟨b0, b1, b2⟩ := box_at HXb52.out
        obtain ⟨e0, e1, e2⟩ := box_at HXe52.out
        obtain ⟨f0, f1, f2⟩ := box_at HXf52.out
        rcases HDF.out with ⟨rfl, rfl, rfl, rfl⟩ | ⟨rfl, rfl⟩
        · go_wp2_with fail
          refine (HRd.out _).mono ?_
          rintro e v53 ⟨rfl, hb⟩
          clear a0 a1 a2 b0 b1 b2 e0 e1 e2 f0 f1 f2
          have HXa54 := Lib.hid (blk_kept hb HXa52.out)
          have HXb54 := Lib.hid (blk_kept hb HXb52.out)
          have HXe54 := Lib.hid (blk_kept hb HXe52.out)
          have HXf54 := Lib.hid (blk_kept hb HXf52.out)
          have HW54 := Lib.hid (below_step HW52.out hb HW52.out.size)
          clear hb
          obtain ⟨a0, a1, a2⟩ := box_at HXa54.out
          obtain ⟨b0, b1, b2⟩ := box_at HXb54.out
          obtain ⟨e0, e1, e2⟩ := box_at HXe54.out
          obtain ⟨f0, f1, f2⟩ := box_at HXf54.out
          have hbe : ((ofBs bd).toList == (ofBs bd).toList) = true := by simp
          go_wp2_with fail
          refine (HYd.out _).mono ?_
          rintro e v55 ⟨rfl, hb⟩
          clear a0 a1 a2 b0 b1 b2 e0 e1 e2 f0 f1 f2
          have HXa56 := Lib.hid (blk_kept hb HXa54.out)
          have HXb56 := Lib.hid (blk_kept hb HXb54.out)
          have HXe56 := Lib.hid (blk_kept hb HXe54.out)
          have HXf56 := Lib.hid (blk_kept hb HXf54.out)
          have HW56 := Lib.hid (below_step HW54.out hb HW54.out.size)
          clear hb
          obtain ⟨a0, a1, a2⟩ := box_at HXa56.out
          obtain ⟨b0, b1, b2⟩ := box_at HXb56.out
          obtain ⟨e0, e1, e2⟩ := box_at HXe56.out
          obtain ⟨f0, f1, f2⟩ := box_at HXf56.out
          go_wp2_with fail
          refine (HAW.out _ (HE.out.kept HW56.out)).mono ?_
          rintro e v57 ⟨rfl, hb⟩
          clear a0 a1 a2 b0 b1 b2 e0 e1 e2 f0 f1 f2
          have HXa58 := Lib.hid (blk_kept hb HXa56.out)
          have HXb58 := Lib.hid (blk_kept hb HXb56.out)
          have HXe58 := Lib.hid (blk_kept hb HXe56.out)
          have HXf58 := Lib.hid (blk_kept hb HXf56.out)
          have HW58 := Lib.hid (below_step HW56.out hb HW56.out.size)
          clear hb
          go_wp2_with fail
          go_ret
          exact ⟨rfl, HW58.out⟩
        · go_wp2_with fail
          refine (HRd.out _).mono ?_
          rintro e v59 ⟨rfl, hb⟩
          clear a0 a1 a2 b0 b1 b2 e0 e1 e2 f0 f1 f2
          have HXa60 := Lib.hid (blk_kept hb HXa52.out)
          have HXb60 := Lib.hid (blk_kept hb HXb52.out)
          have HXe60 := Lib.hid (blk_kept hb HXe52.out)
          have HXf60 := Lib.hid (blk_kept hb HXf52.out)
          have HW60 := Lib.hid (below_step HW52.out hb HW52.out.size)
          clear hb
          obtain ⟨a0, a1, a2⟩ := box_at HXa60.out
          obtain ⟨b0, b1, b2⟩ := box_at HXb60.out
          obtain ⟨e0, e1, e2⟩ := box_at HXe60.out
          obtain ⟨f0, f1, f2⟩ := box_at HXf60.out
          go_wp2_with fail
          refine (HAW.out _ (HE.out.kept HW60.out)).mono ?_
          rintro e v61 ⟨rfl, hb⟩
          clear a0 a1 a2 b0 b1 b2 e0 e1 e2 f0 f1 f2
          have HXa62 := Lib.hid (blk_kept hb HXa60.out)
          have HXb62 := Lib.hid (blk_kept hb HXb60.out)
          have HXe62 := Lib.hid (blk_kept hb HXe60.out)
          have HXf62 := Lib.hid (blk_kept hb HXf60.out)
          have HW62 := Lib.hid (below_step HW60.out hb HW60.out.size)
          clear hb
          go_wp2_with fail
          go_ret
          exact ⟨rfl, HW62.out⟩
theorem back_law_i (a b : Ad) (f : Int) (s : ByteArray) (w : World) (hf : ∃ x : UInt8, f = (x.toNat : Int)) (henv : Env w) : Calls Tryd.prog 8 #[encA a, encA b, .int .u8 f, .string s] w fun e w' => e = .returned (.bool true) ∧ Below w.heap.size w w' := by
  obtain ⟨x, rfl⟩ := hf
  exact back_law a b x s w henv
end Go.Proofs.Tryd.Tx
