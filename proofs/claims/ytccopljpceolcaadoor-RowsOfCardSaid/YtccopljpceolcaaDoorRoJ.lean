/- The document's rows: the address that a key's parts say. -/
import Derived.Test.YtccopljpceolcaaDoorRoH
import Derived.Test.YtccopljpceolcaaDoorRpI
set_option linter.unusedVariables false
set_option linter.unusedSimpArgs false
set_option maxRecDepth 100000
namespace Go.Proofs.Tryd.Rows
open Go.RowKit Go.Cph Go.Cph.Ok Go.Proofs.Tryd.Nu Go.Proofs.Tryd.Ok
open Go.Cph.Px (Ad Pf rightA bytesA rightP fromB fromOk)
open Go.Proofs.Tryd.Pfx (encA bcell BsAt)
abbrev boxZR : Obj := .cells #[.int .u8 0, .int .u64 0, .int .u64 0] 27 (0, 0)
set_option maxHeartbeats 800000 in
theorem rfrom_no (f : UInt8) (v : Value) (l : List UInt8) (w : World) (h : BsAt w v l) (hf : f = 4 ∨ f = 6) (hl : fromOk f l.length = false) :
    Calls Tryd.prog 98 #[.int .u8 (f.toNat : Int), v] w fun e w' => e = .returned (.tuple #[.agg #[.int .u8 0, .int .u64 0, .int .u64 0], .bool false]) ∧ Below w.heap.size w w' := by
  obtain ⟨ao, cap, rfl⟩ := elems_slice h
  obtain ⟨n, hn⟩ : ∃ n, n = l.length := ⟨_, rfl⟩
  rw [← hn] at hl ⊢
  have HB := Lib.hid (show Below w.heap.size w (w.alloc boxZR) from (Below.refl _ _).alloc (Nat.le_refl _) _)
  have hx := heap_alloc_new w boxZR
  have f0 : (w.alloc boxZR).frozen? ⟨w.heap.size, 0, none⟩ = false := by rw [blk_frozen hx]; rfl
  have f1 : (w.alloc boxZR).frozen? ⟨w.heap.size, 1, none⟩ = false := by rw [blk_frozen hx]; rfl
  have f2 : (w.alloc boxZR).frozen? ⟨w.heap.size, 2, none⟩ = false := by rw [blk_frozen hx]; rfl
  have c0 : (w.alloc boxZR).cell? ⟨w.heap.size, 0, none⟩ = some (.int .u8 0) := by rw [blk_cell hx]; rfl
  have c1 : (w.alloc boxZR).cell? ⟨w.heap.size, 1, none⟩ = some (.int .u64 0) := by rw [blk_cell hx]; rfl
  have c2 : (w.alloc boxZR).cell? ⟨w.heap.size, 2, none⟩ = some (.int .u64 0) := by rw [blk_cell hx]; rfl
  clear h hn hx
  rcases hf with rfl | rfl
  · have k : ((n : Int) == 4) = false := by
      refine beq_eq_false_iff_ne.2 fun e => ?_
      have : n = 4 := by omega
      subst this; exact absurd hl (by decide)
    clear hl
    go_enter Tryd.func98, Tryd.ntmps98
    go_wp2_with fail
    exact bodyPost_ret (v := .tuple #[.agg #[.int .u8 0, .int .u64 0, .int .u64 0], .bool false]) (by simp [results, Tryd.results98, go_sem, c0, c1, c2]) rfl ⟨rfl, by first | exact HB.out | exact below_set3 HB.out _ _ _⟩
  · have k : ((n : Int) == 16) = false := by
      refine beq_eq_false_iff_ne.2 fun e => ?_
      have : n = 16 := by omega
      subst this; exact absurd hl (by decide)
    clear hl
    go_enter Tryd.func98, Tryd.ntmps98
    go_wp2_with fail
    exact bodyPost_ret (v := .tuple #[.agg #[.int .u8 0, .int .u64 0, .int .u64 0], .bool false]) (by simp [results, Tryd.results98, go_sem, c0, c1, c2]) rfl ⟨rfl, by first | exact HB.out | exact below_set3 HB.out _ _ _⟩
theorem rfrom (f : UInt8) (v : Value) (l : List UInt8) (w : World) (h : BsAt w v l) (hf : f = 4 ∨ f = 6) :
    Calls Tryd.prog 98 #[.int .u8 (f.toNat : Int), v] w fun e w' => e = .returned (.tuple #[encA (fromB f l), .bool (fromOk f l.length)]) ∧ Below w.heap.size w w' := by
  cases hk : fromOk f l.length with
  | true => exact Pfx.from_ok f v l w h hk
  | false =>
    have e : fromB f l = Px.zeroA := by unfold fromB; rw [hk]; rfl
    rw [e]
    exact rfrom_no f v l w h hf hk
/-- '[]byte(s)' handed to FromBytes. -/
theorem rfrom_str (f : UInt8) (s : ByteArray) (hf : f = 4 ∨ f = 6) (w : World) : ∃ cap w1, (convert 9 63 (.string s)).run Tryd.prog w = .ok (.slice (some ⟨w.heap.size, 0, none⟩) s.size cap) w1 ∧ Below w.heap.size w w1 ∧
    Calls Tryd.prog 98 #[.int .u8 (f.toNat : Int), .slice (some ⟨w.heap.size, 0, none⟩) s.size cap] w1 fun e w' => e = .returned (.tuple #[encA (fromB f s.data.toList), .bool (fromOk f s.size)]) ∧ Below w1.heap.size w1 w' := by
  obtain ⟨cap, cur, w1, hconv, hcap, hcs, hblk, hcur, hb, hsz⟩ := conv_bytes (P := Tryd.prog) w 9 63 5 s Tryd.underlying9 Tryd.underlying63 Tryd.underlying5
  refine ⟨cap, w1, hconv, hb, rfrom f _ s.data.toList w1 ?_ hf⟩
  refine ⟨⟨_, _, rfl, fun h0 => ⟨w.heap.size, 0, rfl, fun j hj => ?_⟩⟩, by rw [flat_length Pfx.encB_len]⟩
  have hj' : j < s.data.toList.length := by omega
  have hj2 : j < s.size := hj'
  rw [Nat.zero_add, blk_cell hblk, hcur j hj2]
  have := flat_at Pfx.encB_len s.data.toList j hj' 0 (by decide)
  rw [Nat.mul_one, Nat.add_zero] at this
  rw [this]; rfl
theorem rfrom_str4 (s : ByteArray) (w : World) : ∃ cap w1, (convert 9 63 (.string s)).run Tryd.prog w = .ok (.slice (some ⟨w.heap.size, 0, none⟩) s.size cap) w1 ∧ Below w.heap.size w w1 ∧
    Calls Tryd.prog 98 #[.int .u8 4, .slice (some ⟨w.heap.size, 0, none⟩) s.size cap] w1 fun e w' => e = .returned (.tuple #[encA (fromB 4 s.data.toList), .bool (fromOk 4 s.size)]) ∧ Below w1.heap.size w1 w' := rfrom_str 4 s (by decide) w
theorem rfrom_str6 (s : ByteArray) (w : World) : ∃ cap w1, (convert 9 63 (.string s)).run Tryd.prog w = .ok (.slice (some ⟨w.heap.size, 0, none⟩) s.size cap) w1 ∧ Below w.heap.size w w1 ∧
    Calls Tryd.prog 98 #[.int .u8 6, .slice (some ⟨w.heap.size, 0, none⟩) s.size cap] w1 fun e w' => e = .returned (.tuple #[encA (fromB 6 s.data.toList), .bool (fromOk 6 s.size)]) ∧ Below w1.heap.size w1 w' := rfrom_str 6 s (by decide) w
theorem ret_a {x y : Ad} (h : x = y) : Ending.returned (encA x) = Ending.returned (encA y) := by rw [h]
set_option maxHeartbeats 1600000 in
theorem raddress (v : Value) (l : List Pt) (base : Nat) (w : World) (h : w.ownsRow base TR 3 v l.length (l.flatMap encC)) (hs : ∀ p ∈ l, p.s.size ≤ 1000000) :
    Calls Tryd.prog 76 #[v] w fun e w' => e = .returned (encA (docAddr l)) ∧ Below w.heap.size w w' := by
  have HB := Lib.hid (show Below w.heap.size w (w.alloc boxZR) from (Below.refl _ _).alloc (Nat.le_refl _) _)
  have HX := Lib.hid (heap_alloc_new w boxZR)
  by_cases hl : l.length ≤ 2
  · obtain ⟨ao, cap, rfl⟩ := owns_slice1 h
    have hd : docAddr l = Px.zeroA := by
      match l, hl with
      | [], _ => rfl
      | [_], _ => rfl
      | [_, _], _ => rfl
      | _ :: _ :: _ :: _, h => simp at h
    rw [hd]
    obtain ⟨n, hn⟩ : ∃ n, n = l.length := ⟨_, rfl⟩
    rw [← hn] at hl ⊢
    have k : ¬ (2 : Int) < (n : Int) := by omega
    have k2 : decide (2 < n) = false := decide_eq_false (by omega)
    clear h hs hn hd hl
    have hx := HX.out
    have f0 : (w.alloc boxZR).frozen? ⟨w.heap.size, 0, none⟩ = false := by rw [blk_frozen hx]; rfl
    have f1 : (w.alloc boxZR).frozen? ⟨w.heap.size, 1, none⟩ = false := by rw [blk_frozen hx]; rfl
    have f2 : (w.alloc boxZR).frozen? ⟨w.heap.size, 2, none⟩ = false := by rw [blk_frozen hx]; rfl
    have c0 : (w.alloc boxZR).cell? ⟨w.heap.size, 0, none⟩ = some (.int .u8 0) := by rw [blk_cell hx]; rfl
    have c1 : (w.alloc boxZR).cell? ⟨w.heap.size, 1, none⟩ = some (.int .u64 0) := by rw [blk_cell hx]; rfl
    have c2 : (w.alloc boxZR).cell? ⟨w.heap.size, 2, none⟩ = some (.int .u64 0) := by rw [blk_cell hx]; rfl
    clear hx
    go_enter Tryd.func76, Tryd.ntmps76
    go_wp2_with fail
    go_loopw [3] (fun v3 W => (v3 = .int .u8 4 ∨ v3 = .int .u8 6 ∨ v3 = .int .u8 8) ∧ W = w.alloc boxZR) (fun v3 _ => 8 - (intOf v3).toNat)
    case atStart => exact ⟨.inl rfl, rfl⟩
    case round =>
      obtain ⟨hst, rfl⟩ := hrel
      rcases hst with rfl | rfl | rfl
      · go_wp2_with fail
        go_roundw
        case rel => exact ⟨.inr (.inl rfl), by first | rfl | trivial⟩
        case measure => simp [intOf]
      · go_wp2_with fail
        go_roundw
        case rel => exact ⟨.inr (.inr rfl), by first | rfl | trivial⟩
        case measure => simp [intOf]
      · go_wp2_with fail
        exact bodyPost_ret (v := .agg #[.int .u8 0, .int .u64 0, .int .u64 0]) (by simp [results, Tryd.results76, go_sem, c0, c1, c2]) rfl ⟨rfl, by first | exact HB.out | exact below_set3 HB.out _ _ _⟩
  · match l, hl, h, hs with
    | x :: b :: c :: r, hl, h, hs =>
      obtain ⟨g, cap, rfl, _, hg, _, hcs, _⟩ := owns_shape h (by simp)
      obtain ⟨n, hn⟩ : ∃ n, n = (x :: b :: c :: r).length := ⟨_, rfl⟩
      have h3 : 3 ≤ n := by rw [hn]; simp
      have HCC := Lib.hid (fun W (hb : Below (w.alloc boxZR).heap.size (w.alloc boxZR) W) => show W.cell? ⟨g, 5, none⟩ = some (.int .u64 (b.n.toNat : Int)) ∧ W.cell? ⟨g, 7, none⟩ = some (.string c.s) from by
        have hbw : Below w.heap.size w W := HB.out.trans (hb.mono (by rw [World.size_alloc]; omega))
        exact ⟨cell_kept hbw (by rw [hcs 5 (by simp; omega)]; rfl), cell_kept hbw (by rw [hcs 7 (by simp; omega)]; rfl)⟩)
      have HZ := Lib.hid (fun W (hb : Below (w.alloc boxZR).heap.size (w.alloc boxZR) W) => blk_kept hb HX.out)
      have HS := Lib.hid (hs c (by simp))
      show Calls _ _ _ _ fun e w' => e = .returned (encA (docA b c)) ∧ _
      rw [← hn]
      have k : (2 : Int) < (n : Int) := by omega
      have k2 : decide (2 < n) = true := decide_eq_true (by omega)
      have k3 : (1 : Int) < (n : Int) := by omega
      clear h hs hcs hn hl h3
      by_cases h4 : b.n = 4
      · have HCC := Lib.hid (fun W (hb : Below (w.alloc boxZR).heap.size (w.alloc boxZR) W) => show W.cell? ⟨g, 5, none⟩ = some (.int .u64 4) ∧ W.cell? ⟨g, 7, none⟩ = some (.string c.s) from by have h := HCC.out W hb; rw [h4] at h; exact h)
        have HD := Lib.hid (show docA b c = fromB 4 c.s.data.toList from by unfold docA; rw [if_pos h4])
        obtain ⟨⟨af, ah, al⟩, hA⟩ : ∃ A, A = fromB 4 c.s.data.toList := ⟨_, rfl⟩
        rw [← hA] at HD
        clear h4
        go_enter Tryd.func76, Tryd.ntmps76
        go_wp2_with fail
        go_loopw [3] (fun v3 W => v3 = .int .u8 4 ∧ W = w.alloc boxZR) (fun _ _ => 0)
        case atStart => exact ⟨rfl, rfl⟩
        case round =>
          obtain ⟨rfl, rfl⟩ := hrel
          obtain ⟨cap2, w1, hcv, hb1, hF⟩ := rfrom_str4 c.s (w.alloc boxZR)
          rw [World.size_alloc] at hcv hF
          rw [← hA] at hF
          clear hA
          have HF := Lib.hid hF
          have HB1 := Lib.hid (below_step HB.out hb1 HB.out.size)
          have HX1 := Lib.hid (blk_kept hb1 HX.out)
          have c5 := (HCC.out _ (Below.refl _ _)).1
          have c7 := (HCC.out _ (Below.refl _ _)).2
          clear hF hb1
          go_wp2_with fail
          refine HF.out.mono ?_
          rintro e w2 ⟨rfl, hb⟩
          have HB2 := Lib.hid (below_step HB1.out hb HB1.out.size)
          have hx := blk_alloc (blk_kept hb HX1.out) (.cells #[.int .u8 (af.toNat : Int), .int .u64 (ah.toNat : Int), .int .u64 (al.toNat : Int)] 27)
          have HB3 := Lib.hid (HB2.out.alloc HB2.out.size (.cells #[.int .u8 (af.toNat : Int), .int .u64 (ah.toNat : Int), .int .u64 (al.toNat : Int)] 27))
          have f0 : (w2.alloc (.cells #[.int .u8 (af.toNat : Int), .int .u64 (ah.toNat : Int), .int .u64 (al.toNat : Int)] 27)).frozen? ⟨w.heap.size, 0, none⟩ = false := by rw [blk_frozen hx]; rfl
          have f1 : (w2.alloc (.cells #[.int .u8 (af.toNat : Int), .int .u64 (ah.toNat : Int), .int .u64 (al.toNat : Int)] 27)).frozen? ⟨w.heap.size, 1, none⟩ = false := by rw [blk_frozen hx]; rfl
          have f2 : (w2.alloc (.cells #[.int .u8 (af.toNat : Int), .int .u64 (ah.toNat : Int), .int .u64 (al.toNat : Int)] 27)).frozen? ⟨w.heap.size, 2, none⟩ = false := by rw [blk_frozen hx]; rfl
          have d0 : (w2.alloc (.cells #[.int .u8 (af.toNat : Int), .int .u64 (ah.toNat : Int), .int .u64 (al.toNat : Int)] 27)).cell? ⟨w.heap.size, 0, none⟩ = some (.int .u8 0) := by rw [blk_cell hx]; rfl
          have d1 : (w2.alloc (.cells #[.int .u8 (af.toNat : Int), .int .u64 (ah.toNat : Int), .int .u64 (al.toNat : Int)] 27)).cell? ⟨w.heap.size, 1, none⟩ = some (.int .u64 0) := by rw [blk_cell hx]; rfl
          have d2 : (w2.alloc (.cells #[.int .u8 (af.toNat : Int), .int .u64 (ah.toNat : Int), .int .u64 (al.toNat : Int)] 27)).cell? ⟨w.heap.size, 2, none⟩ = some (.int .u64 0) := by rw [blk_cell hx]; rfl
          clear hb hx
          go_wp2_with fail
          exact bodyPost_ret (v := encA (af, ah, al)) (by simp [results, Tryd.results76, go_sem, d0, d1, d2]) rfl ⟨ret_a HD.out.symm, by first | exact HB3.out | exact below_set3 HB3.out _ _ _⟩
      · by_cases h6 : b.n = 6
        · have HCC := Lib.hid (fun W (hb : Below (w.alloc boxZR).heap.size (w.alloc boxZR) W) => show W.cell? ⟨g, 5, none⟩ = some (.int .u64 6) ∧ W.cell? ⟨g, 7, none⟩ = some (.string c.s) from by have h := HCC.out W hb; rw [h6] at h; exact h)
          have HD := Lib.hid (show docA b c = fromB 6 c.s.data.toList from by unfold docA; rw [if_neg h4, if_pos h6])
          obtain ⟨⟨af, ah, al⟩, hA⟩ : ∃ A, A = fromB 6 c.s.data.toList := ⟨_, rfl⟩
          rw [← hA] at HD
          clear h4 h6
          go_enter Tryd.func76, Tryd.ntmps76
          go_wp2_with fail
          go_loopw [3] (fun v3 W => (v3 = .int .u8 4 ∨ v3 = .int .u8 6) ∧ W = w.alloc boxZR) (fun v3 _ => 8 - (intOf v3).toNat)
          case atStart => exact ⟨.inl rfl, rfl⟩
          case round =>
            obtain ⟨hst, rfl⟩ := hrel
            rcases hst with rfl | rfl
            · have c5 := (HCC.out _ (Below.refl _ _)).1
              go_wp2_with fail
              go_roundw
              case rel => exact ⟨.inr rfl, by first | rfl | trivial⟩
              case measure => simp [intOf]
            · obtain ⟨cap2, w1, hcv, hb1, hF⟩ := rfrom_str6 c.s (w.alloc boxZR)
              rw [World.size_alloc] at hcv hF
              rw [← hA] at hF
              clear hA
              have HF := Lib.hid hF
              have HB1 := Lib.hid (below_step HB.out hb1 HB.out.size)
              have HX1 := Lib.hid (blk_kept hb1 HX.out)
              have c5 := (HCC.out _ (Below.refl _ _)).1
              have c7 := (HCC.out _ (Below.refl _ _)).2
              clear hF hb1
              go_wp2_with fail
              refine HF.out.mono ?_
              rintro e w2 ⟨rfl, hb⟩
              have HB2 := Lib.hid (below_step HB1.out hb HB1.out.size)
              have hx := blk_alloc (blk_kept hb HX1.out) (.cells #[.int .u8 (af.toNat : Int), .int .u64 (ah.toNat : Int), .int .u64 (al.toNat : Int)] 27)
              have HB3 := Lib.hid (HB2.out.alloc HB2.out.size (.cells #[.int .u8 (af.toNat : Int), .int .u64 (ah.toNat : Int), .int .u64 (al.toNat : Int)] 27))
              have f0 : (w2.alloc (.cells #[.int .u8 (af.toNat : Int), .int .u64 (ah.toNat : Int), .int .u64 (al.toNat : Int)] 27)).frozen? ⟨w.heap.size, 0, none⟩ = false := by rw [blk_frozen hx]; rfl
              have f1 : (w2.alloc (.cells #[.int .u8 (af.toNat : Int), .int .u64 (ah.toNat : Int), .int .u64 (al.toNat : Int)] 27)).frozen? ⟨w.heap.size, 1, none⟩ = false := by rw [blk_frozen hx]; rfl
              have f2 : (w2.alloc (.cells #[.int .u8 (af.toNat : Int), .int .u64 (ah.toNat : Int), .int .u64 (al.toNat : Int)] 27)).frozen? ⟨w.heap.size, 2, none⟩ = false := by rw [blk_frozen hx]; rfl
              have d0 : (w2.alloc (.cells #[.int .u8 (af.toNat : Int), .int .u64 (ah.toNat : Int), .int .u64 (al.toNat : Int)] 27)).cell? ⟨w.heap.size, 0, none⟩ = some (.int .u8 0) := by rw [blk_cell hx]; rfl
              have d1 : (w2.alloc (.cells #[.int .u8 (af.toNat : Int), .int .u64 (ah.toNat : Int), .int .u64 (al.toNat : Int)] 27)).cell? ⟨w.heap.size, 1, none⟩ = some (.int .u64 0) := by rw [blk_cell hx]; rfl
              have d2 : (w2.alloc (.cells #[.int .u8 (af.toNat : Int), .int .u64 (ah.toNat : Int), .int .u64 (al.toNat : Int)] 27)).cell? ⟨w.heap.size, 2, none⟩ = some (.int .u64 0) := by rw [blk_cell hx]; rfl
              clear hb hx
              go_wp2_with fail
              exact bodyPost_ret (v := encA (af, ah, al)) (by simp [results, Tryd.results76, go_sem, d0, d1, d2]) rfl ⟨ret_a HD.out.symm, by first | exact HB3.out | exact below_set3 HB3.out _ _ _⟩
        · have HD := Lib.hid (show docA b c = Px.zeroA from by unfold docA; rw [if_neg h4, if_neg h6])
          rw [HD.out]
          obtain ⟨bn, hbn⟩ : ∃ bn, bn = b.n.toNat := ⟨_, rfl⟩
          have n4 : ¬ (bn : Int) = 4 := fun e => h4 (UInt64.toNat_inj.1 (by rw [← hbn]; simp; omega))
          have n6 : ¬ (bn : Int) = 6 := fun e => h6 (UInt64.toNat_inj.1 (by rw [← hbn]; simp; omega))
          rw [← hbn] at HCC
          clear h4 h6 hbn
          have hx := HX.out
          have f0 : (w.alloc boxZR).frozen? ⟨w.heap.size, 0, none⟩ = false := by rw [blk_frozen hx]; rfl
          have f1 : (w.alloc boxZR).frozen? ⟨w.heap.size, 1, none⟩ = false := by rw [blk_frozen hx]; rfl
          have f2 : (w.alloc boxZR).frozen? ⟨w.heap.size, 2, none⟩ = false := by rw [blk_frozen hx]; rfl
          have c0 : (w.alloc boxZR).cell? ⟨w.heap.size, 0, none⟩ = some (.int .u8 0) := by rw [blk_cell hx]; rfl
          have c1 : (w.alloc boxZR).cell? ⟨w.heap.size, 1, none⟩ = some (.int .u64 0) := by rw [blk_cell hx]; rfl
          have c2 : (w.alloc boxZR).cell? ⟨w.heap.size, 2, none⟩ = some (.int .u64 0) := by rw [blk_cell hx]; rfl
          have c5 := (HCC.out _ (Below.refl _ _)).1
          clear hx
          go_enter Tryd.func76, Tryd.ntmps76
          go_wp2_with fail
          go_loopw [3] (fun v3 W => (v3 = .int .u8 4 ∨ v3 = .int .u8 6 ∨ v3 = .int .u8 8) ∧ W = w.alloc boxZR) (fun v3 _ => 8 - (intOf v3).toNat)
          case atStart => exact ⟨.inl rfl, rfl⟩
          case round =>
            obtain ⟨hst, rfl⟩ := hrel
            rcases hst with rfl | rfl | rfl
            · go_wp2_with fail
              go_roundw
              case rel => exact ⟨.inr (.inl rfl), by first | rfl | trivial⟩
              case measure => simp [intOf]
            · go_wp2_with fail
              go_roundw
              case rel => exact ⟨.inr (.inr rfl), by first | rfl | trivial⟩
              case measure => simp [intOf]
            · go_wp2_with fail
              exact bodyPost_ret (v := .agg #[.int .u8 0, .int .u64 0, .int .u64 0]) (by simp [results, Tryd.results76, go_sem, c0, c1, c2]) rfl ⟨rfl, by first | exact HB.out | exact below_set3 HB.out _ _ _⟩
    | [], hl, _, _ => simp at hl
    | [_], hl, _, _ => simp at hl
    | [_, _], hl, _, _ => simp at hl
end Go.Proofs.Tryd.Rows
