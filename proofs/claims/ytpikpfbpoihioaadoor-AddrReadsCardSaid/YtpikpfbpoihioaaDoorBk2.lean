/- AddrKnown's walk. -/
import Derived.Test.YtpikpfbpoihioaaDoorBz2
import Derived.Test.YtpikpfbpoihioaaDoorBk1
import Derived.Test.YtpikpfbpoihioaaDoorAz5
set_option linter.unusedVariables false
set_option linter.unusedSimpArgs false
set_option maxRecDepth 100000
namespace Go.Proofs.Tryd.Tx
open Go.RowKit Go.Cph Go.Cph.Tx
open Go.Cph.Ok (ofBs)
open Go.Cph.Px (Ad rightA bytesA zeroA lessA fromB fromOk)
open Go.Proofs.Tryd.Pfx (encA bcell ad_eq)
open Go.Proofs.Tryd.Rows (boxZ)
open Go.Proofs.Tryd.Gp (nextA backA nearA NearPost)
def encK (x : Ad × Bs) : List Value := [.int .u8 (x.1.1.toNat : Int), .int .u64 (x.1.2.1.toNat : Int), .int .u64 (x.1.2.2.toNat : Int), .string (ofBs x.2)]
abbrev boxK (x : Ad × Bs) : Obj := .cells #[.int .u8 (x.1.1.toNat : Int), .int .u64 (x.1.2.1.toNat : Int), .int .u64 (x.1.2.2.toNat : Int), .string (ofBs x.2)] 30 (0, 0)
theorem known1_len : known1.length = 12 := rfl
theorem known2_len : known2.length = 15 := rfl
theorem known2_le {k : Nat} {s : Bs} (h : known2[k]? = some s) : s.length ≤ 1000000 := by
  have h1 := List.all_eq_true.1 (show known2.all (fun s => decide (s.length ≤ 1000000)) = true from by decide +kernel) _ (List.mem_of_getElem? h)
  simpa using h1
theorem row1_cell {w : World} {g : Nat} {E : TypeId} {fr : Nat × Nat} (h : w.heap[g]? = some (.cells (known1.flatMap encK).toArray E fr)) {k : Nat} {x : Ad × Bs} (hk : known1[k]? = some x) (j : Nat) (hj : j < 4) : w.cell? ⟨g, k * 4 + j, none⟩ = (encK x)[j]? := by
  rw [blk_cell h]
  obtain ⟨hl, rfl⟩ := List.getElem?_eq_some_iff.1 hk
  have := flat_at (enc := encK) (size := 4) (fun _ => rfl) known1 k hl j hj
  simpa using this
theorem row2_cell {w : World} {g : Nat} {E : TypeId} {fr : Nat × Nat} (h : w.heap[g]? = some (.cells (known2.map fun s => Value.string (ofBs s)).toArray E fr)) {k : Nat} {x : Bs} (hk : known2[k]? = some x) : w.cell? ⟨g, k, none⟩ = some (.string (ofBs x)) := by
  rw [blk_cell h]
  simp [hk]
theorem later_boxK {W : World} {g : Nat} {f : UInt8} {x y : UInt64} {s : Bs} (h : W.heap[g]? = some (boxK ((f, x, y), s))) :
    (∀ zz : Later W.heap.size W, zz.val.cell? ⟨g, 0, none⟩ = some (.int .u8 (f.toNat : Int))) ∧ (∀ zz : Later W.heap.size W, zz.val.cell? ⟨g, 1, none⟩ = some (.int .u64 (x.toNat : Int))) ∧ (∀ zz : Later W.heap.size W, zz.val.cell? ⟨g, 2, none⟩ = some (.int .u64 (y.toNat : Int))) ∧ (∀ zz : Later W.heap.size W, zz.val.cell? ⟨g, 3, none⟩ = some (.string (ofBs s))) :=
  ⟨fun zz => by rw [blk_cell (blk_kept zz.prop h)]; rfl, fun zz => by rw [blk_cell (blk_kept zz.prop h)]; rfl, fun zz => by rw [blk_cell (blk_kept zz.prop h)]; rfl, fun zz => by rw [blk_cell (blk_kept zz.prop h)]; rfl⟩
theorem boxK_at {W : World} {g : Nat} {f : UInt8} {x y : UInt64} {s : Bs} (h : W.heap[g]? = some (boxK ((f, x, y), s))) :
    W.cell? ⟨g, 0, none⟩ = some (.int .u8 (f.toNat : Int)) ∧ W.cell? ⟨g, 1, none⟩ = some (.int .u64 (x.toNat : Int)) ∧ W.cell? ⟨g, 2, none⟩ = some (.int .u64 (y.toNat : Int)) ∧ W.cell? ⟨g, 3, none⟩ = some (.string (ofBs s)) :=
  ⟨by rw [blk_cell h]; rfl, by rw [blk_cell h]; rfl, by rw [blk_cell h]; rfl, by rw [blk_cell h]; rfl⟩
theorem cells3_at {W : World} {g : Nat} {E : TypeId} {a b c : Value} (h : W.heap[g]? = some (.cells #[a, b, c] E (0, 0))) :
    W.cell? ⟨g, 0, none⟩ = some a ∧ W.cell? ⟨g, 1, none⟩ = some b ∧ W.cell? ⟨g, 2, none⟩ = some c :=
  ⟨by rw [blk_cell h]; rfl, by rw [blk_cell h]; rfl, by rw [blk_cell h]; rfl⟩
theorem later_cells3 {W : World} {g : Nat} {E : TypeId} {a b c : Value} (h : W.heap[g]? = some (.cells #[a, b, c] E (0, 0))) :
    (∀ zz : Later W.heap.size W, zz.val.cell? ⟨g, 0, none⟩ = some a) ∧ (∀ zz : Later W.heap.size W, zz.val.cell? ⟨g, 1, none⟩ = some b) ∧ (∀ zz : Later W.heap.size W, zz.val.cell? ⟨g, 2, none⟩ = some c) :=
  ⟨fun zz => by rw [blk_cell (blk_kept zz.prop h)]; rfl, fun zz => by rw [blk_cell (blk_kept zz.prop h)]; rfl, fun zz => by rw [blk_cell (blk_kept zz.prop h)]; rfl⟩
set_option maxHeartbeats 16000000 in
theorem known_law (w : World) (henv : Env w) : Calls Tryd.prog 4 #[] w fun e w' => e = .returned (.bool true) ∧ Below w.heap.size w w' := by
  have HE := Lib.hid henv
  have HAW := Lib.hid (fun W he => awake_any W he)
  have HS0 := Lib.hid (show Below w.heap.size w w from Below.refl _ _)
  have HV0 := Lib.hid (fun W => show Calls Tryd.prog 13 #[.int .u64 0] W fun e w' => e = .returned (.agg #[.int .u8 4, .int .u64 0, .int .u64 0]) ∧ Below W.heap.size W w' from v4_any 0 W)
  have HV4294967295 := Lib.hid (fun W => show Calls Tryd.prog 13 #[.int .u64 4294967295] W fun e w' => e = .returned (.agg #[.int .u8 4, .int .u64 0, .int .u64 4294967295]) ∧ Below W.heap.size W w' from v4_any 4294967295 W)
  have HV4294967296 := Lib.hid (fun W => show Calls Tryd.prog 13 #[.int .u64 4294967296] W fun e w' => e = .returned (.agg #[.int .u8 4, .int .u64 0, .int .u64 4294967296]) ∧ Below W.heap.size W w' from v4_any 4294967296 W)
  have HS06 := Lib.hid (fun W => show Calls Tryd.prog 14 #[.int .u64 0, .int .u64 0] W fun e w' => e = .returned (.agg #[.int .u8 6, .int .u64 0, .int .u64 0]) ∧ Below W.heap.size W w' from v6_any 0 0 W)
  have HS16 := Lib.hid (fun W => show Calls Tryd.prog 14 #[.int .u64 0, .int .u64 1] W fun e w' => e = .returned (.agg #[.int .u8 6, .int .u64 0, .int .u64 1]) ∧ Below W.heap.size W w' from v6_any 0 1 W)
  have HS26 := Lib.hid (fun W => show Calls Tryd.prog 14 #[.int .u64 281474976710658, .int .u64 3] W fun e w' => e = .returned (.agg #[.int .u8 6, .int .u64 281474976710658, .int .u64 3]) ∧ Below W.heap.size W w' from v6_any 281474976710658 3 W)
  have HS36 := Lib.hid (fun W => show Calls Tryd.prog 14 #[.int .u64 281483566841860, .int .u64 1407400653815816] W fun e w' => e = .returned (.agg #[.int .u8 6, .int .u64 281483566841860, .int .u64 1407400653815816]) ∧ Below W.heap.size W w' from v6_any 281483566841860 1407400653815816 W)
  have HS46 := Lib.hid (fun W => show Calls Tryd.prog 14 #[.int .u64 281474976907268, .int .u64 1407400653815816] W fun e w' => e = .returned (.agg #[.int .u8 6, .int .u64 281474976907268, .int .u64 1407400653815816]) ∧ Below W.heap.size W w' from v6_any 281474976907268 1407400653815816 W)
  have HS56 := Lib.hid (fun W => show Calls Tryd.prog 14 #[.int .u64 281474976710656, .int .u64 0] W fun e w' => e = .returned (.agg #[.int .u8 6, .int .u64 281474976710656, .int .u64 0]) ∧ Below W.heap.size W w' from v6_any 281474976710656 0 W)
  have HS66 := Lib.hid (fun W => show Calls Tryd.prog 14 #[.int .u64 0, .int .u64 281470698652420] W fun e w' => e = .returned (.agg #[.int .u8 6, .int .u64 0, .int .u64 281470698652420]) ∧ Below W.heap.size W w' from v6_any 0 281470698652420 W)
  have HS76 := Lib.hid (fun W => show Calls Tryd.prog 14 #[.int .u64 18446744073709551615, .int .u64 18446744073709551615] W fun e w' => e = .returned (.agg #[.int .u8 6, .int .u64 18446744073709551615, .int .u64 18446744073709551615]) ∧ Below W.heap.size W w' from v6_any 18446744073709551615 18446744073709551615 W)
  have HS86 := Lib.hid (fun W => show Calls Tryd.prog 14 #[.int .u64 0, .int .u64 18446744073709551615] W fun e w' => e = .returned (.agg #[.int .u8 6, .int .u64 0, .int .u64 18446744073709551615]) ∧ Below W.heap.size W w' from v6_any 0 18446744073709551615 W)
  have HS96 := Lib.hid (fun W => show Calls Tryd.prog 14 #[.int .u64 1, .int .u64 0] W fun e w' => e = .returned (.agg #[.int .u8 6, .int .u64 1, .int .u64 0]) ∧ Below W.heap.size W w' from v6_any 1 0 W)
  have HN1 := Lib.hid (fun W => show Calls Tryd.prog 17 #[.agg #[.int .u8 4, .int .u64 0, .int .u64 4294967295]] W fun e w' => e = .returned (.tuple #[.agg #[.int .u8 0, .int .u64 0, .int .u64 0], .bool false]) ∧ Below W.heap.size W w' from next_pair (4, 0, 4294967295) ((0, 0, 0), false) (by decide +kernel) W)
  have HN2 := Lib.hid (fun W => show Calls Tryd.prog 18 #[.agg #[.int .u8 6, .int .u64 0, .int .u64 0]] W fun e w' => e = .returned (.tuple #[.agg #[.int .u8 0, .int .u64 0, .int .u64 0], .bool false]) ∧ Below W.heap.size W w' from back_pair (6, 0, 0) ((0, 0, 0), false) (by decide +kernel) W)
  have HN3 := Lib.hid (fun W => show Calls Tryd.prog 18 #[.agg #[.int .u8 4, .int .u64 0, .int .u64 0]] W fun e w' => e = .returned (.tuple #[.agg #[.int .u8 0, .int .u64 0, .int .u64 0], .bool false]) ∧ Below W.heap.size W w' from back_pair (4, 0, 0) ((0, 0, 0), false) (by decide +kernel) W)
  have HN4 := Lib.hid (fun W => show Calls Tryd.prog 17 #[.agg #[.int .u8 6, .int .u64 18446744073709551615, .int .u64 18446744073709551615]] W fun e w' => e = .returned (.tuple #[.agg #[.int .u8 0, .int .u64 0, .int .u64 0], .bool false]) ∧ Below W.heap.size W w' from next_pair (6, 18446744073709551615, 18446744073709551615) ((0, 0, 0), false) (by decide +kernel) W)
  have HN5 := Lib.hid (fun W => show Calls Tryd.prog 17 #[.agg #[.int .u8 6, .int .u64 0, .int .u64 18446744073709551615]] W fun e w' => e = .returned (.tuple #[.agg #[.int .u8 6, .int .u64 1, .int .u64 0], .bool true]) ∧ Below W.heap.size W w' from next_pair (6, 0, 18446744073709551615) ((6, 1, 0), true) (by decide +kernel) W)
  have HN6 := Lib.hid (fun W => show Calls Tryd.prog 18 #[.agg #[.int .u8 6, .int .u64 1, .int .u64 0]] W fun e w' => e = .returned (.tuple #[.agg #[.int .u8 6, .int .u64 0, .int .u64 18446744073709551615], .bool true]) ∧ Below W.heap.size W w' from back_pair (6, 1, 0) ((6, 0, 18446744073709551615), true) (by decide +kernel) W)
  clear henv
  go_enter Tryd.func4, Tryd.ntmps4
  go_wp2_with fail
  refine (HV0.out _).mono ?_
  rintro e v1 ⟨rfl, hb⟩
  have HW2 := Lib.hid hb
  clear hb
  go_wp2_with fail
  refine (HV4294967295.out _).mono ?_
  rintro e v3 ⟨rfl, hb⟩
  have HW4 := Lib.hid (below_step HW2.out hb HW2.out.size)
  clear hb
  go_wp2_with fail
  refine (HS06.out _).mono ?_
  rintro e v5 ⟨rfl, hb⟩
  have HW6 := Lib.hid (below_step HW4.out hb HW4.out.size)
  clear hb
  go_wp2_with fail
  refine (HS16.out _).mono ?_
  rintro e v7 ⟨rfl, hb⟩
  have HW8 := Lib.hid (below_step HW6.out hb HW6.out.size)
  clear hb
  go_wp2_with fail
  refine (HS26.out _).mono ?_
  rintro e v9 ⟨rfl, hb⟩
  have HW10 := Lib.hid (below_step HW8.out hb HW8.out.size)
  clear hb
  go_wp2_with fail
  refine (HS36.out _).mono ?_
  rintro e v11 ⟨rfl, hb⟩
  have HW12 := Lib.hid (below_step HW10.out hb HW10.out.size)
  clear hb
  go_wp2_with fail
  refine (HS46.out _).mono ?_
  rintro e v13 ⟨rfl, hb⟩
  have HW14 := Lib.hid (below_step HW12.out hb HW12.out.size)
  clear hb
  go_wp2_with fail
  refine (HS56.out _).mono ?_
  rintro e v15 ⟨rfl, hb⟩
  have HW16 := Lib.hid (below_step HW14.out hb HW14.out.size)
  clear hb
  go_wp2_with fail
  refine (HS66.out _).mono ?_
  rintro e v17 ⟨rfl, hb⟩
  have HW18 := Lib.hid (below_step HW16.out hb HW16.out.size)
  clear hb
  go_wp2_with fail
  refine (HV4294967296.out _).mono ?_
  rintro e v19 ⟨rfl, hb⟩
  have HW20 := Lib.hid (below_step HW18.out hb HW18.out.size)
  clear hb
  go_wp2_with fail
  have HX0 := Lib.hid (show (v19.alloc (.cells (known1.flatMap encK).toArray 30)).heap[v19.heap.size]? = some (.cells (known1.flatMap encK).toArray 30 (0, 0)) from heap_alloc_new _ _)
  have HB0 := Lib.hid (show Below w.heap.size w (v19.alloc (.cells (known1.flatMap encK).toArray 30)) from HW20.out.alloc HW20.out.size _)
  obtain ⟨g1, hg1⟩ : ∃ g, g = v19.heap.size := ⟨_, rfl⟩
  rw [← hg1] at HX0 ⊢
  clear hg1
  clear HW2 HW4 HW6 HW8 HW10 HW12 HW14 HW16 HW18
  go_loopw [47] (fun v47 W => ∃ k : Nat, k ≤ 12 ∧ v47 = .int .i64 (k : Int) ∧ W.heap[g1]? = some (.cells (known1.flatMap encK).toArray 30 (0, 0)) ∧ Below w.heap.size w W) (fun v47 _ => (12 - intOf v47).toNat)
  case atStart => exact ⟨0, by omega, rfl, HX0.out, HB0.out⟩
  case round =>
    clear HX0 HB0 HW20
    obtain ⟨k, hk, rfl, hblk, hb⟩ := hrel
    have HB := Lib.hid hb
    have HK := Lib.hid hblk
    clear hblk hb
    by_cases hk12 : k < 12
    · have hki : (k : Int) < 12 := by omega
      obtain ⟨⟨⟨f, x, y⟩, s⟩, hks⟩ : ∃ e, known1[k]? = some e := ⟨_, List.getElem?_eq_getElem (show k < known1.length from hk12)⟩
      have HC := Lib.hid (fun (W : World) (h : W.heap[g1]? = some (.cells (known1.flatMap encK).toArray 30 (0, 0))) j hj => row1_cell h hks j hj)
      obtain ⟨h1, h2, h3⟩ := known1_at hks
      clear hks
      have HT := Lib.hid (show ∀ W, Env W → Calls Tryd.prog 15 #[encA (f, x, y)] W fun e w' => e = .returned (.string (ofBs s)) ∧ Below W.heap.size W w' from fun W he => by
        have := text_any (f, x, y) W he
        rwa [h1] at this)
      have HR := Lib.hid (show ∀ W, Calls Tryd.prog 10 #[encA (f, x, y)] W fun e w' => e = .returned (.bool (!s.isEmpty)) ∧ Below W.heap.size W w' from fun W => by
        have := Pfx.right (f, x, y) W
        rwa [h2] at this)
      have hls : s.length ≤ 1000000 := by rw [← h1]; have := text_len (f, x, y); omega
      obtain ⟨⟨fc, xc, yc⟩, cc, hpc, hcc⟩ := parse_pair s hls
      have HPC := Lib.hid hpc
      have HCC := Lib.hid (show s.isEmpty = false → (fc, xc, yc) = (f, x, y) ∧ cc = 0 from fun h => by
        rcases hcc with ⟨k1, k2⟩ | ⟨k1, k2, k3⟩
        · rw [h3 h] at k2
          exact ⟨(Option.some.inj k2).symm, k1⟩
        · rw [h3 h] at k2
          exact absurd k2 (by simp))
      clear h1 h2 h3 hls hpc hcc
      have hq1 : ((ofBs s).toList != (ofBs s).toList) = false := by simp
      have hq2 : (ofBs s).toList.isEmpty = s.isEmpty := by rw [ofBs_toList]
      have HQ := Lib.hid (fun W => run_neqA (f, x, y) (f, x, y) W)
      have HQQ := Lib.hid (show ∀ W, (binOp .neq 24 (encA (f, x, y)) (encA (f, x, y))).run Tryd.prog W = .ok (.bool false) W from fun W => by rw [HQ.out W]; simp)
      have HQA := Lib.hid (fun W => run_neqA (fc, xc, yc) (f, x, y) W)
      clear HQ
      have c0 : wr.cell? ⟨g1, k * 4, none⟩ = some (.int .u8 (f.toNat : Int)) := HC.out wr HK.out 0 (by omega)
      have c1 : wr.cell? ⟨g1, k * 4 + 1, none⟩ = some (.int .u64 (x.toNat : Int)) := HC.out wr HK.out 1 (by omega)
      have c2 : wr.cell? ⟨g1, k * 4 + 2, none⟩ = some (.int .u64 (y.toNat : Int)) := HC.out wr HK.out 2 (by omega)
      have c3 : wr.cell? ⟨g1, k * 4 + 3, none⟩ = some (.string (ofBs s)) := HC.out wr HK.out 3 (by omega)
      have k2 : IntKind.i64.wrap ((k : Int) + 1) = ((k + 1 : Nat) : Int) := by rw [IntKind.wrap_i64]; omega
      obtain ⟨em, hem⟩ : ∃ b, b = s.isEmpty := ⟨_, rfl⟩
      rw [← hem] at HR HCC hq2
      clear hem
      go_wp2_with fail
      have HXr21 := Lib.hid (blk_alloc HK.out (boxK ((f, x, y), s)))
      have HXk21 := Lib.hid (heap_alloc_new wr (boxK ((f, x, y), s)))
      have HW21 := Lib.hid (show Below w.heap.size w (wr.alloc (boxK ((f, x, y), s))) from HB.out.alloc HB.out.size _)
      clear c0 c1 c2 c3
      obtain ⟨v22, hv22⟩ : ∃ v22, v22 = (wr.alloc (boxK ((f, x, y), s))) := ⟨_, rfl⟩
      rw [← hv22] at HXr21 HXk21 HW21 ⊢
      clear hv22
      have hq3 : ((!em) != (!em)) = false := by simp
      obtain ⟨k0, k1, k2, k3⟩ := later_boxK HXk21.out
      refine wp_region_later v22.heap.size (by kernel_rfl) (by kernel_rfl) ?_
      repeat (go_big_quiet_step (first | (go_at_call 15; exact Later.calls (Nat.le_refl _) (HT.out _ (HE.out.kept (below_step HW21.out (Later.prop _) HW21.out.size)))) | (go_at_call 10; exact Later.calls (Nat.le_refl _) (HR.out _))))
      refine wpQuiet_nil ?_
      rintro v23 ⟨zz, rfl⟩
      have hb := zz.prop
      have HZ0 := Lib.hid hb
      clear k0 k1 k2 k3
      generalize zz.val = v23 at *
      have HXr24 := Lib.hid (blk_kept hb HXr21.out)
      have HXk24 := Lib.hid (blk_kept hb HXk21.out)
      have HW24 := Lib.hid (below_step HW21.out hb HW21.out.size)
      clear hb
      obtain ⟨k0, k1, k2, k3⟩ := boxK_at HXk24.out
      go_wp2_with fail
      refine (HPC.out _ (HE.out.kept HW24.out)).mono ?_
      rintro e v25 ⟨rfl, hb⟩
      clear k0 k1 k2 k3
      have HXr26 := Lib.hid (blk_kept hb HXr24.out)
      have HXk26 := Lib.hid (blk_kept hb HXk24.out)
      have HW26 := Lib.hid (below_step HW24.out hb HW24.out.size)
      clear hb
      have HXr27 := Lib.hid (blk_alloc HXr26.out (boxA (fc, xc, yc)))
      have HXk27 := Lib.hid (blk_alloc HXk26.out (boxA (fc, xc, yc)))
      have HXc27 := Lib.hid (heap_alloc_new v25 (boxA (fc, xc, yc)))
      have HW27 := Lib.hid (show Below w.heap.size w (v25.alloc (boxA (fc, xc, yc))) from HW26.out.alloc HW26.out.size _)
      obtain ⟨k0, k1, k2, k3⟩ := boxK_at HXk27.out
      obtain ⟨c0, c1, c2⟩ := box_at HXc27.out
      cases em
      · obtain ⟨hh, rfl⟩ := HCC.out rfl
        obtain ⟨rfl, hh2⟩ := Prod.mk.inj hh
        obtain ⟨rfl, rfl⟩ := Prod.mk.inj hh2
        clear hh hh2
        have hq := HQQ.out
        go_wp2_with fail
        go_roundw
        case rel => exact ⟨k + 1, by omega, rfl, HXr27.out, HW27.out⟩
        case measure => simp [intOf]; omega
      · have hq := HQA.out
        go_wp2_with fail
        go_roundw
        case rel => exact ⟨k + 1, by omega, rfl, HXr27.out, HW27.out⟩
        case measure => simp [intOf]; omega
    · obtain rfl : k = 12 := by omega
      clear hk hk12
      go_wp2_with fail
      have HX0 := Lib.hid (show (wr.alloc (.cells (known2.map fun s => Value.string (ofBs s)).toArray 9)).heap[wr.heap.size]? = some (.cells (known2.map fun s => Value.string (ofBs s)).toArray 9 (0, 0)) from heap_alloc_new _ _)
      have HB0 := Lib.hid (show Below w.heap.size w (wr.alloc (.cells (known2.map fun s => Value.string (ofBs s)).toArray 9)) from HB.out.alloc HB.out.size _)
      clear HK HB
      obtain ⟨g2, hg2⟩ : ∃ g, g = wr.heap.size := ⟨_, rfl⟩
      rw [← hg2] at HX0 ⊢
      clear hg2
      go_loopw [88] (fun v88 W => ∃ k : Nat, k ≤ 15 ∧ v88 = .int .i64 (k : Int) ∧ W.heap[g2]? = some (.cells (known2.map fun s => Value.string (ofBs s)).toArray 9 (0, 0)) ∧ Below w.heap.size w W) (fun v88 _ => (15 - intOf v88).toNat)
      case atStart => exact ⟨0, by omega, rfl, HX0.out, HB0.out⟩
      case round =>
        clear HX0 HB0
        obtain ⟨k, hk, rfl, hblk, hb⟩ := hrel
        have HB := Lib.hid hb
        have HK := Lib.hid hblk
        clear hblk hb
        by_cases hk15 : k < 15
        · have hki : (k : Int) < 15 := by omega
          obtain ⟨s, hks⟩ : ∃ e, known2[k]? = some e := ⟨_, List.getElem?_eq_getElem (show k < known2.length from hk15)⟩
          have HC := Lib.hid (fun (W : World) (h : W.heap[g2]? = some (.cells (known2.map fun s => Value.string (ofBs s)).toArray 9 (0, 0))) => row2_cell h hks)
          have h1 := known2_at hks
          have hls : s.length ≤ 1000000 := known2_le hks
          clear hks
          have HPC := Lib.hid (show ∀ W, Env W → Calls Tryd.prog 16 #[.string (ofBs s)] W fun e w' => e = .returned (.tuple #[.agg #[.int .u8 0, .int .u64 0, .int .u64 0], .int .i64 8]) ∧ Below W.heap.size W w' from fun W he => by
            have := parse_any s hls W he
            rw [h1] at this
            exact this)
          clear h1 hls
          have c0 : wr.cell? ⟨g2, k, none⟩ = some (.string (ofBs s)) := HC.out wr HK.out
          have k2 : IntKind.i64.wrap ((k : Int) + 1) = ((k + 1 : Nat) : Int) := by rw [IntKind.wrap_i64]; omega
          have hq : ∀ W, (binOp .neq 24 (.agg #[.int .u8 0, .int .u64 0, .int .u64 0]) (.agg #[.int .u8 0, .int .u64 0, .int .u64 0])).run Tryd.prog W = .ok (.bool false) W := fun W => run_neqA zeroA zeroA W
          go_wp2_with fail
          refine (HPC.out _ (HE.out.kept HB.out)).mono ?_
          rintro e v28 ⟨rfl, hb⟩
          have HXr29 := Lib.hid (blk_kept hb HK.out)
          have HW29 := Lib.hid (below_step HB.out hb HB.out.size)
          clear hb
          have HXr30 := Lib.hid (blk_alloc HXr29.out boxZ)
          have HXc30 := Lib.hid (heap_alloc_new v28 boxZ)
          have HW30 := Lib.hid (show Below w.heap.size w (v28.alloc boxZ) from HW29.out.alloc HW29.out.size _)
          obtain ⟨c0, c1, c2⟩ := cells3_at HXc30.out
          go_wp2_with fail
          go_roundw
          case rel => exact ⟨_, _, _, _, _, _, _, _, _, _, _, _, _, _, _, _, _, _, _, _, _, ⟨k + 1, by omega, rfl, HXr30.out, HW30.out⟩, rfl⟩
          case measure => simp [intOf]; omega
        · obtain rfl : k = 15 := by omega
          clear hk hk15 HK
          go_wp2_with fail
          refine (HV4294967295.out _).mono ?_
          rintro e v31 ⟨rfl, hb⟩
          have HW32 := Lib.hid (below_step HB.out hb HB.out.size)
          clear hb
          go_wp2_with fail
          refine (HN1.out _).mono ?_
          rintro e v33 ⟨rfl, hb⟩
          have HW34 := Lib.hid (below_step HW32.out hb HW32.out.size)
          clear hb
          have HXp35 := Lib.hid (heap_alloc_new v33 (.cells #[.int .u8 0, .int .u64 0, .int .u64 0] 24))
          have HW35 := Lib.hid (show Below w.heap.size w (v33.alloc (.cells #[.int .u8 0, .int .u64 0, .int .u64 0] 24)) from HW34.out.alloc HW34.out.size _)
          go_wp2_with fail
          obtain ⟨v36, hv36⟩ : ∃ v36, v36 = (v33.alloc (.cells #[.int .u8 0, .int .u64 0, .int .u64 0] 24)) := ⟨_, rfl⟩
          rw [← hv36] at HXp35 HW35 ⊢
          clear hv36
          go_wp2_with fail
          refine (HS06.out _).mono ?_
          rintro e v37 ⟨rfl, hb⟩
          have HW38 := Lib.hid (below_step HW35.out hb HW35.out.size)
          clear hb
          go_wp2_with fail
          refine (HN2.out _).mono ?_
          rintro e v39 ⟨rfl, hb⟩
          have HW40 := Lib.hid (below_step HW38.out hb HW38.out.size)
          clear hb
          have HXp41 := Lib.hid (heap_alloc_new v39 (.cells #[.int .u8 0, .int .u64 0, .int .u64 0] 24))
          have HW41 := Lib.hid (show Below w.heap.size w (v39.alloc (.cells #[.int .u8 0, .int .u64 0, .int .u64 0] 24)) from HW40.out.alloc HW40.out.size _)
          go_wp2_with fail
          obtain ⟨v42, hv42⟩ : ∃ v42, v42 = (v39.alloc (.cells #[.int .u8 0, .int .u64 0, .int .u64 0] 24)) := ⟨_, rfl⟩
          rw [← hv42] at HXp41 HW41 ⊢
          clear hv42
          go_wp2_with fail
          refine (HV0.out _).mono ?_
          rintro e v43 ⟨rfl, hb⟩
          have HW44 := Lib.hid (below_step HW41.out hb HW41.out.size)
          clear hb
          go_wp2_with fail
          refine (HN3.out _).mono ?_
          rintro e v45 ⟨rfl, hb⟩
          have HW46 := Lib.hid (below_step HW44.out hb HW44.out.size)
          clear hb
          have HXp47 := Lib.hid (heap_alloc_new v45 (.cells #[.int .u8 0, .int .u64 0, .int .u64 0] 24))
          have HW47 := Lib.hid (show Below w.heap.size w (v45.alloc (.cells #[.int .u8 0, .int .u64 0, .int .u64 0] 24)) from HW46.out.alloc HW46.out.size _)
          go_wp2_with fail
          obtain ⟨v48, hv48⟩ : ∃ v48, v48 = (v45.alloc (.cells #[.int .u8 0, .int .u64 0, .int .u64 0] 24)) := ⟨_, rfl⟩
          rw [← hv48] at HXp47 HW47 ⊢
          clear hv48
          go_wp2_with fail
          refine (HS76.out _).mono ?_
          rintro e v49 ⟨rfl, hb⟩
          have HW50 := Lib.hid (below_step HW47.out hb HW47.out.size)
          clear hb
          go_wp2_with fail
          refine (HN4.out _).mono ?_
          rintro e v51 ⟨rfl, hb⟩
          have HW52 := Lib.hid (below_step HW50.out hb HW50.out.size)
          clear hb
          have HXp53 := Lib.hid (heap_alloc_new v51 (.cells #[.int .u8 0, .int .u64 0, .int .u64 0] 24))
          have HW53 := Lib.hid (show Below w.heap.size w (v51.alloc (.cells #[.int .u8 0, .int .u64 0, .int .u64 0] 24)) from HW52.out.alloc HW52.out.size _)
          go_wp2_with fail
          obtain ⟨v54, hv54⟩ : ∃ v54, v54 = (v51.alloc (.cells #[.int .u8 0, .int .u64 0, .int .u64 0] 24)) := ⟨_, rfl⟩
          rw [← hv54] at HXp53 HW53 ⊢
          clear hv54
          go_wp2_with fail
          refine (HS86.out _).mono ?_
          rintro e v55 ⟨rfl, hb⟩
          have HW56 := Lib.hid (below_step HW53.out hb HW53.out.size)
          clear hb
          go_wp2_with fail
          refine (HN5.out _).mono ?_
          rintro e v57 ⟨rfl, hb⟩
          have HW58 := Lib.hid (below_step HW56.out hb HW56.out.size)
          clear hb
          have HXc59 := Lib.hid (heap_alloc_new v57 (.cells #[.int .u8 6, .int .u64 1, .int .u64 0] 24))
          have HW59 := Lib.hid (show Below w.heap.size w (v57.alloc (.cells #[.int .u8 6, .int .u64 1, .int .u64 0] 24)) from HW58.out.alloc HW58.out.size _)
          go_wp2_with fail
          obtain ⟨v60, hv60⟩ : ∃ v60, v60 = (v57.alloc (.cells #[.int .u8 6, .int .u64 1, .int .u64 0] 24)) := ⟨_, rfl⟩
          rw [← hv60] at HXc59 HW59 ⊢
          clear hv60
          go_wp2_with fail
          refine (HS96.out _).mono ?_
          rintro e v61 ⟨rfl, hb⟩
          have HXc62 := Lib.hid (blk_kept hb HXc59.out)
          have HW62 := Lib.hid (below_step HW59.out hb HW59.out.size)
          clear hb
          go_wp2_with fail
          refine (HN6.out _).mono ?_
          rintro e v63 ⟨rfl, hb⟩
          have HXc64 := Lib.hid (blk_kept hb HXc62.out)
          have HW64 := Lib.hid (below_step HW62.out hb HW62.out.size)
          clear hb
          have HXc65 := Lib.hid (blk_alloc HXc64.out (.cells #[.int .u8 6, .int .u64 0, .int .u64 18446744073709551615] 24))
          have HXd65 := Lib.hid (heap_alloc_new v63 (.cells #[.int .u8 6, .int .u64 0, .int .u64 18446744073709551615] 24))
          have HW65 := Lib.hid (show Below w.heap.size w (v63.alloc (.cells #[.int .u8 6, .int .u64 0, .int .u64 18446744073709551615] 24)) from HW64.out.alloc HW64.out.size _)
          go_wp2_with fail
          obtain ⟨v66, hv66⟩ : ∃ v66, v66 = (v63.alloc (.cells #[.int .u8 6, .int .u64 0, .int .u64 18446744073709551615] 24)) := ⟨_, rfl⟩
          rw [← hv66] at HXc65 HXd65 HW65 ⊢
          clear hv66
          obtain ⟨c0, c1, c2⟩ := later_cells3 HXc65.out
          obtain ⟨d0, d1, d2⟩ := later_cells3 HXd65.out
          have hq1 : ∀ W, (binOp .eql 24 (.agg #[.int .u8 6, .int .u64 1, .int .u64 0]) (.agg #[.int .u8 6, .int .u64 1, .int .u64 0])).run Tryd.prog W = .ok (.bool true) W := fun W => run_eqlA (6, 1, 0) (6, 1, 0) W
          have hq2 : ∀ W, (binOp .eql 24 (.agg #[.int .u8 6, .int .u64 0, .int .u64 18446744073709551615]) (.agg #[.int .u8 6, .int .u64 0, .int .u64 18446744073709551615])).run Tryd.prog W = .ok (.bool true) W := fun W => run_eqlA (6, 0, 18446744073709551615) (6, 0, 18446744073709551615) W
          refine wp_region_later v66.heap.size (by kernel_rfl) (by kernel_rfl) ?_
          repeat (go_big_quiet_step (first | (go_at_call 14; first | with_reducible exact Later.calls (Nat.le_refl _) (HS96.out _) | with_reducible exact Later.calls (Nat.le_refl _) (HS86.out _)) | (go_at_call 11; exact Later.calls (Nat.le_refl _) (HAW.out _ (HE.out.kept (below_step HW65.out (Later.prop _) HW65.out.size))))))
          refine wpQuiet_nil ?_
          rintro v67 ⟨zz, rfl⟩
          have hb := zz.prop
          have HZ0 := Lib.hid hb
          clear c0 c1 c2 d0 d1 d2
          generalize zz.val = v67 at *
          have HXc68 := Lib.hid (blk_kept hb HXc65.out)
          have HXd68 := Lib.hid (blk_kept hb HXd65.out)
          have HW68 := Lib.hid (below_step HW65.out hb HW65.out.size)
          clear hb
          go_wp2_with fail
          go_ret
          exact ⟨rfl, HW68.out⟩
end Go.Proofs.Tryd.Tx
