/- A skip list: New, Row, Towers. -/
import Derived.Test.YthcakgnendnekaaSkD
import Derived.Test.YthcakgnendnekaaSkP
open Go.RowKit Go.Cph Go.Cph.Skip
set_option linter.unusedVariables false
set_option linter.unusedSimpArgs false
namespace Go.Proofs.Try.SkS

theorem cNew (w : World) :
    Calls Try.prog 15 #[] w fun e w' => e = .returned (ptr w.heap.size) ∧ IsAt w' w.heap.size (fun _ _ => 0) [] (.slice none 0 0) ∧ Below w.heap.size w w' := by
  go_enter Try.func15, Try.ntmps15
  go_wp2_with fail
  go_ret
  refine ⟨rfl, ⟨?_, World.ownsRow_nil _ _ _ _, fun i hi => absurd hi (by simp), fun i j hi => absurd hi (by simp)⟩, (Below.refl _ _).alloc (Nat.le_refl _) _⟩
  rw [show headCells (fun _ _ => 0) (.slice none 0 0) = #[.int .i64 0, .int .i64 0, .int .i64 0, .int .i64 0, .int .i64 0, .int .i64 0, .int .i64 0, .int .i64 0, .int .i64 0, .int .i64 0, .int .i64 0, .int .i64 0, .slice none 0 0] by simp [headCells, List.range_succ]]
  exact heap_alloc_new _ _
theorem linkedNil : Linked ([] : List (Nd V)) (fun _ _ => 0) :=
  ⟨fun l n _ _ => .inl ⟨rfl, by simp⟩, by simp, fun i j hi => absurd hi (by simp)⟩

theorem infoStr : (Try.prog.info? 9).map (fun i => (i.zero, i.size, i.bytes)) = some (some (.string ByteArray.empty), 1, 16) := by kernel_rfl
theorem infoInt : (Try.prog.info? 3).map (fun i => (i.zero, i.size, i.bytes)) = some (some (.int .i64 0), 1, 8) := by kernel_rfl

theorem cRowNil (level : Int) (w : World) :
    Calls Try.prog 21 #[.pointer none, .int .i64 level] w fun e w' => e = .returned (.slice none 0 0) ∧ w = w' := by
  go_enter Try.func21, Try.ntmps21
  go_wp2_with fail
  go_ret
  exact ⟨rfl, rfl⟩
theorem cRowOut {p : Nat} (level : Int) (w : World) (h : level < 0 ∨ 12 ≤ level) :
    Calls Try.prog 21 #[ptr p, .int .i64 level] w fun e w' => e = .returned (.slice none 0 0) ∧ w = w' := by
  by_cases h0 : level < 0
  · go_enter Try.func21, Try.ntmps21
    go_wp2_with fail
    go_ret
    exact ⟨rfl, rfl⟩
  · have h1 : 12 ≤ level := by omega
    go_enter Try.func21, Try.ntmps21
    go_wp2_with fail
    go_ret
    exact ⟨rfl, rfl⟩

/-- The keys of nodes. -/
def keysV (xs : List (Nd V)) : List Value := xs.map fun x => .string x.key
def htsV (xs : List (Nd V)) : List Value := xs.map fun x => .int .i64 x.ht
theorem keysV_snoc (xs : List (Nd V)) (x : Nd V) : keysV (xs ++ [x]) = keysV xs ++ [.string x.key] := by simp [keysV]
theorem htsV_snoc (xs : List (Nd V)) (x : Nd V) : htsV (xs ++ [x]) = htsV xs ++ [.int .i64 x.ht] := by simp [htsV]

set_option maxHeartbeats 1000000 in
theorem cRow {p : Nat} {nx : Nat → Nat → Nat} {nodes : List (Nd V)} {v : Value} (l : Nat) (w : World) (h : IsAt w p nx nodes v) (hln : Linked nodes nx) (hl : l < 12) (hlen : nodes.length ≤ 1000000) :
    Calls Try.prog 21 #[ptr p, .int .i64 l] w fun e w' => ∃ u xs, e = .returned u ∧ Chain nodes l (fun _ => true) xs ∧ xs.length ≤ nodes.length ∧ w'.ownsRow w.heap.size 9 1 u xs.length (keysV xs) ∧ Below w.heap.size w w' := by
  have H := Lib.hid h
  have HL := Lib.hid hln
  have h0 := next0 l w h hl
  have hst := hln.links l 0 hl (.inl rfl)
  have HS := Lib.hid (Part.start (ge := fun _ => true) (l := l) (n := nx 0 l) hst)
  clear h hln hst
  go_enter Try.func21, Try.ntmps21
  go_wp2_with (go_at_call 35; refine h0.mono ?_; rintro e w1 ⟨rfl, rfl⟩)
  go_loopw [5, 6] (fun u i wr => ∃ (n : Nat) (xs : List (Nd V)), i = .int .i64 n ∧ Part nodes l (fun _ => true) xs n ∧ wr.ownsRow w.heap.size 9 1 u xs.length (keysV xs) ∧ Below w.heap.size w wr)
    (fun _ i _ => if (intOf i).toNat = 0 then 0 else Skip.left nodes (intOf i).toNat + 1)
  case atStart => exact ⟨nx 0 l, [], rfl, HS.out, World.ownsRow_nil _ _ _ _, Below.refl _ _⟩
  case round =>
    obtain ⟨n, xs, rfl, hpart, hown, hbel⟩ := hrel
    have HP := Lib.hid hpart
    have hx1 := hpart.len.1
    rcases hpart.num with rfl | ⟨i, hi, rfl, hli⟩
    · clear hpart
      go_wp2_with fail
      go_ret
      exact ⟨_, xs, rfl, HP.out.done, hx1, hown, hbel⟩
    · have HW := Lib.hid (H.out.kept hbel)
      have hcr := HW.out.rowCell
      obtain ⟨g, cap, hv, hcap⟩ := HW.out.shape (by omega)
      rw [hv] at hcr
      have hck : wr.cell? ⟨g, i * 3, none⟩ = some (.string nodes[i].key) := by have := HW.out; rw [hv] at this; exact (this.nodeCell i hi).1
      have e2 : wrap64 (i : Int) = i := by unfold wrap64; omega
      have hsz := hbel.size
      have HI := Lib.hid (show On nodes l (i + 1) from .inr ⟨i, hi, rfl, hli⟩)
      have HHT := Lib.hid hli
      clear hpart hv hli
      generalize hkk : nodes[i].key = kk at hck
      have HKK := Lib.hid hkk
      clear hkk
      obtain ⟨m, hm⟩ : ∃ m, m = xs.length := ⟨_, rfl⟩
      rw [← hm] at hown hx1
      have HM := Lib.hid hm
      clear hm
      go_wp2_with (at_builtin; refine wpList_append1 rfl (.tmp 26) (.tmp 36) 48 rfl w.heap.size 9 _ 1 16 Try.underlying48 infoStr rfl (by decide) _ m _ [.string kk] rfl hown _ _ rfl rfl rfl (by simp [Value.oneCell']) (by omega) (by omega) hsz w.heap.size w hbel (Nat.le_refl _) ?_)
      intro v' w' hown' hgrow hbel' hsz'
      have hnx := next1 i l w' (H.out.kept hbel') hi HHT.out
      have HO := Lib.hid hown'
      have HB := Lib.hid hbel'
      clear hown hbel hown' hbel' hsz hgrow hsz' hcr hck
      go_wp2_with (go_at_call 35; refine hnx.mono ?_; rintro e w1 ⟨rfl, rfl⟩)
      go_roundw
      case rel =>
        refine ⟨nx (i + 1) l, xs ++ [nodes[i]], rfl, HP.out.step HL.out hl (fun _ _ _ _ => rfl) hi, ?_, HB.out⟩
        rw [keysV_snoc, List.length_append, ← HM.out, HKK.out]
        exact HO.out
      case measure =>
        have h1 := (HL.out.links l (i + 1) hl HI.out)
        show (if nx (i + 1) l = 0 then 0 else Skip.left nodes (nx (i + 1) l) + 1) < (if i + 1 = 0 then 0 else Skip.left nodes (i + 1) + 1)
        rw [if_neg (show ¬ i + 1 = 0 by omega)]
        split
        · omega
        · rename_i hne
          have := left_lt h1 hne
          omega

set_option maxHeartbeats 1000000 in
theorem cTowers {p : Nat} {nx : Nat → Nat → Nat} {nodes : List (Nd V)} {v : Value} (w : World) (h : IsAt w p nx nodes v) (hln : Linked nodes nx) (hlen : nodes.length ≤ 1000000) :
    Calls Try.prog 22 #[ptr p] w fun e w' => ∃ u xs, e = .returned u ∧ Chain nodes 0 (fun _ => true) xs ∧ xs.length ≤ nodes.length ∧ w'.ownsRow w.heap.size 3 1 u xs.length (htsV xs) ∧ Below w.heap.size w w' := by
  have H := Lib.hid h
  have HL := Lib.hid hln
  have h0 : Calls Try.prog 35 #[ptr p, .int .i64 0, .int .i64 0] w _ := next0 0 w h (by omega)
  have hst := hln.links 0 0 (by omega) (.inl rfl)
  have HS := Lib.hid (Part.start (ge := fun _ => true) (l := 0) (n := nx 0 0) hst)
  clear h hln hst
  go_enter Try.func22, Try.ntmps22
  go_wp2_with (go_at_call 35; refine h0.mono ?_; rintro e w1 ⟨rfl, rfl⟩)
  go_loopw [3, 4] (fun u i wr => ∃ (n : Nat) (xs : List (Nd V)), i = .int .i64 n ∧ Part nodes 0 (fun _ => true) xs n ∧ wr.ownsRow w.heap.size 3 1 u xs.length (htsV xs) ∧ Below w.heap.size w wr)
    (fun _ i _ => if (intOf i).toNat = 0 then 0 else Skip.left nodes (intOf i).toNat + 1)
  case atStart => exact ⟨nx 0 0, [], rfl, HS.out, World.ownsRow_nil _ _ _ _, Below.refl _ _⟩
  case round =>
    obtain ⟨n, xs, rfl, hpart, hown, hbel⟩ := hrel
    have HP := Lib.hid hpart
    have hx1 := hpart.len.1
    rcases hpart.num with rfl | ⟨i, hi, rfl, hli⟩
    · clear hpart
      go_wp2_with fail
      go_ret
      exact ⟨_, xs, rfl, HP.out.done, hx1, hown, hbel⟩
    · have HW := Lib.hid (H.out.kept hbel)
      have hcr := HW.out.rowCell
      obtain ⟨g, cap, hv, hcap⟩ := HW.out.shape (by omega)
      rw [hv] at hcr
      have hck : wr.cell? ⟨g, i * 3 + 2, none⟩ = some nodes[i].tower := by have := HW.out; rw [hv] at this; exact (this.nodeCell i hi).2.2
      unfold Nd.tower at hck
      have e2 : wrap64 (i : Int) = i := by unfold wrap64; omega
      have hsz := hbel.size
      have HI := Lib.hid (show On nodes 0 (i + 1) from .inr ⟨i, hi, rfl, hli⟩)
      have HHT := Lib.hid hli
      clear hpart hv hli
      generalize hkk : nodes[i].ht = kk at hck
      generalize nodes[i].tb = tb at hck
      generalize nodes[i].tc = tc at hck
      have HKK := Lib.hid hkk
      clear hkk
      obtain ⟨m, hm⟩ : ∃ m, m = xs.length := ⟨_, rfl⟩
      rw [← hm] at hown hx1
      have HM := Lib.hid hm
      clear hm
      go_wp2_with (at_builtin; refine wpList_append1 rfl (.tmp 14) (.tmp 25) 51 rfl w.heap.size 3 _ 1 8 Try.underlying51 infoInt rfl (by decide) _ m _ [.int .i64 kk] rfl hown _ _ rfl rfl rfl (by simp [Value.oneCell']) (by omega) (by omega) hsz w.heap.size w hbel (Nat.le_refl _) ?_)
      intro v' w' hown' hgrow hbel' hsz'
      have hnx : Calls Try.prog 35 #[ptr p, .int .i64 (i + 1 : Nat), .int .i64 0] w' _ := next1 i 0 w' (H.out.kept hbel') hi HHT.out
      have HO := Lib.hid hown'
      have HB := Lib.hid hbel'
      clear hown hbel hown' hbel' hsz hgrow hsz' hcr hck
      go_wp2_with (go_at_call 35; refine hnx.mono ?_; rintro e w1 ⟨rfl, rfl⟩)
      go_roundw
      case rel =>
        refine ⟨nx (i + 1) 0, xs ++ [nodes[i]], rfl, HP.out.step HL.out (by omega) (fun _ _ _ _ => rfl) hi, ?_, HB.out⟩
        rw [htsV_snoc, List.length_append, ← HM.out, HKK.out]
        exact HO.out
      case measure =>
        have h1 := (HL.out.links 0 (i + 1) (by omega) HI.out)
        show (if nx (i + 1) 0 = 0 then 0 else Skip.left nodes (nx (i + 1) 0) + 1) < (if i + 1 = 0 then 0 else Skip.left nodes (i + 1) + 1)
        rw [if_neg (show ¬ i + 1 = 0 by omega)]
        split
        · omega
        · rename_i hne
          have := left_lt h1 hne
          omega
end Go.Proofs.Try.SkS
