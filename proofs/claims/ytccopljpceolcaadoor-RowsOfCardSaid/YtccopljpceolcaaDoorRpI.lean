/- The document's Parts; the law's same. -/
import Derived.Test.YtccopljpceolcaaDoorRpH
set_option linter.unusedVariables false
set_option linter.unusedSimpArgs false
set_option maxRecDepth 100000
namespace Go.Proofs.Tryd.Ok
open Go.RowKit Go.Cph Go.Cph.Ok Go.Proofs.Tryd.Nu
abbrev TR : TypeId := 88
abbrev TRs : TypeId := 92
theorem infoR : (Tryd.prog.info? TR).map (fun i => (i.zero, i.size, i.bytes)) = some (some (.agg #[.bool false, .string ByteArray.empty, .int .u64 0]), 3, 32) := by kernel_rfl
def RPartsPost (o : Option (List Pt)) (w : World) (e : Ending) (w' : World) : Prop :=
  (match o with
  | none => e = .returned (.tuple #[.slice none 0 0, .bool false])
  | some l => ∃ v, e = .returned (.tuple #[v, .bool true]) ∧ w'.ownsRow w.heap.size TR 3 v l.length (l.flatMap encC)) ∧ Below w.heap.size w w'
set_option maxHeartbeats 12800000 in
theorem rparts_any (s : ByteArray) (w : World) (hs : s.size ≤ 1000000) : Calls Tryd.prog 75 #[.string s] w (RPartsPost (Cph.Ok.parts s.data.toList) w) := by
  have HS := Lib.hid hs
  obtain ⟨L, hL⟩ : ∃ L, L = Cph.Ok.parts s.data.toList := ⟨_, rfl⟩
  have HLL := Lib.hid hL
  rw [← hL]
  clear hs hL
  go_enter Tryd.func75, Tryd.ntmps75
  go_wp2_with fail
  go_loopw [0, 4] (fun vs vo W => ∃ (c : ByteArray) (out : List Pt), vs = .string c ∧ L = (Cph.Ok.parts c.data.toList).map (out ++ ·) ∧ W.ownsRow w.heap.size TR 3 vo out.length (out.flatMap encC) ∧ c.size + out.length ≤ s.size ∧ Below w.heap.size w W) (fun vs _ _ => lenS vs)
  case atStart => exact ⟨s, [], rfl, by rw [HLL.out]; cases Cph.Ok.parts s.data.toList <;> rfl, World.ownsRow_nil _ _ _ _, by simp, Below.refl _ _⟩
  case round =>
    obtain ⟨c, out, rfl, hl, ho, hlen, hb⟩ := hrel
    have HL := Lib.hid hl
    have HB := Lib.hid hb
    have HZ := Lib.hid hb.size
    have HLEN := Lib.hid hlen
    obtain ⟨n, hn⟩ : ∃ n, n = out.length := ⟨_, rfl⟩
    have HN := Lib.hid hn
    rw [← hn] at ho
    obtain ⟨oo, oc, hov⟩ := owns_slice1 ho
    subst hov
    have HO := Lib.hid ho
    have HNB := Lib.hid (show n + 1 ≤ 1099511627776 from by have := HS.out; omega)
    clear hl ho hlen hb hn
    by_cases h0 : c.size = 0
    · have hse : c = ⟨#[]⟩ := by
        cases c with
        | mk d =>
          have : d = #[] := Array.eq_empty_of_size_eq_zero h0
          rw [this]
      subst hse
      have HQ := Lib.hid (show L = some out from by rw [HL.out]; show (Cph.Ok.parts []).map _ = _; rw [parts_nil]; simp)
      clear h0
      go_wp2_with fail
      exact bodyPost_ret (v := .tuple #[.slice oo n oc, .bool true]) (by simp [results, Tryd.results75, go_sem]) rfl (by rw [HQ.out]; exact ⟨⟨_, rfl, by rw [← HN.out]; exact HO.out⟩, HB.out⟩)
    · have hz : (0 : Int) < (c.size : Int) := by omega
      have hne : c.data.toList ≠ [] := fun e => by have h := congrArg List.length e; rw [← ba_size, List.length_nil] at h; omega
      have HC := Lib.hid (fun W => first_any c W (by omega) (by have := HS.out; have := HLEN.out; omega))
      have HNE := Lib.hid hne
      clear h0 hne
      go_wp2_with fail
      refine (HC.out _).mono ?_
      rintro e w3 ⟨P, k, rfl, hk, hb⟩
      have HB3 := Lib.hid (below_step HB.out hb HZ.out)
      have HO3 := Lib.hid (row_keptB HO.out hb)
      clear hb
      rcases hk with ⟨rfl, hr⟩ | ⟨hk0, hk1, hr⟩
      · have HQ := Lib.hid (show L = none from by rw [HL.out, parts_none HNE.out hr]; rfl)
        have HB4 := Lib.hid (HB3.out.alloc HB3.out.size (boxR P))
        clear hr
        go_wp2_with fail
        exact bodyPost_ret (v := .tuple #[.slice none 0 0, .bool false]) (by simp [results, Tryd.results75, go_sem]) rfl (by rw [HQ.out]; exact ⟨rfl, HB4.out⟩)
      · have HEX := Lib.hid (ext_from c k)
        have HEZ := Lib.hid (show (c.extract k c.size).size + k = c.size from by rw [ByteArray.size_extract]; omega)
        have HQ := Lib.hid (show L = (Cph.Ok.parts (c.extract k c.size).data.toList).map ((out ++ [P]) ++ ·) from by
          rw [HL.out, parts_some HNE.out hr, HEX.out, Option.map_map]
          congr 1
          funext y
          simp)
        have HK1 := Lib.hid hk0
        have q0 : ¬ (k : Int) = 0 := by omega
        have q1 : (0 : Int) ≤ (k : Int) := by omega
        have q2 : (k : Int) ≤ (c.size : Int) := by omega
        have hg1 := heap_alloc_new (w3.alloc (boxR P)) (boxR P)
        rw [World.size_alloc] at hg1
        have hc := box_cells (heap_alloc_new w3 (boxR P))
        have c0 := hc.c0
        have c1 := hc.c1
        have c2 := hc.c2
        have HB5 := Lib.hid (show Below w.heap.size w ((w3.alloc (boxR P)).alloc (boxR P)) from (HB3.out.alloc HB3.out.size _).alloc (by rw [World.size_alloc]; exact Nat.le_succ_of_le HB3.out.size) _)
        have HO5 := Lib.hid (show ((w3.alloc (boxR P)).alloc (boxR P)).ownsRow w.heap.size TR 3 (.slice oo n oc) n (out.flatMap encC) from (HO3.out.alloc _).alloc _)
        have HSEG := Lib.hid (show Seg ((w3.alloc (boxR P)).alloc (boxR P)) 3 (.slice (some ⟨w3.heap.size + 1, 0, none⟩) 1 1) 1 (encC P) from ⟨⟨_, _, rfl, fun _ => ⟨w3.heap.size + 1, 0, rfl, fun j hj => by rw [Nat.zero_add, blk_cell hg1]; simp⟩⟩, rfl⟩)
        clear hr hk0 hk1 hg1 hc
        go_wp2_with (at_builtin; refine wpList_append_seg rfl (.tmp 17) (.tmp 19) TRs rfl w.heap.size TR _ 3 32 Tryd.underlying92 infoR rfl (by decide) _ n (out.flatMap encC) rfl HO5.out _ 1 (encC P) rfl HSEG.out (encC_one1 P) HNB.out (by decide) HB5.out.size ?_; intro v6 w6 ho hgr _; have HO6 := Lib.hid ho; have HB6 := Lib.hid (below_grown HB5.out hgr HO5.out (Nat.le_refl _) HB5.out.size); clear ho hgr c0 c1 c2)
        go_roundw
        case rel => exact ⟨c.extract k c.size, out ++ [P], rfl, HQ.out, by rw [List.length_append, List.flatMap_append, ← HN.out]; simpa using HO6.out, by have := HEZ.out; have := HLEN.out; have := HK1.out; rw [List.length_append, List.length_singleton]; omega, HB6.out⟩
        case measure => have := HEZ.out; have := HK1.out; simp only [lenS]; omega
end Go.Proofs.Tryd.Ok
