/- Acts as they came in; Great; made. -/
import Derived.Test.YthcakgnendnekaaSkG
open Go.RowKit Go.Cph Go.Cph.Skip
set_option linter.unusedVariables false
set_option linter.unusedSimpArgs false
namespace Go.Proofs.Try.SkS

/-- An act. -/
structure Ac where
  what : Int
  key : ByteArray
  val : ByteArray
  height : Int
/-- Acts in memory. -/
def ActsAt (w : World) (v : Value) (acts : List Ac) : Prop :=
  ∃ ao cap, v = .slice ao acts.length cap ∧ (0 < acts.length → ∃ b off, ao = some ⟨b, off, none⟩ ∧ ∀ j (h : j < acts.length),
    w.cell? ⟨b, off + j * 4, none⟩ = some (.int .u8 acts[j].what) ∧ w.cell? ⟨b, off + j * 4 + 1, none⟩ = some (.string acts[j].key) ∧
    w.cell? ⟨b, off + j * 4 + 2, none⟩ = some (.string acts[j].val) ∧ w.cell? ⟨b, off + j * 4 + 3, none⟩ = some (.int .i64 acts[j].height))
theorem ActsAt.kept {w w' : World} {v : Value} {acts : List Ac} (h : ActsAt w v acts) (hb : Below w.heap.size w w') : ActsAt w' v acts := by
  obtain ⟨ao, cap, rfl, h⟩ := h
  refine ⟨ao, cap, rfl, fun h0 => ?_⟩
  obtain ⟨b, off, rfl, hc⟩ := h h0
  exact ⟨b, off, rfl, fun j hj => ⟨cell_kept hb (hc j hj).1, cell_kept hb (hc j hj).2.1, cell_kept hb (hc j hj).2.2.1, cell_kept hb (hc j hj).2.2.2⟩⟩

/-- What statements go through. -/
def Small (acts : List Ac) : Prop := acts.length ≤ 120 ∧ ∀ a ∈ acts, a.key.size ≤ 20000 ∧ a.val.size ≤ 20000

structure GreatPost (acts : List Ac) (w : World) (e : Ending) (w' : World) : Prop where
  res : ∃ g, e = .returned (.bool g) ∧ (g = false → Small acts)
  bel : Below w.heap.size w w'

set_option maxHeartbeats 1000000 in
theorem great (v : Value) (acts : List Ac) (w : World) (hv : ActsAt w v acts) (hs : ∀ a ∈ acts, a.key.size ≤ maxLen ∧ a.val.size ≤ maxLen) :
    Calls Try.prog 9 #[v] w (GreatPost acts w) := by
  obtain ⟨ao, cap, rfl, hv⟩ := hv
  have HV := Lib.hid hv
  have HS := Lib.hid hs
  clear hv hs
  by_cases h120 : 120 < acts.length
  · go_enter Try.func9, Try.ntmps9
    go_wp2_with fail
    go_ret
    exact ⟨⟨true, rfl, fun h => by cases h⟩, Below.refl _ _⟩
  · go_enter Try.func9, Try.ntmps9
    go_wp2_with fail
    go_loopw [3, 4] (fun n i wr => ∃ (k s : Nat), k ≤ acts.length ∧ i = .int .i64 k ∧ n = .int .i64 s ∧ s ≤ k * 40000 ∧ Below w.heap.size w wr ∧ ∀ j (h : j < acts.length), j < k → acts[j].key.size ≤ 20000 ∧ acts[j].val.size ≤ 20000)
      (fun _ i _ => acts.length - (intOf i).toNat)
    case atStart => exact ⟨0, 0, by omega, rfl, rfl, by omega, Below.refl _ _, fun j h hj => by omega⟩
    case round =>
      obtain ⟨k, s, hk, rfl, rfl, hsum, hbel, hall⟩ := hrel
      have HALL := Lib.hid hall
      clear hall
      by_cases hlt : k < acts.length
      · obtain ⟨b, off, rfl, hc⟩ := HV.out (by omega)
        have c1 := cell_kept (hbel.mono (by omega) : Below _ w wr) (hc k hlt).2.1
        have c2 := cell_kept (hbel.mono (by omega) : Below _ w wr) (hc k hlt).2.2.1
        have hm := HS.out acts[k] (List.getElem_mem hlt)
        unfold maxLen at hm
        have HBEL := Lib.hid hbel
        clear hc hbel
        generalize hkk : acts[k].key = kk at c1 hm
        generalize hvv : acts[k].val = vv at c2 hm
        have HK := Lib.hid hkk
        have HW := Lib.hid hvv
        clear hkk hvv
        obtain ⟨hm1, hm2⟩ := hm
        by_cases g1 : 20000 < kk.size
        · go_wp2_with fail
          go_ret
          exact ⟨⟨true, rfl, fun h => by cases h⟩, HBEL.out⟩
        · by_cases g2 : 20000 < vv.size
          · go_wp2_with fail
            go_ret
            exact ⟨⟨true, rfl, fun h => by cases h⟩, HBEL.out⟩
          · have k0 : (0 : Int) ≤ (k : Int) := by omega
            have k1 : (k : Int) < (acts.length : Int) := by omega
            have a1 : IntKind.i64.wrap ((s : Int) + (kk.size : Int)) = (s : Int) + kk.size := IntWalk.i64_in _ (by omega)
            have a2 : IntKind.i64.wrap ((s : Int) + (kk.size : Int) + (vv.size : Int)) = (s : Int) + kk.size + vv.size := IntWalk.i64_in _ (by omega)
            go_wp2_with fail
            go_quiet (fail)
            clear a1 a2
            go_wp2_with fail
            go_roundw
            case rel =>
              refine ⟨k + 1, s + kk.size + vv.size, by omega, by go_num, by simp, by omega, below_drewN HBEL.out _, fun j hj hjk => ?_⟩
              by_cases he : j = k
              · subst he; rw [HK.out, HW.out]; omega
              · exact HALL.out j hj (by omega)
            case measure => simp [intOf]; omega
      · have hkk : k = acts.length := by omega
        have HKK := Lib.hid hkk
        have HBEL := Lib.hid hbel
        clear hkk hbel
        go_wp2_with fail
        go_ret
        refine ⟨⟨_, rfl, fun _ => ⟨by omega, fun a ha => ?_⟩⟩, HBEL.out⟩
        obtain ⟨j, hj, rfl⟩ := List.getElem_of_mem ha
        exact HALL.out j hj (by rw [HKK.out]; exact hj)
end Go.Proofs.Try.SkS
