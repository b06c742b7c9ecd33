/- made: a list behind acts. -/
import Derived.Test.YthcakgnendnekaaSkH
open Go.RowKit Go.Cph Go.Cph.Skip
set_option linter.unusedVariables false
set_option linter.unusedSimpArgs false
namespace Go.Proofs.Try.SkS

/-- Keys and their values, in the row in which the keys came. -/
def kv (nodes : List (Nd V)) : List (ByteArray × V) := nodes.map fun x => (x.key, x.val)
def putKV (l : List (ByteArray × V)) (k : ByteArray) (x : V) : List (ByteArray × V) :=
  if l.any (fun e => decide (e.1 = k)) then l.map (fun e => if e.1 = k then (k, x) else e) else l ++ [(k, x)]
def kvStep (l : List (ByteArray × V)) (a : Ac) : List (ByteArray × V) := if a.what = 0 then putKV l a.key a.val else l
def kvTo (acts : List Ac) (k : Nat) : List (ByteArray × V) := (acts.take k).foldl kvStep []
theorem kvTo_succ (acts : List Ac) (k : Nat) (hk : k < acts.length) : kvTo acts (k + 1) = kvStep (kvTo acts k) acts[k] := by
  unfold kvTo
  rw [List.take_succ_eq_append_getElem hk, List.foldl_append]
  rfl
theorem IsSet.kv {nodes nodes' : List (Nd V)} {key : ByteArray} {x : V} {height : Int} {fresh : Bool} (h : IsSet nodes nodes' key x height fresh)
    (hk : ∀ i j (hi : i < nodes.length) (hj : j < nodes.length), nodes[i].key = nodes[j].key → i = j) : SkS.kv nodes' = putKV (SkS.kv nodes) key x := by
  rcases h.how with ⟨i, hi, he, _, rfl⟩ | ⟨hno, _, nd, rfl, e1, e2, _⟩
  · have hany : (SkS.kv nodes).any (fun e => decide (e.1 = key)) = true := by
      rw [List.any_eq_true]
      exact ⟨(nodes[i].key, nodes[i].val), List.mem_map.2 ⟨_, List.getElem_mem hi, rfl⟩, by simpa using he⟩
    unfold putKV
    rw [if_pos hany]
    apply List.ext_getElem (by simp [SkS.kv, setVal_length])
    intro j h1 h2
    have hj : j < nodes.length := by simpa [SkS.kv, setVal_length] using h1
    simp only [SkS.kv, List.getElem_map]
    rw [setVal_at nodes i x j hj]
    by_cases hij : i = j
    · subst hij; simp [he]
    · rw [if_neg hij, if_neg]
      intro e
      exact hij (hk i j hi hj (he.trans e.symm))
  · have hany : (SkS.kv nodes).any (fun e => decide (e.1 = key)) = false := by
      rw [List.any_eq_false]
      intro e he
      obtain ⟨y, hy, rfl⟩ := List.mem_map.1 he
      simpa using hno y hy
    unfold putKV
    rw [hany]
    simp [SkS.kv, e1, e2]
theorem IsSet.len {nodes nodes' : List (Nd V)} {key : ByteArray} {x : V} {height : Int} {fresh : Bool} (h : IsSet nodes nodes' key x height fresh) : nodes'.length ≤ nodes.length + 1 := by
  rcases h.how with ⟨i, hi, he, _, rfl⟩ | ⟨hno, _, nd, rfl, e1, e2, _⟩
  · rw [setVal_length]; omega
  · simp

structure MadePost (acts : List Ac) (w : World) (e : Ending) (w' : World) : Prop where
  out : ∃ p nx nodes v, e = .returned (ptr p) ∧ IsAt w' p nx nodes v ∧ Linked nodes nx ∧ kv nodes = kvTo acts acts.length ∧ nodes.length ≤ acts.length ∧ ∀ j, foot p v nodes j → w.heap.size ≤ j
  bel : Below w.heap.size w w'

set_option maxHeartbeats 1000000 in
theorem made (v0 : Value) (acts : List Ac) (more : Int) (w : World) (hv : ActsAt w v0 acts) (hn : acts.length ≤ 120) :
    Calls Try.prog 11 #[v0, .int .i64 more] w (MadePost acts w) := by
  obtain ⟨ao, cap, rfl, hv⟩ := hv
  have HV := Lib.hid hv
  clear hv
  go_enter Try.func11, Try.ntmps11
  go_wp2_with fail
  refine (cNew w).mono ?_
  rintro e w1 ⟨rfl, hat, hb⟩
  have HAT := Lib.hid hat
  have HB := Lib.hid hb
  have hpl : w.heap.size < w1.heap.size := blk_lt hat.head
  clear hat hb
  go_wp2_with fail
  go_loopw [6] (fun i wr => ∃ (k : Nat) (nx : Nat → Nat → Nat) (nodes : List (Nd V)) (v : Value), k ≤ acts.length ∧ i = .int .i64 k ∧ IsAt wr w.heap.size nx nodes v ∧ Linked nodes nx ∧ kv nodes = kvTo acts k ∧ nodes.length ≤ k ∧
      Below w.heap.size w wr ∧ ∀ j, foot w.heap.size v nodes j → w.heap.size ≤ j)
    (fun i _ => acts.length - (intOf i).toNat)
  case atStart =>
    refine ⟨0, _, [], _, by omega, rfl, HAT.out, linkedNil, rfl, by simp, HB.out, ?_⟩
    rintro j (h | h | ⟨y, hy, _⟩)
    · omega
    · simp [Value.ownBlock] at h
    · simp at hy
  case round =>
    obtain ⟨k, nx, nodes, v, hk, rfl, hat, hln, hkv, hlen, hbel, hft⟩ := hrel
    have HA := Lib.hid hat
    have HL := Lib.hid hln
    have HKV := Lib.hid hkv
    have HBEL := Lib.hid hbel
    have HF := Lib.hid hft
    clear hat hln hkv hbel hft
    by_cases hlt : k < acts.length
    · obtain ⟨b, off, rfl, hc⟩ := HV.out (by omega)
      have c0 := cell_kept HBEL.out (hc k hlt).1
      have c1 := cell_kept HBEL.out (hc k hlt).2.1
      have c2 := cell_kept HBEL.out (hc k hlt).2.2.1
      have c3 := cell_kept HBEL.out (hc k hlt).2.2.2
      have HST := Lib.hid (kvTo_succ acts k hlt)
      clear hc
      have k0 : (0 : Int) ≤ (k : Int) := by omega
      have k1 : (k : Int) < (acts.length : Int) := by omega
      generalize hac : acts[k] = ac at *
      obtain ⟨what, key, val, height⟩ := ac
      by_cases h0 : what = 0
      · subst h0
        have hset := fun hh => cSet key val hh wr.drew (HA.out.kept (Below.refl _ _).drew) HL.out (by omega)
        go_wp2_with fail
        go_still_tail 21, (by kernel_rfl)
        change wpList _ _ _ _ _ wr.drew
        go_wp2_with (go_at_call 16; refine (hset _).mono ?_; rintro e w6 ⟨nx', nodes', v', fresh, rfl, hat', hln', htc, hft', his⟩)
        have HA' := Lib.hid hat'
        have HL' := Lib.hid hln'
        have HT' := Lib.hid (show Below w.heap.size wr w6 from ((Below.refl _ _).drew).trans (htc.below (B := w.heap.size) HBEL.out.size HF.out))
        have HF' := Lib.hid hft'
        have HIS := Lib.hid his
        clear hat' hln' htc hft' his hset
        go_wp2_with fail
        go_roundw
        case rel =>
          refine ⟨k + 1, nx', nodes', v', by omega, by go_num, HA'.out, HL'.out, ?_, by have := HIS.out.len; omega, HBEL.out.trans HT'.out, fun j hj => ?_⟩
          · rw [HST.out, HIS.out.kv HL.out.keys, HKV.out]; simp [kvStep]
          · rcases HF'.out j hj with h | h
            · exact HF.out j h
            · have := HBEL.out.size
              exact Nat.le_trans this h
        case measure => simp [intOf]; omega
      · have hz : (what == 0) = false := by simpa using h0
        have HST2 := Lib.hid (show kvStep (kvTo acts k) ⟨what, key, val, height⟩ = kvTo acts k by simp [kvStep, h0])
        go_wp2_with fail
        go_roundw
        case rel => exact ⟨k + 1, nx, nodes, v, by omega, by go_num, HA.out, HL.out, by rw [HST.out, HST2.out]; exact HKV.out, by omega, HBEL.out, HF.out⟩
        case measure => simp [intOf]; omega
    · have hkk : k = acts.length := by omega
      have HKK := Lib.hid hkk
      clear hkk
      go_wp2_with fail
      go_ret
      exact ⟨⟨_, nx, nodes, v, rfl, HA.out, HL.out, by rw [← HKK.out]; exact HKV.out, by omega, HF.out⟩, HBEL.out⟩
end Go.Proofs.Try.SkS
