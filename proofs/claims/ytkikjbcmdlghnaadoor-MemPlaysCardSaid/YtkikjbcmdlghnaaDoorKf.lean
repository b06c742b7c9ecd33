/- A skip list: From: an iterator that tells what the list holds at each round. -/
import Derived.Test.YtkikjbcmdlghnaaDoorKg
import Derived.Test.YtkikjbcmdlghnaaDoorSeq
open Go.RowKit Go.Cph Go.Cph.Skip Go.Cph.Skm
set_option linter.unusedVariables false
set_option linter.unusedSimpArgs false
namespace Go.Proofs.Tryd.Skm

abbrev KV := ByteArray × Et
def kv (nodes : List (Nd Et)) : List KV := nodes.map fun x => (x.key, x.val)
/-- What may come behind pre: from a key on, or above the key told last. -/
def bound (key : ByteArray) (pre : List KV) (z : ByteArray) : Bool := match pre.getLast? with | none => !klt z key | some e => klt e.1 z
structure NextKV (st : List KV → List KV) (key : ByteArray) (pre : List KV) (x : KV) : Prop where
  mem : x ∈ st pre
  ok : bound key pre x.1 = true
  least : ∀ y ∈ st pre, bound key pre y.1 = true → klt y.1 x.1 = false
def DoneKV (st : List KV → List KV) (key : ByteArray) (pre : List KV) : Prop := ∀ y ∈ st pre, bound key pre y.1 = false
theorem bound_nil (key z : ByteArray) : bound key [] z = !klt z key := rfl
theorem bound_snoc (key : ByteArray) (pre : List KV) (x : KV) (z : ByteArray) : bound key (pre ++ [x]) z = klt x.1 z := by simp [bound]
theorem bound_up {key : ByteArray} {pre : List KV} {a b : ByteArray} (h : bound key pre a = true) (k : klt a b = true) : bound key pre b = true := by
  unfold bound at *
  cases hp : pre.getLast? with
  | none =>
    rw [hp] at h
    simp only [Bool.not_eq_true'] at h ⊢
    cases hb : klt b key with
    | false => rfl
    | true => rw [klt_trans k hb] at h; cases h
  | some e => rw [hp] at h; exact klt_trans h k
theorem countP_lt {α : Type} {p q : α → Bool} : ∀ {l : List α} (_ : ∀ x, p x = true → q x = true) (_ : ∃ x ∈ l, q x = true ∧ p x = false), l.countP p < l.countP q
  | [], _, ⟨x, hx, _⟩ => by simp at hx
  | y :: l, hpq, ⟨x, hx, h1, h2⟩ => by
    have hle : l.countP p ≤ l.countP q := List.countP_mono_left fun z _ => hpq z
    rcases List.mem_cons.1 hx with rfl | hx
    · rw [List.countP_cons_of_pos h1, List.countP_cons_of_neg (by simp [h2])]
      omega
    · have ih := countP_lt (l := l) hpq ⟨x, hx, h1, h2⟩
      by_cases hp : p y = true
      · rw [List.countP_cons_of_pos hp, List.countP_cons_of_pos (hpq y hp)]; omega
      · rw [List.countP_cons_of_neg hp]
        by_cases hq : q y = true
        · rw [List.countP_cons_of_pos hq]; omega
        · rw [List.countP_cons_of_neg hq]; exact ih

/-- The node that comes next, as a number. -/
def AtNo (st : List KV → List KV) (key : ByteArray) (pre : List KV) (i : Nat) : Prop :=
  (i = 0 ∧ DoneKV st key pre) ∨ (∃ j, i = j + 1 ∧ ∃ x, (st pre)[j]? = some x ∧ NextKV st key pre x)
theorem kv_at {nodes : List (Nd Et)} {l : List KV} (h : kv nodes = l) {j : Nat} {x : KV} (hj : l[j]? = some x) : ∃ hj : j < nodes.length, nodes[j].key = x.1 ∧ nodes[j].val = x.2 := by
  subst h
  obtain ⟨h1, h2⟩ := List.getElem?_eq_some_iff.1 hj
  have h1' : j < nodes.length := by simpa [kv] using h1
  refine ⟨h1', ?_⟩
  rw [← h2]
  simp [kv]
theorem at_seek {st : List KV → List KV} {key : ByteArray} {nodes : List (Nd Et)} (h : kv nodes = st []) {n : Nat} (hs : Seek nodes key n) : AtNo st key [] n := by
  rcases hs with ⟨rfl, h0⟩ | ⟨i, hi, rfl, h1, h2⟩
  · refine .inl ⟨rfl, fun y hy => ?_⟩
    rw [← h] at hy
    obtain ⟨z, hz, rfl⟩ := List.mem_map.1 hy
    simp [bound_nil, h0 z hz]
  · refine .inr ⟨i, rfl, (nodes[i].key, nodes[i].val), ?_, ?_, ?_, fun y hy hb => ?_⟩
    · rw [← h]; simp [kv, hi]
    · rw [← h]; exact List.mem_map.2 ⟨_, List.getElem_mem hi, rfl⟩
    · simp [bound_nil, h1]
    · rw [← h] at hy
      obtain ⟨z, hz, rfl⟩ := List.mem_map.1 hy
      exact h2 z hz (by simpa [bound_nil] using hb)
theorem at_next {st : List KV → List KV} {key : ByteArray} {nodes : List (Nd Et)} {nx : Nat → Nat → Nat} (hln : Linked nodes nx) {pre : List KV} {x : KV} (h : kv nodes = st (pre ++ [x])) {n : Nat} (hs : Nxt nodes 0 (some x.1) n) : AtNo st key (pre ++ [x]) n := by
  rcases hs with ⟨rfl, h0⟩ | ⟨i, hi, rfl, _, h1, h2⟩
  · refine .inl ⟨rfl, fun y hy => ?_⟩
    rw [← h] at hy
    obtain ⟨z, hz, rfl⟩ := List.mem_map.1 hy
    rw [bound_snoc]
    exact h0 z hz (hln.hts z hz).1
  · refine .inr ⟨i, rfl, (nodes[i].key, nodes[i].val), ?_, ?_, ?_, fun y hy hb => ?_⟩
    · rw [← h]; simp [kv, hi]
    · rw [← h]; exact List.mem_map.2 ⟨_, List.getElem_mem hi, rfl⟩
    · rw [bound_snoc]; exact h1
    · rw [← h] at hy
      obtain ⟨z, hz, rfl⟩ := List.mem_map.1 hy
      rw [bound_snoc] at hb
      exact h2 z hz (hln.hts z hz).1 hb

/-- Where the iterator's list lies: its boxes, its blocks; what it holds. -/
def ListAt (st : List KV → List KV) (key : ByteArray) (bl bk p : Nat) (pre : List KV) (W : World) : Prop :=
  W.cell? ⟨bl, 0, none⟩ = some (ptr p) ∧ W.cell? ⟨bk, 0, none⟩ = some (.string key) ∧ ∃ nx nodes v, IsAt W p nx nodes v ∧ Linked nodes nx ∧ kv nodes = st pre
abbrev encKV (x : KV) : Array Value := #[.string x.1, encV x.2]

set_option maxRecDepth 100000 in
set_option maxHeartbeats 4000000 in
theorem from_tells (st : List KV → List KV) (key : ByteArray) (bl bk p : Nat) (all : List ByteArray) (hall : ∀ pre, ∀ y ∈ st pre, y.1 ∈ all)
    (hst : ∀ pre x, NextKV st key pre x → (st pre).map (·.1) <+: (st (pre ++ [x])).map (·.1)) :
    SeqTells Tryd.prog 43 #[.pointer (some ⟨bl, 0, none⟩), .pointer (some ⟨bk, 0, none⟩)] encKV (ListAt st key bl bk p) (NextKV st key) (DoneKV st key) := by
  intro l J Jx W hJL hJ hJx hY h0
  have HJL := Lib.hid hJL
  have HJ := Lib.hid hJ
  have HJX := Lib.hid hJx
  have HY := Lib.hid hY
  obtain ⟨c1, c2, nx, nodes, v, hat, hln, hkv⟩ := hJL _ _ h0
  have hseek := seek key W hat hln
  have H0 := Lib.hid h0
  have HKV := Lib.hid hkv
  clear hJL hJ hJx hY h0 hat hln hkv
  refine (callsIn_wide (n := 6)).1 (callsIn_of_wp Tryd.func43 rfl trivial ?_ rfl)
  simp only [Tryd.ntmps43, List.size_toArray, List.length_cons, List.length_nil, Nat.reduceAdd, Nat.reduceSub, Array.replicate_succ, Array.replicate_zero, List.push_toArray, List.append_toArray, List.nil_append, List.cons_append]
  gi_wp2_with (refine ⟨trivial, ?_⟩; gi_at_call 42; refine (callsIn_wide.2 hseek).mono ?_; rintro e w1 ⟨⟨n, rfl, hs⟩, hb⟩)
  have HS := Lib.hid (at_seek (st := st) HKV.out hs)
  have HJ1 := Lib.hid (HJ.out _ _ _ H0.out hb)
  clear hs hb hseek c1 c2
  gi_loopg [4] (all.countP (bound key [])) (fun k n wr => ∃ (pre : List KV) (i : Nat), n = .int .i64 i ∧ J pre wr ∧ AtNo st key pre i ∧ k = all.countP (bound key pre))
  case atStart => exact ⟨[], n, rfl, HJ1.out, HS.out, rfl⟩
  case round =>
    obtain ⟨pre, i, rfl, hj, hat, rfl⟩ := hrel
    rcases hat with ⟨rfl, hd⟩ | ⟨j, rfl, x, hx, hnx⟩
    · have HD := Lib.hid hd
      have HJP := Lib.hid hj
      clear hd hj
      gi_wp2
      go_end0
      exact ⟨⟨_, rfl⟩, .inl ⟨pre, HD.out, HJP.out⟩⟩
    · obtain ⟨c1, c2, nx, nodes, v, hat, hln, hkv⟩ := HJL.out _ _ hj
      obtain ⟨hjn, hk, hv⟩ := kv_at hkv hx
      have hcr := hat.rowCell
      obtain ⟨g, cap, rfl, hcap⟩ := hat.shape (by omega)
      have hm := hat.len
      unfold maxLen at hm
      have hck : wr.cell? ⟨g, j * 6, none⟩ = some (.string nodes[j].key) := hat.nodeCell j hjn 0 (by omega)
      have hcv : wr.cell? ⟨g, j * 6 + 1, none⟩ = some (.string nodes[j].val.1) := hat.nodeCell j hjn 1 (by omega)
      have hcv2 : wr.cell? ⟨g, j * 6 + 2, none⟩ = some (.string nodes[j].val.2.1) := hat.nodeCell j hjn 2 (by omega)
      have hcv3 : wr.cell? ⟨g, j * 6 + 3, none⟩ = some (.int .u64 (nodes[j].val.2.2.1.toNat : Int)) := hat.nodeCell j hjn 3 (by omega)
      have hcv4 : wr.cell? ⟨g, j * 6 + 4, none⟩ = some (.bool nodes[j].val.2.2.2) := hat.nodeCell j hjn 4 (by omega)
      rw [hk] at hck
      rw [hv] at hcv hcv2 hcv3 hcv4
      obtain ⟨fn, tmps, assign, body, hy, hR⟩ := HY.out pre x wr.drew (HJ.out _ _ _ hj (Below.refl _ _).drew) hnx
      have HX := Lib.hid hx
      have HNX := Lib.hid hnx
      obtain ⟨kk, vv⟩ := x
      dsimp only [encKV] at hy hck hcv hcv2 hcv3 hcv4
      have e1 : IntKind.i64.wrap ((j : Int) + 1 - 1) = j := by rw [IntKind.wrap_i64]; omega
      have e2 : wrap64 (j : Int) = j := by unfold wrap64; omega
      have e3 : IntKind.i64.wrap (j : Int) = j := by rw [IntKind.wrap_i64]; omega
      clear hx hnx hk hv hat hln hkv hj
      generalize nodes.length = m at *
      gi_wp2
      apply wpIn_meet (fun (b : Bool) W' => (b = true → J (pre ++ [(kk, vv)]) W') ∧ (b = false → Jx (pre ++ [(kk, vv)]) W'))
      · gi_region_with (refine hR.mono ?_; rintro e w3 ⟨b, rfl, hb1, hb2⟩)
        all_goals exact ⟨b, rfl, hb1, hb2⟩
      · clear hR hy c1 c2 hcr hck hcv hcv2 hcv3 hcv4
        rintro b w3 ⟨hb1, hb2⟩
        cases b with
        | false =>
          have HJ3 := Lib.hid (hb2 rfl)
          clear hb1 hb2
          gi_wp2
          refine bodyPost_ret (results_none rfl _ _ _) rfl ?_
          exact ⟨⟨_, rfl⟩, .inr ⟨_, HJ3.out⟩⟩
        | true =>
          have HJ3 := Lib.hid (hb1 rfl)
          obtain ⟨c1, c2, nx, nodes, v, hat, hln, hkv⟩ := HJL.out _ _ HJ3.out
          obtain ⟨t, ht⟩ := hst pre _ HNX.out
          have hx' : ∃ y, (st (pre ++ [(kk, vv)]))[j]? = some y ∧ y.1 = kk := by
            have e4 : ((st pre).map (·.1))[j]? = some kk := by rw [List.getElem?_map, HX.out]; rfl
            have e5 : ((st (pre ++ [(kk, vv)])).map (·.1))[j]? = some kk := by
              rw [← ht, List.getElem?_append_left (List.getElem?_eq_some_iff.1 e4).1, e4]
            rw [List.getElem?_map] at e5
            cases hq : (st (pre ++ [(kk, vv)]))[j]? with
            | none => rw [hq] at e5; cases e5
            | some y => rw [hq] at e5; exact ⟨y, rfl, by simpa using e5⟩
          obtain ⟨y, hy1, hy2⟩ := hx'
          obtain ⟨hjn', hk', _⟩ := kv_at hkv hy1
          have hon : On nodes 0 (j + 1) := .inr ⟨j, hjn', rfl, by have := (hln.hts _ (List.getElem_mem hjn')).1; omega⟩
          have hlk := hln.links 0 (j + 1) (by omega) hon
          rw [keyNo_succ nodes j hjn', hk', hy2] at hlk
          have HNO := Lib.hid (at_next (st := st) (key := key) (x := (kk, vv)) hln hkv hlk)
          have hnext : Calls Tryd.prog 40 #[ptr p, .int .i64 ((j : Int) + 1), .int .i64 0] w3 _ := next (j + 1) 0 w3 hat hon (by omega)
          clear hb1 hb2 hat hln hkv ht hy1 hy2 hk' hlk hon c2
          gi_wp2_with (refine ⟨trivial, ?_⟩; gi_at_call 40; refine (callsIn_wide.2 hnext).mono ?_; rintro e w4 ⟨rfl, rfl⟩)
          gi_roundg (all.countP (bound key (pre ++ [(kk, vv)])))
          case rel => exact ⟨pre ++ [(kk, vv)], nx (j + 1) 0, rfl, HJ3.out, HNO.out, rfl⟩
          case measure =>
            refine countP_lt (fun z hz => ?_) ⟨kk, hall _ _ HNX.out.mem, HNX.out.ok, by rw [bound_snoc]; exact klt_irrefl _⟩
            rw [bound_snoc] at hz
            exact bound_up HNX.out.ok hz
/-- From's two boxes. -/
structure Boxes (v : Value) (key : ByteArray) (w w' : World) : Prop where
  list : w'.cell? ⟨w.heap.size, 0, none⟩ = some v
  key : w'.cell? ⟨w.heap.size + 1, 0, none⟩ = some (.string key)
  size : w'.heap.size = w.heap.size + 2
  bel : Below w.heap.size w w'
abbrev fromV (n : Nat) : Value := .func (.func 43) #[] #[.pointer (some ⟨n, 0, none⟩), .pointer (some ⟨n + 1, 0, none⟩)]
theorem cFrom (ao : Option Addr) (key : ByteArray) (w : World) :
    Calls Tryd.prog 30 #[.pointer ao, .string key] w fun e w' => e = .returned (fromV w.heap.size) ∧ Boxes (.pointer ao) key w w' := by
  go_enter Tryd.func30, Tryd.ntmps30
  go_wp2_with fail
  go_ret
  refine ⟨by simp, ?_, ?_, by simp, ((Below.refl _ _).alloc (Nat.le_refl _) _).alloc (by simp) _⟩
  · rw [blk_cell (blk_alloc (heap_alloc_new _ _) _)]; rfl
  · have := heap_alloc_new (w.alloc (.cells #[.pointer ao] 43)) (.cells #[.string key] 9)
    rw [World.size_alloc] at this
    rw [blk_cell this]; rfl
end Go.Proofs.Tryd.Skm
