/- What a skip list tells, said of its keys and values alone. -/
import Derived.Test.YthcakgnendnekaaSkF
import Derived.Test.YthcakgnendnekaaSkM
open Go.RowKit Go.Cph Go.Cph.Skip
set_option linter.unusedVariables false
set_option linter.unusedSimpArgs false
namespace Go.Proofs.Try.SkS

def Uniq (l : List KV) : Prop := ∀ x ∈ l, ∀ y ∈ l, x.1 = y.1 → x = y
theorem kv_uniq {nodes : List (Nd V)} {nx : Nat → Nat → Nat} (hln : Linked nodes nx) : Uniq (kv nodes) := by
  intro x hx y hy e
  obtain ⟨a, ha, rfl⟩ := List.mem_map.1 hx
  obtain ⟨b, hb, rfl⟩ := List.mem_map.1 hy
  obtain ⟨i, hi, rfl⟩ := List.getElem_of_mem ha
  obtain ⟨j, hj, rfl⟩ := List.getElem_of_mem hb
  obtain rfl := hln.keys i j hi hj e
  rfl
theorem kv_nodup {nodes : List (Nd V)} {nx : Nat → Nat → Nat} (hln : Linked nodes nx) : (kv nodes).Nodup := by
  rw [List.nodup_iff_pairwise_ne, List.pairwise_iff_getElem]
  intro i j hi hj hij e
  have hj' : j < nodes.length := by simpa [kv] using hj
  have hi' : i < nodes.length := by omega
  simp only [kv, List.getElem_map, Prod.mk.injEq] at e
  have := hln.keys i j hi' hj' e.1
  omega

/-- What is told of the least key that may come; or that none does. -/
def TellKV (l : List KV) (may : ByteArray → Bool) (k : ByteArray) (x : V) (ok : Bool) : Prop :=
  (ok = false ∧ k = ByteArray.empty ∧ x = zeroV ∧ ∀ y ∈ l, may y.1 = false) ∨ (ok = true ∧ (k, x) ∈ l ∧ may k = true ∧ ∀ y ∈ l, may y.1 = true → klt y.1 k = false)
theorem TellKV.one {l : List KV} {may : ByteArray → Bool} {k k' : ByteArray} {x x' : V} {ok ok' : Bool} (hu : Uniq l) (h : TellKV l may k x ok) (h' : TellKV l may k' x' ok') : k = k' ∧ x = x' ∧ ok = ok' := by
  rcases h with ⟨rfl, rfl, rfl, h⟩ | ⟨rfl, h1, h2, h3⟩ <;> rcases h' with ⟨rfl, rfl, rfl, h'⟩ | ⟨rfl, h1', h2', h3'⟩
  · exact ⟨rfl, rfl, rfl⟩
  · have := h _ h1'; simp only at this; rw [h2'] at this; cases this
  · have := h' _ h1; simp only at this; rw [h2] at this; cases this
  · have := hu _ h1 _ h1' (klt_total (h3' _ h1 h2) (h3 _ h1' h2'))
    cases this
    exact ⟨rfl, rfl, rfl⟩
theorem seek_kv {nodes : List (Nd V)} {key k : ByteArray} {n : Nat} {x : V} {ok : Bool} (h : Seek nodes key n) (t : Tells nodes n k x ok) : TellKV (kv nodes) (fun z => !klt z key) k x ok := by
  rcases h with ⟨rfl, h⟩ | ⟨i, hi, rfl, h1, h2⟩ <;> rcases t with ⟨e, rfl, rfl, rfl⟩ | ⟨j, hj, e, rfl, rfl, rfl⟩
  · refine .inl ⟨rfl, rfl, rfl, fun y hy => ?_⟩
    obtain ⟨z, hz, rfl⟩ := List.mem_map.1 hy
    simp [h z hz]
  · omega
  · omega
  · obtain rfl : i = j := by omega
    refine .inr ⟨rfl, List.mem_map.2 ⟨_, List.getElem_mem hi, rfl⟩, by simp [h1], fun y hy hm => ?_⟩
    obtain ⟨z, hz, rfl⟩ := List.mem_map.1 hy
    exact h2 z hz (by simpa using hm)
theorem after_kv {nodes : List (Nd V)} {nx : Nat → Nat → Nat} (hln : Linked nodes nx) {key k : ByteArray} {n : Nat} {x : V} {ok : Bool} (h : Nxt nodes 0 (some key) n) (t : Tells nodes n k x ok) : TellKV (kv nodes) (klt key) k x ok := by
  rcases h with ⟨rfl, h⟩ | ⟨i, hi, rfl, _, h1, h2⟩ <;> rcases t with ⟨e, rfl, rfl, rfl⟩ | ⟨j, hj, e, rfl, rfl, rfl⟩
  · refine .inl ⟨rfl, rfl, rfl, fun y hy => ?_⟩
    obtain ⟨z, hz, rfl⟩ := List.mem_map.1 hy
    exact h z hz (hln.hts z hz).1
  · omega
  · omega
  · obtain rfl : i = j := by omega
    refine .inr ⟨rfl, List.mem_map.2 ⟨_, List.getElem_mem hi, rfl⟩, h1, fun y hy hm => ?_⟩
    obtain ⟨z, hz, rfl⟩ := List.mem_map.1 hy
    exact h2 z hz (hln.hts z hz).1 hm
theorem get_kv {nodes : List (Nd V)} {key k : ByteArray} {n : Nat} {x : V} {ok : Bool} (h : Has nodes key n) (t : Tells nodes n k x ok) : TellKV (kv nodes) (fun z => decide (z = key)) k x ok := by
  rcases h with ⟨rfl, h⟩ | ⟨i, hi, rfl, h1⟩ <;> rcases t with ⟨e, rfl, rfl, rfl⟩ | ⟨j, hj, e, rfl, rfl, rfl⟩
  · refine .inl ⟨rfl, rfl, rfl, fun y hy => ?_⟩
    obtain ⟨z, hz, rfl⟩ := List.mem_map.1 hy
    simpa using h z hz
  · omega
  · omega
  · obtain rfl : i = j := by omega
    refine .inr ⟨rfl, List.mem_map.2 ⟨_, List.getElem_mem hi, rfl⟩, by simpa using h1, fun y hy hm => ?_⟩
    rw [decide_eq_true_eq] at hm
    rw [hm, h1]
    exact klt_irrefl _

/-! ### what is gone over -/
inductive Told (l : List KV) (key : ByteArray) : List KV → Prop
  | nil : Told l key []
  | snoc {pre : List KV} {x : KV} (h : Told l key pre) (hx : NextKV (fun _ => l) key pre x) : Told l key (pre ++ [x])
abbrev Done (l : List KV) (key : ByteArray) (xs : List KV) : Prop := DoneKV (fun _ => l) key xs
abbrev Comes (l : List KV) (key : ByteArray) (pre : List KV) (x : KV) : Prop := NextKV (fun _ => l) key pre x
theorem Comes.one {l : List KV} {key : ByteArray} {pre : List KV} {x y : KV} (hu : Uniq l) (h : Comes l key pre x) (h' : Comes l key pre y) : x = y :=
  hu _ h.mem _ h'.mem (klt_total (h'.least _ h.mem h.ok) (h.least _ h'.mem h'.ok))
theorem Told.last {l : List KV} {key : ByteArray} {pre : List KV} {x : KV} (h : Told l key (pre ++ [x])) : Told l key pre ∧ Comes l key pre x := by
  generalize hq : pre ++ [x] = q at h
  cases h with
  | nil => simp at hq
  | snoc h1 h2 =>
    obtain ⟨rfl, h3⟩ := List.append_inj' hq rfl
    cases h3
    exact ⟨h1, h2⟩
theorem Told.cut {l : List KV} {key : ByteArray} : ∀ (t : List KV) {pre : List KV}, Told l key (pre ++ t) → Told l key pre := by
  intro t pre
  generalize hn : t.length = n
  induction n generalizing t with
  | zero => obtain rfl := List.eq_nil_of_length_eq_zero hn; intro h; simpa using h
  | succ n ih =>
    intro h
    rcases List.eq_nil_or_concat t with rfl | ⟨t', x, rfl⟩
    · simp at hn
    · rw [List.concat_eq_append] at h hn
      rw [← List.append_assoc] at h
      exact ih t' (by simpa using hn) h.last.1
theorem Told.next {l : List KV} {key : ByteArray} {pre t : List KV} {x : KV} (h : Told l key (pre ++ x :: t)) : Comes l key pre x := by
  rw [show pre ++ x :: t = (pre ++ [x]) ++ t by simp] at h
  exact (h.cut t).last.2
theorem Told.prefix {l : List KV} {key : ByteArray} {pre xs : List KV} (hu : Uniq l) (h : Told l key pre) (hx : Told l key xs) (hd : Done l key xs) : pre <+: xs := by
  induction h with
  | nil => exact List.nil_prefix
  | snoc h1 h2 ih =>
    obtain ⟨t, ht⟩ := ih
    cases t with
    | nil =>
      simp only [List.append_nil] at ht
      subst ht
      have := hd _ h2.mem
      rw [h2.ok] at this
      cases this
    | cons y t =>
      subst ht
      obtain rfl := Comes.one hu h2 hx.next
      exact ⟨t, by simp⟩
theorem Told.same {l : List KV} {key : ByteArray} {xs ys : List KV} (hu : Uniq l) (h : Told l key xs) (hd : Done l key xs) (h' : Told l key ys) (hd' : Done l key ys) : xs = ys :=
  List.IsPrefix.eq_of_length_le (h.prefix hu h' hd') (h'.prefix hu h hd).length_le
theorem Told.mem {l : List KV} {key : ByteArray} {xs : List KV} (h : Told l key xs) : ∀ y ∈ xs, y ∈ l := by
  induction h with
  | nil => simp
  | snoc h1 h2 ih =>
    intro y hy
    rcases List.mem_append.1 hy with hy | hy
    · exact ih y hy
    · rw [List.mem_singleton.1 hy]; exact h2.mem
theorem Told.all {l : List KV} {key : ByteArray} {xs : List KV} (hu : Uniq l) (h : Told l key xs) (h0 : ∀ y ∈ l, bound key [] y.1 = true) : ∀ y ∈ l, bound key xs y.1 = true ∨ y ∈ xs := by
  induction h with
  | nil => exact fun y hy => .inl (h0 y hy)
  | @snoc pre x h1 h2 ih =>
    intro y hy
    rcases ih y hy with hb | hb
    · rw [bound_snoc]
      cases hk : klt x.1 y.1 with
      | true => exact .inl rfl
      | false =>
        have := hu _ hy _ h2.mem (klt_total (h2.least _ hy hb) hk)
        exact .inr (by simp [this])
    · exact .inr (List.mem_append_left _ hb)
theorem Told.under {l : List KV} {key : ByteArray} {xs : List KV} (h : Told l key xs) : ∀ y ∈ xs, bound key xs y.1 = false ∧ ∀ z, bound key xs z = true → klt y.1 z = true := by
  induction h with
  | nil => simp
  | @snoc pre x h1 h2 ih =>
    intro y hy
    rw [bound_snoc]
    rcases List.mem_append.1 hy with hy | hy
    · have hyx := (ih y hy).2 _ h2.ok
      exact ⟨klt_asymm hyx, fun z hz => klt_trans hyx (by rw [bound_snoc] at hz; exact hz)⟩
    · rw [List.mem_singleton.1 hy]; exact ⟨klt_irrefl _, fun z hz => by rw [bound_snoc] at hz; exact hz⟩
theorem Told.nodup {l : List KV} {key : ByteArray} {xs : List KV} (h : Told l key xs) : xs.Nodup := by
  induction h with
  | nil => exact List.nodup_nil
  | @snoc pre x h1 h2 ih =>
    rw [List.nodup_append]
    refine ⟨ih, by simp, fun a ha b hb e => ?_⟩
    rw [List.mem_singleton.1 hb] at e
    subst e
    have := (h1.under a ha).1
    rw [h2.ok] at this
    cases this
theorem klt_empty (z : ByteArray) : klt z ByteArray.empty = false := by
  have : ByteArray.empty.toList = [] := by decide +kernel
  unfold klt
  rw [this]
  cases z.toList <;> rfl
theorem bound_empty (z : ByteArray) : bound ByteArray.empty [] z = true := by rw [bound_nil, klt_empty]; rfl
theorem Told.length {l : List KV} {xs : List KV} (hu : Uniq l) (hn : l.Nodup) (h : Told l ByteArray.empty xs) (hd : Done l ByteArray.empty xs) : xs.length = l.length := by
  refine Nat.le_antisymm (length_le_of_sub h.nodup h.mem) (length_le_of_sub hn fun y hy => ?_)
  rcases h.all hu (fun y _ => bound_empty _) y hy with hb | hb
  · have := hd y hy; rw [hb] at this; cases this
  · exact hb
theorem Told.length_le {l : List KV} {key : ByteArray} {xs : List KV} (h : Told l key xs) : xs.length ≤ l.length := length_le_of_sub h.nodup h.mem
end Go.Proofs.Try.SkS
