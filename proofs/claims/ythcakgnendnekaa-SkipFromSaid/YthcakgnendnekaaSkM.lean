/- SkipRows: plain laws. -/
import Derived.Test.YthcakgnendnekaaSkL
open Go.RowKit Go.Cph Go.Cph.Skip
set_option linter.unusedVariables false
set_option linter.unusedSimpArgs false
namespace Go.Proofs.Try.SkS

theorem length_le_of_sub {α : Type} : ∀ {l m : List α}, l.Nodup → (∀ x ∈ l, x ∈ m) → l.length ≤ m.length
  | [], _, _, _ => by simp
  | x :: l, m, hn, hs => by
    have hn' := List.nodup_cons.1 hn
    obtain ⟨m1, m2, rfl⟩ := List.append_of_mem (hs x (by simp))
    have := length_le_of_sub (m := m1 ++ m2) hn'.2 fun y hy => by
      have h1 := hs y (List.mem_cons_of_mem _ hy)
      have hne : y ≠ x := fun e => hn'.1 (e ▸ hy)
      simp only [List.mem_append, List.mem_cons] at h1 ⊢
      rcases h1 with h | h | h
      · exact .inl h
      · exact absurd h hne
      · exact .inr h
    simp only [List.length_cons, List.length_append] at this ⊢
    omega
theorem nodes_nodup {nodes : List (Nd V)} (h : ∀ i j (hi : i < nodes.length) (hj : j < nodes.length), nodes[i].key = nodes[j].key → i = j) : nodes.Nodup := by
  rw [List.nodup_iff_pairwise_ne, List.pairwise_iff_getElem]
  intro i j hi hj hij e
  have := h i j hi hj (by rw [e])
  omega
theorem sorted_nodup {xs : List (Nd V)} (h : xs.Pairwise fun x y => klt x.key y.key = true) : xs.Nodup := by
  rw [List.nodup_iff_pairwise_ne]
  refine h.imp fun {a b} hab e => ?_
  rw [e, klt_irrefl] at hab
  exact absurd hab (by simp)
theorem chain_length {nodes xs : List (Nd V)} {nx : Nat → Nat → Nat} (hln : Linked nodes nx) (hc : Chain nodes 0 (fun _ => true) xs) : xs.length = nodes.length :=
  Nat.le_antisymm (length_le_of_sub (sorted_nodup hc.sorted) fun x hx => (hc.mem x hx).1)
    (length_le_of_sub (nodes_nodup hln.keys) fun x hx => hc.all x hx (by have := (hln.hts x hx).1; omega) rfl)
theorem chain_ext {nodes xs ys : List (Nd V)} {l : Nat} {ge : ByteArray → Bool} (h : Chain nodes l ge xs) (k : Chain nodes l ge ys) : xs = ys :=
  sorted_ext h.sorted k.sorted fun x => ⟨fun hx => by obtain ⟨a, b, c⟩ := h.mem x hx; exact k.all x a b c, fun hx => by obtain ⟨a, b, c⟩ := k.mem x hx; exact h.all x a b c⟩
theorem chain_filter {nodes xs ys : List (Nd V)} {l : Nat} {nx : Nat → Nat → Nat} (hln : Linked nodes nx) (h : Chain nodes 0 (fun _ => true) xs) (k : Chain nodes l (fun _ => true) ys) : ys = xs.filter fun x => decide (l < x.ht) := by
  refine sorted_ext k.sorted (h.sorted.filter _) fun x => ?_
  rw [List.mem_filter]
  constructor
  · intro hx
    obtain ⟨a, b, _⟩ := k.mem x hx
    exact ⟨h.all x a (by have := (hln.hts x a).1; omega) rfl, by simpa using b⟩
  · rintro ⟨hx, hl⟩
    exact k.all x (h.mem x hx).1 (by simpa using hl) rfl
theorem filter_at {α : Type} (p : α → Bool) : ∀ (xs : List α) (i : Nat) (h : i < xs.length), p xs[i] = true → (xs.filter p)[((xs.take i).filter p).length]? = some xs[i]
  | x :: xs, 0, _, hp => by simp at hp; simp [hp]
  | x :: xs, i + 1, h, hp => by
    have ih := filter_at p xs i (by simpa using h) (by simpa using hp)
    by_cases hx : p x = true
    · simp only [List.take_succ_cons, List.filter_cons_of_pos hx, List.length_cons, List.getElem?_cons_succ]
      simpa using ih
    · simp only [List.take_succ_cons, List.filter_cons_of_neg hx]
      simpa using ih
/-- How many of the first ones reach above a level. -/
def upTo (xs : List (Nd V)) (l i : Nat) : Nat := ((xs.take i).filter fun x => decide (l < x.ht)).length
theorem upTo_succ_pos (xs : List (Nd V)) (l i : Nat) (h : i < xs.length) (hp : l < xs[i].ht) : upTo xs l (i + 1) = upTo xs l i + 1 := by
  unfold upTo
  rw [List.take_succ_eq_append_getElem h, List.filter_append]
  simp [hp]
theorem upTo_succ_neg (xs : List (Nd V)) (l i : Nat) (h : i < xs.length) (hp : ¬ l < xs[i].ht) : upTo xs l (i + 1) = upTo xs l i := by
  unfold upTo
  rw [List.take_succ_eq_append_getElem h, List.filter_append]
  simp [hp]

/-! ### what was set last -/
def look (l : List (ByteArray × V)) (k : ByteArray) : Option V := (l.find? fun e => decide (e.1 = k)).map (·.2)
theorem look_put_same (l : List (ByteArray × V)) (k : ByteArray) (x : V) : look (putKV l k x) k = some x := by
  unfold putKV look
  split
  · rename_i h
    induction l with
    | nil => simp at h
    | cons e l ih =>
      by_cases he : e.1 = k
      · simp [he]
      · simp only [List.map_cons, if_neg he]
        rw [List.find?_cons_of_neg (by simpa using he)]
        exact ih (by simpa [he] using h)
  · rename_i h
    rw [List.find?_append]
    have : l.find? (fun e => decide (e.1 = k)) = none := by
      rw [List.find?_eq_none]
      intro e he hk
      exact h (List.any_eq_true.2 ⟨e, he, hk⟩)
    rw [this]
    simp
theorem look_put_other (l : List (ByteArray × V)) (k k' : ByteArray) (x : V) (hne : k ≠ k') : look (putKV l k x) k' = look l k' := by
  unfold putKV look
  split
  · rename_i hh
    clear hh
    congr 1
    induction l with
    | nil => rfl
    | cons e l ih =>
      simp only [List.map_cons]
      by_cases he : e.1 = k
      · rw [if_pos he, List.find?_cons_of_neg (by simpa using hne), List.find?_cons_of_neg (by simpa [he] using hne)]
        exact ih
      · rw [if_neg he]
        by_cases he' : e.1 = k'
        · rw [List.find?_cons_of_pos (by simpa using he'), List.find?_cons_of_pos (by simpa using he')]
        · rw [List.find?_cons_of_neg (by simpa using he'), List.find?_cons_of_neg (by simpa using he')]
          exact ih
  · rw [List.find?_append]
    cases h : l.find? (fun e => decide (e.1 = k')) with
    | some e => simp
    | none => simp [hne]
theorem look_last (acts : List Ac) (n last : Nat) (hl : last < n) (hn : n ≤ acts.length) (key : ByteArray) (hk : (acts[last]'(by omega)).key = key) (hw : (acts[last]'(by omega)).what = 0)
    (hno : ∀ m (h : m < acts.length), last < m → m < n → ¬ (acts[m].what = 0 ∧ acts[m].key = key)) : look (kvTo acts n) key = some (acts[last]'(by omega)).val := by
  induction n with
  | zero => omega
  | succ n ih =>
    rw [kvTo_succ acts n (by omega)]
    by_cases he : last = n
    · subst he
      unfold kvStep
      rw [if_pos hw, hk]
      exact look_put_same _ _ _
    · have h1 := ih (by omega) (by omega) hk hw fun m h a b => hno m h a (by omega)
      have h2 := hno n (by omega) (by omega) (by omega)
      unfold kvStep
      split
      · rename_i h0
        rw [look_put_other _ _ _ _ fun e => h2 ⟨h0, e⟩]; exact h1
      · exact h1
theorem look_get {nodes : List (Nd V)} {key k : ByteArray} {n : Nat} {x z : V} {ok : Bool} (h : look (kv nodes) key = some z) (hk : ∀ i j (hi : i < nodes.length) (hj : j < nodes.length), nodes[i].key = nodes[j].key → i = j)
    (h1 : Has nodes key n) (t : Tells nodes n k x ok) : ok = true ∧ x = z := by
  unfold look at h
  obtain ⟨e, he, rfl⟩ := Option.map_eq_some_iff.1 h
  have hm := List.mem_of_find?_eq_some he
  have hp := List.find?_some he
  obtain ⟨y, hy, rfl⟩ := List.mem_map.1 hm
  have hp : y.key = key := by simpa using hp
  obtain ⟨i, hi, rfl⟩ := List.getElem_of_mem hy
  rcases h1 with ⟨_, h1⟩ | ⟨j, hj, rfl, h1⟩
  · exact absurd hp (h1 _ hy)
  · obtain rfl := hk i j hi hj (hp.trans h1.symm)
    rcases t with ⟨e, _⟩ | ⟨j', hj', e, _, rfl, rfl⟩
    · omega
    · obtain rfl : i = j' := by omega
      exact ⟨rfl, rfl⟩
end Go.Proofs.Try.SkS
