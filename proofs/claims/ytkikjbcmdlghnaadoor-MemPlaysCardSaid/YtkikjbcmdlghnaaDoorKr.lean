/- What a skip list tells, said of its keys and values alone. -/
import Derived.Test.YtkikjbcmdlghnaaDoorKf
import Derived.Test.YtkikjbcmdlghnaaDoorKo
open Go.RowKit Go.Cph Go.Cph.Skip Go.Cph.Skm
set_option linter.unusedVariables false
set_option linter.unusedSimpArgs false
namespace Go.Proofs.Tryd.Skm

theorem wp_rangeFunc_break {α : Type} {P : Program} {g : Operand} {ps : Array Tmp} {assign body : Code} {id : Nat} {Q : Exit → Act → World → Prop} {a : Act} {w : World}
    {gf : Nat} {lb : Array Value} (hg : a.eval g = .func (.func gf) #[] lb) (eg : ∀ args w, (callFunc gf args).run P w = .ok (.enter gf args) w)
    {encs : α → Array Value} {LIST : List α → World → Prop} {NEXT : List α → α → Prop} {DONE : List α → Prop} (hseq : SeqTells P gf lb encs LIST NEXT DONE) (hps : ∀ x, (encs x).size = ps.size)
    (I Ib : List α → World → Prop) (hI : ∀ s A B, I s A → Kept w.heap.size A B → I s B) (hIb : ∀ s A B, Ib s A → Kept w.heap.size A B → Ib s B)
    (hIL : ∀ s W, I s W → LIST s W) (h0 : I [] w) (a₁ : α → Act)
    (hassign : ∀ (l : Nat) (x : α) (W : World) (K : Act → World → Prop), K (a₁ x) W →
      assign.wpIn (Fence.wide.inRound l) 5 P (Exit.then K (fun _ _ _ => False)) { tmps := (ps.zip (encs x)).foldl (fun t (p, v) => t.setIfInBounds p v) a.tmps, defers := [] } W)
    (hbody : ∀ (l : Nat) (pre : List α) (x : α) (W : World), I pre W → NEXT pre x →
      body.wpIn (Fence.wide.inRound l) 5 P (ownPostG w.heap.size (fun _ _ => True) I (fun c pre W => c = .exit id ∧ Ib pre W) (pre ++ [x]) W) (a₁ x) W)
    (hafter : ∀ (D : Nat) (xs : List α) (W : World), w.heap.size ≤ D → (DONE xs ∧ I xs W ∨ Ib xs W) → W.heap[D]? = some (.deferred (some [])) → Q .normal { a with defers := { target := .collected D, args := #[] } :: a.defers } W) :
    (Code.rangeFunc g ps assign body).wp P (Exit.inBlock id Q) a w :=
  wp_rangeFunc_tells hg eg hseq hps I (fun c pre W => c = .exit id ∧ Ib pre W) hI (fun c s A B h hk => ⟨h.1, hIb s A B h.2 hk⟩) hIL h0 a₁ hassign hbody
    (fun D xs W hD hd hi hk => hafter D xs W hD (.inl ⟨hd, hi⟩) hk)
    (fun D c pre W hD ⟨hc, hb⟩ hk => by
      subst hc
      refine wp_exit ?_
      simp only [Exit.inBlock, if_pos]
      exact hafter D pre W hD (.inr hb) hk)

theorem length_le_of_sub {α : Type} : ∀ {l m : List α}, l.Nodup → (∀ x ∈ l, x ∈ m) → l.length ≤ m.length
  | [], _, _, _ => by simp
  | x :: l, m, hn, hs => by
    have hn' := List.nodup_cons.1 hn
    obtain ⟨m1, m2, rfl⟩ := List.append_of_mem (hs x (by simp))
    have := length_le_of_sub (m := m1 ++ m2) hn'.2 fun y hy => by
      have h1 := hs y (List.mem_cons_of_mem _ hy)
      have hne : y ≠ x := fun e => hn'.1 (e ▸ hy)
      simp only [List.mem_append, List.mem_cons] at h1 ⊢
      rcases h1 with h | h | h
      · exact .inl h
      · exact absurd h hne
      · exact .inr h
    simp only [List.length_cons, List.length_append] at this ⊢
    omega
def Uniq (l : List KV) : Prop := ∀ x ∈ l, ∀ y ∈ l, x.1 = y.1 → x = y
theorem kv_uniq {nodes : List (Nd Et)} {nx : Nat → Nat → Nat} (hln : Linked nodes nx) : Uniq (kv nodes) := by
  intro x hx y hy e
  obtain ⟨a, ha, rfl⟩ := List.mem_map.1 hx
  obtain ⟨b, hb, rfl⟩ := List.mem_map.1 hy
  obtain ⟨i, hi, rfl⟩ := List.getElem_of_mem ha
  obtain ⟨j, hj, rfl⟩ := List.getElem_of_mem hb
  obtain rfl := hln.keys i j hi hj e
  rfl
theorem kv_nodup {nodes : List (Nd Et)} {nx : Nat → Nat → Nat} (hln : Linked nodes nx) : (kv nodes).Nodup := by
  rw [List.nodup_iff_pairwise_ne, List.pairwise_iff_getElem]
  intro i j hi hj hij e
  have hj' : j < nodes.length := by simpa [kv] using hj
  have hi' : i < nodes.length := by omega
  simp only [kv, List.getElem_map, Prod.mk.injEq] at e
  have := hln.keys i j hi' hj' e.1
  omega

/-! ### what is gone over -/
inductive Told (l : List KV) (key : ByteArray) : List KV → Prop
  | nil : Told l key []
  | snoc {pre : List KV} {x : KV} (h : Told l key pre) (hx : NextKV (fun _ => l) key pre x) : Told l key (pre ++ [x])
abbrev Done (l : List KV) (key : ByteArray) (xs : List KV) : Prop := DoneKV (fun _ => l) key xs
abbrev Comes (l : List KV) (key : ByteArray) (pre : List KV) (x : KV) : Prop := NextKV (fun _ => l) key pre x
theorem Comes.one {l : List KV} {key : ByteArray} {pre : List KV} {x y : KV} (hu : Uniq l) (h : Comes l key pre x) (h' : Comes l key pre y) : x = y :=
  hu _ h.mem _ h'.mem (klt_total (h'.least _ h.mem h.ok) (h.least _ h'.mem h'.ok))
theorem Told.last {l : List KV} {key : ByteArray} {pre : List KV} {x : KV} (h : Told l key (pre ++ [x])) : Told l key pre ∧ Comes l key pre x := by
  generalize hq : pre ++ [x] = q at h
  cases h with
  | nil => simp at hq
  | snoc h1 h2 =>
    obtain ⟨rfl, h3⟩ := List.append_inj' hq rfl
    cases h3
    exact ⟨h1, h2⟩
theorem Told.cut {l : List KV} {key : ByteArray} : ∀ (t : List KV) {pre : List KV}, Told l key (pre ++ t) → Told l key pre := by
  intro t pre
  generalize hn : t.length = n
  induction n generalizing t with
  | zero => obtain rfl := List.eq_nil_of_length_eq_zero hn; intro h; simpa using h
  | succ n ih =>
    intro h
    rcases List.eq_nil_or_concat t with rfl | ⟨t', x, rfl⟩
    · simp at hn
    · rw [List.concat_eq_append] at h hn
      rw [← List.append_assoc] at h
      exact ih t' (by simpa using hn) h.last.1
theorem Told.next {l : List KV} {key : ByteArray} {pre t : List KV} {x : KV} (h : Told l key (pre ++ x :: t)) : Comes l key pre x := by
  rw [show pre ++ x :: t = (pre ++ [x]) ++ t by simp] at h
  exact (h.cut t).last.2
theorem Told.prefix {l : List KV} {key : ByteArray} {pre xs : List KV} (hu : Uniq l) (h : Told l key pre) (hx : Told l key xs) (hd : Done l key xs) : pre <+: xs := by
  induction h with
  | nil => exact List.nil_prefix
  | snoc h1 h2 ih =>
    obtain ⟨t, ht⟩ := ih
    cases t with
    | nil =>
      simp only [List.append_nil] at ht
      subst ht
      have := hd _ h2.mem
      rw [h2.ok] at this
      cases this
    | cons y t =>
      subst ht
      obtain rfl := Comes.one hu h2 hx.next
      exact ⟨t, by simp⟩
theorem Told.same {l : List KV} {key : ByteArray} {xs ys : List KV} (hu : Uniq l) (h : Told l key xs) (hd : Done l key xs) (h' : Told l key ys) (hd' : Done l key ys) : xs = ys :=
  List.IsPrefix.eq_of_length_le (h.prefix hu h' hd') (h'.prefix hu h hd).length_le
theorem Told.mem {l : List KV} {key : ByteArray} {xs : List KV} (h : Told l key xs) : ∀ y ∈ xs, y ∈ l := by
  induction h with
  | nil => simp
  | snoc h1 h2 ih =>
    intro y hy
    rcases List.mem_append.1 hy with hy | hy
    · exact ih y hy
    · rw [List.mem_singleton.1 hy]; exact h2.mem
theorem Told.all {l : List KV} {key : ByteArray} {xs : List KV} (hu : Uniq l) (h : Told l key xs) (h0 : ∀ y ∈ l, bound key [] y.1 = true) : ∀ y ∈ l, bound key xs y.1 = true ∨ y ∈ xs := by
  induction h with
  | nil => exact fun y hy => .inl (h0 y hy)
  | @snoc pre x h1 h2 ih =>
    intro y hy
    rcases ih y hy with hb | hb
    · rw [bound_snoc]
      cases hk : klt x.1 y.1 with
      | true => exact .inl rfl
      | false =>
        have := hu _ hy _ h2.mem (klt_total (h2.least _ hy hb) hk)
        exact .inr (by simp [this])
    · exact .inr (List.mem_append_left _ hb)
theorem Told.under {l : List KV} {key : ByteArray} {xs : List KV} (h : Told l key xs) : ∀ y ∈ xs, bound key xs y.1 = false ∧ ∀ z, bound key xs z = true → klt y.1 z = true := by
  induction h with
  | nil => simp
  | @snoc pre x h1 h2 ih =>
    intro y hy
    rw [bound_snoc]
    rcases List.mem_append.1 hy with hy | hy
    · have hyx := (ih y hy).2 _ h2.ok
      exact ⟨klt_asymm hyx, fun z hz => klt_trans hyx (by rw [bound_snoc] at hz; exact hz)⟩
    · rw [List.mem_singleton.1 hy]; exact ⟨klt_irrefl _, fun z hz => by rw [bound_snoc] at hz; exact hz⟩
theorem Told.nodup {l : List KV} {key : ByteArray} {xs : List KV} (h : Told l key xs) : xs.Nodup := by
  induction h with
  | nil => exact List.nodup_nil
  | @snoc pre x h1 h2 ih =>
    rw [List.nodup_append]
    refine ⟨ih, by simp, fun a ha b hb e => ?_⟩
    rw [List.mem_singleton.1 hb] at e
    subst e
    have := (h1.under a ha).1
    rw [h2.ok] at this
    cases this
theorem Told.length_le {l : List KV} {key : ByteArray} {xs : List KV} (h : Told l key xs) : xs.length ≤ l.length := length_le_of_sub h.nodup h.mem
end Go.Proofs.Tryd.Skm
