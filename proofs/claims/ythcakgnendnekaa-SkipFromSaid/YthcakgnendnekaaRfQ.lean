/- SkipPlays: a list (or none), asked: what it tells is what the document's items tell. -/
import Derived.Test.YthcakgnendnekaaRfL
open Go.RowKit Go.Cph Go.Cph.Skip
set_option linter.unusedVariables false
set_option linter.unusedSimpArgs false
namespace Go.Proofs.Try.SkS

theorem sorted_ext_key {α : Type} (key : α → ByteArray) : ∀ {xs ys : List α}, (xs.Pairwise fun x y => klt (key x) (key y) = true) → (ys.Pairwise fun x y => klt (key x) (key y) = true) → (∀ x, x ∈ xs ↔ x ∈ ys) → xs = ys
  | [], [], _, _, _ => rfl
  | [], y :: ys, _, _, h => absurd ((h y).2 (by simp)) (by simp)
  | x :: xs, [], _, _, h => absurd ((h x).1 (by simp)) (by simp)
  | x :: xs, y :: ys, hx, hy, h => by
    have hx' := List.pairwise_cons.1 hx
    have hy' := List.pairwise_cons.1 hy
    have e : x = y := by
      rcases List.mem_cons.1 ((h x).1 (by simp)) with h1 | h1
      · exact h1
      · rcases List.mem_cons.1 ((h y).2 (by simp)) with h2 | h2
        · exact h2.symm
        · have a := hy'.1 x h1
          have b := hx'.1 y h2
          rw [klt_asymm a] at b; exact absurd b (by simp)
    subst e
    rw [sorted_ext_key key hx'.2 hy'.2 fun z => ?_]
    constructor
    · intro hz
      rcases List.mem_cons.1 ((h z).1 (List.mem_cons_of_mem _ hz)) with rfl | h1
      · have := hx'.1 z hz; rw [klt_irrefl] at this; exact absurd this (by simp)
      · exact h1
    · intro hz
      rcases List.mem_cons.1 ((h z).2 (List.mem_cons_of_mem _ hz)) with rfl | h1
      · have := hy'.1 z hz; rw [klt_irrefl] at this; exact absurd this (by simp)
      · exact h1

theorem uniqIt_mem {l : List It} (hu : UniqIt l) {x y : It} (hx : x ∈ l) (hy : y ∈ l) (e : x.1 = y.1) : x = y := by
  obtain ⟨i, hi, rfl⟩ := List.getElem_of_mem hx
  obtain ⟨j, hj, rfl⟩ := List.getElem_of_mem hy
  obtain rfl := hu i j hi hj e
  rfl
theorem kvIt_uniq {l : List It} (hu : UniqIt l) : Uniq (kvIt l) := by
  intro x hx y hy e
  obtain ⟨a, ha, rfl⟩ := List.mem_map.1 hx
  obtain ⟨b, hb, rfl⟩ := List.mem_map.1 hy
  obtain rfl := uniqIt_mem hu ha hb e
  rfl
theorem goes_all {l pre : List It} (hu : UniqIt l) (hg : Goes l pre) (hd : Done (kvIt l) ByteArray.empty (kvIt pre)) (z : It) : z ∈ pre ↔ z ∈ l := by
  refine ⟨hg.mem z, fun hz => ?_⟩
  have hk : (z.1, z.2.1) ∈ kvIt l := List.mem_map.2 ⟨z, hz, rfl⟩
  rcases hg.told.all (kvIt_uniq hu) (fun y _ => bound_empty _) _ hk with hb | hb
  · have := hd _ hk; rw [hb] at this; cases this
  · obtain ⟨y, hy, e⟩ := List.mem_map.1 hb
    simp only [Prod.mk.injEq] at e
    rw [← uniqIt_mem hu (hg.mem y hy) hz e.1]
    exact hy
theorem told_sorted {l : List KV} {key : ByteArray} {xs : List KV} (h : Told l key xs) : xs.Pairwise fun x y => klt x.1 y.1 = true := by
  induction h with
  | nil => exact List.Pairwise.nil
  | snoc h1 h2 ih => exact List.pairwise_append.2 ⟨ih, by simp, fun a ha b hb => by rw [List.mem_singleton.1 hb]; exact (h1.under a ha).2 _ h2.ok⟩
theorem goes_sorted {l pre : List It} (hg : Goes l pre) : pre.Pairwise fun x y => klt x.1 y.1 = true := by
  have := told_sorted hg.told
  unfold kvIt at this
  rw [List.pairwise_map] at this
  exact this
theorem its_uniq {nodes : List (Nd V)} {nx : Nat → Nat → Nat} (hln : Linked nodes nx) : UniqIt (its nodes) := by
  intro i j hi hj e
  have hi' : i < nodes.length := by simpa [its] using hi
  have hj' : j < nodes.length := by simpa [its] using hj
  exact hln.keys i j hi' hj' (by simpa [its] using e)
theorem kvIt_its (nodes : List (Nd V)) : kvIt (its nodes) = kv nodes := by simp [kvIt, its, kv]
/-- What a level's row is, of the document's items. -/
theorem chain_rows {nodes xs : List (Nd V)} {nx : Nat → Nat → Nat} (hln : Linked nodes nx) {level : Nat} (hc : Chain nodes level (fun _ => true) xs) {pre : List It} (hg : Goes (its nodes) pre) (hd : Done (kvIt (its nodes)) ByteArray.empty (kvIt pre)) : rowsIt (level : Int) pre = its xs := by
  refine sorted_ext_key (fun x => x.1) (List.Pairwise.filter _ (goes_sorted hg)) ?_ fun z => ?_
  · unfold its
    rw [List.pairwise_map]
    exact hc.sorted
  · unfold rowsIt
    rw [List.mem_filter, goes_all (its_uniq hln) hg hd]
    constructor
    · rintro ⟨h1, h2⟩
      obtain ⟨x, hx, rfl⟩ := List.mem_map.1 h1
      exact List.mem_map.2 ⟨x, hc.all x hx (by simpa using h2) rfl, rfl⟩
    · intro h
      obtain ⟨x, hx, rfl⟩ := List.mem_map.1 h
      obtain ⟨h1, h2, _⟩ := hc.mem x hx
      exact ⟨List.mem_map.2 ⟨x, h1, rfl⟩, by simpa using h2⟩
theorem rows_none {nodes : List (Nd V)} {nx : Nat → Nat → Nat} (hln : Linked nodes nx) {level : Int} (hl : 12 ≤ level) {pre : List It} (hg : Goes (its nodes) pre) : rowsIt level pre = [] := by
  unfold rowsIt
  rw [List.filter_eq_nil_iff]
  intro x hx
  obtain ⟨y, hy, rfl⟩ := List.mem_map.1 (hg.mem x hx)
  have := (hln.hts y hy).2
  simp; omega
theorem rows_zero {nodes : List (Nd V)} {nx : Nat → Nat → Nat} (hln : Linked nodes nx) {pre : List It} (hg : Goes (its nodes) pre) : rowsIt 0 pre = pre := by
  unfold rowsIt
  rw [List.filter_eq_self]
  intro x hx
  obtain ⟨y, hy, rfl⟩ := List.mem_map.1 (hg.mem x hx)
  have := (hln.hts y hy).1
  simp; omega
theorem goes_nil {pre : List It} (hg : Goes [] pre) : pre = [] := by
  cases pre with
  | nil => rfl
  | cons x t => exact absurd (hg.mem x (by simp)) (by simp)

/-- A list that holds items; a nil one has none. -/
def IsList (w : World) (x : Value) (l : List It) : Prop :=
  (x = .pointer none ∧ l = []) ∨ ∃ p nx nodes v, x = ptr p ∧ IsAt w p nx nodes v ∧ Linked nodes nx ∧ its nodes = l ∧ nodes.length ≤ 1000
theorem IsList.kept {w w' : World} {x : Value} {l : List It} (h : IsList w x l) (hb : Below w.heap.size w w') : IsList w' x l := by
  rcases h with h | ⟨p, nx, nodes, v, h1, h2, h3⟩
  · exact .inl h
  · exact .inr ⟨p, nx, nodes, v, h1, h2.kept hb, h3⟩
theorem IsList.uniq {w : World} {x : Value} {l : List It} (h : IsList w x l) : UniqIt l := by
  rcases h with ⟨_, rfl⟩ | ⟨p, nx, nodes, v, _, _, h3, rfl, _⟩
  · intro i j hi; simp at hi
  · exact its_uniq h3
/-- What a level's keys are to be. -/
structure RowKeys (l : List It) (level : Int) (keys : List ByteArray) : Prop where
  neg : level < 0 → keys = []
  pos : 0 ≤ level → ∀ pre, Goes l pre → Done (kvIt l) ByteArray.empty (kvIt pre) → (rowsIt level pre).map (·.1) = keys
  len : keys.length ≤ 1000

theorem qGet {x : Value} {l : List It} (key : ByteArray) (w : World) (h : IsList w x l) :
    Calls Try.prog 14 #[x, .string key] w fun e w' => (∃ k y ok, e = .returned (.tuple #[encV y, .bool ok]) ∧ TellKV (kvIt l) (fun z => decide (z = key)) k y ok) ∧ Below w.heap.size w w' := by
  rcases h with ⟨rfl, rfl⟩ | ⟨p, nx, nodes, v, rfl, h2, h3, rfl, _⟩
  · exact (cGetNil key w).mono fun e w' ⟨he, hw⟩ => ⟨⟨_, _, _, he, .inl ⟨rfl, rfl, rfl, by simp [kvIt]⟩⟩, hw ▸ Below.refl _ _⟩
  · exact (cGet key w h2 h3).mono fun e w' ⟨⟨n, k, y, ok, he, ha, ht⟩, hb⟩ => ⟨⟨k, y, ok, he, by rw [kvIt_its]; exact get_kv ha ht⟩, hb⟩
theorem qSeek {x : Value} {l : List It} (key : ByteArray) (w : World) (h : IsList w x l) :
    Calls Try.prog 12 #[x, .string key] w fun e w' => (∃ k y ok, e = .returned (.tuple #[.string k, encV y, .bool ok]) ∧ TellKV (kvIt l) (fun z => !klt z key) k y ok) ∧ Below w.heap.size w w' := by
  rcases h with ⟨rfl, rfl⟩ | ⟨p, nx, nodes, v, rfl, h2, h3, rfl, _⟩
  · exact (cSeekNil key w).mono fun e w' ⟨he, hw⟩ => ⟨⟨_, _, _, he, .inl ⟨rfl, rfl, rfl, by simp [kvIt]⟩⟩, hw ▸ Below.refl _ _⟩
  · exact (cSeek key w h2 h3).mono fun e w' ⟨⟨n, k, y, ok, he, ha, ht⟩, hb⟩ => ⟨⟨k, y, ok, he, by rw [kvIt_its]; exact seek_kv ha ht⟩, hb⟩
theorem qAfter {x : Value} {l : List It} (key : ByteArray) (w : World) (h : IsList w x l) :
    Calls Try.prog 13 #[x, .string key] w fun e w' => (∃ k y ok, e = .returned (.tuple #[.string k, encV y, .bool ok]) ∧ TellKV (kvIt l) (klt key) k y ok) ∧ Below w.heap.size w w' := by
  rcases h with ⟨rfl, rfl⟩ | ⟨p, nx, nodes, v, rfl, h2, h3, rfl, _⟩
  · exact (cAfterNil key w).mono fun e w' ⟨he, hw⟩ => ⟨⟨_, _, _, he, .inl ⟨rfl, rfl, rfl, by simp [kvIt]⟩⟩, hw ▸ Below.refl _ _⟩
  · exact (cAfter key w h2 h3).mono fun e w' ⟨⟨n, k, y, ok, he, ha, ht⟩, hb⟩ => ⟨⟨k, y, ok, he, by rw [kvIt_its]; exact after_kv h3 ha ht⟩, hb⟩
theorem qLen {x : Value} {l : List It} (w : World) (h : IsList w x l) : Calls Try.prog 20 #[x] w fun e w' => e = .returned (.int .i64 l.length) ∧ w = w' := by
  rcases h with ⟨rfl, rfl⟩ | ⟨p, nx, nodes, v, rfl, h2, h3, rfl, _⟩
  · exact cLenNil w
  · have : (its nodes).length = nodes.length := by simp [its]
    rw [this]; exact cLen w h2
theorem qRow {x : Value} {l : List It} (level : Int) (w : World) (h : IsList w x l) :
    Calls Try.prog 21 #[x, .int .i64 level] w fun e w' => (∃ u keys, e = .returned u ∧ RowKeys l level keys ∧ w'.ownsRow w.heap.size 9 1 u keys.length (strsV keys)) ∧ Below w.heap.size w w' := by
  rcases h with ⟨rfl, rfl⟩ | ⟨p, nx, nodes, v, rfl, h2, h3, rfl, h4⟩
  · exact (cRowNil level w).mono fun e w' ⟨he, hw⟩ => ⟨⟨_, [], he, ⟨fun _ => rfl, fun _ pre hg _ => by rw [goes_nil hg]; rfl, by simp⟩, World.ownsRow_nil _ _ _ _⟩, hw ▸ Below.refl _ _⟩
  · by_cases hl : level < 0 ∨ 12 ≤ level
    · exact (cRowOut level w hl).mono fun e w' ⟨he, hw⟩ => ⟨⟨_, [], he, ⟨fun _ => rfl, fun h0 pre hg _ => by rw [rows_none h3 (by omega) hg]; rfl, by simp⟩, World.ownsRow_nil _ _ _ _⟩, hw ▸ Below.refl _ _⟩
    · obtain ⟨n, rfl⟩ : ∃ n : Nat, level = n := ⟨level.toNat, by omega⟩
      refine (cRow n w h2 h3 (by omega) (by omega)).mono fun e w' ⟨u, xs, he, hc, hx, ho, hb⟩ => ⟨⟨u, xs.map (·.key), he, ⟨fun h => by omega, fun _ pre hg hd => ?_, by simp; omega⟩, ?_⟩, hb⟩
      · rw [chain_rows h3 hc hg hd]; simp [its]
      · rw [List.length_map]
        have : strsV (xs.map (·.key)) = keysV xs := by simp [strsV, keysV]
        rw [this]; exact ho
theorem qTowers {x : Value} {l : List It} (w : World) (h : IsList w x l) (hne : x ≠ .pointer none) :
    Calls Try.prog 22 #[x] w fun e w' => (∃ u xs, e = .returned u ∧ (∀ pre, Goes l pre → Done (kvIt l) ByteArray.empty (kvIt pre) → pre = xs) ∧ w'.ownsRow w.heap.size 3 1 u xs.length (xs.map fun y : It => Value.int .i64 y.2.2)) ∧ Below w.heap.size w w' := by
  rcases h with ⟨rfl, rfl⟩ | ⟨p, nx, nodes, v, rfl, h2, h3, rfl, h4⟩
  · exact absurd rfl hne
  · refine (cTowers w h2 h3 (by omega)).mono fun e w' ⟨u, xs, he, hc, hx, ho, hb⟩ => ⟨⟨u, its xs, he, fun pre hg hd => ?_, ?_⟩, hb⟩
    · rw [← chain_rows h3 hc hg hd]
      exact (rows_zero h3 hg).symm
    · have e1 : (its xs).length = xs.length := by simp [its]
      have e2 : ((its xs).map fun y : It => Value.int .i64 y.2.2) = htsV xs := by simp [its, htsV]
      rw [e1, e2]; exact ho
end Go.Proofs.Try.SkS
