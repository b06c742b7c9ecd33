/- A memory: Range, Newest, Bytes. -/
import Derived.Test.YtkikjbcmdlghnaaDoorKr
import Derived.Test.YtkikjbcmdlghnaaDoorSeg
set_option linter.unusedVariables false
set_option linter.unusedSimpArgs false
set_option maxRecDepth 100000
namespace Go.Proofs.Tryd.Skm
open Go.RowKit Go.Cph Go.Cph.Skip Go.Cph.Skm Go.Cph.Ok Go.Proofs.Tryd.Ok
abbrev TPtr : TypeId := 43
abbrev TStr : TypeId := 9
abbrev TSl : TypeId := 40
theorem infoE : (Tryd.prog.info? TE).map (fun i => (i.zero, i.size, i.bytes)) = some (some (.agg #[.string ByteArray.empty, .string ByteArray.empty, .int .u64 0, .bool false]), 4, 48) := by kernel_rfl
theorem encE_len (e : Et) : (encE e).length = 4 := rfl
theorem encE_one (p : Et) : ∀ u ∈ encE p, u.oneCell' = true := by
  intro u hu
  simp only [encE, List.mem_cons, List.not_mem_nil, or_false] at hu
  rcases hu with rfl | rfl | rfl | rfl <;> rfl
abbrev EntsAt (w : World) (v : Value) (l : List Et) : Prop := Elems encE 4 w v l

/-! ### plainly -/
theorem bl_ext : ∀ X T : Bs, Op.bytesLess (X ++ T) X = false
  | [], T => by cases T <;> rfl
  | a :: X, T => by
    have h := bl_ext X T
    simp [Op.bytesLess, h]
theorem pl_from (y : Et) (k : ByteArray) : klt (pl y) (ofBs (Cph.Ok.bytes ⟨true, k, 0⟩)) = klt y.1 k := by
  have e1 : (pl y).toList = Cph.Ok.bytes ⟨true, y.1, 0⟩ ++ be 8 (18446744073709551615 - y.2.2.1.toNat) := by unfold pl; rw [toList_of]; rfl
  have e2 : (ofBs (Cph.Ok.bytes ⟨true, k, 0⟩)).toList = Cph.Ok.bytes ⟨true, k, 0⟩ ++ [] := by rw [toList_of, List.append_nil]
  unfold klt
  rw [e1, e2]
  cases h1 : Op.bytesLess y.1.toList k.toList
  · cases h2 : Op.bytesLess k.toList y.1.toList
    · have e : y.1 = k := klt_total h1 h2
      rw [e, List.append_nil]
      exact bl_ext _ _
    · have h3 : Apart (Cph.Ok.bytes ⟨true, k, 0⟩) (Cph.Ok.bytes ⟨true, y.1, 0⟩) := ahead_apart (a := ⟨true, k, 0⟩) (b := ⟨true, y.1, 0⟩) (show bless k y.1 = true from by unfold bless; rw [← ByteArray.toList_eq, ← ByteArray.toList_eq]; exact h2)
      exact bl_asymm (h3.app [] _).less
  · have h3 : Apart (Cph.Ok.bytes ⟨true, y.1, 0⟩) (Cph.Ok.bytes ⟨true, k, 0⟩) := ahead_apart (a := ⟨true, y.1, 0⟩) (b := ⟨true, k, 0⟩) (show bless y.1 k = true from by unfold bless; rw [← ByteArray.toList_eq, ← ByteArray.toList_eq]; exact h1)
    exact (h3.app _ []).less
/-- Does a key lie below an end (none: an empty one)? -/
def below (k to_ : ByteArray) : Bool := decide (to_.size = 0) || klt k to_
def inR (from_ to_ k : ByteArray) : Bool := !klt k from_ && below k to_
/-- All entries of some keys, in their order. -/
structure RangeIs (es : List Et) (from_ to_ : ByteArray) (l : List Et) : Prop where
  sorted : l.Pairwise fun a b => klt (pl a) (pl b) = true
  mem : ∀ x, x ∈ l ↔ x ∈ es ∧ inR from_ to_ x.1 = true
theorem kv_es {nodes : List (Nd Et)} {es : List Et} (hes : nodes.map (·.val) = es) (hk : ∀ x ∈ nodes, x.key = pl x.val) : ∀ y, y ∈ kv nodes ↔ y.1 = pl y.2 ∧ y.2 ∈ es := by
  subst hes
  intro y
  constructor
  · intro h
    obtain ⟨z, hz, rfl⟩ := List.mem_map.1 h
    exact ⟨hk z hz, List.mem_map.2 ⟨z, hz, rfl⟩⟩
  · rintro ⟨h1, h2⟩
    obtain ⟨z, hz, h3⟩ := List.mem_map.1 h2
    refine List.mem_map.2 ⟨z, hz, ?_⟩
    have := hk z hz
    rw [h3, ← h1] at this
    rw [this, h3]
theorem Told.sorted {l : List KV} {key : ByteArray} {xs : List KV} (h : Told l key xs) : xs.Pairwise fun x y => klt x.1 y.1 = true := by
  induction h with
  | nil => exact .nil
  | @snoc pre x h1 h2 ih =>
    refine List.pairwise_append.2 ⟨ih, by simp, fun a ha b hb => ?_⟩
    rw [List.mem_singleton.1 hb]
    exact (h1.under a ha).2 _ h2.ok
theorem Told.ge {l : List KV} {key : ByteArray} {xs : List KV} (h : Told l key xs) : ∀ x ∈ xs, klt x.1 key = false := by
  have hup : ∀ {pre : List KV}, Told l key pre → ∀ z, bound key pre z = true → klt z key = false := by
    intro pre hp
    induction hp with
    | nil => intro z hz; simpa [bound_nil] using hz
    | @snoc pre x h1 h2 ih =>
      intro z hz
      rw [bound_snoc] at hz
      have := ih _ h2.ok
      cases hk : klt z key with
      | false => rfl
      | true => rw [klt_trans hz hk] at this; cases this
  induction h with
  | nil => simp
  | @snoc pre x h1 h2 ih =>
    intro y hy
    rcases List.mem_append.1 hy with hy | hy
    · exact ih y hy
    · rw [List.mem_singleton.1 hy]; exact hup h1 _ h2.ok
/-- What Range has when it ends. -/
theorem range_done {nodes : List (Nd Et)} {nx : Nat → Nat → Nat} {es : List Et} (hln : Linked nodes nx) (hes : nodes.map (·.val) = es) (hk : ∀ x ∈ nodes, x.key = pl x.val) {from_ to_ : ByteArray} {pre : List KV}
    (h : Told (kv nodes) (ofBs (Cph.Ok.bytes ⟨true, from_, 0⟩)) pre) (hto : ∀ x ∈ pre, below x.2.1 to_ = true)
    (hd : Done (kv nodes) (ofBs (Cph.Ok.bytes ⟨true, from_, 0⟩)) pre ∨ ∃ x, Comes (kv nodes) (ofBs (Cph.Ok.bytes ⟨true, from_, 0⟩)) pre x ∧ below x.2.1 to_ = false) : RangeIs es from_ to_ (pre.map (·.2)) := by
  have hkv := kv_es hes hk
  have hp : ∀ x ∈ pre, x.1 = pl x.2 ∧ x.2 ∈ es := fun x hx => (hkv x).1 (h.mem x hx)
  refine ⟨?_, fun x => ⟨fun hx => ?_, fun ⟨hx, hr⟩ => ?_⟩⟩
  · rw [List.pairwise_map]
    refine h.sorted.imp_of_mem fun {a b} ha hb hab => ?_
    rw [← (hp a ha).1, ← (hp b hb).1]; exact hab
  · obtain ⟨y, hy, rfl⟩ := List.mem_map.1 hx
    refine ⟨(hp y hy).2, ?_⟩
    have h1 := h.ge y hy
    rw [(hp y hy).1, pl_from] at h1
    unfold inR
    rw [h1, hto y hy]; rfl
  · unfold inR at hr
    rw [Bool.and_eq_true, Bool.not_eq_true'] at hr
    have hy : ((pl x, x) : KV) ∈ kv nodes := (hkv (pl x, x)).2 ⟨rfl, hx⟩
    have hin : ((pl x, x) : KV) ∈ kv nodes → bound (ofBs (Cph.Ok.bytes ⟨true, from_, 0⟩)) pre (pl x) = true ∨ ((pl x, x) : KV) ∈ pre := by
      intro _
      have hall : ∀ {q : List KV}, Told (kv nodes) (ofBs (Cph.Ok.bytes ⟨true, from_, 0⟩)) q → bound (ofBs (Cph.Ok.bytes ⟨true, from_, 0⟩)) q (pl x) = true ∨ ((pl x, x) : KV) ∈ q := by
        intro q hq
        induction hq with
        | nil => left; rw [bound_nil, pl_from, hr.1]; rfl
        | @snoc q z h1 h2 ih =>
          rcases ih with hb | hb
          · rw [bound_snoc]
            cases hkk : klt z.1 (pl x) with
            | true => exact .inl rfl
            | false =>
              have := kv_uniq hln _ hy _ h2.mem (klt_total (h2.least _ hy hb) hkk)
              exact .inr (by simp [this])
          · exact .inr (List.mem_append_left _ hb)
      exact hall h
    rcases hin hy with hb | hb
    · rcases hd with hd | ⟨z, hz, hzt⟩
      · have := hd _ hy
        simp only at this
        rw [hb] at this; cases this
      · exfalso
        have hle := hz.least _ hy hb
        have hz2 := (hkv z).1 hz.mem
        simp only at hle
        rw [hz2.1, pl_pl, Bool.or_eq_false_iff] at hle
        unfold below at hzt hr
        rw [Bool.or_eq_false_iff] at hzt
        rw [hzt.1, Bool.false_or] at hr
        have : klt z.2.1 to_ = true := klt_of_le_lt hle.1 hr.2
        rw [this] at hzt; cases hzt.2
    · exact List.mem_map.2 ⟨_, hb, rfl⟩
end Go.Proofs.Tryd.Skm
