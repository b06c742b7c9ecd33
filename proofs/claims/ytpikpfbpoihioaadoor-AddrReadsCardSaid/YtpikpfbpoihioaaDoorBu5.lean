/- The document reads a text: which words it found, in one form. -/
import Derived.Test.YtpikpfbpoihioaaDoorBu4
import Derived.Test.YtpikpfbpoihioaaDoorAu7
set_option linter.unusedVariables false
set_option linter.unusedSimpArgs false
set_option maxRecDepth 100000
namespace Go.Proofs.Tryd.Tx
open Go.RowKit Go.Cph Go.Cph.Tx
open Go.Cph.Ok (ofBs)
open Go.Cph.Px (Ad rightA bytesA zeroA lessA fromB fromOk)
open Go.Proofs.Tryd.Pfx (encA BsAt encB encB_len infoB encB_one)
open Go.Proofs.Tryd.Rows (boxZR)
theorem four_case {l : Bs} {W : World} {base : Nat} {ao : Option Addr} {n cap : Nat} {ok : Bool} (h : WordsIs (wordsF 10 255 46 [] none l) base W ao n cap ok) (hc : true = (ok && n == 4)) :
    ∃ (α β γ δ : UInt8) (g : Nat), ao = some ⟨g, 0, none⟩ ∧ n = 4 ∧ W.cell? ⟨g, 0, none⟩ = some (.int .i64 (α.toNat : Int)) ∧ W.cell? ⟨g, 1, none⟩ = some (.int .i64 (β.toNat : Int)) ∧ W.cell? ⟨g, 2, none⟩ = some (.int .i64 (γ.toNat : Int)) ∧ W.cell? ⟨g, 3, none⟩ = some (.int .i64 (δ.toNat : Int)) ∧ docParse l = some (fromB 4 [α, β, γ, δ]) := by
  rcases h.out with ⟨rfl, _⟩ | ⟨rfl, L, hR, rfl, ho⟩
  · simp at hc
  · have h4 : L.length = 4 := by simpa using hc.symm
    obtain ⟨_, _, h3⟩ := (words_iff 10 255 46 (by omega) (by omega) (by omega) (.inl rfl) l L).1 hR
    match L, h4, hR, h3, ho with
    | [a, b, c, d], _, hR, h3, ho =>
      have ha := h3 a (by simp)
      have hb := h3 b (by simp)
      have hcc := h3 c (by simp)
      have hd := h3 d (by simp)
      obtain ⟨g, cap', hv, -, -, -, hcl, -⟩ := owns_shape ho (by simp)
      cases hv
      have e : ∀ x, x ≤ 255 → (UInt8.ofNat x).toNat = x := fun x hx => by rw [UInt8.toNat_ofNat']; omega
      refine ⟨UInt8.ofNat a, UInt8.ofNat b, UInt8.ofNat c, UInt8.ofNat d, g, rfl, rfl, ?_, ?_, ?_, ?_, ?_⟩
      · rw [hcl 0 (by simp), e a ha]; rfl
      · rw [hcl 1 (by simp), e b hb]; rfl
      · rw [hcl 2 (by simp), e c hcc]; rfl
      · rw [hcl 3 (by simp), e d hd]; rfl
      · unfold docParse; rw [hR]; rfl
theorem other_case {l : Bs} {W : World} {base : Nat} {ao : Option Addr} {n cap : Nat} {ok : Bool} (h : WordsIs (wordsF 10 255 46 [] none l) base W ao n cap ok) (hc : false = (ok && n == 4)) : docParse l = doc6 l := by
  unfold docParse
  rcases h.out with ⟨rfl, hR, _⟩ | ⟨rfl, L, hR, rfl, ho⟩
  · rw [hR]
  · rw [hR]; dsimp only
    rw [if_neg (by simpa using hc.symm)]
theorem cut_lt : ∀ {l : Bs} {k : Nat}, cutAt l = some k → k + 2 ≤ l.length
  | [], k, h => by simp [cutAt] at h
  | a :: r, k, h => by
    rw [cut_cons] at h
    split at h
    · rename_i hh
      cases h
      cases r with
      | nil => simp at hh
      | cons b r => simp
    · cases hc : cutAt r with
      | none => rw [hc] at h; cases h
      | some j =>
        rw [hc] at h
        have := cut_lt hc
        simp at h
        simp; omega
theorem joinC_ge (c : UInt8) : ∀ l : List Bs, l.length ≤ (joinC c l).length + 1
  | [] => by simp
  | [x] => by simp
  | x :: y :: r => by
    have := joinC_ge c (y :: r)
    show (x :: y :: r).length ≤ (x ++ c :: joinC c (y :: r)).length + 1
    rw [List.length_append, List.length_cons, List.length_cons, List.length_cons]
    rw [List.length_cons] at this
    omega
theorem docWords_len {s : Bs} {L : List Nat} (h : docWords s = some L) : L.length ≤ s.length + 1 := by
  obtain ⟨_, h2, _⟩ := (words_iff 16 65535 58 (by omega) (by omega) (by omega) (.inr rfl) s L).1 h
  have := joinC_ge 58 (L.map (digs 16))
  rw [← h2, List.length_map] at this
  exact this
/-- What stands in the two rows, ahead of the test. -/
structure GroupsIs (l : Bs) (base : Nat) (W : World) (aL : Option Addr) (nL cL : Nat) (ok : Bool) (aM : Option Addr) (nM cM : Nat) (z : Int) : Prop where
  small : nL ≤ 1000001 ∧ nM ≤ 1000001
  out : (docGroups l = none ∧ (ok = false ∨ (ok = true ∧ 8 < nL + nM) ∨ (ok = true ∧ ¬ 8 < nL + nM ∧ z < 0 ∧ nL ≠ 8))) ∨
    (ok = true ∧ ¬ 8 < nL + nM ∧ (¬ z < 0 ∨ (z < 0 ∧ nL = 8)) ∧ ∃ L M, nL = L.length ∧ nM = M.length ∧ docGroups l = some (L ++ List.replicate (8 - (nL + nM)) 0 ++ M) ∧
      W.ownsRow base 3 1 (.slice aL nL cL) nL (intV L) ∧ W.ownsRow base 3 1 (.slice aM nM cM) nM (intV M) ∧ ∀ q, (Value.slice aL nL cL).ownBlock = some q → (Value.slice aM nM cM).ownBlock ≠ some q)
theorem groups_none {l : Bs} (hl : l.length ≤ 1000000) {base : Nat} {W : World} {ao : Option Addr} {n cap : Nat} {ok : Bool} (hc : cutAt l = none) (h : WordsIs (docWords l) base W ao n cap ok) : GroupsIs l base W ao n cap ok none 0 0 (-1) := by
  rcases h.out with ⟨rfl, hR, rfl, rfl, rfl⟩ | ⟨rfl, L, hR, rfl, ho⟩
  · exact ⟨by omega, .inl ⟨by unfold docGroups; rw [hc]; dsimp only; rw [hR]; rfl, .inl rfl⟩⟩
  · have hlen := docWords_len hR
    have hg : docGroups l = if L.length = 8 then some L else none := by unfold docGroups; rw [hc]; dsimp only; rw [hR]; rfl
    refine ⟨by omega, ?_⟩
    by_cases h8 : 8 < L.length + 0
    · exact .inl ⟨by rw [hg, if_neg (by omega)], .inr (.inl ⟨rfl, h8⟩)⟩
    · by_cases h9 : L.length = 8
      · exact .inr ⟨rfl, h8, .inr ⟨by omega, h9⟩, L, [], rfl, rfl, by rw [hg, if_pos h9, h9]; simp, ho, World.ownsRow_nil _ _ _ _, fun q _ k => by cases k⟩
      · exact .inl ⟨by rw [hg, if_neg h9], .inr (.inr ⟨rfl, h8, by omega, h9⟩)⟩
theorem words_nil (base : Nat) (W : World) : WordsIs (some []) base W none 0 0 true := ⟨.inr ⟨rfl, [], rfl, rfl, World.ownsRow_nil _ _ _ _⟩⟩
theorem groups_stop {l : Bs} {base : Nat} {W W' : World} {ao : Option Addr} {n cap k : Nat} (hc : cutAt l = some k) (h : WordsIs (if 0 < k then docWords (l.take k) else some []) base W ao n cap false) : GroupsIs l base W' ao n cap false none 0 0 (k : Int) := by
  rcases h.out with ⟨_, hR, rfl, rfl, rfl⟩ | ⟨h, _⟩
  · exact ⟨by omega, .inl ⟨by unfold docGroups; rw [hc]; dsimp only; rw [hR]; rfl, .inl rfl⟩⟩
  · exact absurd h (by decide)
theorem groups_cut {l : Bs} (hl : l.length ≤ 1000000) {base : Nat} {W W' : World} {ao am : Option Addr} {n cap k m cm : Nat} {ok : Bool} (hc : cutAt l = some k) (h : WordsIs (if 0 < k then docWords (l.take k) else some []) base W ao n cap true)
    (hb : Below W.heap.size W W') (hbase : base ≤ W.heap.size) (h2 : WordsIs (if k + 2 < l.length then docWords (l.drop (k + 2)) else some []) W.heap.size W' am m cm ok) : GroupsIs l base W' ao n cap ok am m cm (k : Int) := by
  rcases h.out with ⟨h, _⟩ | ⟨_, L, hL, rfl, hoL⟩
  · exact absurd h (by decide)
  have hLl : L.length ≤ 1000001 := by
    split at hL
    · have := docWords_len hL; rw [List.length_take] at this; omega
    · cases hL; simp
  rcases h2.out with ⟨rfl, hR, rfl, rfl, rfl⟩ | ⟨rfl, M, hM, rfl, hoM⟩
  · exact ⟨by omega, .inl ⟨by unfold docGroups; rw [hc]; dsimp only; rw [hL]; dsimp only [Option.bind_some]; rw [hR]; rfl, .inl rfl⟩⟩
  · have hMl : M.length ≤ 1000001 := by
      split at hM
      · have := docWords_len hM; rw [List.length_drop] at this; omega
      · cases hM; simp
    have hg : docGroups l = if 8 < L.length + M.length then none else some (L ++ List.replicate (8 - (L.length + M.length)) 0 ++ M) := by
      unfold docGroups; rw [hc]; dsimp only; rw [hL]; dsimp only [Option.bind_some]; rw [hM]; rfl
    refine ⟨⟨hLl, hMl⟩, ?_⟩
    by_cases h8 : 8 < L.length + M.length
    · exact .inl ⟨by rw [hg, if_pos h8], .inr (.inl ⟨rfl, h8⟩)⟩
    · refine .inr ⟨rfl, h8, .inl (by omega), L, M, rfl, rfl, by rw [hg, if_neg h8], row_kept1 hoL fun q hq => hb.block q (hoL.lt q hq).2, owns_mono hoM hbase, fun q hq k => ?_⟩
      have h1 := (hoL.lt q hq).2
      have h2 := (hoM.lt q k).1
      omega
theorem bl_drew {w W : World} (h : Below w.heap.size w W) : Below w.heap.size w W.drew := h.drew
theorem bl_alloc {w W : World} (h : Below w.heap.size w W) (o : Obj) : Below w.heap.size w (W.alloc o) := h.alloc h.size o
theorem bl_set {w W : World} (h : Below w.heap.size w W) {p : Addr} (hp : w.heap.size ≤ p.block) (v : Value) : Below w.heap.size w (W.setCell p v) := h.setCell hp v
theorem hp_new1 (w : World) (o1 o2 : Obj) : ((w.alloc o1).alloc o2).heap[w.heap.size + 1]? = some o2 := by
  have := heap_alloc_new (w.alloc o1) o2
  rwa [World.size_alloc] at this
theorem bs_four_at {W : World} {g : Nat} {a b c d : UInt8} {T : TypeId} {fr : Nat × Nat} (h : W.heap[g]? = some (.cells #[.int .u8 (a.toNat : Int), .int .u8 (b.toNat : Int), .int .u8 (c.toNat : Int), .int .u8 (d.toNat : Int)] T fr)) : BsAt W (.slice (some ⟨g, 0, none⟩) 4 4) [a, b, c, d] :=
  ⟨⟨_, _, rfl, fun _ => ⟨g, 0, rfl, fun j hj => by
    rw [Nat.zero_add, blk_cell h]
    have hj4 : j < 4 := by simpa using hj
    rcases (show j = 0 ∨ j = 1 ∨ j = 2 ∨ j = 3 by omega) with rfl | rfl | rfl | rfl <;> rfl⟩⟩, rfl⟩
theorem intV_snoc (L : List Nat) (r : Nat) : intV (L ++ List.replicate (r + 1) 0) = intV (L ++ List.replicate r 0) ++ [.int .i64 0] := by
  unfold intV
  rw [List.replicate_succ', ← List.append_assoc, List.map_append]
  rfl
theorem intV_one (L : List Nat) : ∀ u ∈ intV L, u.oneCell' = true := by
  intro u hu
  obtain ⟨n, _, rfl⟩ := List.mem_map.1 hu
  rfl
theorem zero_seg (W : World) : Seg (W.alloc (.cells #[.int .i64 0] 3)) 1 (.slice (some ⟨W.heap.size, 0, none⟩) 1 1) 1 [.int .i64 0] :=
  ⟨⟨_, _, rfl, fun _ => ⟨W.heap.size, 0, rfl, fun j hj => by rw [Nat.zero_add, blk_cell (heap_alloc_new W _)]; simp⟩⟩, rfl⟩
abbrev TB : TypeId := 5
abbrev TBs : TypeId := 45
/-- append of two bytes in a region that draws its order. -/
theorem step_push2 {ops : Array Oper} {o : Oper} {a : Act} {W w0 : World} {K : Act → World → Prop} {Q : Exit → Act → World → Prop} {E : Prop} {v : Value} {n : Nat} {xs : List Value} {c d : UInt8} {base : Nat}
    (hg : o.guard = none) (s x : Operand) (hop : o.op = Op.call { callee := Callee.builtin Builtin.append, args := #[s, x], argTypes := #[TBs, TBs] }) {b : Nat} {fr : Nat × Nat} {T : TypeId}
    (hs : a.eval s = v) (hx : a.eval x = .slice (some ⟨b, 0, none⟩) 2 2) (hb : W.heap[b]? = some (.cells #[.int .u8 (c.toNat : Int), .int .u8 (d.toNat : Int)] T fr)) (ho : W.ownsRow base TB 1 v n xs) (HB : Below base w0 W) (hbase : base ≤ W.heap.size) (hn : n ≤ 1099511627000)
    (hK : ∀ v' W', W'.ownsRow base TB 1 v' (n + 2) (xs ++ [c, d].flatMap encB) → Below base w0 W' → base ≤ W'.heap.size → K (a.put o.dst v') W') :
    if Region.wanted o (yielded ops a.tmps) = true then Oper.wp Tryd.prog o a W K Q else E := by
  have hsg : Seg W 1 (.slice (some ⟨b, 0, none⟩) 2 2) 2 ([c, d].flatMap encB) := ⟨⟨_, _, rfl, fun _ => ⟨b, 0, rfl, fun j hj => by
    rw [Nat.zero_add, blk_cell hb]
    rcases (show j = 0 ∨ j = 1 by omega) with rfl | rfl <;> rfl⟩⟩, rfl⟩
  obtain ⟨v', W', hr, ho', hgr, -⟩ := run_append_seg (P := Tryd.prog) W TBs o.type TB _ 1 1 Tryd.underlying45 infoB rfl (by decide) ho hsg encB_one (by omega) (by decide) hbase
  exact step_append hg s x TBs TBs hop _ _ hs hx hr (hK v' W' ho' (below_grown HB hgr ho (Nat.le_refl _) hbase) (Nat.le_trans hbase hgr.size))
theorem bytesG_take (G : List Nat) (i : Nat) (h : i < G.length) : bytesG (G.take (i + 1)) = bytesG (G.take i) ++ [UInt8.ofNat (G[i] / 256), UInt8.ofNat (G[i] % 256)] := by
  unfold bytesG
  rw [List.take_succ_eq_append_getElem h, List.flatMap_append]
  rfl
/-- A group's two bytes, as the walk has them. -/
theorem hi_byte (g : Nat) (h : g ≤ 65535) : IntKind.u8.wrap ((g / 256 : Nat) : Int) = ((UInt8.ofNat (g / 256)).toNat : Int) := by
  rw [IntKind.wrap_u8, UInt8.toNat_ofNat']; omega
theorem lo_byte (g : Nat) : IntKind.u8.wrap ((g % 256 : Nat) : Int) = ((UInt8.ofNat (g % 256)).toNat : Int) := by
  rw [IntKind.wrap_u8, UInt8.toNat_ofNat']; omega
end Go.Proofs.Tryd.Tx
