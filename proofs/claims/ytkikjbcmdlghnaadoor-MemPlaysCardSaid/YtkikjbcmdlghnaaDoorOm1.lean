/- Parts of keys: how they lie in memory; a builder of texts, kept; okey.Key. -/
import Derived.Test.YtkikjbcmdlghnaaDoorNu2
import Derived.Test.YtkikjbcmdlghnaaDoorOx4
set_option linter.unusedVariables false
set_option linter.unusedSimpArgs false
set_option maxRecDepth 100000
namespace Go.Proofs.Tryd.Ok
open Go.RowKit Go.Cph Go.Cph.Ok Go.Proofs.Tryd.Nu
theorem cat_list (a b : ByteArray) : (a ++ b).data.toList = a.data.toList ++ b.data.toList := by simp
abbrev TP : TypeId := 57
abbrev TPs : TypeId := 74
abbrev TBd : TypeId := 77
abbrev encC (p : Pt) : List Value := [.bool p.text, .string p.s, .int .u64 (p.n.toNat : Int)]
abbrev encP (p : Pt) : Value := .agg #[.bool p.text, .string p.s, .int .u64 (p.n.toNat : Int)]
theorem encC_len (p : Pt) : (encC p).length = 3 := rfl
theorem encC_one {l : List Pt} : ∀ u ∈ l.flatMap encC, u.oneCell' = true := by
  intro u hu
  rw [List.mem_flatMap] at hu
  obtain ⟨p, _, hu⟩ := hu
  simp only [encC, List.mem_cons, List.not_mem_nil, or_false] at hu
  rcases hu with rfl | rfl | rfl <;> rfl
theorem encC_one1 (p : Pt) : ∀ u ∈ encC p, u.oneCell' = true := by
  intro u hu
  simp only [encC, List.mem_cons, List.not_mem_nil, or_false] at hu
  rcases hu with rfl | rfl | rfl <;> rfl
theorem infoP : (Tryd.prog.info? TP).map (fun i => (i.zero, i.size, i.bytes)) = some (some (.agg #[.bool false, .string ByteArray.empty, .int .u64 0]), 3, 32) := by kernel_rfl
abbrev PtsAt (w : World) (v : Value) (l : List Pt) : Prop := Elems encC 3 w v l
structure CellsOf (w : World) (b o : Nat) (p : Pt) : Prop where
  c0 : w.cell? ⟨b, o, none⟩ = some (.bool p.text)
  c1 : w.cell? ⟨b, o + 1, none⟩ = some (.string p.s)
  c2 : w.cell? ⟨b, o + 2, none⟩ = some (.int .u64 (p.n.toNat : Int))
theorem CellsOf.kept {w w' : World} {b o : Nat} {p : Pt} (h : CellsOf w b o p) (hb : Below w.heap.size w w') : CellsOf w' b o p := ⟨cell_kept hb h.c0, cell_kept hb h.c1, cell_kept hb h.c2⟩
theorem pts_cells {w : World} {v : Value} {l : List Pt} (h : PtsAt w v l) (h0 : 0 < l.length) :
    ∃ b off cap, v = .slice (some ⟨b, off, none⟩) l.length cap ∧ ∀ i (hi : i < l.length), CellsOf w b (off + i * 3) l[i] := by
  obtain ⟨b, off, cap, hv, hc⟩ := elems_shape encC_len h h0
  exact ⟨b, off, cap, hv, fun i hi => ⟨hc i hi 0 (by omega), hc i hi 1 (by omega), hc i hi 2 (by omega)⟩⟩
abbrev boxP (p : Pt) : Obj := .cells #[.bool p.text, .string p.s, .int .u64 (p.n.toNat : Int)] 57 (0, 0)
theorem box_cells {w : World} {b : Nat} {p : Pt} {E : TypeId} {fr : Nat × Nat} (h : w.heap[b]? = some (.cells #[.bool p.text, .string p.s, .int .u64 (p.n.toNat : Int)] E fr)) : CellsOf w b 0 p :=
  ⟨by rw [blk_cell h]; rfl, by rw [blk_cell h]; rfl, by rw [blk_cell h]; rfl⟩
/-- A builder of texts that holds these bytes. -/
abbrev Bld (B b : Nat) (bs : Bs) (w : World) : Prop := Lib.IsBuilder TBd T8 B b (Nu.byteCells bs) w
theorem row_kept1 {w w' : World} {base : Nat} {e : TypeId} {size : Nat} {v : Value} {n : Nat} {xs : List Value} (h : w.ownsRow base e size v n xs)
    (hk : ∀ k, v.ownBlock = some k → w'.heap[k]? = w.heap[k]?) : w'.ownsRow base e size v n xs := by
  obtain ⟨h1, h2⟩ := h
  refine ⟨h1, ?_⟩
  rcases h2 with h2 | ⟨g, cap, cur, rfl, h4, h5, r⟩
  · exact .inl h2
  · exact .inr ⟨g, cap, cur, rfl, h4, (hk g rfl).trans h5, r⟩
theorem row_keptB {w w' : World} {base : Nat} {e : TypeId} {size n : Nat} {v : Value} {xs : List Value} (h : w.ownsRow base e size v n xs) (hb : Below w.heap.size w w') : w'.ownsRow base e size v n xs :=
  row_kept1 h fun q hq => hb.block q (h.lt q hq).2
theorem bld_kept {B b : Nat} {bs : Bs} {w w' : World} (h : Bld B b bs w) (hb : Below w.heap.size w w') : Bld B b bs w' := by
  have k : ∀ p, Lib.BuilderAt TBd T8 B b p (Nu.byteCells bs) w → Lib.BuilderAt TBd T8 B b p (Nu.byteCells bs) w' := fun p h => by
    obtain ⟨h1, v, h2, h3, h4⟩ := h
    exact ⟨h1, v, blk_kept hb h2, row_keptB h3 hb, h4⟩
  exact h.imp (k _) (k _)
theorem write_any (B b : Nat) (bs : Bs) (s : ByteArray) (w : World) (h : Bld B b bs w) (hlen : bs.length + s.size ≤ 100000000000) (hBw : B ≤ w.heap.size) :
    Calls Tryd.prog 33 #[.pointer (some ⟨b, 0, none⟩), .string s] w fun e w' => e = .returned (.tuple #[.int .i64 s.size, .nilIface]) ∧ Bld B b (bs ++ s.data.toList) w' ∧ Below B w w' := by
  have c := Any.Builder_WriteString { Tryd.lays154 with } Tryd.Builder_Extra_154 B b (Nu.byteCells bs) s w h (by rw [byteCells_len]; omega) hBw
  refine c.mono fun e w' ⟨h1, h2, h3⟩ => ⟨h1, Or.inr ?_, h3⟩
  rw [byteCells_append]; exact h2
theorem string_any (B b : Nat) (bs : Bs) (w : World) (h : Bld B b bs w) (hBw : B ≤ w.heap.size) :
    Calls Tryd.prog 36 #[.pointer (some ⟨b, 0, none⟩)] w fun e w' => e = .returned (.string (ofBs bs)) ∧ Below B w w' := Tryd.Builder_String_any B b bs w h hBw
theorem replace_any (s : ByteArray) (m : Int) (w : World) (hs : s.size ≤ 4294967280) (hm : w.cell? ⟨0, 0, none⟩ = some (.int .i64 m)) :
    Calls Tryd.prog 34 #[.string s, .string ⟨#[0]⟩, .string ⟨#[0, 255]⟩] w fun e w' => e = .returned (.string (ofBs (esc s.data.toList))) ∧ Below w.heap.size w w' := by
  have hc := count_zero_le s
  have c := Tryd.strings_ReplaceAll s ⟨#[0]⟩ ⟨#[0, 255]⟩ m w (by omega) hm (by decide) (by
    have e : (⟨#[0, 255]⟩ : ByteArray).size = 2 := rfl
    rw [e]; omega)
  have e := replace_esc s.data.toList
  refine c.mono fun e' w' ⟨h1, h2⟩ => ⟨?_, h2⟩
  rw [h1]
  exact congrArg Ending.returned (congrArg Value.string (congrArg ofBs e))
end Go.Proofs.Tryd.Ok
