/- The document's At on a list that rises, and its stays. -/
import Derived.Test.YtggcdeabnibibaaMp3
import Derived.Test.YtggcdeabnibibaaMr4
import Derived.Test.YtggcdeabnibibaaMk6
set_option linter.unusedVariables false
set_option linter.unusedSimpArgs false
namespace Go.Proofs.Try.Mg
open Go.RowKit Go.Cph Go.Cph.Skip Go.Cph.So

abbrev ZEROP : Value := .agg #[.string ByteArray.empty, .string ByteArray.empty, .int .u64 0, .bool false]
abbrev ZBOX : Array Value := #[.string ByteArray.empty, .string ByteArray.empty, .int .u64 0, .bool false]
def AtPost (s : List Ent) (key : ByteArray) (at_ : UInt64) (w : World) (e : Ending) (w' : World) : Prop :=
  ((∃ x, s.find? (atP key at_) = some x ∧ e = .returned (.tuple #[encP x, .bool true])) ∨ (s.find? (atP key at_) = none ∧ e = .returned (.tuple #[ZEROP, .bool false]))) ∧ Below w.heap.size w w'
/-- The best so far. -/
def Best (s : List Ent) (p : Ent → Bool) (i : Nat) (c : Option Nat) : Prop := match c with
  | none => ∀ j (h : j < s.length), j < i → p s[j] = false
  | some b => ∃ h : b < s.length, b < i ∧ p s[b] = true ∧ ∀ j (h : j < s.length), j < b → p s[j] = false
def bestV (c : Option Nat) : Int := match c with
  | none => -1
  | some b => (b : Int)
theorem Best.skip {s : List Ent} {p : Ent → Bool} {i : Nat} {c : Option Nat} (h : Best s p i c) (hi : i < s.length) (hp : c = none → p s[i] = false) : Best s p (i + 1) c := by
  cases c with
  | none =>
    intro j hj hji
    by_cases e : j = i
    · subst e; exact hp rfl
    · exact h j hj (by omega)
  | some b =>
    obtain ⟨h1, h2, h3⟩ := h
    exact ⟨h1, by omega, h3⟩
theorem Best.hit {s : List Ent} {p : Ent → Bool} {i : Nat} (h : Best s p i none) (hi : i < s.length) (hp : p s[i] = true) : Best s p (i + 1) (some i) :=
  ⟨hi, by omega, hp, fun j hj hji => h j hj hji⟩
theorem Best.none_find {s : List Ent} {p : Ent → Bool} (h : Best s p s.length none) : s.find? p = none :=
  find_none fun x hx => by obtain ⟨j, hj, rfl⟩ := List.getElem_of_mem hx; exact h j hj hj
theorem Best.some_find {s : List Ent} {p : Ent → Bool} {b : Nat} (h : Best s p s.length (some b)) : ∃ h : b < s.length, s.find? p = some s[b] := by
  obtain ⟨h1, h2, h3, h4⟩ := h
  exact ⟨h1, find_at h1 h3 fun j hj => h4 j (by omega) hj⟩
/-- Of two with one key the latter is older. -/
theorem strict_older {s : List Ent} (hs : Strict ltE s) {i j : Nat} (hi : i < s.length) (hj : j < i) (hk : s[i].1 = (s[j]'(by omega)).1) : s[i].2.2.1 < (s[j]'(by omega)).2.2.1 := by
  have := List.pairwise_iff_getElem.1 hs j i (by omega) hi hj
  rcases ltE_key this with h | ⟨_, h⟩
  · rw [hk, klt_irrefl] at h; cases h
  · exact h

set_option maxRecDepth 100000 in
set_option maxHeartbeats 8000000 in
theorem at09 (v : Value) (s : List Ent) (key : ByteArray) (at_ : UInt64) (w : World) (h : EntsAt w v s) (hs : Strict ltE s) (hn : s.length ≤ 1000000) :
    Calls Try.prog 33 #[v, .string key, .int .u64 (at_.toNat : Int)] w (AtPost s key at_ w) := by
  obtain ⟨ao, cap, hv⟩ := elems_slice h
  subst hv
  have HV := Lib.hid h
  have HSS := Lib.hid hs
  clear h hs
  have hba : Below w.heap.size w (w.alloc (.cells ZBOX TE)) := (Below.refl _ _).alloc (Nat.le_refl _) _
  have HBA := Lib.hid hba
  have HVA := Lib.hid (HV.out.kept hba)
  have HBX := Lib.hid (heap_alloc_new w (.cells ZBOX TE))
  have HSZ := Lib.hid (World.size_alloc w (.cells ZBOX TE))
  clear hba
  go_enter Try.func33, Try.ntmps33
  go_wp2_with fail
  go_loopw [8, 9] (fun vb vi W => ∃ (i : Nat) (c : Option Nat), i ≤ s.length ∧ vi = .int .i64 i ∧ vb = .int .i64 (bestV c) ∧ Best s (atP key at_) i c ∧ Below (w.alloc (.cells ZBOX TE)).heap.size (w.alloc (.cells ZBOX TE)) W) (fun _ vi _ => s.length - (intOf vi).toNat)
  case atStart => exact ⟨0, none, Nat.zero_le _, rfl, rfl, fun j h k => by omega, Below.refl _ _⟩
  case round =>
    obtain ⟨i, c, hi, rfl, rfl, hc, hbel⟩ := hrel
    have HC := Lib.hid hc
    have HBE := Lib.hid hbel
    by_cases hlt : i < s.length
    · obtain ⟨b, off, cap', hve, hcs⟩ := ents_cells (HVA.out.kept hbel) (by omega)
      injection hve with hx1 hx2 hx3
      subst hx1
      clear hx2 hx3
      have hcx := hcs i hlt
      obtain ⟨x, hx⟩ : ∃ x, x = s[i] := ⟨_, rfl⟩
      rw [← hx] at hcx
      have HX := Lib.hid hx
      have d0 := hcx.c0
      have d2 := hcx.c2
      have HD := Lib.hid (show ∀ nq, Below wr.heap.size wr (wr.drewN nq) from fun nq => ⟨rfl, rfl, rfl, Nat.le_refl _, fun _ _ => rfl⟩)
      have k1 : (0 : Int) ≤ (i : Int) := by omega
      have k2 : (i : Int) < (s.length : Int) := by omega
      have k4 : IntKind.i64.wrap ((i : Int) + 1) = (i : Int) + 1 := by rw [IntKind.wrap_i64]; omega
      by_cases hkey : x.1 = key
      · have j1 : (x.1.toList == key.toList) = true := by rw [beq_toList]; simpa using hkey
        by_cases hle : x.2.2.1 ≤ at_
        · have j2 : x.2.2.1.toNat ≤ at_.toNat := UInt64.le_iff_toNat_le.1 hle
          have HP := Lib.hid (show atP key at_ s[i] = true by rw [← hx]; simp [atP, mayC, hkey, hle])
          cases c with
          | none =>
            clear hcs hcx hx hc hbel hkey hle
            simp only [bestV]
            go_wp2_with fail
            go_quiet (fail)
            clear d0 d2
            have HBE2 := Lib.hid (below_step HBE.out (HD.out nq) HBE.out.size)
            generalize wr.drewN nq = wq at *
            go_wp2_with fail
            go_roundw
            case rel => exact ⟨i + 1, some i, hlt, by go_num, rfl, HC.out.hit hlt HP.out, HBE2.out⟩
            case measure => simp [intOf]; omega
          | some m =>
            obtain ⟨hm1, hm2, hm3, hm4⟩ := hc
            have hcy := hcs m hm1
            have hkm : s[m].1 = key := by
              unfold atP at hm3
              simp only [Bool.and_eq_true, decide_eq_true_eq] at hm3
              exact hm3.1
            have hold := strict_older HSS.out hlt hm2 (by rw [← hx, hkey, hkm])
            obtain ⟨y, hy⟩ : ∃ y, y = s[m] := ⟨_, rfl⟩
            rw [← hx, ← hy] at hold
            rw [← hy] at hcy
            have e2 := hcy.c2
            have j3 : ¬ (m : Int) < 0 := by omega
            have j3b : decide ((m : Int) < 0) = false := by simp
            have j4 : ¬ (y.2.2.1.toNat : Int) < (x.2.2.1.toNat : Int) := by have := UInt64.lt_iff_toNat_lt.1 hold; omega
            have j4b : decide (y.2.2.1.toNat < x.2.2.1.toNat) = false := by simp; omega
            have j4c : ¬ y.2.2.1.toNat < x.2.2.1.toNat := by omega
            have j5 : (0 : Int) ≤ (m : Int) := by omega
            have j6 : (m : Int) < (s.length : Int) := by omega
            clear hcs hcx hx hbel hkey hle hm1 hm2 hm3 hm4 hcy hkm hold hy
            simp only [bestV]
            go_wp2_with fail
            go_quiet (fail)
            clear d0 d2 e2
            have HBE2 := Lib.hid (below_step HBE.out (HD.out nq) HBE.out.size)
            generalize wr.drewN nq = wq at *
            go_wp2_with fail
            go_roundw
            case rel => exact ⟨i + 1, some m, hlt, by go_num, rfl, HC.out.skip hlt (fun e => nomatch e), HBE2.out⟩
            case measure => simp [intOf]; omega
        · have j2 : ¬ (x.2.2.1.toNat : Int) ≤ (at_.toNat : Int) := by intro e; exact hle (UInt64.le_iff_toNat_le.2 (by omega))
          have j2b : decide (x.2.2.1.toNat ≤ at_.toNat) = false := by simp; omega
          have j2c : ¬ x.2.2.1.toNat ≤ at_.toNat := by omega
          have HP := Lib.hid (show atP key at_ s[i] = false by rw [← hx]; simp [atP, mayC, hle])
          clear hcs hcx hx hc hbel hkey hle
          go_wp2_with fail
          go_quiet (fail)
          clear d0 d2
          have HBE2 := Lib.hid (below_step HBE.out (HD.out nq) HBE.out.size)
          generalize wr.drewN nq = wq at *
          go_wp2_with fail
          go_roundw
          case rel => exact ⟨i + 1, c, hlt, by go_num, rfl, HC.out.skip hlt (fun _ => HP.out), HBE2.out⟩
          case measure => simp [intOf]; omega
      · have j1 : (x.1.toList == key.toList) = false := by rw [beq_toList]; simpa using hkey
        have HP := Lib.hid (show atP key at_ s[i] = false by rw [← hx]; simp [atP, hkey])
        clear hcs hcx hx hc hbel hkey
        go_wp2_with fail
        go_quiet (fail)
        clear d0 d2
        have HBE2 := Lib.hid (below_step HBE.out (HD.out nq) HBE.out.size)
        generalize wr.drewN nq = wq at *
        go_wp2_with fail
        go_roundw
        case rel => exact ⟨i + 1, c, hlt, by go_num, rfl, HC.out.skip hlt (fun _ => HP.out), HBE2.out⟩
        case measure => simp [intOf]; omega
    · obtain rfl : i = s.length := by omega
      have hbx : wr.heap[w.heap.size]? = some (.cells ZBOX TE) := (hbel.block _ (by rw [HSZ.out]; omega)).trans HBX.out
      have HBZ := Lib.hid (below_step HBA.out hbel HBA.out.size)
      have b0 : wr.cell? ⟨w.heap.size, 0, none⟩ = some (.string ByteArray.empty) := by rw [blk_cell hbx]; rfl
      have b1 : wr.cell? ⟨w.heap.size, 1, none⟩ = some (.string ByteArray.empty) := by rw [blk_cell hbx]; rfl
      have b2 : wr.cell? ⟨w.heap.size, 2, none⟩ = some (.int .u64 0) := by rw [blk_cell hbx]; rfl
      have b3 : wr.cell? ⟨w.heap.size, 3, none⟩ = some (.bool false) := by rw [blk_cell hbx]; rfl
      have bf : ∀ j, wr.frozen? ⟨w.heap.size, j, none⟩ = false := fun j => by rw [blk_frozen hbx]; simp
      cases c with
      | none =>
        have HF := Lib.hid (show s.find? (atP key at_) = none from hc.none_find)
        clear hc hbel
        simp only [bestV]
        go_wp2_with fail
        refine bodyPost_ret (v := .tuple #[ZEROP, .bool false]) ?_ rfl ⟨.inr ⟨HF.out, rfl⟩, ?_⟩
        · simp [results, Try.results33, go_sem, World.cell?_setCell_same _ _ _ b0, b1, b2, b3, World.cell?_setCell_same _ _ _ b1, World.cell?_setCell_same _ _ _ b2, World.cell?_setCell_same _ _ _ b3]
          rfl
        · exact (((HBZ.out.setCell (p := ⟨w.heap.size, 0, none⟩) (Nat.le_refl _) _).setCell (p := ⟨w.heap.size, 1, none⟩) (Nat.le_refl _) _).setCell (p := ⟨w.heap.size, 2, none⟩) (Nat.le_refl _) _).setCell (p := ⟨w.heap.size, 3, none⟩) (Nat.le_refl _) _
      | some m =>
        have hF := (show ∃ h : m < s.length, s.find? (atP key at_) = some s[m] from hc.some_find)
        obtain ⟨hm, hF⟩ := hF
        obtain ⟨y, hy⟩ : ∃ y, y = s[m] := ⟨_, rfl⟩
        rw [← hy] at hF
        have HF := Lib.hid hF
        obtain ⟨b, off, cap', hve, hcs⟩ := ents_cells (HVA.out.kept hbel) (by omega)
        injection hve with hx1 hx2 hx3
        subst hx1
        clear hx2 hx3
        have hcy := hcs m hm
        rw [← hy] at hcy
        have d0 := hcy.c0
        have d1 := hcy.c1
        have d2 := hcy.c2
        have d3 := hcy.c3
        have j3 : ¬ (m : Int) < 0 := by omega
        have j3b : decide ((m : Int) < 0) = false := by simp
        have j5 : (0 : Int) ≤ (m : Int) := by omega
        have j6 : (m : Int) < (s.length : Int) := by omega
        clear hF hcy hcs hy hc hbel
        simp only [bestV]
        go_wp2_with fail
        refine bodyPost_ret (v := .tuple #[encP y, .bool true]) ?_ rfl ⟨.inl ⟨_, HF.out, rfl⟩, ?_⟩
        · simp [results, Try.results33, go_sem, World.cell?_setCell_same _ _ _ b0, b1, b2, b3, World.cell?_setCell_same _ _ _ b1, World.cell?_setCell_same _ _ _ b2, World.cell?_setCell_same _ _ _ b3]
        · exact (((HBZ.out.setCell (p := ⟨w.heap.size, 0, none⟩) (Nat.le_refl _) _).setCell (p := ⟨w.heap.size, 1, none⟩) (Nat.le_refl _) _).setCell (p := ⟨w.heap.size, 2, none⟩) (Nat.le_refl _) _).setCell (p := ⟨w.heap.size, 3, none⟩) (Nat.le_refl _) _
end Go.Proofs.Try.Mg
