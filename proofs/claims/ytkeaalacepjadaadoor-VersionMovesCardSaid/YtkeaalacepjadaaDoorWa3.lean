/- Which tables are to be put together: Pick. -/
import Derived.Test.YtkeaalacepjadaaDoorWa2
import Derived.Test.YtkeaalacepjadaaDoorVI
import Derived.Test.YtkeaalacepjadaaDoorVJ
import Derived.Test.YtkeaalacepjadaaDoorVH
set_option linter.unusedVariables false
set_option linter.unusedSimpArgs false
set_option maxRecDepth 100000
namespace Go.Proofs.Tryd.Vr
open Go.RowKit Go.Cph Go.Cph.Skip Go.Cph.So Go.Cph.Ve
open Go.Proofs.Tryd.Sq (row_kept1 grown_below grown_set)

abbrev TPn : TypeId := 44
structure Pn where
  lev : Nat
  inn : Value
  bel : Value
  bot : Bool
abbrev encPn (p : Pn) : Value := .agg #[.int .i64 (p.lev : Int), p.inn, p.bel, .bool p.bot]
abbrev boxPn (p : Pn) : Obj := .cells #[.int .i64 (p.lev : Int), p.inn, p.bel, .bool p.bot] TPn (0, 0)
def zPn : Pn := ⟨0, .slice none 0 0, .slice none 0 0, false⟩
abbrev boxPZ : Obj := .cells #[.int .i64 0, .slice none 0 0, .slice none 0 0, .bool false] TPn (0, 0)
/-- A list of tables in memory not older than lo, apart from the block hi, that may be written. -/
structure Rw (W : World) (lo hi : Nat) (v : Value) (l : List Tb) : Prop where
  at' : TbsAt W v l
  blk : ∀ b off n c, v = .slice (some ⟨b, off, none⟩) n c → 0 < n → lo ≤ b ∧ b ≠ hi ∧ b < W.heap.size ∧ ∀ j, W.frozen? ⟨b, j, none⟩ = false
theorem Rw.move {W W' : World} {lo hi : Nat} {v : Value} {l : List Tb} (h : Rw W lo hi v l) (hs : W.heap.size ≤ W'.heap.size) (hk : ∀ b, b < W.heap.size → lo ≤ b → b ≠ hi → W'.heap[b]? = W.heap[b]?) : Rw W' lo hi v l := by
  obtain ⟨⟨ao, cap, hv, hc⟩, hl⟩ := h.at'
  have hblk := h.blk
  refine ⟨⟨⟨ao, cap, hv, fun h0 => ?_⟩, hl⟩, fun b off n c e h0 => ?_⟩
  · obtain ⟨b, off, ha, hcs⟩ := hc h0
    subst ha
    have hp : 0 < l.length := by omega
    obtain ⟨h1, h2, h3, h4⟩ := hblk b off _ _ hv hp
    exact ⟨b, off, rfl, fun j hj => by rw [World.cell?_of_block (w := W) (hk b h3 h1 h2)]; exact hcs j hj⟩
  · obtain ⟨h1, h2, h3, h4⟩ := hblk b off n c e h0
    exact ⟨h1, h2, by omega, fun j => by rw [World.frozen?_of_block (w := W) (hk b h3 h1 h2)]; exact h4 j⟩
theorem Rw.kept {W W' : World} {lo hi : Nat} {v : Value} {l : List Tb} (h : Rw W lo hi v l) (hb : Below W.heap.size W W') : Rw W' lo hi v l := h.move hb.size fun b hl _ _ => hb.block b hl
theorem Rw.set {W : World} {lo hi : Nat} {v : Value} {l : List Tb} (h : Rw W lo hi v l) (j : Nat) (x : Value) : Rw (W.setCell ⟨hi, j, none⟩ x) lo hi v l :=
  h.move (by rw [World.size_setCell]; exact Nat.le_refl _) fun b _ _ hne => Below.heap_setCell _ _ _ _ hne
theorem Rw.far {W : World} {lo hi : Nat} {v : Value} {l : List Tb} (h : Rw W lo hi v l) {b0 : Nat} (hb : b0 < lo) (j : Nat) (x : Value) : Rw (W.setCell ⟨b0, j, none⟩ x) lo hi v l :=
  h.move (by rw [World.size_setCell]; exact Nat.le_refl _) fun b _ hl _ => Below.heap_setCell _ _ _ _ (show b ≠ b0 by omega)
theorem Rw.own {W : World} {lo hi : Nat} {v : Value} {l : List Tb} (h : W.ownsRow lo TE 8 v l.length (l.flatMap encC)) (hh : hi < lo ∨ W.heap.size ≤ hi) : Rw W lo hi v l := by
  refine ⟨Seg.of_owns h, fun b off n c e h0 => ?_⟩
  subst e
  obtain ⟨g, cap, hv, hgb, hgl, -, -, hfz⟩ := owns_shape h (by
    obtain ⟨ao, c2, h2⟩ := owns_slice1 h
    injection h2 with _ h3 _
    omega)
  injection hv with h1 _ _
  injection h1 with h1
  injection h1 with h1 _ _
  subst h1
  exact ⟨hgb, by omega, hgl, hfz⟩
theorem Rw.mono {W : World} {lo lo' hi : Nat} {v : Value} {l : List Tb} (h : Rw W lo hi v l) (hl : lo' ≤ lo) : Rw W lo' hi v l :=
  ⟨h.at', fun b off n c e h0 => by obtain ⟨h1, h2⟩ := h.blk b off n c e h0; exact ⟨Nat.le_trans hl h1, h2⟩⟩
theorem Rw.nil (W : World) (lo hi : Nat) : Rw W lo hi (.slice none 0 0) [] := ⟨Seg.nil W 8, fun b off n c e => by cases e⟩
/-- The first one alone. -/
theorem Rw.one {W : World} {lo hi b off cap : Nat} {l : List Tb} (h : Rw W lo hi (.slice (some ⟨b, off, none⟩) l.length cap) l) (h0 : 0 < l.length) (c : Nat) : Rw W lo hi (.slice (some ⟨b, off, none⟩) 1 c) (l.take 1) := by
  have h1 := elems_take h.at' h0 1 h0
  obtain ⟨⟨ao, c2, hv, hc⟩, hl⟩ := h1
  have hl1 : (l.take 1).length = 1 := by rw [List.length_take]; omega
  rw [hl1] at hv hc
  injection hv with hv _ _
  refine ⟨⟨⟨ao, c, by rw [hl1, hv], fun _ => ?_⟩, hl⟩, fun b' off' n c' e hn => ?_⟩
  · rw [hl1]; exact hc (by omega)
  · injection e with e _ _
    injection e with e
    injection e with e1 e2 _
    subst e1 e2
    exact h.blk _ _ _ _ rfl h0
/-- What the plan is made in: the version's box, the result's box, the plan's box. -/
structure PkSt (w : World) (v : Vn) (pb : Nat) (p : Pn) (W : World) : Prop where
  bv : W.heap[w.heap.size]? = some (boxV v)
  br : W.heap[w.heap.size + 1]? = some boxPZ
  bp : W.heap[pb]? = some (boxPn p)
  lt : w.heap.size + 2 ≤ pb
  bel : Below w.heap.size w W
theorem PkSt.kept {w W W' : World} {v : Vn} {pb : Nat} {p : Pn} (h : PkSt w v pb p W) (hb : Below W.heap.size W W') : PkSt w v pb p W' :=
  ⟨blk_kept hb h.bv, blk_kept hb h.br, blk_kept hb h.bp, h.lt, below_step h.bel hb h.bel.size⟩
theorem PkSt.set {w W : World} {v : Vn} {pb : Nat} {p p' : Pn} (h : PkSt w v pb p W) {j : Nat} {x : Value} (e : (boxPn p') = .cells (#[.int .i64 (p.lev : Int), p.inn, p.bel, .bool p.bot].setIfInBounds j x) TPn (0, 0)) : PkSt w v pb p' (W.setCell ⟨pb, j, none⟩ x) := by
  have gs := grown_set W pb j x
  have hl := h.lt
  refine ⟨by rw [gs.block _ (blk_lt h.bv) (by intro e; injection e with e; omega)]; exact h.bv, by rw [gs.block _ (blk_lt h.br) (by intro e; injection e with e; omega)]; exact h.br, by rw [blk_set h.bp, e], hl, h.bel.setCell (p := ⟨pb, j, none⟩) (show _ ≤ pb by omega) _⟩
/-- What Pick leaves. -/
def PickPost (A : Nat → List Tb) (w : World) (e : Ending) (w' : World) : Prop := ∃ (p : Pn) (ok : Bool), e = .returned (.tuple #[encPn p, .bool ok]) ∧ Below w.heap.size w w' ∧
  (∀ k, levK A = some k → ok = true ∧ p.lev = k ∧ p.bot = botK A k ∧ Rw w' w.heap.size w'.heap.size p.inn (inK A k) ∧ Rw w' w.heap.size w'.heap.size p.bel (belowK A k)) ∧ (levK A = none → ok = false ∧ p = zPn)
theorem Rw.hi {W : World} {lo hi : Nat} {v : Value} {l : List Tb} (h : Rw W lo hi v l) : Rw W lo W.heap.size v l :=
  ⟨h.at', fun b off n c e h0 => by obtain ⟨h1, h2, h3, h4⟩ := h.blk b off n c e h0; exact ⟨h1, by omega, h3, h4⟩⟩
/-- The limits, as the program's variable holds them. -/
structure LimAt (W : World) : Prop where
  a : W.cell? ⟨0, 0, none⟩ = some (.int .i64 3)
  b : W.cell? ⟨0, 1, none⟩ = some (.int .i64 4)
  c : W.cell? ⟨0, 2, none⟩ = some (.int .i64 16)
theorem LimAt.kept {w w' : World} (h : LimAt w) (hb : Below w.heap.size w w') : LimAt w' := ⟨cell_kept hb h.a, cell_kept hb h.b, cell_kept hb h.c⟩
theorem two_lists {w : World} {b : Nat} {v1 v2 : Value} {l1 l2 : List Tb} {t : TypeId} (hb : w.heap[b]? = some (.cells #[v1, v2] t (0, 0))) (h1 : TbsAt w v1 l1) (h2 : TbsAt w v2 l2) : TbsOf w (.slice (some ⟨b, 0, none⟩) 2 2) [l1, l2] := by
  refine ⟨[v1, v2], rfl, ⟨⟨some ⟨b, 0, none⟩, 2, rfl, fun _ => ⟨b, 0, rfl, fun j hj => ?_⟩⟩, rfl⟩, fun i hi _ => ?_⟩
  · rw [Nat.zero_add, blk_cell hb]
    have hj2 : j < 2 := hj
    rcases (show j = 0 ∨ j = 1 by omega) with rfl | rfl <;> rfl
  · have hi2 : i < 2 := hi
    rcases (show i = 0 ∨ i = 1 by omega) with rfl | rfl
    · exact h1
    · exact h2
abbrev put4 (w : World) (b : Nat) (p : Pn) : World := (((w.setCell ⟨b, 0, none⟩ (.int .i64 (p.lev : Int))).setCell ⟨b, 1, none⟩ p.inn).setCell ⟨b, 2, none⟩ p.bel).setCell ⟨b, 3, none⟩ (.bool p.bot)
theorem box_put4 {w : World} {b : Nat} {cs : Array Value} (h : w.heap[b]? = some (.cells cs TPn (0, 0))) (hs : cs.size = 4) (p : Pn) : (put4 w b p).heap[b]? = some (boxPn p) := by
  rw [blk_set (blk_set (blk_set (blk_set h 0 _) 1 _) 2 _) 3 _]
  have : cs.toList.length = 4 := by simpa using hs
  obtain ⟨l⟩ := cs
  match l, this with
  | [a, b, c, d], _ => rfl
theorem below_put4 {B : Nat} {a w : World} (h : Below B a w) {b : Nat} (hb : B ≤ b) (p : Pn) : Below B a (put4 w b p) :=
  (((h.setCell (p := ⟨b, 0, none⟩) hb _).setCell (p := ⟨b, 1, none⟩) hb _).setCell (p := ⟨b, 2, none⟩) hb _).setCell (p := ⟨b, 3, none⟩) hb _
theorem Rw.put4 {W : World} {lo hi : Nat} {v : Value} {l : List Tb} (h : Rw W lo hi v l) {b0 : Nat} (hb : b0 < lo) (p : Pn) : Rw (put4 W b0 p) lo hi v l :=
  (((h.far hb 0 _).far hb 1 _).far hb 2 _).far hb 3 _
theorem run_lim (i : Nat) (hi : i < 3) (W : World) : (Instr.index 69 (.agg #[.int .i64 3, .int .i64 4, .int .i64 16]) (.int .i64 (i : Int))).run Tryd.prog W = .ok (.int .i64 (limK i : Int)) W := by
  rcases (show i = 0 ∨ i = 1 ∨ i = 2 by omega) with rfl | rfl | rfl
  · kernel_rfl
  · kernel_rfl
  · kernel_rfl

set_option maxHeartbeats 16000000 in
theorem pick_any (v : Vn) (A : Nat → List Tb) (w : World) (hl : LimAt w) (h : VerAt w v A) (hn : (tabs A).length ≤ 1000000) (hk : ∀ k, k < 4 → (A k).length ≤ 100000) : Calls Tryd.prog 12 #[encV v] w (PickPost A w) := by
  have HV := Lib.hid h
  have HN := Lib.hid hn
  have HKS := Lib.hid hk
  have HKN := Lib.hid (show ∀ k, k < 4 → (A k).length ≤ 1000000 from fun k h => Nat.le_trans (hk k h) (by decide))
  have hb2 := bel2 (w := w) (boxV v) boxPZ
  have HB2 := Lib.hid hb2
  have hl2 := hl.kept hb2
  have l0 := hl2.a
  have l1 := hl2.b
  have l2 := hl2.c
  have HBV := Lib.hid (show ((w.alloc (boxV v)).alloc boxPZ).heap[w.heap.size]? = some (boxV v) from blk_alloc (heap_alloc_new _ _) _)
  have HBR := Lib.hid (alloc2_new w (boxV v) boxPZ)
  clear h hn hk hb2 hl hl2
  go_enter Tryd.func12, Tryd.ntmps12
  go_wp2_with fail
  go_loopw [11] (fun vi W => ∃ i : Nat, i ≤ 3 ∧ vi = .int .i64 (i : Int) ∧ Hid (∀ j, j < i → (A j).length ≤ limK j) ∧ W = (w.alloc (boxV v)).alloc boxPZ) (fun vi _ => 3 - (intOf vi).toNat)
  case atStart => exact ⟨0, by omega, rfl, Lib.hid (fun j hj => absurd hj (Nat.not_lt_zero _)), rfl⟩
  case round =>
    obtain ⟨i, hi, rfl, HJ, rfl⟩ := hrel
    clear l0 l1 l2
    by_cases hlt : i < 3
    · have hi4 : i < 4 := by omega
      obtain ⟨ao, cap, hlv⟩ := elems_slice (HV.out.at hi4)
      have c1 : ((w.alloc (boxV v)).alloc boxPZ).cell? ⟨w.heap.size, i, none⟩ = some (.slice ao (A i).length cap) := by rw [← hlv]; exact boxV_lev HBV.out hi4
      have k0 : (0 : Int) ≤ (i : Int) := by omega
      have k1 : (i : Int) < 3 := by omega
      have k2 : IntKind.i64.wrap ((i : Int) + 1) = (i : Int) + 1 := by rw [IntKind.wrap_i64]; omega
      obtain ⟨m, hm⟩ : ∃ m, m = limK i := ⟨_, rfl⟩
      have HM := Lib.hid hm
      have r1 := run_lim i hlt
      rw [← hm] at r1
      have HLT := Lib.hid hlt
      by_cases hle : (A i).length ≤ m
      · have HLE := Lib.hid (show ∀ j, j < i + 1 → (A j).length ≤ limK j from fun j hj => by
          rcases Nat.lt_or_eq_of_le (Nat.le_of_lt_succ hj) with h | rfl
          · exact HJ.out j h
          · rw [← HM.out]; exact hle)
        have k3 : ((A i).length : Int) ≤ (m : Int) := by omega
        clear hm hlv hi4 hlt hle
        go_wp2_with fail
        go_roundw
        case rel => exact ⟨i + 1, HLT.out, by first | rfl | (congr 1), HLE, by first | trivial | rfl⟩
        case measure => simp [intOf]; have := HLT.out; omega
      · have HLK := Lib.hid (show levK A = some i from levK_some HLT.out (by rw [← HM.out]; omega) HJ.out)
        have k3 : ¬ ((A i).length : Int) ≤ (m : Int) := by omega
        have hp : 0 < (A i).length := by omega
        have HP := Lib.hid hp
        obtain ⟨l, hl⟩ : ∃ l, l = A i := ⟨_, rfl⟩
        have HL := Lib.hid hl
        have hT := HV.out.at hi4
        rw [hlv] at hT
        rw [← hl] at hT c1 k3
        have HC := Lib.hid (clone_any _ l _ (Seg.kept hT HB2.out) (by rw [hl]; exact HKN.out i hi4))
        have HI4 := Lib.hid hi4
        clear hm hlv hi4 hlt hle hT hl hp
        go_wp2_with fail
        refine HC.out.mono ?_
        rintro e w1 ⟨vc, rfl, hoc, hbc⟩
        obtain ⟨co, cc, hvc⟩ := owns_slice1 hoc
        subst hvc
        have HCC := Lib.hid (owns_cap1 hoc)
        have HBC := Lib.hid (below_step HB2.out hbc HB2.out.size)
        have hs2 : w.heap.size + 2 ≤ w1.heap.size := by have := hbc.size; rw [World.size_alloc, World.size_alloc] at this; omega
        have HS2 := Lib.hid hs2
        have HST := Lib.hid (show ∀ vi : Value, PkSt w v w1.heap.size ⟨i, vi, .slice none 0 0, true⟩ (w1.alloc (boxPn ⟨i, vi, .slice none 0 0, true⟩)) from
          fun vi => ⟨blk_alloc (blk_kept hbc HBV.out) _, blk_alloc (blk_kept hbc HBR.out) _, heap_alloc_new _ _, hs2, HBC.out.alloc HBC.out.size _⟩)
        have HRW := Lib.hid (show ∀ o : Obj, Rw (w1.alloc o) (w.heap.size + 2) w1.heap.size (.slice co l.length cc) l from
          fun o => ((Rw.own (hi := w1.heap.size) hoc (.inr (Nat.le_refl _))).mono (by rw [World.size_alloc, World.size_alloc]; omega)).kept (below_of_alloc _))
        have HVC := Lib.hid (show ∀ o : Obj, VerAt (w1.alloc o) v A from fun o => HV.out.kept (below_step HBC.out (below_of_alloc (w := w1) o) HBC.out.size))
        obtain ⟨q, hq⟩ : ∃ q, q = decide (0 < i) := ⟨_, rfl⟩
        have HQ := Lib.hid hq
        have kq1 : decide ((0 : Int) < (i : Int)) = q := by rw [hq, decide_eq_decide]; omega
        have kq2 : decide (0 < i) = q := hq.symm
        have hbp := (HST.out (.slice co l.length cc)).bp
        have g1 : (w1.alloc (boxPn ⟨i, .slice co l.length cc, .slice none 0 0, true⟩)).cell? ⟨w1.heap.size, 1, none⟩ = some (.slice co l.length cc) := (blk_cell hbp 1).trans rfl
        have gf : ∀ j, (w1.alloc (boxPn ⟨i, .slice co l.length cc, .slice none 0 0, true⟩)).frozen? ⟨w1.heap.size, j, none⟩ = false := fun j => by rw [blk_frozen hbp]; simp
        clear HC hoc hbc hs2 hq hbp
        go_upto_if 30 with fail
        go_cut [] (fun W => ∃ vi : Value, Hid (PkSt w v w1.heap.size ⟨i, vi, .slice none 0 0, true⟩ W) ∧ Hid (Rw W (w.heap.size + 2) w1.heap.size vi (inK A i)) ∧ Hid (VerAt W v A))
        case first =>
          cases q
          · have hi0 : i = 0 := by have := HQ.out; simp at this; omega
            have HIN := Lib.hid (show inK A i = l from by unfold inK; rw [if_pos hi0, HL.out, hi0])
            clear hi0
            go_wp2_with fail
            go_meet
            exact ⟨_, Lib.hid (HST.out _), by rw [HIN.out]; exact Lib.hid (HRW.out _), Lib.hid (HVC.out _)⟩
          · have hi0 : 0 < i := by have := HQ.out; simp at this; omega
            have HIN := Lib.hid (show inK A i = l.take 1 from by unfold inK; rw [if_neg (by omega), HL.out])
            obtain ⟨cb, cof, cc', hve, -⟩ := tbs_cells (HRW.out boxPZ).at' (by rw [HL.out]; exact HP.out)
            injection hve with h1 _ _
            subst h1
            have HPL := Lib.hid (show 0 < l.length from by rw [HL.out]; exact HP.out)
            have hcc : l.length ≤ cc := HCC.out
            have q1 : (1 : Int) ≤ (cc : Int) := by have := HPL.out; omega
            have HR1 := Lib.hid (fun o => (HRW.out o).one HPL.out 1)
            clear hi0 hcc
            go_wp2_with fail
            go_meet
            exact ⟨_, Lib.hid (HST.out _), by rw [HIN.out]; exact Lib.hid (HR1.out _), Lib.hid (HVC.out _)⟩
        case rest =>
          rename World => w2
          obtain ⟨vi, HT2, HR2, -⟩ := hcut
          clear g1 gf kq1 kq2 HST HRW HVC
          obtain ⟨pb, hpb⟩ : ∃ b, b = w1.heap.size := ⟨_, rfl⟩
          rw [← hpb] at HT2 HR2 ⊢
          have hip : 0 < (inK A i).length := inK_pos HP.out
          have hin : (inK A i).length ≤ 1000000 := by
            have := HKN.out i HI4.out
            unfold inK
            split
            · exact HKN.out 0 (by omega)
            · rw [List.length_take]; omega
          have HIL := Lib.hid (show (inK A i).length ≤ 100000 from by
            unfold inK
            split
            · exact HKS.out 0 (by omega)
            · rw [List.length_take]; have := HKS.out i HI4.out; omega)
          obtain ⟨f, hf⟩ : ∃ f, f = fstF (inK A i) := ⟨_, rfl⟩
          obtain ⟨g, hg⟩ : ∃ g, g = lstL (inK A i) := ⟨_, rfl⟩
          have HF := Lib.hid hf
          have HG := Lib.hid hg
          obtain ⟨il, hil⟩ : ∃ n, n = (inK A i).length := ⟨_, rfl⟩
          have HILN := Lib.hid hil
          obtain ⟨vo, vc, hvi⟩ := elems_slice HR2.out.at'
          rw [← hil] at hvi
          subst hvi
          have HC := Lib.hid (span_any (.slice vo il vc) (inK A i) w2 HR2.out.at' hip hin)
          unfold SpanPost at HC
          rw [← hf, ← hg] at HC
          have p1 : w2.cell? ⟨pb, 1, none⟩ = some (.slice vo il vc) := (blk_cell HT2.out.bp 1).trans rfl
          clear hpb hip hin hf hg k3 c1 r1 hil
          go_wp2_with fail
          refine HC.out.mono ?_
          rintro e w3 ⟨rfl, hb3⟩
          have HT3 := Lib.hid (HT2.out.kept hb3)
          have HR3 := Lib.hid (HR2.out.kept hb3)
          have hbv := HT3.out.bv
          have c0 : w3.cell? ⟨w.heap.size, 0, none⟩ = some (v.s0) := (blk_cell hbv 0).trans rfl
          have c1 : w3.cell? ⟨w.heap.size, 1, none⟩ = some (v.s1) := (blk_cell hbv 1).trans rfl
          have c2 : w3.cell? ⟨w.heap.size, 2, none⟩ = some (v.s2) := (blk_cell hbv 2).trans rfl
          have c3 : w3.cell? ⟨w.heap.size, 3, none⟩ = some (v.s3) := (blk_cell hbv 3).trans rfl
          have c4 : w3.cell? ⟨w.heap.size, 4, none⟩ = some (.int .u64 (v.log.toNat : Int)) := (blk_cell hbv 4).trans rfl
          have c5 : w3.cell? ⟨w.heap.size, 5, none⟩ = some (.int .u64 (v.seq.toNat : Int)) := (blk_cell hbv 5).trans rfl
          have c6 : w3.cell? ⟨w.heap.size, 6, none⟩ = some (.int .u64 (v.nxt.toNat : Int)) := (blk_cell hbv 6).trans rfl
          have k4 : IntKind.i64.wrap ((i : Int) + 1) = ((i + 1 : Nat) : Int) := by rw [IntKind.wrap_i64]; omega
          have HCO := Lib.hid (over_any (i + 1) v A f g w3 (HV.out.kept HT3.out.bel) (by have := HLT.out; omega) (HKN.out (i + 1) (by have := HLT.out; omega)))
          rw [HF.out, HG.out, show overL (A (i + 1)) (fstF (inK A i)) (lstL (inK A i)) = belowK A i from rfl, ← HF.out, ← HG.out] at HCO
          clear HC hb3 hbv HT2 HR2 p1
          go_wp2_with fail
          refine HCO.out.mono ?_
          rintro e w4 ⟨vb, rfl, hob, hb4⟩
          obtain ⟨bo, bc, hvb⟩ := owns_slice1 hob
          subst hvb
          obtain ⟨bl, hbl⟩ : ∃ n, n = (belowK A i).length := ⟨_, rfl⟩
          have HBLN := Lib.hid hbl
          rw [← hbl] at hob ⊢
          have HBLL := Lib.hid (show bl ≤ 100000 from by rw [hbl]; exact Nat.le_trans (over_le _ _ _) (HKS.out (i + 1) (by have := HLT.out; omega)))
          have HT4 := Lib.hid (HT3.out.kept hb4)
          have p2 : w4.cell? ⟨pb, 2, none⟩ = some (.slice none 0 0) := (blk_cell HT4.out.bp 2).trans rfl
          have pf : ∀ j, w4.frozen? ⟨pb, j, none⟩ = false := fun j => by rw [blk_frozen HT4.out.bp]; simp
          have HT5 := Lib.hid (HT4.out.set (j := 2) (x := .slice bo bl bc) (p' := ⟨i, .slice vo il vc, .slice bo bl bc, true⟩) rfl)
          have HR5 := Lib.hid ((HR3.out.kept hb4).set 2 (.slice bo bl bc))
          have HS5 := Lib.hid (show Rw (w4.setCell ⟨pb, 2, none⟩ (.slice bo bl bc)) (w.heap.size + 2) pb (.slice bo bl bc) (belowK A i) from
            (((Rw.own (hi := pb) (l := belowK A i) (by rw [← HBLN.out]; exact hob) (.inl (blk_lt HT3.out.bp))).mono (by have := HT3.out.lt; have := blk_lt HT3.out.bp; omega)).set 2 (.slice bo bl bc)))
          clear HCO hob hb4 hbl HT3 HR3 c0 c1 c2 c3 c4 c5 c6 k4
          go_upto_region 10 with fail
          refine (show ∀ W, W = w4.setCell ⟨pb, 2, none⟩ (.slice bo bl bc) → Code.wp _ _ _ _ W from ?_) _ rfl
          intro w5 hw5
          rw [← hw5] at HT5 HR5 HS5
          have p1 : w5.cell? ⟨pb, 1, none⟩ = some (.slice vo il vc) := (blk_cell HT5.out.bp 1).trans rfl
          have p3 : w5.cell? ⟨pb, 2, none⟩ = some (.slice bo bl bc) := (blk_cell HT5.out.bp 2).trans rfl
          obtain ⟨f2, hf2⟩ : ∃ f, f = fstF (bothK A i) := ⟨_, rfl⟩
          obtain ⟨g2, hg2⟩ : ∃ g, g = lstL (bothK A i) := ⟨_, rfl⟩
          have HF2 := Lib.hid hf2
          have HG2 := Lib.hid hg2
          have HBH := Lib.hid (show (bothK A i).length ≤ 200000 ∧ 0 < (bothK A i).length from ⟨by have := HIL.out; have := HBLL.out; have := HBLN.out; unfold bothK; rw [List.length_append]; omega, bothK_pos HP.out⟩)
          have HCC2 := Lib.hid (show ∀ t, Calls Tryd.prog 32 #[.slice (some ⟨w5.heap.size, 0, none⟩) 2 2] (w5.alloc (.cells #[.slice vo il vc, .slice bo bl bc] t (0, 0))) (NewRow (w5.alloc (.cells #[.slice vo il vc, .slice bo bl bc] t (0, 0))) (bothK A i)) from fun t => by
            have := concat _ _ _ (two_lists (heap_alloc_new w5 (.cells #[.slice vo il vc, .slice bo bl bc] t (0, 0))) (HR5.out.at'.kept (below_of_alloc _)) (HS5.out.at'.kept (below_of_alloc _))) (by simp) (by
              have h1 := HBH.out.1
              have e : [inK A i, belowK A i].flatten = bothK A i := by simp [bothK]
              rw [e]; omega)
            rw [show [inK A i, belowK A i].flatten = bothK A i from by simp [bothK]] at this
            exact this)
          clear p2 pf hw5 hf2 hg2 HT4
          go_wp2_with fail
          refine (HCC2.out _).mono ?_
          rintro e w6 ⟨vq, rfl, hoq, hb6⟩
          obtain ⟨qo, qc, hvq⟩ := owns_slice1 hoq
          subst hvq
          have HT6 := Lib.hid (HT5.out.kept (below_step (below_of_alloc _) hb6 (below_of_alloc _).size))
          have HR6 := Lib.hid (HR5.out.kept (below_step (below_of_alloc _) hb6 (below_of_alloc _).size))
          have HS6 := Lib.hid (HS5.out.kept (below_step (below_of_alloc _) hb6 (below_of_alloc _).size))
          have HC := Lib.hid (span_any _ (bothK A i) w6 (Seg.of_owns hoq) HBH.out.2 (by have := HBH.out.1; omega))
          unfold SpanPost at HC
          rw [← HF2.out, ← HG2.out] at HC
          obtain ⟨ql, hql⟩ : ∃ n, n = (bothK A i).length := ⟨_, rfl⟩
          rw [← hql] at HC ⊢
          clear hoq hb6 hql HCC2 HT5 HR5 HS5 p1 p3
          go_wp2_with fail
          refine HC.out.mono ?_
          rintro e w7 ⟨rfl, hb7⟩
          have HT7 := Lib.hid (HT6.out.kept hb7)
          have HR7 := Lib.hid (HR6.out.kept hb7)
          have HS7 := Lib.hid (HS6.out.kept hb7)
          have k5 : IntKind.i64.wrap ((i : Int) + 2) = ((i + 2 : Nat) : Int) := by rw [IntKind.wrap_i64]; omega
          clear HC hb7 HT6 HR6 HS6
          go_wp2_with fail
          go_loopw [9] (fun vd W => ∃ (d : Nat) (bt : Bool), i + 2 ≤ d ∧ d ≤ 4 ∧ vd = .int .i64 (d : Int) ∧ Hid (bt = botTo A i f2 g2 d) ∧ Hid (PkSt w v pb ⟨i, .slice vo il vc, .slice bo bl bc, bt⟩ W) ∧ Hid (Rw W (w.heap.size + 2) pb (.slice vo il vc) (inK A i)) ∧ Hid (Rw W (w.heap.size + 2) pb (.slice bo bl bc) (belowK A i))) (fun vd _ => 4 - (intOf vd).toNat)
          case atStart => exact ⟨i + 2, true, Nat.le_refl _, by have := HLT.out; omega, rfl, Lib.hid (botTo_start _ _ _ _).symm, HT7, HR7, HS7⟩
          case round =>
            obtain ⟨d, bt, hd1, hd, rfl, HBT, HT8, HR8, HS8⟩ := hrel
            have hbv := HT8.out.bv
            have c0 : wr.cell? ⟨w.heap.size, 0, none⟩ = some (v.s0) := (blk_cell hbv 0).trans rfl
            have c1 : wr.cell? ⟨w.heap.size, 1, none⟩ = some (v.s1) := (blk_cell hbv 1).trans rfl
            have c2 : wr.cell? ⟨w.heap.size, 2, none⟩ = some (v.s2) := (blk_cell hbv 2).trans rfl
            have c3 : wr.cell? ⟨w.heap.size, 3, none⟩ = some (v.s3) := (blk_cell hbv 3).trans rfl
            have c4 : wr.cell? ⟨w.heap.size, 4, none⟩ = some (.int .u64 (v.log.toNat : Int)) := (blk_cell hbv 4).trans rfl
            have c5 : wr.cell? ⟨w.heap.size, 5, none⟩ = some (.int .u64 (v.seq.toNat : Int)) := (blk_cell hbv 5).trans rfl
            have c6 : wr.cell? ⟨w.heap.size, 6, none⟩ = some (.int .u64 (v.nxt.toNat : Int)) := (blk_cell hbv 6).trans rfl
            have p3 : wr.cell? ⟨pb, 3, none⟩ = some (.bool bt) := (blk_cell HT8.out.bp 3).trans rfl
            have pf : ∀ j, wr.frozen? ⟨pb, j, none⟩ = false := fun j => by rw [blk_frozen HT8.out.bp]; simp
            by_cases hd4 : d < 4
            · have HD4 := Lib.hid hd4
              have HD1 := Lib.hid hd1
              have k6 : (d : Int) < 4 := by omega
              have k7 : IntKind.i64.wrap ((d : Int) + 1) = (d : Int) + 1 := by rw [IntKind.wrap_i64]; omega
              clear hbv hd4 hd1
              cases bt
              · have HT9 := Lib.hid (HT8.out.set (j := 3) (x := .bool false) (p' := ⟨i, .slice vo il vc, .slice bo bl bc, false⟩) rfl)
                go_wp2_with fail
                go_roundw
                case rel => exact ⟨d + 1, false, by have := HD1.out; omega, HD4.out, by first | rfl | (congr 1), Lib.hid (by rw [botTo_next A i f2 g2 HD1.out, ← HBT.out]; rfl), HT9, Lib.hid (HR8.out.set 3 _), Lib.hid (HS8.out.set 3 _)⟩
                case measure => simp [intOf]; have := HD4.out; omega
              · have HCO := Lib.hid (over_any d v A f2 g2 wr (HV.out.kept HT8.out.bel) HD4.out (HKN.out d HD4.out))
                go_wp2_with fail
                refine HCO.out.mono ?_
                rintro e w9 ⟨vx, rfl, hox, hb9⟩
                obtain ⟨xo, xc, hvx⟩ := owns_slice1 hox
                subst hvx
                obtain ⟨xl, hxl⟩ : ∃ n, n = (overL (A d) f2 g2).length := ⟨_, rfl⟩
                rw [← hxl]
                obtain ⟨b2, hb2⟩ : ∃ b, b = decide (xl = 0) := ⟨_, rfl⟩
                have HB2X := Lib.hid (show b2 = botTo A i f2 g2 (d + 1) from by rw [botTo_next A i f2 g2 HD1.out, ← HBT.out, hb2, hxl]; rfl)
                have r1 : ((xl : Int) == 0) = b2 := by rw [hb2, Bool.eq_iff_iff, beq_iff_eq, decide_eq_true_eq]; omega
                have HT9 := Lib.hid (HT8.out.kept hb9)
                have HT10 := Lib.hid (HT9.out.set (j := 3) (x := .bool b2) (p' := ⟨i, .slice vo il vc, .slice bo bl bc, b2⟩) rfl)
                have HR10 := Lib.hid ((HR8.out.kept hb9).set 3 (.bool b2))
                have HS10 := Lib.hid ((HS8.out.kept hb9).set 3 (.bool b2))
                have p4 : w9.cell? ⟨pb, 3, none⟩ = some (.bool true) := (blk_cell HT9.out.bp 3).trans rfl
                have pf2 : ∀ j, w9.frozen? ⟨pb, j, none⟩ = false := fun j => by rw [blk_frozen HT9.out.bp]; simp
                clear hox hb9 hxl hb2 c0 c1 c2 c3 c4 c5 c6 p3 pf HCO
                go_wp2_with fail
                go_roundw
                case rel => exact ⟨d + 1, b2, by have := HD1.out; omega, HD4.out, by first | rfl | (congr 1), HB2X, HT10, HR10, HS10⟩
                case measure => simp [intOf]; have := HD4.out; omega
            · have hd4' : d = 4 := by omega
              subst hd4'
              have k6 : ¬ (4 : Int) < 4 := by omega
              have p0 : wr.cell? ⟨pb, 0, none⟩ = some (.int .i64 (i : Int)) := (blk_cell HT8.out.bp 0).trans rfl
              have p1 : wr.cell? ⟨pb, 1, none⟩ = some (.slice vo il vc) := (blk_cell HT8.out.bp 1).trans rfl
              have p2 : wr.cell? ⟨pb, 2, none⟩ = some (.slice bo bl bc) := (blk_cell HT8.out.bp 2).trans rfl
              have hbr := HT8.out.br
              have r0 : wr.cell? ⟨w.heap.size + 1, 0, none⟩ = some (.int .i64 0) := (blk_cell hbr 0).trans rfl
              have r1 : wr.cell? ⟨w.heap.size + 1, 1, none⟩ = some (.slice none 0 0) := (blk_cell hbr 1).trans rfl
              have r2 : wr.cell? ⟨w.heap.size + 1, 2, none⟩ = some (.slice none 0 0) := (blk_cell hbr 2).trans rfl
              have r3 : wr.cell? ⟨w.heap.size + 1, 3, none⟩ = some (.bool false) := (blk_cell hbr 3).trans rfl
              have rf : ∀ j, wr.frozen? ⟨w.heap.size + 1, j, none⟩ = false := fun j => by rw [blk_frozen hbr]; simp
              have HP := Lib.hid (box_put4 hbr rfl ⟨i, .slice vo il vc, .slice bo bl bc, bt⟩)
              have HBP := Lib.hid (below_put4 HT8.out.bel (b := w.heap.size + 1) (Nat.le_succ _) ⟨i, .slice vo il vc, .slice bo bl bc, bt⟩)
              have HR9 := Lib.hid ((HR8.out.put4 (b0 := w.heap.size + 1) (by omega) ⟨i, .slice vo il vc, .slice bo bl bc, bt⟩).hi.mono (Nat.le_add_right _ 2))
              have HS9 := Lib.hid ((HS8.out.put4 (b0 := w.heap.size + 1) (by omega) ⟨i, .slice vo il vc, .slice bo bl bc, bt⟩).hi.mono (Nat.le_add_right _ 2))
              have HBO := Lib.hid (show bt = botK A i from by rw [HBT.out, HF2.out, HG2.out]; rfl)
              clear hbv hbr hd4 hd1 hd
              go_wp2_with fail
              exact bodyPost_ret (v := .tuple #[encPn ⟨i, .slice vo il vc, .slice bo bl bc, bt⟩, .bool true]) (results_row_tmp Tryd.results12 _ _ (w.heap.size + 1) TPn _ (0, 0) _ _ rfl rfl HP.out Tryd.underlying44 rfl (by kernel_rfl)) rfl ⟨⟨i, .slice vo il vc, .slice bo bl bc, bt⟩, true, rfl, HBP.out, fun k hk => by
                rw [HLK.out] at hk
                injection hk with hk
                subst hk
                exact ⟨rfl, rfl, HBO.out, HR9.out, HS9.out⟩, fun h => by rw [HLK.out] at h; cases h⟩
    · have hi3 : i = 3 := by omega
      subst hi3
      have HNO := Lib.hid (show levK A = none from levK_none.2 HJ.out)
      have k1 : ¬ (3 : Int) < 3 := by omega
      have hbr := HBR.out
      have r0 : ((w.alloc (boxV v)).alloc boxPZ).cell? ⟨w.heap.size + 1, 0, none⟩ = some (.int .i64 0) := (blk_cell hbr 0).trans rfl
      have r1 : ((w.alloc (boxV v)).alloc boxPZ).cell? ⟨w.heap.size + 1, 1, none⟩ = some (.slice none 0 0) := (blk_cell hbr 1).trans rfl
      have r2 : ((w.alloc (boxV v)).alloc boxPZ).cell? ⟨w.heap.size + 1, 2, none⟩ = some (.slice none 0 0) := (blk_cell hbr 2).trans rfl
      have r3 : ((w.alloc (boxV v)).alloc boxPZ).cell? ⟨w.heap.size + 1, 3, none⟩ = some (.bool false) := (blk_cell hbr 3).trans rfl
      have rf : ∀ j, ((w.alloc (boxV v)).alloc boxPZ).frozen? ⟨w.heap.size + 1, j, none⟩ = false := fun j => by rw [blk_frozen hbr]; simp
      have HP := Lib.hid (show ((w.alloc (boxV v)).alloc boxPZ).heap[w.heap.size + 1]? = some (boxPn zPn) from hbr)
      have HBP := HB2
      clear hlt hbr
      go_wp2_with fail
      exact bodyPost_ret (v := .tuple #[encPn zPn, .bool false]) (results_row_tmp Tryd.results12 _ _ (w.heap.size + 1) TPn _ (0, 0) _ _ rfl rfl HP.out Tryd.underlying44 rfl (by kernel_rfl)) rfl ⟨zPn, false, rfl, HBP.out, fun k hk => (by rw [HNO.out] at hk; cases hk), fun _ => ⟨rfl, rfl⟩⟩
end Go.Proofs.Tryd.Vr
