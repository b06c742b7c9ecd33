/- The document's covers. -/
import Derived.Test.YtmjjhnfdpiclfaaGreatDoorDq2
set_option linter.unusedVariables false
set_option linter.unusedSimpArgs false
set_option maxRecDepth 100000
namespace Go.Proofs.Tryz.Cd
open Go.RowKit Go.Cph Go.Cph.Tx Go.Cph.Px Go.Cph.Cv Go.Proofs.Tryz.Tx Go.Proofs.Tryz.Pfx
open Go.Cph.Ok (ofBs)
open Go.Proofs.Tryz.Rows (boxZ boxZR)
abbrev TRs : TypeId := 43
theorem infoRP : (Tryz.prog.info? TR).map (fun i => (i.zero, i.size, i.bytes)) = some (some (.agg #[.int .u8 0, .int .u64 0, .int .u64 0, .int .i64 0]), 4, 32) := by kernel_rfl
theorem encC_one {l : List Pf} : ∀ u ∈ l.flatMap encC, u.oneCell' = true := by
  intro u hu
  obtain ⟨p, -, h⟩ := List.mem_flatMap.1 hu
  simp only [encC, List.mem_cons, List.not_mem_nil, or_false] at h
  rcases h with rfl | rfl | rfl | rfl <;> rfl
def RowPost (l : List Pf) (w : World) (e : Ending) (w' : World) : Prop := ∃ v, e = .returned v ∧ w'.ownsRow w.heap.size TR 4 v l.length (l.flatMap encC) ∧ Below w.heap.size w w'
theorem owns_one {w : World} (p : Pf) {base : Nat} (hb : base ≤ w.heap.size) : (w.alloc (.cells #[.int .u8 (p.1.1.toNat : Int), .int .u64 (p.1.2.1.toNat : Int), .int .u64 (p.1.2.2.toNat : Int), .int .i64 p.2] TR)).ownsRow base TR 4 (.slice (some ⟨w.heap.size, 0, none⟩) 1 1) 1 ([p].flatMap encC) :=
  ⟨rfl, .inr ⟨w.heap.size, 1, _, rfl, hb, heap_alloc_new w _, Nat.le_refl _, by decide, rfl, rfl⟩⟩
theorem step_appP {ops : Array Oper} {o : Oper} {a : Act} {W w0 : World} {K : Act → World → Prop} {Q : Exit → Act → World → Prop} {E : Prop} {v u : Value} {n m : Nat} {xs ys : List Value} {base : Nat}
    (hg : o.guard = none) (s x : Operand) (hop : o.op = Op.call { callee := Callee.builtin Builtin.append, args := #[s, x], argTypes := #[TRs, TRs] })
    (hs : a.eval s = v) (hx : a.eval x = u) (ho : W.ownsRow base TR 4 v n xs) (hsg : Seg W 4 u m ys) (h1 : ∀ z ∈ ys, z.oneCell' = true) (HB : Below base w0 W) (hbase : base ≤ W.heap.size) (hn : n + m ≤ 100000)
    (hK : ∀ v' W', W'.ownsRow base TR 4 v' (n + m) (xs ++ ys) → Below base w0 W' → K (a.put o.dst v') W') :
    if Region.wanted o (yielded ops a.tmps) = true then Oper.wp Tryz.prog o a W K Q else E := by
  obtain ⟨v', W', hr, ho', hgr, -⟩ := run_append_seg (P := Tryz.prog) W TRs o.type TR _ 4 32 Tryz.underlying43 infoRP rfl (by decide) ho hsg h1 (by omega) (by decide) hbase
  exact step_append hg s x TRs TRs hop _ _ hs hx hr (hK v' W' ho' (below_grown HB hgr ho (Nat.le_refl _) hbase))
set_option maxHeartbeats 16000000 in
theorem rpart_step (p : Pf) (a b : Ad) (hf : PartFam p a b) (ih : ∀ q, rest q.1 q.2 < rest p.1 p.2 → PartFam q a b → ∀ w, Calls Tryz.prog 47 #[encP q, encA a, encA b] w (RowPost (partP q a b) w)) (w : World) :
    Calls Tryz.prog 47 #[encP p, encA a, encA b] w (RowPost (partP p a b) w) := by
  have HLA := Lib.hid (fun W => rlast p W)
  have HL1 := Lib.hid (fun W => Tx.rless (lastR p) a W)
  have HL2 := Lib.hid (fun W => Tx.rless b p.1 W)
  have HL3 := Lib.hid (fun W => Tx.rless b a W)
  have HL4 := Lib.hid (fun W => Tx.rless p.1 a W)
  have HL5 := Lib.hid (fun W => Tx.rless b (lastR p) W)
  have HLN := Lib.hid (partP_len hf)
  have HF := Lib.hid (part_cases hf)
  have HSP := Lib.hid (fun x y (h : Split p x y a b) => (show (∀ W, Calls Tryz.prog 16 #[encP p] W fun e w' => e = .returned (.tuple #[encP x, encP y, .bool true]) ∧ Below W.heap.size W w') ∧ (∀ W, Calls Tryz.prog 47 #[encP x, encA a, encA b] W (RowPost (partP x a b) W)) ∧ (∀ W, Calls Tryz.prog 47 #[encP y, encA a, encA b] W (RowPost (partP y a b) W)) ∧ partP p a b = partP x a b ++ partP y a b from
    ⟨fun W => by
      have := rhalves p W
      unfold HalvesPost at this
      rw [h.halves] at this
      exact this, fun W => ih x h.lx h.fx W, fun W => ih y h.ly h.fy W, h.app⟩))
  obtain ⟨L, h_0⟩ : ∃ r, r = lastR p := ⟨_, rfl⟩
  rw [← h_0] at HLA HL1 HL5 HF
  clear h_0
  obtain ⟨l1, h_1⟩ : ∃ r, r = lessA L a := ⟨_, rfl⟩
  rw [← h_1] at HL1 HF
  clear h_1
  obtain ⟨l2, h_2⟩ : ∃ r, r = lessA b p.1 := ⟨_, rfl⟩
  rw [← h_2] at HL2 HF
  clear h_2
  obtain ⟨l3, h_3⟩ : ∃ r, r = lessA b a := ⟨_, rfl⟩
  rw [← h_3] at HL3 HF
  clear h_3
  obtain ⟨l4, h_4⟩ : ∃ r, r = lessA p.1 a := ⟨_, rfl⟩
  rw [← h_4] at HL4 HF
  clear h_4
  obtain ⟨l5, h_5⟩ : ∃ r, r = lessA b L := ⟨_, rfl⟩
  rw [← h_5] at HL5 HF
  clear h_5
  have HFF := Lib.hid (show (l1 = true ∧ partP p a b = []) ∨ (l1 = false ∧ l2 = true ∧ partP p a b = []) ∨ (l1 = false ∧ l2 = false ∧ l3 = true ∧ partP p a b = []) ∨ (l1 = false ∧ l2 = false ∧ l3 = false ∧ l4 = false ∧ l5 = false ∧ partP p a b = [p]) ∨ (l1 = false ∧ l2 = false ∧ l3 = false ∧ l4 = true ∧ ∃ x y, Split p x y a b) ∨ (l1 = false ∧ l2 = false ∧ l3 = false ∧ l4 = false ∧ l5 = true ∧ ∃ x y, Split p x y a b) from HF.out)
  clear HF hf ih
  obtain ⟨pl, hpl⟩ : ∃ l, l = partP p a b := ⟨_, rfl⟩
  rw [← hpl] at HLN HFF HSP ⊢
  clear hpl
  obtain ⟨⟨fp, xp, yp⟩, bp⟩ := p
  obtain ⟨fa, xa, ya⟩ := a
  obtain ⟨fb, xb, yb⟩ := b
  obtain ⟨fl, xl, yl⟩ := L
  have HXp1 := Lib.hid (heap_alloc_new w (boxRP ((fp, xp, yp), bp)))
  have HW1 := Lib.hid (show Below w.heap.size w (w.alloc (boxRP ((fp, xp, yp), bp))) from (Below.refl _ _).alloc (Nat.le_refl _) _)
  have HXp2 := Lib.hid (blk_alloc HXp1.out (boxRA (fa, xa, ya)))
  have hxa := heap_alloc_new (w.alloc (boxRP ((fp, xp, yp), bp))) (boxRA (fa, xa, ya))
  simp only [World.size_alloc] at hxa
  have HXa2 := Lib.hid hxa
  clear hxa
  have HW2 := Lib.hid (show Below w.heap.size w ((w.alloc (boxRP ((fp, xp, yp), bp))).alloc (boxRA (fa, xa, ya))) from HW1.out.alloc HW1.out.size _)
  have HXp3 := Lib.hid (blk_alloc HXp2.out (boxRA (fb, xb, yb)))
  have HXa3 := Lib.hid (blk_alloc HXa2.out (boxRA (fb, xb, yb)))
  have hxb := heap_alloc_new ((w.alloc (boxRP ((fp, xp, yp), bp))).alloc (boxRA (fa, xa, ya))) (boxRA (fb, xb, yb))
  simp only [World.size_alloc] at hxb
  have HXb3 := Lib.hid hxb
  clear hxb
  have HW3 := Lib.hid (show Below w.heap.size w (((w.alloc (boxRP ((fp, xp, yp), bp))).alloc (boxRA (fa, xa, ya))).alloc (boxRA (fb, xb, yb))) from HW2.out.alloc HW2.out.size _)
  go_enter Tryz.func47, Tryz.ntmps47
  obtain ⟨p0, p1, p2, p3⟩ := boxRP_at HXp3.out
  go_wp2_with fail
  refine (HLA.out _).mono ?_
  rintro e v4 ⟨rfl, hb⟩
  clear p0 p1 p2 p3
  have HXp5 := Lib.hid (blk_kept hb HXp3.out)
  have HXa5 := Lib.hid (blk_kept hb HXa3.out)
  have HXb5 := Lib.hid (blk_kept hb HXb3.out)
  have HW5 := Lib.hid (below_step HW3.out hb HW3.out.size)
  clear hb
  have HXp6 := Lib.hid (blk_alloc HXp5.out (boxRA (fl, xl, yl)))
  have HXa6 := Lib.hid (blk_alloc HXa5.out (boxRA (fl, xl, yl)))
  have HXb6 := Lib.hid (blk_alloc HXb5.out (boxRA (fl, xl, yl)))
  have HXl6 := Lib.hid (heap_alloc_new v4 (boxRA (fl, xl, yl)))
  have HW6 := Lib.hid (show Below w.heap.size w (v4.alloc (boxRA (fl, xl, yl))) from HW5.out.alloc HW5.out.size _)
  obtain ⟨p0, p1, p2, p3⟩ := boxRP_at HXp6.out
  obtain ⟨a0, a1, a2⟩ := boxRA_at HXa6.out
  obtain ⟨b0, b1, b2⟩ := boxRA_at HXb6.out
  obtain ⟨l0, l1, l2⟩ := boxRA_at HXl6.out
  go_wp2_with fail
  refine (HL1.out _).mono ?_
  rintro e v7 ⟨rfl, hb⟩
  clear p0 p1 p2 p3 a0 a1 a2 b0 b1 b2 l0 l1 l2
  have HXp8 := Lib.hid (blk_kept hb HXp6.out)
  have HXa8 := Lib.hid (blk_kept hb HXa6.out)
  have HXb8 := Lib.hid (blk_kept hb HXb6.out)
  have HXl8 := Lib.hid (blk_kept hb HXl6.out)
  have HW8 := Lib.hid (below_step HW6.out hb HW6.out.size)
  clear hb
  obtain ⟨p0, p1, p2, p3⟩ := boxRP_at HXp8.out
  obtain ⟨a0, a1, a2⟩ := boxRA_at HXa8.out
  obtain ⟨b0, b1, b2⟩ := boxRA_at HXb8.out
  obtain ⟨l0, l1, l2⟩ := boxRA_at HXl8.out
  rcases HFF.out with ⟨rfl, hz⟩ | ⟨rfl, rfl, hz⟩ | ⟨rfl, rfl, rfl, hz⟩ | ⟨rfl, rfl, rfl, rfl, rfl, hz⟩ | ⟨rfl, rfl, rfl, rfl, X, Y, hz⟩ | ⟨rfl, rfl, rfl, rfl, rfl, X, Y, hz⟩
  · have HV := Lib.hid hz
    clear hz
    clear p0 p1 p2 p3 a0 a1 a2 b0 b1 b2 l0 l1 l2
    go_wp2_with fail
    go_ret
    rw [HV.out]
    exact ⟨_, rfl, World.ownsRow_nil _ _ _ _, HW8.out⟩
  · have HV := Lib.hid hz
    clear hz
    go_wp2_with fail
    refine (HL2.out _).mono ?_
    rintro e v9 ⟨rfl, hb⟩
    clear p0 p1 p2 p3 a0 a1 a2 b0 b1 b2 l0 l1 l2
    have HXp10 := Lib.hid (blk_kept hb HXp8.out)
    have HXa10 := Lib.hid (blk_kept hb HXa8.out)
    have HXb10 := Lib.hid (blk_kept hb HXb8.out)
    have HXl10 := Lib.hid (blk_kept hb HXl8.out)
    have HW10 := Lib.hid (below_step HW8.out hb HW8.out.size)
    clear hb
    obtain ⟨p0, p1, p2, p3⟩ := boxRP_at HXp10.out
    obtain ⟨a0, a1, a2⟩ := boxRA_at HXa10.out
    obtain ⟨b0, b1, b2⟩ := boxRA_at HXb10.out
    obtain ⟨l0, l1, l2⟩ := boxRA_at HXl10.out
    clear p0 p1 p2 p3 a0 a1 a2 b0 b1 b2 l0 l1 l2
    go_wp2_with fail
    go_ret
    rw [HV.out]
    exact ⟨_, rfl, World.ownsRow_nil _ _ _ _, HW10.out⟩
  · have HV := Lib.hid hz
    clear hz
    go_wp2_with fail
    refine (HL2.out _).mono ?_
    rintro e v11 ⟨rfl, hb⟩
    clear p0 p1 p2 p3 a0 a1 a2 b0 b1 b2 l0 l1 l2
    have HXp12 := Lib.hid (blk_kept hb HXp8.out)
    have HXa12 := Lib.hid (blk_kept hb HXa8.out)
    have HXb12 := Lib.hid (blk_kept hb HXb8.out)
    have HXl12 := Lib.hid (blk_kept hb HXl8.out)
    have HW12 := Lib.hid (below_step HW8.out hb HW8.out.size)
    clear hb
    obtain ⟨p0, p1, p2, p3⟩ := boxRP_at HXp12.out
    obtain ⟨a0, a1, a2⟩ := boxRA_at HXa12.out
    obtain ⟨b0, b1, b2⟩ := boxRA_at HXb12.out
    obtain ⟨l0, l1, l2⟩ := boxRA_at HXl12.out
    go_wp2_with fail
    refine (HL3.out _).mono ?_
    rintro e v13 ⟨rfl, hb⟩
    clear p0 p1 p2 p3 a0 a1 a2 b0 b1 b2 l0 l1 l2
    have HXp14 := Lib.hid (blk_kept hb HXp12.out)
    have HXa14 := Lib.hid (blk_kept hb HXa12.out)
    have HXb14 := Lib.hid (blk_kept hb HXb12.out)
    have HXl14 := Lib.hid (blk_kept hb HXl12.out)
    have HW14 := Lib.hid (below_step HW12.out hb HW12.out.size)
    clear hb
    obtain ⟨p0, p1, p2, p3⟩ := boxRP_at HXp14.out
    obtain ⟨a0, a1, a2⟩ := boxRA_at HXa14.out
    obtain ⟨b0, b1, b2⟩ := boxRA_at HXb14.out
    obtain ⟨l0, l1, l2⟩ := boxRA_at HXl14.out
    clear p0 p1 p2 p3 a0 a1 a2 b0 b1 b2 l0 l1 l2
    go_wp2_with fail
    go_ret
    rw [HV.out]
    exact ⟨_, rfl, World.ownsRow_nil _ _ _ _, HW14.out⟩
  · have HV := Lib.hid hz
    clear hz
    go_wp2_with fail
    refine (HL2.out _).mono ?_
    rintro e v15 ⟨rfl, hb⟩
    clear p0 p1 p2 p3 a0 a1 a2 b0 b1 b2 l0 l1 l2
    have HXp16 := Lib.hid (blk_kept hb HXp8.out)
    have HXa16 := Lib.hid (blk_kept hb HXa8.out)
    have HXb16 := Lib.hid (blk_kept hb HXb8.out)
    have HXl16 := Lib.hid (blk_kept hb HXl8.out)
    have HW16 := Lib.hid (below_step HW8.out hb HW8.out.size)
    clear hb
    obtain ⟨p0, p1, p2, p3⟩ := boxRP_at HXp16.out
    obtain ⟨a0, a1, a2⟩ := boxRA_at HXa16.out
    obtain ⟨b0, b1, b2⟩ := boxRA_at HXb16.out
    obtain ⟨l0, l1, l2⟩ := boxRA_at HXl16.out
    go_wp2_with fail
    refine (HL3.out _).mono ?_
    rintro e v17 ⟨rfl, hb⟩
    clear p0 p1 p2 p3 a0 a1 a2 b0 b1 b2 l0 l1 l2
    have HXp18 := Lib.hid (blk_kept hb HXp16.out)
    have HXa18 := Lib.hid (blk_kept hb HXa16.out)
    have HXb18 := Lib.hid (blk_kept hb HXb16.out)
    have HXl18 := Lib.hid (blk_kept hb HXl16.out)
    have HW18 := Lib.hid (below_step HW16.out hb HW16.out.size)
    clear hb
    obtain ⟨p0, p1, p2, p3⟩ := boxRP_at HXp18.out
    obtain ⟨a0, a1, a2⟩ := boxRA_at HXa18.out
    obtain ⟨b0, b1, b2⟩ := boxRA_at HXb18.out
    obtain ⟨l0, l1, l2⟩ := boxRA_at HXl18.out
    go_wp2_with fail
    refine (HL4.out _).mono ?_
    rintro e v19 ⟨rfl, hb⟩
    clear p0 p1 p2 p3 a0 a1 a2 b0 b1 b2 l0 l1 l2
    have HXp20 := Lib.hid (blk_kept hb HXp18.out)
    have HXa20 := Lib.hid (blk_kept hb HXa18.out)
    have HXb20 := Lib.hid (blk_kept hb HXb18.out)
    have HXl20 := Lib.hid (blk_kept hb HXl18.out)
    have HW20 := Lib.hid (below_step HW18.out hb HW18.out.size)
    clear hb
    obtain ⟨p0, p1, p2, p3⟩ := boxRP_at HXp20.out
    obtain ⟨a0, a1, a2⟩ := boxRA_at HXa20.out
    obtain ⟨b0, b1, b2⟩ := boxRA_at HXb20.out
    obtain ⟨l0, l1, l2⟩ := boxRA_at HXl20.out
    go_wp2_with fail
    refine (HL5.out _).mono ?_
    rintro e v21 ⟨rfl, hb⟩
    clear p0 p1 p2 p3 a0 a1 a2 b0 b1 b2 l0 l1 l2
    have HXp22 := Lib.hid (blk_kept hb HXp20.out)
    have HXa22 := Lib.hid (blk_kept hb HXa20.out)
    have HXb22 := Lib.hid (blk_kept hb HXb20.out)
    have HXl22 := Lib.hid (blk_kept hb HXl20.out)
    have HW22 := Lib.hid (below_step HW20.out hb HW20.out.size)
    clear hb
    obtain ⟨p0, p1, p2, p3⟩ := boxRP_at HXp22.out
    obtain ⟨a0, a1, a2⟩ := boxRA_at HXa22.out
    obtain ⟨b0, b1, b2⟩ := boxRA_at HXb22.out
    obtain ⟨l0, l1, l2⟩ := boxRA_at HXl22.out
    go_wp2_with fail
    go_ret
    rw [HV.out]
    exact ⟨_, rfl, owns_one ((fp, xp, yp), bp) HW22.out.size, bl_alloc HW22.out _⟩
  · obtain ⟨k1, k2, k3, k4⟩ := HSP.out X Y hz
    have HHA := Lib.hid k1
    have HP1 := Lib.hid k2
    have HP2 := Lib.hid k3
    have HAP := Lib.hid k4
    clear k1 k2 k3 k4 hz HSP
    obtain ⟨LX, hLX⟩ : ∃ l, l = partP X (fa, xa, ya) (fb, xb, yb) := ⟨_, rfl⟩
    obtain ⟨LY, hLY⟩ : ∃ l, l = partP Y (fa, xa, ya) (fb, xb, yb) := ⟨_, rfl⟩
    rw [← hLX] at HP1 HAP
    rw [← hLY] at HP2 HAP
    clear hLX hLY
    obtain ⟨⟨fX, xX, yX⟩, bX⟩ := X
    obtain ⟨⟨fY, xY, yY⟩, bY⟩ := Y
    go_wp2_with fail
    refine (HL2.out _).mono ?_
    rintro e v23 ⟨rfl, hb⟩
    clear p0 p1 p2 p3 a0 a1 a2 b0 b1 b2 l0 l1 l2
    have HXp24 := Lib.hid (blk_kept hb HXp8.out)
    have HXa24 := Lib.hid (blk_kept hb HXa8.out)
    have HXb24 := Lib.hid (blk_kept hb HXb8.out)
    have HXl24 := Lib.hid (blk_kept hb HXl8.out)
    have HW24 := Lib.hid (below_step HW8.out hb HW8.out.size)
    clear hb
    obtain ⟨p0, p1, p2, p3⟩ := boxRP_at HXp24.out
    obtain ⟨a0, a1, a2⟩ := boxRA_at HXa24.out
    obtain ⟨b0, b1, b2⟩ := boxRA_at HXb24.out
    obtain ⟨l0, l1, l2⟩ := boxRA_at HXl24.out
    go_wp2_with fail
    refine (HL3.out _).mono ?_
    rintro e v25 ⟨rfl, hb⟩
    clear p0 p1 p2 p3 a0 a1 a2 b0 b1 b2 l0 l1 l2
    have HXp26 := Lib.hid (blk_kept hb HXp24.out)
    have HXa26 := Lib.hid (blk_kept hb HXa24.out)
    have HXb26 := Lib.hid (blk_kept hb HXb24.out)
    have HXl26 := Lib.hid (blk_kept hb HXl24.out)
    have HW26 := Lib.hid (below_step HW24.out hb HW24.out.size)
    clear hb
    obtain ⟨p0, p1, p2, p3⟩ := boxRP_at HXp26.out
    obtain ⟨a0, a1, a2⟩ := boxRA_at HXa26.out
    obtain ⟨b0, b1, b2⟩ := boxRA_at HXb26.out
    obtain ⟨l0, l1, l2⟩ := boxRA_at HXl26.out
    go_wp2_with fail
    refine (HL4.out _).mono ?_
    rintro e v27 ⟨rfl, hb⟩
    clear p0 p1 p2 p3 a0 a1 a2 b0 b1 b2 l0 l1 l2
    have HXp28 := Lib.hid (blk_kept hb HXp26.out)
    have HXa28 := Lib.hid (blk_kept hb HXa26.out)
    have HXb28 := Lib.hid (blk_kept hb HXb26.out)
    have HXl28 := Lib.hid (blk_kept hb HXl26.out)
    have HW28 := Lib.hid (below_step HW26.out hb HW26.out.size)
    clear hb
    obtain ⟨p0, p1, p2, p3⟩ := boxRP_at HXp28.out
    obtain ⟨a0, a1, a2⟩ := boxRA_at HXa28.out
    obtain ⟨b0, b1, b2⟩ := boxRA_at HXb28.out
    obtain ⟨l0, l1, l2⟩ := boxRA_at HXl28.out
    go_wp2_with fail
    refine (HHA.out _).mono ?_
    rintro e v29 ⟨rfl, hb⟩
    clear p0 p1 p2 p3 a0 a1 a2 b0 b1 b2 l0 l1 l2
    have HXp30 := Lib.hid (blk_kept hb HXp28.out)
    have HXa30 := Lib.hid (blk_kept hb HXa28.out)
    have HXb30 := Lib.hid (blk_kept hb HXb28.out)
    have HXl30 := Lib.hid (blk_kept hb HXl28.out)
    have HW30 := Lib.hid (below_step HW28.out hb HW28.out.size)
    clear hb
    have HXp31 := Lib.hid (blk_alloc HXp30.out (boxRP ((fX, xX, yX), bX)))
    have HXa31 := Lib.hid (blk_alloc HXa30.out (boxRP ((fX, xX, yX), bX)))
    have HXb31 := Lib.hid (blk_alloc HXb30.out (boxRP ((fX, xX, yX), bX)))
    have HXl31 := Lib.hid (blk_alloc HXl30.out (boxRP ((fX, xX, yX), bX)))
    have HXx31 := Lib.hid (heap_alloc_new v29 (boxRP ((fX, xX, yX), bX)))
    have HW31 := Lib.hid (show Below w.heap.size w (v29.alloc (boxRP ((fX, xX, yX), bX))) from HW30.out.alloc HW30.out.size _)
    have HXp32 := Lib.hid (blk_alloc HXp31.out (boxRP ((fY, xY, yY), bY)))
    have HXa32 := Lib.hid (blk_alloc HXa31.out (boxRP ((fY, xY, yY), bY)))
    have HXb32 := Lib.hid (blk_alloc HXb31.out (boxRP ((fY, xY, yY), bY)))
    have HXl32 := Lib.hid (blk_alloc HXl31.out (boxRP ((fY, xY, yY), bY)))
    have HXx32 := Lib.hid (blk_alloc HXx31.out (boxRP ((fY, xY, yY), bY)))
    have hxy := heap_alloc_new (v29.alloc (boxRP ((fX, xX, yX), bX))) (boxRP ((fY, xY, yY), bY))
    simp only [World.size_alloc] at hxy
    have HXy32 := Lib.hid hxy
    clear hxy
    have HW32 := Lib.hid (show Below w.heap.size w ((v29.alloc (boxRP ((fX, xX, yX), bX))).alloc (boxRP ((fY, xY, yY), bY))) from HW31.out.alloc HW31.out.size _)
    go_wp2_with fail
    obtain ⟨v33, hv33⟩ : ∃ v33, v33 = ((v29.alloc (boxRP ((fX, xX, yX), bX))).alloc (boxRP ((fY, xY, yY), bY))) := ⟨_, rfl⟩
    rw [← hv33] at HXp32 HXa32 HXb32 HXl32 HXx32 HXy32 HW32 ⊢
    clear hv33
    have HKP := Lib.hid (show ∀ W, Below v33.heap.size v33 W → W.cell? ⟨v29.heap.size, 0, none⟩ = some (.int .u8 (fX.toNat : Int)) ∧ W.cell? ⟨v29.heap.size, 1, none⟩ = some (.int .u64 (xX.toNat : Int)) ∧ W.cell? ⟨v29.heap.size, 2, none⟩ = some (.int .u64 (yX.toNat : Int)) ∧ W.cell? ⟨v29.heap.size, 3, none⟩ = some (.int .i64 bX) ∧ W.cell? ⟨v29.heap.size + 1, 0, none⟩ = some (.int .u8 (fY.toNat : Int)) ∧ W.cell? ⟨v29.heap.size + 1, 1, none⟩ = some (.int .u64 (xY.toNat : Int)) ∧ W.cell? ⟨v29.heap.size + 1, 2, none⟩ = some (.int .u64 (yY.toNat : Int)) ∧ W.cell? ⟨v29.heap.size + 1, 3, none⟩ = some (.int .i64 bY) ∧ W.cell? ⟨w.heap.size + 1, 0, none⟩ = some (.int .u8 (fa.toNat : Int)) ∧ W.cell? ⟨w.heap.size + 1, 1, none⟩ = some (.int .u64 (xa.toNat : Int)) ∧ W.cell? ⟨w.heap.size + 1, 2, none⟩ = some (.int .u64 (ya.toNat : Int)) ∧ W.cell? ⟨w.heap.size + 1 + 1, 0, none⟩ = some (.int .u8 (fb.toNat : Int)) ∧ W.cell? ⟨w.heap.size + 1 + 1, 1, none⟩ = some (.int .u64 (xb.toNat : Int)) ∧ W.cell? ⟨w.heap.size + 1 + 1, 2, none⟩ = some (.int .u64 (yb.toNat : Int)) from fun W h => by
      obtain ⟨x0, x1, x2, x3⟩ := boxRP_at (blk_kept h HXx32.out)
      obtain ⟨y0, y1, y2, y3⟩ := boxRP_at (blk_kept h HXy32.out)
      obtain ⟨a0, a1, a2⟩ := boxRA_at (blk_kept h HXa32.out)
      obtain ⟨b0, b1, b2⟩ := boxRA_at (blk_kept h HXb32.out)
      exact ⟨x0, x1, x2, x3, y0, y1, y2, y3, a0, a1, a2, b0, b1, b2⟩)
    have HS0 := Lib.hid (show Below v33.heap.size v33 v33 from Below.refl _ _)
    have HWV := Lib.hid HW32.out
    go_cut [6] (fun s6 W => Hid (∃ v, s6 = v ∧ W.ownsRow w.heap.size TR 4 v (LX.length + LY.length) (LX.flatMap encC ++ LY.flatMap encC) ∧ Below w.heap.size w W))
    case first =>
      go_region_held3 (fun W => W.cell? ⟨v29.heap.size, 0, none⟩ = some (.int .u8 (fX.toNat : Int)) ∧ W.cell? ⟨v29.heap.size, 1, none⟩ = some (.int .u64 (xX.toNat : Int)) ∧ W.cell? ⟨v29.heap.size, 2, none⟩ = some (.int .u64 (yX.toNat : Int)) ∧ W.cell? ⟨v29.heap.size, 3, none⟩ = some (.int .i64 bX) ∧ W.cell? ⟨v29.heap.size + 1, 0, none⟩ = some (.int .u8 (fY.toNat : Int)) ∧ W.cell? ⟨v29.heap.size + 1, 1, none⟩ = some (.int .u64 (xY.toNat : Int)) ∧ W.cell? ⟨v29.heap.size + 1, 2, none⟩ = some (.int .u64 (yY.toNat : Int)) ∧ W.cell? ⟨v29.heap.size + 1, 3, none⟩ = some (.int .i64 bY) ∧ W.cell? ⟨w.heap.size + 1, 0, none⟩ = some (.int .u8 (fa.toNat : Int)) ∧ W.cell? ⟨w.heap.size + 1, 1, none⟩ = some (.int .u64 (xa.toNat : Int)) ∧ W.cell? ⟨w.heap.size + 1, 2, none⟩ = some (.int .u64 (ya.toNat : Int)) ∧ W.cell? ⟨w.heap.size + 1 + 1, 0, none⟩ = some (.int .u8 (fb.toNat : Int)) ∧ W.cell? ⟨w.heap.size + 1 + 1, 1, none⟩ = some (.int .u64 (xb.toNat : Int)) ∧ W.cell? ⟨w.heap.size + 1 + 1, 2, none⟩ = some (.int .u64 (yb.toNat : Int))) ((refine HKP.out _ ?_; (repeat (first | (with_reducible exact B4.out) | (with_reducible exact B2.out) | (with_reducible exact B1.out) | (with_reducible exact HS0.out) | (with_reducible refine bl_drew ?_))); done))
        (first
          | (go_at_call 47; (with_reducible refine (HP1.out _).mono ?_); rintro e u1 ⟨v1, rfl, ho, hb⟩; (have B1 := Lib.hid (show Below v33.heap.size v33 u1 from by first | exact below_step HS0.out hb HS0.out.size | exact below_step HS0.out.drew hb HS0.out.drew.size)); (have O1 := Lib.hid (owns_mono ho (show v33.heap.size ≤ _ from by first | exact HS0.out.size | exact HS0.out.drew.size))); clear ho hb)
          | (go_at_call 47; (with_reducible refine (HP2.out _).mono ?_); rintro e u2 ⟨v2, rfl, ho, hb⟩; (have B2 := Lib.hid (below_step B1.out hb B1.out.size)); (have O2 := Lib.hid (Seg.of_owns ho)); (have O3 := Lib.hid (row_kept1 O1.out fun q hq => hb.block q (O1.out.lt q hq).2)); clear ho hb)
          | (refine step_appP (w0 := v33) rfl (.tmp 49) (.tmp 53) rfl (by rfl) (by rfl) O3.out O2.out encC_one B2.out B2.out.size (by have := HLN.out; rw [HAP.out, List.length_append] at this; omega) ?_; intro v3 u3 ho3 hb3; have O4 := Lib.hid ho3; have B4 := Lib.hid hb3; clear ho3 hb3))
      all_goals go_wp2_with fail
      all_goals go_meet
      all_goals case rel => exact Lib.hid ⟨_, rfl, owns_mono O4.out HWV.out.size, below_step HWV.out B4.out HWV.out.size⟩
    case rest =>
      obtain ⟨w5, hw5⟩ : ∃ w5, w5 = wc := ⟨_, rfl⟩
      subst hw5
      obtain ⟨v5, rfl, ho5, hb5⟩ := hcut.out
      have O5 := Lib.hid ho5
      have B5 := Lib.hid hb5
      clear ho5 hb5 hcut
      go_wp2_with fail
      go_ret
      rw [HAP.out]
      exact ⟨_, rfl, by rw [List.length_append, List.flatMap_append]; exact O5.out, B5.out⟩
  · obtain ⟨k1, k2, k3, k4⟩ := HSP.out X Y hz
    have HHA := Lib.hid k1
    have HP1 := Lib.hid k2
    have HP2 := Lib.hid k3
    have HAP := Lib.hid k4
    clear k1 k2 k3 k4 hz HSP
    obtain ⟨LX, hLX⟩ : ∃ l, l = partP X (fa, xa, ya) (fb, xb, yb) := ⟨_, rfl⟩
    obtain ⟨LY, hLY⟩ : ∃ l, l = partP Y (fa, xa, ya) (fb, xb, yb) := ⟨_, rfl⟩
    rw [← hLX] at HP1 HAP
    rw [← hLY] at HP2 HAP
    clear hLX hLY
    obtain ⟨⟨fX, xX, yX⟩, bX⟩ := X
    obtain ⟨⟨fY, xY, yY⟩, bY⟩ := Y
    go_wp2_with fail
    refine (HL2.out _).mono ?_
    rintro e v34 ⟨rfl, hb⟩
    clear p0 p1 p2 p3 a0 a1 a2 b0 b1 b2 l0 l1 l2
    have HXp35 := Lib.hid (blk_kept hb HXp8.out)
    have HXa35 := Lib.hid (blk_kept hb HXa8.out)
    have HXb35 := Lib.hid (blk_kept hb HXb8.out)
    have HXl35 := Lib.hid (blk_kept hb HXl8.out)
    have HW35 := Lib.hid (below_step HW8.out hb HW8.out.size)
    clear hb
    obtain ⟨p0, p1, p2, p3⟩ := boxRP_at HXp35.out
    obtain ⟨a0, a1, a2⟩ := boxRA_at HXa35.out
    obtain ⟨b0, b1, b2⟩ := boxRA_at HXb35.out
    obtain ⟨l0, l1, l2⟩ := boxRA_at HXl35.out
    go_wp2_with fail
    refine (HL3.out _).mono ?_
    rintro e v36 ⟨rfl, hb⟩
    clear p0 p1 p2 p3 a0 a1 a2 b0 b1 b2 l0 l1 l2
    have HXp37 := Lib.hid (blk_kept hb HXp35.out)
    have HXa37 := Lib.hid (blk_kept hb HXa35.out)
    have HXb37 := Lib.hid (blk_kept hb HXb35.out)
    have HXl37 := Lib.hid (blk_kept hb HXl35.out)
    have HW37 := Lib.hid (below_step HW35.out hb HW35.out.size)
    clear hb
    obtain ⟨p0, p1, p2, p3⟩ := boxRP_at HXp37.out
    obtain ⟨a0, a1, a2⟩ := boxRA_at HXa37.out
    obtain ⟨b0, b1, b2⟩ := boxRA_at HXb37.out
    obtain ⟨l0, l1, l2⟩ := boxRA_at HXl37.out
    go_wp2_with fail
    refine (HL4.out _).mono ?_
    rintro e v38 ⟨rfl, hb⟩
    clear p0 p1 p2 p3 a0 a1 a2 b0 b1 b2 l0 l1 l2
    have HXp39 := Lib.hid (blk_kept hb HXp37.out)
    have HXa39 := Lib.hid (blk_kept hb HXa37.out)
    have HXb39 := Lib.hid (blk_kept hb HXb37.out)
    have HXl39 := Lib.hid (blk_kept hb HXl37.out)
    have HW39 := Lib.hid (below_step HW37.out hb HW37.out.size)
    clear hb
    obtain ⟨p0, p1, p2, p3⟩ := boxRP_at HXp39.out
    obtain ⟨a0, a1, a2⟩ := boxRA_at HXa39.out
    obtain ⟨b0, b1, b2⟩ := boxRA_at HXb39.out
    obtain ⟨l0, l1, l2⟩ := boxRA_at HXl39.out
    go_wp2_with fail
    refine (HL5.out _).mono ?_
    rintro e v40 ⟨rfl, hb⟩
    clear p0 p1 p2 p3 a0 a1 a2 b0 b1 b2 l0 l1 l2
    have HXp41 := Lib.hid (blk_kept hb HXp39.out)
    have HXa41 := Lib.hid (blk_kept hb HXa39.out)
    have HXb41 := Lib.hid (blk_kept hb HXb39.out)
    have HXl41 := Lib.hid (blk_kept hb HXl39.out)
    have HW41 := Lib.hid (below_step HW39.out hb HW39.out.size)
    clear hb
    obtain ⟨p0, p1, p2, p3⟩ := boxRP_at HXp41.out
    obtain ⟨a0, a1, a2⟩ := boxRA_at HXa41.out
    obtain ⟨b0, b1, b2⟩ := boxRA_at HXb41.out
    obtain ⟨l0, l1, l2⟩ := boxRA_at HXl41.out
    go_wp2_with fail
    refine (HHA.out _).mono ?_
    rintro e v42 ⟨rfl, hb⟩
    clear p0 p1 p2 p3 a0 a1 a2 b0 b1 b2 l0 l1 l2
    have HXp43 := Lib.hid (blk_kept hb HXp41.out)
    have HXa43 := Lib.hid (blk_kept hb HXa41.out)
    have HXb43 := Lib.hid (blk_kept hb HXb41.out)
    have HXl43 := Lib.hid (blk_kept hb HXl41.out)
    have HW43 := Lib.hid (below_step HW41.out hb HW41.out.size)
    clear hb
    have HXp44 := Lib.hid (blk_alloc HXp43.out (boxRP ((fX, xX, yX), bX)))
    have HXa44 := Lib.hid (blk_alloc HXa43.out (boxRP ((fX, xX, yX), bX)))
    have HXb44 := Lib.hid (blk_alloc HXb43.out (boxRP ((fX, xX, yX), bX)))
    have HXl44 := Lib.hid (blk_alloc HXl43.out (boxRP ((fX, xX, yX), bX)))
    have HXx44 := Lib.hid (heap_alloc_new v42 (boxRP ((fX, xX, yX), bX)))
    have HW44 := Lib.hid (show Below w.heap.size w (v42.alloc (boxRP ((fX, xX, yX), bX))) from HW43.out.alloc HW43.out.size _)
    have HXp45 := Lib.hid (blk_alloc HXp44.out (boxRP ((fY, xY, yY), bY)))
    have HXa45 := Lib.hid (blk_alloc HXa44.out (boxRP ((fY, xY, yY), bY)))
    have HXb45 := Lib.hid (blk_alloc HXb44.out (boxRP ((fY, xY, yY), bY)))
    have HXl45 := Lib.hid (blk_alloc HXl44.out (boxRP ((fY, xY, yY), bY)))
    have HXx45 := Lib.hid (blk_alloc HXx44.out (boxRP ((fY, xY, yY), bY)))
    have hxy := heap_alloc_new (v42.alloc (boxRP ((fX, xX, yX), bX))) (boxRP ((fY, xY, yY), bY))
    simp only [World.size_alloc] at hxy
    have HXy45 := Lib.hid hxy
    clear hxy
    have HW45 := Lib.hid (show Below w.heap.size w ((v42.alloc (boxRP ((fX, xX, yX), bX))).alloc (boxRP ((fY, xY, yY), bY))) from HW44.out.alloc HW44.out.size _)
    go_wp2_with fail
    obtain ⟨v46, hv46⟩ : ∃ v46, v46 = ((v42.alloc (boxRP ((fX, xX, yX), bX))).alloc (boxRP ((fY, xY, yY), bY))) := ⟨_, rfl⟩
    rw [← hv46] at HXp45 HXa45 HXb45 HXl45 HXx45 HXy45 HW45 ⊢
    clear hv46
    have HKP := Lib.hid (show ∀ W, Below v46.heap.size v46 W → W.cell? ⟨v42.heap.size, 0, none⟩ = some (.int .u8 (fX.toNat : Int)) ∧ W.cell? ⟨v42.heap.size, 1, none⟩ = some (.int .u64 (xX.toNat : Int)) ∧ W.cell? ⟨v42.heap.size, 2, none⟩ = some (.int .u64 (yX.toNat : Int)) ∧ W.cell? ⟨v42.heap.size, 3, none⟩ = some (.int .i64 bX) ∧ W.cell? ⟨v42.heap.size + 1, 0, none⟩ = some (.int .u8 (fY.toNat : Int)) ∧ W.cell? ⟨v42.heap.size + 1, 1, none⟩ = some (.int .u64 (xY.toNat : Int)) ∧ W.cell? ⟨v42.heap.size + 1, 2, none⟩ = some (.int .u64 (yY.toNat : Int)) ∧ W.cell? ⟨v42.heap.size + 1, 3, none⟩ = some (.int .i64 bY) ∧ W.cell? ⟨w.heap.size + 1, 0, none⟩ = some (.int .u8 (fa.toNat : Int)) ∧ W.cell? ⟨w.heap.size + 1, 1, none⟩ = some (.int .u64 (xa.toNat : Int)) ∧ W.cell? ⟨w.heap.size + 1, 2, none⟩ = some (.int .u64 (ya.toNat : Int)) ∧ W.cell? ⟨w.heap.size + 1 + 1, 0, none⟩ = some (.int .u8 (fb.toNat : Int)) ∧ W.cell? ⟨w.heap.size + 1 + 1, 1, none⟩ = some (.int .u64 (xb.toNat : Int)) ∧ W.cell? ⟨w.heap.size + 1 + 1, 2, none⟩ = some (.int .u64 (yb.toNat : Int)) from fun W h => by
      obtain ⟨x0, x1, x2, x3⟩ := boxRP_at (blk_kept h HXx45.out)
      obtain ⟨y0, y1, y2, y3⟩ := boxRP_at (blk_kept h HXy45.out)
      obtain ⟨a0, a1, a2⟩ := boxRA_at (blk_kept h HXa45.out)
      obtain ⟨b0, b1, b2⟩ := boxRA_at (blk_kept h HXb45.out)
      exact ⟨x0, x1, x2, x3, y0, y1, y2, y3, a0, a1, a2, b0, b1, b2⟩)
    have HS0 := Lib.hid (show Below v46.heap.size v46 v46 from Below.refl _ _)
    have HWV := Lib.hid HW45.out
    go_cut [6] (fun s6 W => Hid (∃ v, s6 = v ∧ W.ownsRow w.heap.size TR 4 v (LX.length + LY.length) (LX.flatMap encC ++ LY.flatMap encC) ∧ Below w.heap.size w W))
    case first =>
      go_region_held3 (fun W => W.cell? ⟨v42.heap.size, 0, none⟩ = some (.int .u8 (fX.toNat : Int)) ∧ W.cell? ⟨v42.heap.size, 1, none⟩ = some (.int .u64 (xX.toNat : Int)) ∧ W.cell? ⟨v42.heap.size, 2, none⟩ = some (.int .u64 (yX.toNat : Int)) ∧ W.cell? ⟨v42.heap.size, 3, none⟩ = some (.int .i64 bX) ∧ W.cell? ⟨v42.heap.size + 1, 0, none⟩ = some (.int .u8 (fY.toNat : Int)) ∧ W.cell? ⟨v42.heap.size + 1, 1, none⟩ = some (.int .u64 (xY.toNat : Int)) ∧ W.cell? ⟨v42.heap.size + 1, 2, none⟩ = some (.int .u64 (yY.toNat : Int)) ∧ W.cell? ⟨v42.heap.size + 1, 3, none⟩ = some (.int .i64 bY) ∧ W.cell? ⟨w.heap.size + 1, 0, none⟩ = some (.int .u8 (fa.toNat : Int)) ∧ W.cell? ⟨w.heap.size + 1, 1, none⟩ = some (.int .u64 (xa.toNat : Int)) ∧ W.cell? ⟨w.heap.size + 1, 2, none⟩ = some (.int .u64 (ya.toNat : Int)) ∧ W.cell? ⟨w.heap.size + 1 + 1, 0, none⟩ = some (.int .u8 (fb.toNat : Int)) ∧ W.cell? ⟨w.heap.size + 1 + 1, 1, none⟩ = some (.int .u64 (xb.toNat : Int)) ∧ W.cell? ⟨w.heap.size + 1 + 1, 2, none⟩ = some (.int .u64 (yb.toNat : Int))) ((refine HKP.out _ ?_; (repeat (first | (with_reducible exact B4.out) | (with_reducible exact B2.out) | (with_reducible exact B1.out) | (with_reducible exact HS0.out) | (with_reducible refine bl_drew ?_))); done))
        (first
          | (go_at_call 47; (with_reducible refine (HP1.out _).mono ?_); rintro e u1 ⟨v1, rfl, ho, hb⟩; (have B1 := Lib.hid (show Below v46.heap.size v46 u1 from by first | exact below_step HS0.out hb HS0.out.size | exact below_step HS0.out.drew hb HS0.out.drew.size)); (have O1 := Lib.hid (owns_mono ho (show v46.heap.size ≤ _ from by first | exact HS0.out.size | exact HS0.out.drew.size))); clear ho hb)
          | (go_at_call 47; (with_reducible refine (HP2.out _).mono ?_); rintro e u2 ⟨v2, rfl, ho, hb⟩; (have B2 := Lib.hid (below_step B1.out hb B1.out.size)); (have O2 := Lib.hid (Seg.of_owns ho)); (have O3 := Lib.hid (row_kept1 O1.out fun q hq => hb.block q (O1.out.lt q hq).2)); clear ho hb)
          | (refine step_appP (w0 := v46) rfl (.tmp 49) (.tmp 53) rfl (by rfl) (by rfl) O3.out O2.out encC_one B2.out B2.out.size (by have := HLN.out; rw [HAP.out, List.length_append] at this; omega) ?_; intro v3 u3 ho3 hb3; have O4 := Lib.hid ho3; have B4 := Lib.hid hb3; clear ho3 hb3))
      all_goals go_wp2_with fail
      all_goals go_meet
      all_goals case rel => exact Lib.hid ⟨_, rfl, owns_mono O4.out HWV.out.size, below_step HWV.out B4.out HWV.out.size⟩
    case rest =>
      obtain ⟨w5, hw5⟩ : ∃ w5, w5 = wc := ⟨_, rfl⟩
      subst hw5
      obtain ⟨v5, rfl, ho5, hb5⟩ := hcut.out
      have O5 := Lib.hid ho5
      have B5 := Lib.hid hb5
      clear ho5 hb5 hcut
      go_wp2_with fail
      go_ret
      rw [HAP.out]
      exact ⟨_, rfl, by rw [List.length_append, List.flatMap_append]; exact O5.out, B5.out⟩
theorem rpart (p : Pf) (a b : Ad) (hf : PartFam p a b) (w : World) : Calls Tryz.prog 47 #[encP p, encA a, encA b] w (RowPost (partP p a b) w) := by
  have key : ∀ k, ∀ p : Pf, rest p.1 p.2 = k → PartFam p a b → ∀ w, Calls Tryz.prog 47 #[encP p, encA a, encA b] w (RowPost (partP p a b) w) := by
    intro k
    induction k using Nat.strongRecOn with
    | ind k ih =>
      intro p hk hf w
      exact rpart_step p a b hf (fun q hq hfq w => ih _ (by omega) q rfl hfq w) w
  exact key _ p rfl hf w
def CovC (ra rb e : Bool) (P Q : Prop) : Prop := (ra = false ∧ P) ∨ (ra = true ∧ rb = false ∧ P) ∨ (ra = true ∧ rb = true ∧ e = true ∧ P) ∨ (ra = true ∧ rb = true ∧ e = false ∧ Q)
theorem cov_split (a b : Ad) : CovC (rightA a) (rightA b) ((a.1.toNat : Int) != (b.1.toNat : Int)) (coverP a b = []) (CanP a b) := by
  unfold CovC
  cases h1 : rightA a with
  | false => exact .inl ⟨rfl, cover_not fun h => by rw [h.1] at h1; cases h1⟩
  | true =>
    right
    cases h2 : rightA b with
    | false => exact .inl ⟨rfl, rfl, cover_not fun h => by rw [h.2.1] at h2; cases h2⟩
    | true =>
      right
      have e : ((a.1.toNat : Int) != (b.1.toNat : Int)) = !(a.1 == b.1) := by rw [bne, Pfx.u8_eq]
      rw [e]
      by_cases h3 : a.1 = b.1
      · exact .inr ⟨rfl, rfl, by simpa using h3, h1, h2, h3⟩
      · exact .inl ⟨rfl, rfl, by simpa using h3, cover_not fun h => h3 h.2.2⟩
set_option maxHeartbeats 8000000 in
theorem rcover (a b : Ad) (w : World) : Calls Tryz.prog 14 #[encA a, encA b] w (RowPost (coverP a b) w) := by
  have HRa := Lib.hid (fun W => rright a W)
  have HRb := Lib.hid (fun W => rright b W)
  have HF := Lib.hid (cov_split a b)
  unfold CovC at HF
  have HPT := Lib.hid (show CanP a b → ∀ W, Calls Tryz.prog 47 #[.agg #[.int .u8 (a.1.toNat : Int), .int .u64 0, .int .u64 0, .int .i64 0], encA a, encA b] W (RowPost (coverP a b) W) from fun h W => by
    have := rpart ((a.1, 0, 0), 0) a b (start_part h).1 W
    rw [(start_part h).2] at this
    exact this)
  obtain ⟨l, hl⟩ : ∃ l, l = coverP a b := ⟨_, rfl⟩
  rw [← hl] at HF HPT ⊢
  obtain ⟨ra, h1⟩ : ∃ l, l = rightA a := ⟨_, rfl⟩
  rw [← h1] at HF HRa
  obtain ⟨rb, h2⟩ : ∃ l, l = rightA b := ⟨_, rfl⟩
  rw [← h2] at HF HRb
  clear hl h1 h2
  obtain ⟨fa, xa, ya⟩ := a
  obtain ⟨fb, xb, yb⟩ := b
  have HXa1 := Lib.hid (heap_alloc_new w (boxRA (fa, xa, ya)))
  have HW1 := Lib.hid (show Below w.heap.size w (w.alloc (boxRA (fa, xa, ya))) from (Below.refl _ _).alloc (Nat.le_refl _) _)
  have HXa2 := Lib.hid (blk_alloc HXa1.out (boxRA (fb, xb, yb)))
  have hxb := heap_alloc_new (w.alloc (boxRA (fa, xa, ya))) (boxRA (fb, xb, yb))
  simp only [World.size_alloc] at hxb
  have HXb2 := Lib.hid hxb
  clear hxb
  have HW2 := Lib.hid (show Below w.heap.size w ((w.alloc (boxRA (fa, xa, ya))).alloc (boxRA (fb, xb, yb))) from HW1.out.alloc HW1.out.size _)
  go_enter Tryz.func14, Tryz.ntmps14
  obtain ⟨a0, a1, a2⟩ := boxRA_at HXa2.out
  obtain ⟨b0, b1, b2⟩ := boxRA_at HXb2.out
  go_wp2_with fail
  refine (HRa.out _).mono ?_
  rintro e v3 ⟨rfl, hb⟩
  clear a0 a1 a2 b0 b1 b2
  have HXa4 := Lib.hid (blk_kept hb HXa2.out)
  have HXb4 := Lib.hid (blk_kept hb HXb2.out)
  have HW4 := Lib.hid (below_step HW2.out hb HW2.out.size)
  clear hb
  obtain ⟨a0, a1, a2⟩ := boxRA_at HXa4.out
  obtain ⟨b0, b1, b2⟩ := boxRA_at HXb4.out
  rcases HF.out with ⟨rfl, hz⟩ | ⟨rfl, rfl, hz⟩ | ⟨rfl, rfl, hq, hz⟩ | ⟨rfl, rfl, hq, hz⟩
  · have HV := Lib.hid hz
    clear hz
    go_wp2_with fail
    go_ret
    rw [HV.out]
    exact ⟨_, rfl, World.ownsRow_nil _ _ _ _, HW4.out⟩
  · have HV := Lib.hid hz
    clear hz
    go_wp2_with fail
    refine (HRb.out _).mono ?_
    rintro e v5 ⟨rfl, hb⟩
    clear a0 a1 a2 b0 b1 b2
    have HXa6 := Lib.hid (blk_kept hb HXa4.out)
    have HXb6 := Lib.hid (blk_kept hb HXb4.out)
    have HW6 := Lib.hid (below_step HW4.out hb HW4.out.size)
    clear hb
    obtain ⟨a0, a1, a2⟩ := boxRA_at HXa6.out
    obtain ⟨b0, b1, b2⟩ := boxRA_at HXb6.out
    go_wp2_with fail
    go_ret
    rw [HV.out]
    exact ⟨_, rfl, World.ownsRow_nil _ _ _ _, HW6.out⟩
  · have HV := Lib.hid hz
    clear hz
    go_wp2_with fail
    refine (HRb.out _).mono ?_
    rintro e v7 ⟨rfl, hb⟩
    clear a0 a1 a2 b0 b1 b2
    have HXa8 := Lib.hid (blk_kept hb HXa4.out)
    have HXb8 := Lib.hid (blk_kept hb HXb4.out)
    have HW8 := Lib.hid (below_step HW4.out hb HW4.out.size)
    clear hb
    obtain ⟨a0, a1, a2⟩ := boxRA_at HXa8.out
    obtain ⟨b0, b1, b2⟩ := boxRA_at HXb8.out
    go_wp2_with fail
    go_ret
    rw [HV.out]
    exact ⟨_, rfl, World.ownsRow_nil _ _ _ _, HW8.out⟩
  · have HV := Lib.hid hz
    clear hz
    go_wp2_with fail
    refine (HRb.out _).mono ?_
    rintro e v9 ⟨rfl, hb⟩
    clear a0 a1 a2 b0 b1 b2
    have HXa10 := Lib.hid (blk_kept hb HXa4.out)
    have HXb10 := Lib.hid (blk_kept hb HXb4.out)
    have HW10 := Lib.hid (below_step HW4.out hb HW4.out.size)
    clear hb
    obtain ⟨a0, a1, a2⟩ := boxRA_at HXa10.out
    obtain ⟨b0, b1, b2⟩ := boxRA_at HXb10.out
    go_wp2_with fail
    refine (HPT.out HV.out _).mono ?_
    rintro e w9 ⟨v, rfl, ho, hb⟩
    have HO := Lib.hid ho
    have HB := Lib.hid hb
    obtain ⟨ao, cap, rfl⟩ := owns_slice1 ho
    clear ho hb
    clear a0 a1 a2 b0 b1 b2
    go_wp2_with fail
    go_ret
    exact ⟨_, rfl, owns_mono HO.out HW10.out.size, below_step HW10.out HB.out HW10.out.size⟩
end Go.Proofs.Tryz.Cd
