/- The document's versions; whether one is right. -/
import Derived.Test.YtkeaalacepjadaaDoorVu1
import Derived.Deep.DeepCutAuto
set_option linter.unusedVariables false
set_option linter.unusedSimpArgs false
set_option maxRecDepth 100000
namespace Go.Proofs.Tryd.Vr
open Go.RowKit Go.Cph Go.Cph.Skip Go.Cph.So Go.Cph.Ve

abbrev TDn : TypeId := 32
/-- How the document's version lies. -/
structure Dn where
  l : Value
  log : UInt64
  seq : UInt64
  nxt : UInt64
abbrev encD (d : Dn) : Value := .agg #[d.l, .int .u64 (d.log.toNat : Int), .int .u64 (d.seq.toNat : Int), .int .u64 (d.nxt.toNat : Int)]
abbrev boxD (d : Dn) : Obj := .cells #[d.l, .int .u64 (d.log.toNat : Int), .int .u64 (d.seq.toNat : Int), .int .u64 (d.nxt.toNat : Int)] TDn (0, 0)
def GoodT (seq next : UInt64) (t : Tb) : Prop := tableD t = true ∧ (tN t).toNat < next.toNat ∧ (tM t).toNat ≤ seq.toNat
def SmallL (L : List Tb) : Prop := ∀ t ∈ L, SmallT t
theorem take_apart {L : List Tb} {i : Nat} (h : i < L.length) (hp : (L.take i).Pairwise Apart) (ha : ∀ j (hj : j < L.length), j < i → Apart L[j] L[i]) : (L.take (i + 1)).Pairwise Apart := by
  rw [List.take_succ_eq_append_getElem h, List.pairwise_append]
  refine ⟨hp, List.pairwise_singleton _ _, fun a ham b hb => ?_⟩
  rw [List.mem_singleton] at hb
  obtain ⟨j, hj, rfl⟩ := List.getElem_of_mem ham
  rw [List.length_take] at hj
  rw [List.getElem_take, hb]
  exact ha j (by omega) (by omega)
theorem apart_sub {L : List Tb} (h : L.Pairwise Apart) {k i : Nat} (hk : k < L.length) (hi : i < L.length) (hki : k < i) : Apart L[k] L[i] := List.pairwise_iff_getElem.1 h k i hk hi hki
def RightDPost (L : List Tb) (m : Nm) (w : World) (e : Ending) (w' : World) : Prop := ∃ b, e = .returned (.bool b) ∧ (b = true ↔ RightD L m.1 m.2.1 m.2.2) ∧ Below w.heap.size w w'

set_option maxHeartbeats 16000000 in
theorem dright_any (d : Dn) (L : List Tb) (w : World) (h : TbsAt w d.l L) (hn : L.length ≤ 1000000) (hs : SmallL L) : Calls Tryd.prog 28 #[encD d] w (RightDPost L (d.log, d.seq, d.nxt) w) := by
  obtain ⟨ao, cap, hv⟩ := elems_slice h
  obtain ⟨dl, log, seq, nxt⟩ := d
  dsimp only at hv h
  subst hv
  have HT := Lib.hid h
  have HN := Lib.hid hn
  have HS := Lib.hid hs
  have hb0 := below_of_alloc (w := w) (boxD ⟨.slice ao L.length cap, log, seq, nxt⟩)
  have hx0 := heap_alloc_new w (boxD ⟨.slice ao L.length cap, log, seq, nxt⟩)
  have HB := Lib.hid hb0
  have HX := Lib.hid hx0
  have c1 : (w.alloc (boxD ⟨.slice ao L.length cap, log, seq, nxt⟩)).cell? ⟨w.heap.size, 1, none⟩ = some (.int .u64 (log.toNat : Int)) := by rw [blk_cell hx0]; rfl
  have c3 : (w.alloc (boxD ⟨.slice ao L.length cap, log, seq, nxt⟩)).cell? ⟨w.heap.size, 3, none⟩ = some (.int .u64 (nxt.toNat : Int)) := by rw [blk_cell hx0]; rfl
  clear h hn hs hb0 hx0
  obtain ⟨nb, hnb⟩ : ∃ b : Bool, b = !(decide (1 ≤ nxt.toNat) && (decide (nxt.toNat ≤ 1099511627777) && decide (log.toNat < nxt.toNat))) := ⟨_, rfl⟩
  have HNB := Lib.hid hnb
  clear hnb
  go_enter Tryd.func28, Tryd.ntmps28
  go_upto_region 1 with fail
  go_cut [21] from 7 to 22 (fun v21 W => v21 = .bool nb ∧ Hid (W.heap[w.heap.size]? = some (boxD ⟨.slice ao L.length cap, log, seq, nxt⟩)) ∧ Hid (Below w.heap.size w W))
  case first =>
    by_cases q1 : 1 ≤ nxt.toNat
    · have z1 : ¬ nxt.toNat < 1 := by omega
      have z1b : ¬ (nxt.toNat : Int) < 1 := by omega
      by_cases q2 : nxt.toNat ≤ 1099511627777
      · have z2 : ¬ 1099511627777 < nxt.toNat := by omega
        have z2b : ¬ (nxt.toNat : Int) > 1099511627777 := by omega
        by_cases q3 : log.toNat < nxt.toNat
        · have z3 : ¬ nxt.toNat ≤ log.toNat := by omega
          have z3b : ¬ (log.toNat : Int) ≥ (nxt.toNat : Int) := by omega
          have HZ := Lib.hid (show nb = false from by rw [HNB.out]; simp [q1, q2, q3])
          clear q1 q2 q3
          go_wp2_with fail
          go_meet
          case rel => exact ⟨by rw [HZ.out], HX, HB⟩
        · have z3 : nxt.toNat ≤ log.toNat := by omega
          have z3b : (log.toNat : Int) ≥ (nxt.toNat : Int) := by omega
          have HZ := Lib.hid (show nb = true from by rw [HNB.out]; simp [q3])
          clear q1 q2 q3
          go_wp2_with fail
          go_meet
          case rel => exact ⟨by rw [HZ.out], HX, HB⟩
      · have z2 : 1099511627777 < nxt.toNat := by omega
        have z2b : (nxt.toNat : Int) > 1099511627777 := by omega
        have HZ := Lib.hid (show nb = true from by rw [HNB.out]; simp [q2])
        clear q1 q2
        go_wp2_with fail
        go_meet
        case rel => exact ⟨by rw [HZ.out], HX, HB⟩
    · have z1 : nxt.toNat < 1 := by omega
      have z1b : (nxt.toNat : Int) < 1 := by omega
      have HZ := Lib.hid (show nb = true from by rw [HNB.out]; simp [q1])
      clear q1
      go_wp2_with fail
      go_meet
      case rel => exact ⟨by rw [HZ.out], HX, HB⟩
  case rest =>
    rename World => w1
    obtain ⟨rfl, HX1, HB1⟩ := hcut
    clear c1 c3 HX HB
    cases nb
    · have HNU := Lib.hid (show NumsOK log nxt from by
        have := HNB.out
        simp only [Bool.false_eq, Bool.not_eq_false', Bool.and_eq_true, decide_eq_true_eq] at this
        exact ⟨this.1, this.2.1, this.2.2⟩)
      clear HNB
      go_wp2_with fail
      go_loopw [3] (fun vi W => ∃ i : Nat, i ≤ L.length ∧ vi = .int .i64 (i : Int) ∧ Hid (∀ j (hj : j < L.length), j < i → GoodT seq nxt L[j]) ∧ Hid ((L.take i).Pairwise Apart) ∧ Hid (W.heap[w.heap.size]? = some (boxD ⟨.slice ao L.length cap, log, seq, nxt⟩)) ∧ Hid (Below w.heap.size w W)) (fun vi _ => L.length - (intOf vi).toNat)
      case atStart => exact ⟨0, Nat.zero_le _, rfl, Lib.hid (fun j hj h0 => absurd h0 (Nat.not_lt_zero _)), Lib.hid .nil, HX1, HB1⟩
      case round =>
        obtain ⟨i, hi, rfl, HG, HP, HX2, HB2⟩ := hrel
        clear HX1 HB1
        have c0 : wr.cell? ⟨w.heap.size, 0, none⟩ = some (.slice ao L.length cap) := by rw [blk_cell HX2.out]; rfl
        by_cases hlt : i < L.length
        · obtain ⟨b, off, cap', hve, hcs⟩ := tbs_cells (HT.out.kept HB2.out) (by omega)
          injection hve with hx1 hx2 hx3
          subst hx1
          clear hx2 hx3
          have hcx := hcs i hlt
          have HLT := Lib.hid hlt
          obtain ⟨x, hx⟩ : ∃ x, x = L[i]'(HLT.out) := ⟨_, rfl⟩
          have HXX := Lib.hid hx
          rw [← hx] at hcx
          have d0 := hcx.c0
          have d1 := hcx.c1
          have d2 := hcx.c2
          have d3 := hcx.c3
          have d4 := hcx.c4
          have d5 := hcx.c5
          have d6 := hcx.c6
          have d7 := hcx.c7
          have j1 : (0 : Int) ≤ (i : Int) := by omega
          have j2 : (i : Int) < (L.length : Int) := by omega
          have j4 : IntKind.i64.wrap ((i : Int) + 1) = (i : Int) + 1 := by have := HN.out; rw [IntKind.wrap_i64]; omega
          have hA := below_of_alloc (w := wr) (boxT x)
          have HA := Lib.hid (below_step HB2.out hA HB2.out.size)
          have HBX := Lib.hid (heap_alloc_new wr (boxT x))
          have HX3 := Lib.hid (blk_kept hA HX2.out)
          have HSX := Lib.hid (show SmallT x from by rw [hx]; exact HS.out _ (List.getElem_mem _))
          have HC := Lib.hid (fun W => table_any x W HSX.out)
          have hbc := box_cells HBX.out
          have e0 := hbc.c0
          have e1 := hbc.c1
          have e2 := hbc.c2
          have e3 := hbc.c3
          have e4 := hbc.c4
          have e5 := hbc.c5
          have e6 := hbc.c6
          have e7 := hbc.c7
          obtain ⟨r, hr⟩ : ∃ r, r = tableD x := ⟨_, rfl⟩
          rw [← hr] at HC
          have HR := Lib.hid hr
          clear hcs hcx hx hA hbc hr
          go_wp2_with fail
          clear d0 d1 d2 d3 d4 d5 d6 d7 e0 e1 e2 e3 e4 e5 e6 e7 c0
          refine (HC.out _).mono ?_
          rintro e w4 ⟨rfl, hb4⟩
          have HB4 := Lib.hid (below_step HA.out hb4 HA.out.size)
          have HBX4 := Lib.hid (blk_kept hb4 HBX.out)
          have HX4 := Lib.hid (blk_kept hb4 HX3.out)
          clear hb4 HC HA HBX HX3
          have HNG := Lib.hid (show ¬ GoodT seq nxt x → ¬ RightD L log seq nxt from fun g h => g (by rw [HXX.out]; exact h.all _ (List.getElem_mem _)))
          cases r
          · have HNO := Lib.hid (HNG.out fun h => by have := h.1; rw [← HR.out] at this; cases this)
            go_wp2_with fail
            go_ret
            exact ⟨false, rfl, ⟨fun h => (Bool.false_ne_true h).elim, fun h => absurd h HNO.out⟩, HB4.out⟩
          · have hbc := box_cells HBX4.out
            have e0 := hbc.c0
            have e1 := hbc.c1
            have e2 := hbc.c2
            have e3 := hbc.c3
            have e4 := hbc.c4
            have e5 := hbc.c5
            have e6 := hbc.c6
            have e7 := hbc.c7
            have c2 : w4.cell? ⟨w.heap.size, 2, none⟩ = some (.int .u64 (seq.toNat : Int)) := by rw [blk_cell HX4.out]; rfl
            have c3 : w4.cell? ⟨w.heap.size, 3, none⟩ = some (.int .u64 (nxt.toNat : Int)) := by rw [blk_cell HX4.out]; rfl
            clear hbc
            by_cases q1 : x.1.toNat < nxt.toNat
            · have z1 : ¬ nxt.toNat ≤ x.1.toNat := by omega
              have z1b : ¬ ((x.1.toNat : Int) ≥ (nxt.toNat : Int)) := by omega
              by_cases q2 : x.2.2.2.2.2.2.2.toNat ≤ seq.toNat
              · have z2 : ¬ seq.toNat < x.2.2.2.2.2.2.2.toNat := by omega
                have z2b : ¬ ((x.2.2.2.2.2.2.2.toNat : Int) > (seq.toNat : Int)) := by omega
                have HGX := Lib.hid (show GoodT seq nxt x from ⟨HR.out.symm, q1, q2⟩)
                clear q1 q2 HNG
                go_wp2_with fail
                clear e0 e1 e2 e3 e4 e5 e6 e7 c2 c3
                go_loopw [5] (fun vk W => ∃ k : Nat, k ≤ i ∧ vk = .int .i64 (k : Int) ∧ Hid (∀ j (hj : j < L.length), j < k → Apart L[j] x) ∧ Hid (W.heap[w.heap.size]? = some (boxD ⟨.slice (some ⟨b, off, none⟩) L.length cap, log, seq, nxt⟩)) ∧ Hid (W.heap[wr.heap.size]? = some (boxT x)) ∧ Hid (Below w.heap.size w W)) (fun vk _ => i - (intOf vk).toNat)
                case atStart => exact ⟨0, Nat.zero_le _, rfl, Lib.hid (fun j hj h0 => absurd h0 (Nat.not_lt_zero _)), HX4, HBX4, HB4⟩
                case round =>
                  obtain ⟨k, hki, rfl, HAP, HX5, HBX5, HB5⟩ := hrel
                  clear HX4 HBX4 HB4
                  have c0 : wr.cell? ⟨w.heap.size, 0, none⟩ = some (.slice (some ⟨b, off, none⟩) L.length cap) := by rw [blk_cell HX5.out]; rfl
                  by_cases hk2 : k < i
                  · obtain ⟨b2, off2, cap2, hve, hcs⟩ := tbs_cells (HT.out.kept HB5.out) (by have := HLT.out; omega)
                    injection hve with hx1 hx2 hx3
                    injection hx1 with hx1
                    injection hx1 with hx1 hx4
                    subst hx1 hx4
                    clear hx2 hx3
                    have hkl : k < L.length := by have := HLT.out; omega
                    have HKL := Lib.hid hkl
                    have hcx := hcs k hkl
                    obtain ⟨y, hy⟩ : ∃ y, y = L[k]'(HKL.out) := ⟨_, rfl⟩
                    have HYY := Lib.hid hy
                    rw [← hy] at hcx
                    have d0 := hcx.c0
                    have d1 := hcx.c1
                    have d2 := hcx.c2
                    have d3 := hcx.c3
                    have d4 := hcx.c4
                    have d5 := hcx.c5
                    have d6 := hcx.c6
                    have d7 := hcx.c7
                    have j1 : (0 : Int) ≤ (k : Int) := by omega
                    have j2 : (k : Int) < (L.length : Int) := by omega
                    have j3 : (k : Int) < (i : Int) := by omega
                    have j5 : IntKind.i64.wrap ((k : Int) + 1) = (k : Int) + 1 := by have := HN.out; rw [IntKind.wrap_i64]; omega
                    have hA := below_of_alloc (w := wr) (boxT y)
                    have HA6 := Lib.hid (below_step HB5.out hA HB5.out.size)
                    have HY6 := Lib.hid (heap_alloc_new wr (boxT y))
                    have HX6 := Lib.hid (blk_kept hA HX5.out)
                    have HBX6 := Lib.hid (blk_kept hA HBX5.out)
                    have hby := box_cells HY6.out
                    have e0 := hby.c0
                    have e1 := hby.c1
                    have e2 := hby.c2
                    have e3 := hby.c3
                    have e4 := hby.c4
                    have e5 := hby.c5
                    have e6 := hby.c6
                    have e7 := hby.c7
                    have hbx := box_cells HBX6.out
                    have f0 := hbx.c0
                    have f1 := hbx.c1
                    have f2 := hbx.c2
                    have f3 := hbx.c3
                    have f4 := hbx.c4
                    have f5 := hbx.c5
                    have f6 := hbx.c6
                    have f7 := hbx.c7
                    have HSY := Lib.hid (show SmallT y from by rw [hy]; exact HS.out _ (List.getElem_mem _))
                    have HC := Lib.hid (fun W => meets_any y x.2.2.2.2.1 x.2.2.2.2.2.1 W HSY.out HSX.out.1 HSX.out.2)
                    obtain ⟨mt, hmt⟩ : ∃ m, m = meetsT y x.2.2.2.2.1 x.2.2.2.2.2.1 := ⟨_, rfl⟩
                    rw [← hmt] at HC
                    have HMT := Lib.hid hmt
                    have HNA := Lib.hid (show ¬ Apart y x → ¬ RightD L log seq nxt from fun g h => g (by rw [HYY.out, HXX.out]; exact apart_sub h.pair HKL.out HLT.out (by omega)))
                    clear hcs hcx hy hA hby hbx hmt
                    by_cases p1 : y.1 = x.1
                    · have z1 : ((y.1.toNat : Int) == (x.1.toNat : Int)) = true := by rw [p1]; simp
                      have HNO := Lib.hid (HNA.out fun h => h.1 p1)
                      clear p1
                      go_wp2_with fail
                      go_ret
                      exact ⟨false, rfl, ⟨fun h => (Bool.false_ne_true h).elim, fun h => absurd h HNO.out⟩, HA6.out⟩
                    · have z1 : ((y.1.toNat : Int) == (x.1.toNat : Int)) = false := by
                        simpa using fun h => p1 (UInt64.toNat_inj.1 (by omega))
                      by_cases p2 : y.2.1 = x.2.1
                      · have z2 : (y.2.1 == x.2.1) = true := by simpa using p2
                        by_cases p3 : 0 < x.2.1
                        · have z3 : x.2.1 > 0 := p3
                          have HP := Lib.hid (And.intro p1 (And.intro p2 p3))
                          clear p1 p2
                          go_wp2_with fail
                          clear d0 d1 d2 d3 d4 d5 d6 d7 e0 e1 e2 e3 e4 e5 e6 e7 f0 f1 f2 f3 f4 f5 f6 f7
                          refine (HC.out _).mono ?_
                          rintro e w7 ⟨rfl, hb7⟩
                          have HA7 := Lib.hid (below_step HA6.out hb7 HA6.out.size)
                          have HX7 := Lib.hid (blk_kept hb7 HX6.out)
                          have HBX7 := Lib.hid (blk_kept hb7 HBX6.out)
                          clear hb7
                          cases mt
                          · have HOKA := Lib.hid (show Apart y x from ⟨HP.out.1, fun ⟨_, _, h⟩ => by
                              have : meetsT y x.2.2.2.2.1 x.2.2.2.2.2.1 = true := h
                              rw [← HMT.out] at this; cases this⟩)
                            go_wp2_with fail
                            go_roundw
                            case rel => exact ⟨k + 1, hk2, by first | rfl | (congr 1), Lib.hid (fun j hj hjk => by
                              rcases Nat.lt_or_eq_of_le (show j ≤ k by omega) with h | h
                              · exact HAP.out j hj h
                              · subst h; rw [← HYY.out]; exact HOKA.out), HX7, HBX7, HA7⟩
                            case measure => simp [intOf]; omega
                          · have HNO := Lib.hid (HNA.out fun h => h.2 ⟨HP.out.2.1, HP.out.2.2, HMT.out.symm⟩)
                            go_wp2_with fail
                            go_ret
                            exact ⟨false, rfl, ⟨fun h => (Bool.false_ne_true h).elim, fun h => absurd h HNO.out⟩, HA7.out⟩
                        · have z3 : ¬ x.2.1 > 0 := p3
                          have z3b : x.2.1 ≤ 0 := by omega
                          have HOKA := Lib.hid (show Apart y x from ⟨p1, fun ⟨_, h, _⟩ => p3 h⟩)
                          clear p1 p2 p3
                          go_wp2_with fail
                          go_roundw
                          case rel => exact ⟨k + 1, hk2, by first | rfl | (congr 1), Lib.hid (fun j hj hjk => by
                            rcases Nat.lt_or_eq_of_le (show j ≤ k by omega) with h | h
                            · exact HAP.out j hj h
                            · subst h; rw [← HYY.out]; exact HOKA.out), HX6, HBX6, HA6⟩
                          case measure => simp [intOf]; omega
                      · have z2 : (y.2.1 == x.2.1) = false := by simpa using p2
                        have HOKA := Lib.hid (show Apart y x from ⟨p1, fun ⟨h, _, _⟩ => p2 h⟩)
                        clear p1 p2
                        go_wp2_with fail
                        go_roundw
                        case rel => exact ⟨k + 1, hk2, by first | rfl | (congr 1), Lib.hid (fun j hj hjk => by
                          rcases Nat.lt_or_eq_of_le (show j ≤ k by omega) with h | h
                          · exact HAP.out j hj h
                          · subst h; rw [← HYY.out]; exact HOKA.out), HX6, HBX6, HA6⟩
                        case measure => simp [intOf]; omega
                  · have hki2 : k = i := by omega
                    subst hki2
                    have j3 : ¬ (k : Int) < (k : Int) := by omega
                    have HGN := Lib.hid (show ∀ j (hj : j < L.length), j < k + 1 → GoodT seq nxt L[j] from fun j hj hjk => by
                      rcases Nat.lt_or_eq_of_le (show j ≤ k by omega) with h | h
                      · exact HG.out j hj h
                      · subst h; rw [← HXX.out]; exact HGX.out)
                    have HPN := Lib.hid (take_apart HLT.out HP.out fun j hj hjk => by have := HAP.out j hj hjk; rw [HXX.out] at this; exact this)
                    go_wp2_with fail
                    go_roundw
                    case rel => exact ⟨k + 1, hlt, by first | rfl | (congr 1), HGN, HPN, HX5, HB5⟩
                    case measure => simp [intOf]; omega
              · have z2 : seq.toNat < x.2.2.2.2.2.2.2.toNat := by omega
                have z2b : (x.2.2.2.2.2.2.2.toNat : Int) > (seq.toNat : Int) := by omega
                have HNO := Lib.hid (HNG.out fun h => q2 h.2.2)
                clear q1 q2
                go_wp2_with fail
                go_ret
                exact ⟨false, rfl, ⟨fun h => (Bool.false_ne_true h).elim, fun h => absurd h HNO.out⟩, HB4.out⟩
            · have z1 : nxt.toNat ≤ x.1.toNat := by omega
              have z1b : (x.1.toNat : Int) ≥ (nxt.toNat : Int) := by omega
              have HNO := Lib.hid (HNG.out fun h => q1 h.2.1)
              clear q1
              go_wp2_with fail
              go_ret
              exact ⟨false, rfl, ⟨fun h => (Bool.false_ne_true h).elim, fun h => absurd h HNO.out⟩, HB4.out⟩
        · have hil : i = L.length := by omega
          subst hil
          have i1 : ¬ (L.length : Int) < (L.length : Int) := by omega
          have HRD := Lib.hid (show RightD L log seq nxt from ⟨HNU.out, fun t ht => by
            obtain ⟨j, hj, rfl⟩ := List.getElem_of_mem ht
            exact HG.out j hj hj, by have := HP.out; rwa [List.take_length] at this⟩)
          go_wp2_with fail
          go_ret
          exact ⟨true, rfl, ⟨fun _ => HRD.out, fun _ => rfl⟩, HB2.out⟩
    · have HNU := Lib.hid (show ¬ NumsOK log nxt from by
        have := HNB.out
        intro h
        rw [decide_eq_true h.1, decide_eq_true h.2.1, decide_eq_true h.2.2] at this
        cases this)
      clear HNB
      go_wp2_with fail
      go_ret
      exact ⟨false, rfl, ⟨fun h => (Bool.false_ne_true h).elim, fun h => absurd h.nums HNU.out⟩, HB1.out⟩
end Go.Proofs.Tryd.Vr
