/- SkipSame: the walk. -/
import Derived.Test.YthcakgnendnekaaSkR
import Derived.Test.YthcakgnendnekaaSkFr
import Derived.Test.YthcakgnendnekaaApp
open Go.RowKit Go.Cph Go.Cph.Skip
set_option linter.unusedVariables false
set_option linter.unusedSimpArgs false
namespace Go.Proofs.Try.SkS
attribute [local go_sem] Oper.semAt_some

theorem resAt_same {tmps : Array Value} {b : Bool} {W : World} {g : Nat} (h1 : tmps.getD 8 undef = .pointer (some ⟨g, 0, none⟩)) (h2 : W.heap[g]? = some (.cells #[.bool b] 4 (0, 0))) : ResAt Try.prog Try.f5 tmps b W :=
  ⟨8, 4, g, rfl, h1, Try.underlying4, h2⟩
theorem awakePost_of {w w' : World} (h : Below w.heap.size w w') : AwakePost w (.returned (.bool true)) w' := ⟨rfl, h⟩

set_option maxRecDepth 100000 in
set_option maxHeartbeats 4000000 in
theorem same (v0 : Value) (acts : List Ac) (key : ByteArray) (one two : Int) (w : World) (hv : ActsAt w v0 acts) (hs : ∀ a ∈ acts, a.key.size ≤ maxLen ∧ a.val.size ≤ maxLen) (hkm : key.size ≤ maxLen) :
    Calls Try.prog 5 #[v0, .string key, .int .i64 one, .int .i64 two] w (AwakePost w) := by
  unfold maxLen at hkm
  have HV := Lib.hid hv
  have hgr := fun W h => great v0 acts W h hs
  have HG := Lib.hid hgr
  clear hv hs hgr
  refine calls_of_wp_marks Try.func5 rfl ?_
  simp only [Try.ntmps5, List.size_toArray, List.length_cons, List.length_nil, Nat.reduceAdd, Nat.reduceSub, Array.replicate_succ, Array.replicate_zero, List.push_toArray, List.append_toArray, List.nil_append, List.cons_append]
  go_wp2_with fail
  have hb0 : Below w.heap.size w (w.alloc (.cells #[.bool false] 4)) := (Below.refl _ _).alloc (Nat.le_refl _) _
  have hres := heap_alloc_new w (.cells #[.bool false] 4)
  have hsz0 : (w.alloc (.cells #[.bool false] 4)).heap.size = w.heap.size + 1 := by simp
  generalize w.alloc (.cells #[.bool false] 4) = w0 at *
  refine (HG.out _ (HV.out.kept hb0)).mono ?_
  rintro e w1 ⟨⟨g, rfl, hg⟩, hb⟩
  have HV1 := Lib.hid ((HV.out.kept hb0).kept hb)
  have HB1 := Lib.hid (below_step hb0 hb hb0.size)
  have hres1 := blk_kept hb hres
  have hsz1 : w.heap.size < w1.heap.size := blk_lt hres1
  clear hb hb0 hres hsz0
  have HR1 := Lib.hid hres1
  clear hres1
  have haw := awake w1
  by_cases hc : g = true ∨ 20000 < key.size
  · have hc' : g = true ∨ (g = false ∧ 20000 < key.size) := by
      cases g
      · rcases hc with h | h
        · exact absurd h (by simp)
        · exact .inr ⟨rfl, h⟩
      · exact .inl rfl
    clear hc hg
    rcases hc' with rfl | ⟨rfl, hc⟩
    all_goals
      go_wp2_with fail
      refine haw.mono ?_
      rintro e w2 ⟨rfl, hb⟩
      have hres2 := blk_kept hb HR1.out
      have hc2 := (blk_one hres2).1
      have hf2 := (blk_one hres2).2
      have HR2 := Lib.hid (blk_one_set hres2 (.bool true))
      have HB2 := Lib.hid ((below_step HB1.out hb HB1.out.size).setCell (p := ⟨w.heap.size, 0, none⟩) (Nat.le_refl _) (.bool true))
      clear hb hres2 haw
      go_wp2_with fail
      exact leaves0 (resAt_same rfl HR2.out) HB2.out fun _ h => awakePost_of h
  · have hgf : g = false := by cases g <;> simp_all
    subst hgf
    have hsm := Lib.hid (hg rfl)
    have hc1 : ¬ 20000 < key.size := fun h => hc (.inr h)
    have hmade := made v0 acts one w1 HV1.out hsm.out.1
    clear hc hg haw
    go_wp2_with fail
    refine hmade.mono ?_
    rintro e w2 ⟨⟨p, nx, nodes, v, rfl, hat, hln, hkv, hlen, hft⟩, hb⟩
    have HA2 := Lib.hid hat
    have HLA := Lib.hid hln
    have HKA := Lib.hid hkv
    have HB2 := Lib.hid (below_step HB1.out hb HB1.out.size)
    have HV2 := Lib.hid (HV1.out.kept hb)
    have HR2 := Lib.hid (blk_kept hb HR1.out)
    have HNA := Lib.hid (Nat.le_trans hlen hsm.out.1)
    clear hat hln hkv hlen hft hb hmade
    have hmade := made v0 acts two w2 HV2.out hsm.out.1
    go_wp2_with fail
    refine hmade.mono ?_
    rintro e w3 ⟨⟨q, ny, nodes', v', rfl, hat, hln, hkv, hlen, hft⟩, hb⟩
    have HA3 := Lib.hid (HA2.out.kept hb)
    have HC3 := Lib.hid hat
    have HLC := Lib.hid hln
    have HKC := Lib.hid (show kv nodes' = kv nodes from hkv.trans HKA.out.symm)
    have HB3 := Lib.hid (below_step HB2.out hb HB2.out.size)
    have HR3 := Lib.hid (blk_kept hb HR2.out)
    clear hat hln hkv hlen hft hb hmade
    have HU := Lib.hid (kv_uniq HLA.out)

    go_wp2_with fail
    refine (cSeek key w3 HA3.out HLA.out).mono ?_
    rintro e w4 ⟨⟨n1, k1, x1, ok1, rfl, hq1, ht1⟩, hb⟩
    have HA4 := Lib.hid (HA3.out.kept hb)
    have HC4 := Lib.hid (HC3.out.kept hb)
    have HB4 := Lib.hid (below_step HB3.out hb HB3.out.size)
    have HR4 := Lib.hid (blk_kept hb HR3.out)
    have HT1 := Lib.hid (seek_kv hq1 ht1)
    clear hq1 ht1
    clear hb
    go_wp2_with fail
    refine (cSeek key w4 HC4.out HLC.out).mono ?_
    rintro e w5 ⟨⟨n2, k2, x2, ok2, rfl, hq2, ht2⟩, hb⟩
    have HA5 := Lib.hid (HA4.out.kept hb)
    have HC5 := Lib.hid (HC4.out.kept hb)
    have HB5 := Lib.hid (below_step HB4.out hb HB4.out.size)
    have HR5 := Lib.hid (blk_kept hb HR4.out)
    have ht2 := seek_kv hq2 ht2
    rw [HKC.out] at ht2
    obtain ⟨rfl, rfl, rfl⟩ := TellKV.one HU.out HT1.out ht2
    clear hq2 ht2
    clear hb
    have z1 : (k1.toList == k1.toList) = true := by simp
    have z2 : (x1.toList == x1.toList) = true := by simp
    have z3 : (ok1 == ok1) = true := by simp
    go_wp2_with fail
    refine (cAfter key w5 HA5.out HLA.out).mono ?_
    rintro e w6 ⟨⟨n3, k3, x3, ok3, rfl, hq3, ht3⟩, hb⟩
    have HA6 := Lib.hid (HA5.out.kept hb)
    have HC6 := Lib.hid (HC5.out.kept hb)
    have HB6 := Lib.hid (below_step HB5.out hb HB5.out.size)
    have HR6 := Lib.hid (blk_kept hb HR5.out)
    have HT3 := Lib.hid (after_kv HLA.out hq3 ht3)
    clear hq3 ht3
    clear hb
    go_wp2_with fail
    refine (cAfter key w6 HC6.out HLC.out).mono ?_
    rintro e w7 ⟨⟨n4, k4, x4, ok4, rfl, hq4, ht4⟩, hb⟩
    have HA7 := Lib.hid (HA6.out.kept hb)
    have HC7 := Lib.hid (HC6.out.kept hb)
    have HB7 := Lib.hid (below_step HB6.out hb HB6.out.size)
    have HR7 := Lib.hid (blk_kept hb HR6.out)
    have ht4 := after_kv HLC.out hq4 ht4
    rw [HKC.out] at ht4
    obtain ⟨rfl, rfl, rfl⟩ := TellKV.one HU.out HT3.out ht4
    clear hq4 ht4
    clear hb
    go_wp2_with fail
    refine (cGet key w7 HA7.out HLA.out).mono ?_
    rintro e w8 ⟨⟨n5, k5, x5, ok5, rfl, hq5, ht5⟩, hb⟩
    have HA8 := Lib.hid (HA7.out.kept hb)
    have HC8 := Lib.hid (HC7.out.kept hb)
    have HB8 := Lib.hid (below_step HB7.out hb HB7.out.size)
    have HR8 := Lib.hid (blk_kept hb HR7.out)
    have HT5 := Lib.hid (get_kv hq5 ht5)
    clear hq5 ht5
    clear hb
    go_wp2_with fail
    refine (cGet key w8 HC8.out HLC.out).mono ?_
    rintro e w9 ⟨⟨n6, k6, x6, ok6, rfl, hq6, ht6⟩, hb⟩
    have HA9 := Lib.hid (HA8.out.kept hb)
    have HC9 := Lib.hid (HC8.out.kept hb)
    have HB9 := Lib.hid (below_step HB8.out hb HB8.out.size)
    have HR9 := Lib.hid (blk_kept hb HR8.out)
    have ht6 := get_kv hq6 ht6
    rw [HKC.out] at ht6
    obtain ⟨rfl, rfl, rfl⟩ := TellKV.one HU.out HT5.out ht6
    clear hq6 ht6
    clear hb
    clear z1 z2 z3
    have z1 : (k3.toList == k3.toList) = true := by simp
    have z2 : (x3.toList == x3.toList) = true := by simp
    have z3 : (ok3 == ok3) = true := by simp
    have z4 : (x5.toList == x5.toList) = true := by simp
    have z5 : (ok5 == ok5) = true := by simp
    have hlA := cLen w9 HA9.out
    have hlC := cLen w9 HC9.out
    have hll : nodes'.length = nodes.length := by have := congrArg List.length HKC.out; simpa [kv] using this
    rw [hll] at hlC
    have HLL := Lib.hid hll
    clear hll
    go_wp2_with fail
    refine hlA.mono ?_
    rintro e w10 ⟨rfl, rfl⟩
    go_wp2_with fail
    refine hlC.mono ?_
    rintro e w10 ⟨rfl, rfl⟩
    clear hlA hlC z1 z2 z3 z4 z5
    go_wp2_with fail
    have hk0 : ((w9.alloc (.cells #[.slice none 0 0] 48)).alloc (.cells #[.slice none 0 0] 48)).heap[w9.heap.size]? = some (.cells #[.slice none 0 0] 48 (0, 0)) := blk_alloc (heap_alloc_new _ _) _
    have hk1 := heap_alloc_new (w9.alloc (.cells #[.slice none 0 0] 48)) (.cells #[.slice none 0 0] 48)
    have hsz2 : ((w9.alloc (.cells #[.slice none 0 0] 48)).alloc (.cells #[.slice none 0 0] 48)).heap.size = w9.heap.size + 2 := by simp
    have hb2 : Below w9.heap.size w9 ((w9.alloc (.cells #[.slice none 0 0] 48)).alloc (.cells #[.slice none 0 0] 48)) := ((Below.refl _ _).alloc (Nat.le_refl _) _).alloc (by simp) _
    rw [World.size_alloc] at hk1
    generalize (w9.alloc (.cells #[.slice none 0 0] 48)).alloc (.cells #[.slice none 0 0] 48) = u0 at *
    have HK0 := Lib.hid hk0
    have HK1 := Lib.hid hk1
    have HBU := Lib.hid hb2
    have HSU := Lib.hid hsz2
    clear hk0 hk1 hb2 hsz2
    refine (cFrom (some ⟨p, 0, none⟩) ByteArray.empty u0).mono ?_
    rintro e u1 ⟨rfl, hbx⟩
    have HX1 := Lib.hid hbx.bel
    have HS1 := Lib.hid hbx.size
    clear hbx
    have hrn := run_from_nil u0.heap.size u1
    go_wp2_with fail
    clear hrn
    refine (cFrom (some ⟨p, 0, none⟩) ByteArray.empty u1).mono ?_
    rintro e u2 ⟨rfl, hbx⟩
    have HX2 := Lib.hid hbx
    have HBW := Lib.hid ((HBU.out.trans (HX1.out.mono HBU.out.size)).trans (hbx.bel.mono (Nat.le_trans HBU.out.size HX1.out.size)))
    clear hbx
    go_wp2_with fail
    obtain ⟨B, hB⟩ : ∃ B, B = u1.heap.size := ⟨_, rfl⟩
    rw [← hB]
    have HB := Lib.hid hB
    clear hB
    refine' wp_rangeFunc_tells (gf := 39) (lb := #[.pointer (some ⟨B, 0, none⟩), .pointer (some ⟨B + 1, 0, none⟩)]) rfl (enters_of Try.func39 (by kernel_rfl) rfl)
      (from_tells (fun _ => kv nodes) ByteArray.empty B (B + 1) p ((kv nodes).map (·.1)) (fun _ y hy => List.mem_map.2 ⟨y, hy, rfl⟩) (fun _ _ _ => List.prefix_rfl)) (fun _ => rfl)
      (fun pre W => Told (kv nodes) ByteArray.empty pre ∧ Touched (fun k => k = w9.heap.size ∨ k = w9.heap.size + 1) u2 W ∧ ∃ v1 v2, Grows u2.heap.size 48 9 w9.heap.size pre.length (pre.map fun x => .string x.1) W v1 ∧
        Grows u2.heap.size 48 9 (w9.heap.size + 1) pre.length (pre.map fun x => .string x.2) W v2 ∧ ∀ g, v1.ownBlock = some g → v2.ownBlock ≠ some g)
      (fun _ _ _ => False) ?hI (fun _ _ _ _ h _ => h) ?hIL ?h0 _ ?assign ?body ?done ?stop
    case assign =>
      intro l x W K hK
      gi_wp2
      exact hK
    case stop => exact fun _ _ _ _ _ h _ => h.elim
    case hI =>
      rintro s A A' ⟨h1, h2, v1, v2, h3, h4, h5⟩ hk
      exact ⟨h1, touched_kept h2 hk, v1, v2, h3.kept hk, h4.kept hk, h5⟩
    case hIL =>
      rintro pre W ⟨h1, h2, _⟩
      have e1 := HB.out
      have e2 := HS1.out
      have e3 := HSU.out
      have hbel := HBW.out.trans (h2.below (B := w9.heap.size) HBW.out.size (fun j hj => by omega))
      refine ⟨?_, ?_, nx, nodes, v, HA9.out.kept hbel, HLA.out, rfl⟩
      · rw [e1]; exact touched_cell h2 HX2.out.list (by omega)
      · rw [e1]; exact touched_cell h2 HX2.out.key (by omega)
    case h0 =>
      exact ⟨.nil, .refl _ _, _, _, ⟨blk_kept HX2.out.bel (blk_kept HX1.out HK0.out), World.ownsRow_nil _ _ _ _⟩, ⟨blk_kept HX2.out.bel (blk_kept HX1.out HK1.out), World.ownsRow_nil _ _ _ _⟩, fun g h => by cases h⟩
    case body =>
      rintro l pre ⟨k, xv⟩ W ⟨h1, h2, v1, v2, h3, h4, h5⟩ hx
      have hn : pre.length + 1 ≤ 1000 := by
        have e1 := h1.length_le
        have e2 := HNA.out
        simp only [kv, List.length_map] at e1
        omega
      have c1 := (blk_one h3.box).1
      have f1 := (blk_one h3.box).2
      have c2 := (blk_one h4.box).1
      have f2 := (blk_one h4.box).2
      have H1 := Lib.hid h1
      have H2 := Lib.hid h2
      have H3 := Lib.hid h3
      have H4 := Lib.hid h4
      have H5 := Lib.hid h5
      have HX := Lib.hid hx
      clear h1 h2 h3 h4 h5 hx
      have hbb : w9.heap.size ≠ w9.heap.size + 1 := by omega
      have hl2 : w9.heap.size + 1 < u2.heap.size := by
        have e1 := HX2.out.size
        have e2 := HS1.out
        have e3 := HSU.out
        omega
      have hl1 : w9.heap.size < u2.heap.size := by omega
      gi_wp2_with (first
        | (gi_at_builtin; refine wpListIn_append1 rfl (.tmp 132) (.tmp 134) 48 rfl u2.heap.size 9 (.string ByteArray.empty) 16 Try.underlying48 infoStr rfl v1 _ _ (.string k) rfl H3.out.row _ rfl rfl (by omega) (by omega) H2.out.size ?_; intro g1 p1 y1 r1 r2 r3 r4; have P1 := Lib.hid (push_step H3.out H4.out hbb hl1 hl2 H5.out r1 r2 r3 r4); have q := push_cells H3.out H4.out hl1 hl2 r2; have q1 := q.1; have q2 := q.2.1; have q3 := q.2.2.1; have q4 := q.2.2.2; clear q r1 r2 r3 r4)
        | (gi_at_builtin; refine wpListIn_append1 rfl (.tmp 136) (.tmp 138) 48 rfl u2.heap.size 9 (.string ByteArray.empty) 16 Try.underlying48 infoStr rfl v2 _ _ (.string xv) rfl P1.out.other.row 1 (by rw [World.size_setCell]; rfl) rfl (by omega) (by omega) (P1.out.touched _ _ H2.out (.inl rfl) rfl).size ?_; intro g2 p2 y2 r1 r2 r3 r4; have P2 := Lib.hid (push_step P1.out.other P1.out.mine hbb.symm hl2 hl1 (fun g h h' => P1.out.apart g h' h) r1 r2 r3 r4); have q := push_cells P1.out.other P1.out.mine hl2 hl1 r2; have q5 := q.1; have q6 := q.2.1; have q7 := q.2.2.1; have q8 := q.2.2.2; clear q r1 r2 r3 r4))
      refine ⟨(P1.out.keeps.trans P2.out.keeps).from _, trivial, H1.out.snoc HX.out, P2.out.touched _ _ (P1.out.touched _ _ H2.out (.inl rfl) rfl) (.inr rfl) rfl, _, _, ?_, ?_, fun g h h' => P2.out.apart g h' h⟩
      · rw [List.map_append, List.length_append]; exact P2.out.other
      · rw [List.map_append, List.length_append]; exact P2.out.mine
    case done =>
      rintro D xs W hD hS ⟨h1, h2, v1, v2, h3, h4, _⟩ hK
      have H1 := Lib.hid h1
      have HS := Lib.hid hS
      have H3 := Lib.hid h3
      have H4 := Lib.hid h4
      have HDK := Lib.hid hK
      have HDL := Lib.hid hD
      have hlt2 : w9.heap.size + 4 < u2.heap.size ∧ u2.heap.size ≤ W.heap.size := by
        have e1 := HX2.out.size
        have e2 := HS1.out
        have e3 := HSU.out
        have e4 := h2.size
        omega
      have hlt3 := hlt2.2
      replace hlt2 := hlt2.1
      have HBX := Lib.hid (HBW.out.trans (h2.below (B := w9.heap.size) HBW.out.size (fun j hj => by omega)))
      clear h1 h2 h3 h4 hK hS hD
      go_wp2_with fail
      have hnb := heap_alloc_new W (.cells #[.int .i64 0] 3)
      have hsz3 : (W.alloc (.cells #[.int .i64 0] 3)).heap.size = W.heap.size + 1 := by simp
      have hb3 : Below W.heap.size W (W.alloc (.cells #[.int .i64 0] 3)) := (Below.refl _ _).alloc (Nat.le_refl _) _
      generalize W.alloc (.cells #[.int .i64 0] 3) = u3 at *
      have HNB := Lib.hid hnb
      have HS3 := Lib.hid hsz3
      have HB3' := Lib.hid hb3
      clear hnb hsz3 hb3
      refine (cFrom (some ⟨q, 0, none⟩) ByteArray.empty u3).mono ?_
      rintro e u4 ⟨rfl, hbx⟩
      have HX4 := Lib.hid hbx.bel
      have HS4 := Lib.hid hbx.size
      clear hbx
      have hrn := run_from_nil u3.heap.size u4
      go_wp2_with fail
      clear hrn
      refine (cFrom (some ⟨q, 0, none⟩) ByteArray.empty u4).mono ?_
      rintro e u5 ⟨rfl, hbx⟩
      have HX5 := Lib.hid hbx
      have HBV := Lib.hid ((HB3'.out.trans (HX4.out.mono HB3'.out.size)).trans (hbx.bel.mono (Nat.le_trans HB3'.out.size HX4.out.size)))
      clear hbx
      go_wp2_with fail
      obtain ⟨C, hC⟩ : ∃ C, C = u4.heap.size := ⟨_, rfl⟩
      rw [← hC]
      have HC' := Lib.hid hC
      clear hC
      have hlt4 : W.heap.size + 3 ≤ u4.heap.size ∧ u4.heap.size + 2 ≤ u5.heap.size := by
        have e1 := HX5.out.size
        have e2 := HS4.out
        have e3 := HS3.out
        omega
      have hlt5 := hlt4.2
      replace hlt4 := hlt4.1
      refine' wp_rangeFunc_tells (gf := 39) (lb := #[.pointer (some ⟨C, 0, none⟩), .pointer (some ⟨C + 1, 0, none⟩)]) rfl (enters_of Try.func39 (by kernel_rfl) rfl)
        (from_tells (fun _ => kv nodes) ByteArray.empty C (C + 1) q ((kv nodes).map (·.1)) (fun _ y hy => List.mem_map.2 ⟨y, hy, rfl⟩) (fun _ _ _ => List.prefix_rfl)) (fun _ => rfl)
        (fun pre Z => Told (kv nodes) ByteArray.empty pre ∧ Touched (fun k => k = W.heap.size) u5 Z ∧ Z.heap[W.heap.size]? = some (.cells #[.int .i64 pre.length] 3 (0, 0)))
        (fun _ _ _ => False) ?hI2 (fun _ _ _ _ h _ => h) ?hIL2 ?h02 _ ?assign2 ?body2 ?done2 ?stop2
      case assign2 =>
        intro l x W K hK
        gi_wp2
        exact hK
      case stop2 => exact fun _ _ _ _ _ h _ => h.elim
      case hI2 =>
        rintro s A A' ⟨h1, h2, h3⟩ hk
        exact ⟨h1, touched_kept h2 hk, hk.cells h3⟩
      case hIL2 =>
        rintro pre Z ⟨h1, h2, _⟩
        have e1 := HC'.out
        have hbel := (HBX.out.trans (HBV.out.mono HBX.out.size)).trans (h2.below (B := w9.heap.size) (Nat.le_trans HBX.out.size HBV.out.size) (fun j hj => by omega))
        refine ⟨?_, ?_, ny, nodes', v', HC9.out.kept hbel, HLC.out, HKC.out⟩
        · rw [e1]; exact touched_cell h2 HX5.out.list (by omega)
        · rw [e1]; exact touched_cell h2 HX5.out.key (by omega)
      case h02 => exact ⟨.nil, .refl _ _, blk_kept HX5.out.bel (blk_kept HX4.out HNB.out)⟩
      case body2 =>
        rintro l pre ⟨k, xv⟩ Z ⟨h1, h2, h3⟩ hx
        obtain ⟨t, ht⟩ := (h1.snoc hx).prefix HU.out H1.out HS.out
        have hlt : pre.length < xs.length := by rw [← ht]; simp
        have hat : xs[pre.length]? = some (k, xv) := by rw [← ht]; simp
        obtain ⟨g1, p1, hv1, hg1, hg1', _, hcell1, _⟩ := owns_shape H3.out.row (by omega)
        obtain ⟨g2, p2, hv2, hg2, hg2', _, hcell2, _⟩ := owns_shape H4.out.row (by omega)
        have c1 : W.cell? ⟨w9.heap.size, 0, none⟩ = some v1 := (blk_one H3.out.box).1
        have c2 : W.cell? ⟨w9.heap.size + 1, 0, none⟩ = some v2 := (blk_one H4.out.box).1
        have c3 : W.cell? ⟨g1, pre.length, none⟩ = some (.string k) := by rw [hcell1 _ (by omega), List.getElem?_map, hat]; rfl
        have c4 : W.cell? ⟨g2, pre.length, none⟩ = some (.string xv) := by rw [hcell2 _ (by omega), List.getElem?_map, hat]; rfl
        rw [hv1] at c1
        rw [hv2] at c2
        replace c1 := touched_cell h2 (Go.Cph.cell_kept HBV.out c1) (by omega)
        replace c2 := touched_cell h2 (Go.Cph.cell_kept HBV.out c2) (by omega)
        replace c3 := touched_cell h2 (Go.Cph.cell_kept HBV.out c3) (by omega)
        replace c4 := touched_cell h2 (Go.Cph.cell_kept HBV.out c4) (by omega)
        have c5 := (blk_one h3).1
        have f5 := (blk_one h3).2
        have z1 : (k.toList == k.toList) = true := by simp
        have z2 : (xv.toList == xv.toList) = true := by simp
        have hn : pre.length + 1 ≤ 1000 := by
          have e1 := h1.length_le
          have e2 := HNA.out
          simp only [kv, List.length_map] at e1
          omega
        have H1' := Lib.hid (h1.snoc hx)
        have H2 := Lib.hid h2
        have H3' := Lib.hid h3
        clear h1 h2 h3 hx ht hat hcell1 hcell2 hv1 hv2
        gi_wp2
        refine ⟨(KeepsOthers.setCell _ _ _).from _, trivial, H1'.out, ?_, ?_⟩
        · exact ⟨H2.out.os, H2.out.tape, H2.out.output, by rw [World.size_setCell]; exact H2.out.size, fun j hj hn => (blk_set_other hn).trans (H2.out.block j hj hn)⟩
        · rw [List.length_append]; exact blk_one_set H3'.out _
      case done2 =>
        rintro E ys Z hE hS2 ⟨h1, h2, h3⟩ hK
        obtain rfl := h1.same HU.out hS2 H1.out HS.out
        have hxl := h1.length HU.out (kv_nodup HLA.out) hS2
        have hxl' : ys.length = nodes.length := by simpa [kv] using hxl
        obtain ⟨ao, cp, hv1⟩ := owns_slice H3.out.row
        have c1 : W.cell? ⟨w9.heap.size, 0, none⟩ = some v1 := (blk_one H3.out.box).1
        rw [hv1, hxl'] at c1
        rw [hxl'] at h3
        replace c1 := touched_cell h2 (Go.Cph.cell_kept HBV.out c1) (by omega)
        have c5 := (blk_one h3).1
        have hbel := (HBX.out.trans (HBV.out.mono HBX.out.size)).trans (h2.below (B := w9.heap.size) (Nat.le_trans HBX.out.size HBV.out.size) (fun j hj => by omega))
        have hln9 := cLen Z.drew (HA9.out.kept hbel.drew)
        have hr := blk_kept hbel HR9.out
        have HR := Lib.hid hr
        have c6 := (blk_one hr).1
        have f6 := (blk_one hr).2
        have HBZ := Lib.hid (below_step HB9.out hbel HB9.out.size)
        have HK2 := Lib.hid hK
        have HE := Lib.hid hE
        have HDZ := Lib.hid (show Z.heap[D]? = some (.deferred (some [])) from touched_blk h2 (blk_kept HBV.out HDK.out) (by have := blk_lt HDK.out; omega))
        have hwl : w.heap.size ≤ w9.heap.size := HB9.out.size
        have hnn := HNA.out
        clear h1 h2 h3 hS2 hK hE hxl hxl' hv1 hbel hr
        generalize nodes.length = m at *
        go_wp2_with fail
        apply wp_meet0 (fun z => z.heap[w.heap.size]? = some (.cells #[.bool true] 4 (0, 0)) ∧ Below w.heap.size w z ∧ z.heap[D]? = some (.deferred (some [])) ∧ z.heap[E]? = some (.deferred (some [])))
        · go_region_with (first | (go_at_call 20; refine (hln9.mono ?_); rintro e z1 ⟨rfl, rfl⟩) | (go_at_call 10; refine (awake _).mono ?_; rintro e z1 ⟨rfl, hb⟩; have HBB := Lib.hid hb; have c7 := Go.Cph.cell_kept hb c6; have f7 := (blk_one (blk_kept hb HR.out)).2; clear hb))
          all_goals exact ⟨rfl, blk_one_set (blk_kept HBB.out HR.out) _, (below_step HBZ.out.drew HBB.out HBZ.out.drew.size).setCell (p := ⟨w.heap.size, 0, none⟩) (Nat.le_refl _) _,
            (blk_set_other (by have := blk_lt HDZ.out; have := HDL.out; show D ≠ w.heap.size; omega)).trans (blk_kept HBB.out HDZ.out), (blk_set_other (by have := HE.out; show E ≠ w.heap.size; omega)).trans (blk_kept HBB.out HK2.out)⟩
        · rintro z ⟨r1, r2, r3, r4⟩
          have R1 := Lib.hid r1
          have R2 := Lib.hid r2
          have R3 := Lib.hid r3
          have R4 := Lib.hid r4
          clear r1 r2 r3 r4 c1 c5 c6 f6
          go_wp2_with fail
          refine leaves2 R4.out R3.out (by have := blk_lt HDK.out; have := HE.out; omega) (by have := HE.out; omega) (by have := HDL.out; omega) (resAt_same rfl R1.out) R2.out fun _ h => awakePost_of h
end Go.Proofs.Try.SkS
