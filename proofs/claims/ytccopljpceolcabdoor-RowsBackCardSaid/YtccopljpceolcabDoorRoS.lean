/- rows: the values read. -/
import Derived.Test.YtccopljpceolcabDoorMD
import Derived.Test.YtccopljpceolcabDoorMX
import Derived.Deep.AppendLies
import Derived.Deep.RegionHeld3
import Derived.Deep.RegionHeldLaw
set_option linter.unusedVariables false
set_option linter.unusedSimpArgs false
set_option maxRecDepth 100000
namespace Go.Proofs.Tryd.Rows
open Go.RowKit Go.Cph Go.Cph.Ok Go.Proofs.Tryd.Nu Go.Proofs.Tryd.Ok
def rtextS (s : ByteArray) (most : Nat) : Option (ByteArray × Nat) :=
  match readRow s.data.toList with
  | none => none
  | some (n, k) => if n ≤ most ∧ k + n ≤ s.size then some (s.extract k (k + n), k + n) else none
def encRT2 : Option (ByteArray × Nat) → Value
  | none => .tuple #[.string ⟨#[]⟩, .int .i64 0, .bool false]
  | some (t, z) => .tuple #[.string t, .int .i64 (z : Int), .bool true]
def readVarsS : Nat → ByteArray → Option (List UInt64 × ByteArray)
  | 0, s => some ([], s)
  | j + 1, s => match readRow s.data.toList with
    | none => none
    | some (n, k) => (readVarsS j (s.extract k s.size)).map fun x => (UInt64.ofNat n :: x.1, x.2)
def numsS (many most : Nat) (s : ByteArray) : Option (List UInt64 × ByteArray) :=
  (readVarsS many s).bind fun x => (rtextS x.2 most).bind fun y => if y.2 = x.2.size then some (x.1, y.1) else none
def readNumS (s : ByteArray) : Option UInt64 :=
  match readRow s.data.toList with
  | none => none
  | some (n, k) => if k = s.size then some (UInt64.ofNat n) else none
def readLeaseS (s : ByteArray) : Option (ByteArray × UInt64) :=
  (rtextS s 32).bind fun y => if y.1.size = 0 then none else (readNumS (s.extract y.2 s.size)).map fun u => (y.1, u)
def eventL (t : ByteArray) : List UInt64 → Option (UInt64 × ByteArray × UInt64 × UInt64)
  | [h, a, u] => if t.size = 0 then none else if 1 ≤ h.toNat ∧ h.toNat ≤ 4 then some (h, t, a, u) else none
  | _ => none
def readEventS (s : ByteArray) : Option (UInt64 × ByteArray × UInt64 × UInt64) := (numsS 3 32 s).bind fun x => eventL x.2 x.1
def clientLL (t : ByteArray) : List UInt64 → Option (UInt64 × ByteArray)
  | [n] => some (n, t)
  | _ => none
def readClientS (s : ByteArray) : Option (UInt64 × ByteArray) := (numsS 1 480 s).bind fun x => clientLL x.2 x.1
theorem vars_len : ∀ (j : Nat) (s : ByteArray) (x : List UInt64 × ByteArray), readVarsS j s = some x → x.1.length = j ∧ x.2.size ≤ s.size
  | 0, s, x, h => by injection h with h; subst h; exact ⟨rfl, Nat.le_refl _⟩
  | j + 1, s, x, h => by
    unfold readVarsS at h
    cases hr : readRow s.data.toList with
    | none => rw [hr] at h; cases h
    | some y =>
      obtain ⟨n, k⟩ := y
      rw [hr] at h
      replace h : (readVarsS j (s.extract k s.size)).map (fun x => (UInt64.ofNat n :: x.1, x.2)) = some x := h
      cases hv : readVarsS j (s.extract k s.size) with
      | none => rw [hv] at h; cases h
      | some z =>
        rw [hv] at h
        injection h with h
        obtain ⟨h1, h2⟩ := vars_len j _ z hv
        subst h
        refine ⟨by simp [h1], ?_⟩
        show z.2.size ≤ s.size
        rw [ByteArray.size_extract] at h2; omega
theorem ext_none (s : ByteArray) (k : Nat) (h : k = s.size) : s.extract k s.size = ⟨#[]⟩ := size0 (by rw [ByteArray.size_extract]; omega)
set_option maxHeartbeats 1600000 in
theorem rdText_any (s : ByteArray) (most : Nat) (w : World) (hs : s.size ≤ 1000000) (hm : most ≤ 1000000) : Calls Tryd.prog 37 #[.string s, .int .i64 (most : Int)] w fun e w' => e = .returned (encRT2 (rtextS s most)) ∧ Below w.heap.size w w' := by
  have HV := Lib.hid (fun (W : World) => readVar_any s W (by omega))
  have m0 : ¬ (most : Int) < 0 := by omega
  have m1 : IntKind.u64.wrap (most : Int) = (most : Int) := by rw [IntKind.wrap_u64]; omega
  cases hr : readRow s.data.toList with
  | none =>
    rw [hr] at HV
    have HQ := Lib.hid (show rtextS s most = none from by unfold rtextS; rw [hr])
    clear hr
    go_enter Tryd.func37, Tryd.ntmps37
    go_wp2_with fail
    refine (HV.out _).mono ?_
    rintro e w1 ⟨rfl, hb⟩
    have HB := Lib.hid hb
    clear hb
    unfold encRV
    go_wp2_with fail
    exact bodyPost_ret (v := .tuple #[.string ⟨#[]⟩, .int .i64 0, .bool false]) (by simp [results, Tryd.results37, go_sem]) rfl ⟨(by rw [HQ.out]; rfl), HB.out⟩
  | some x =>
    obtain ⟨n, k⟩ := x
    rw [hr] at HV
    obtain ⟨hk1, hk2, hk3, hk4⟩ := row_read hr
    rw [← Go.Lib.size_eq] at hk2
    have HQ := Lib.hid (show rtextS s most = if n ≤ most ∧ k + n ≤ s.size then some (s.extract k (k + n), k + n) else none from by unfold rtextS; rw [hr])
    obtain ⟨d, hd⟩ : ∃ d, d = s.size - k := ⟨_, rfl⟩
    have k1 : IntKind.i64.wrap ((s.size : Int) - (k : Int)) = (d : Int) := by rw [IntKind.wrap_i64]; omega
    have k2 : IntKind.u64.wrap (d : Int) = (d : Int) := by rw [IntKind.wrap_u64]; omega
    by_cases h1 : n ≤ most
    · have c1 : ¬ (most : Int) < (n : Int) := by omega
      have c2 : decide (most < n) = false := decide_eq_false (by omega)
      by_cases h2 : n ≤ d
      · have c3 : ¬ (d : Int) < (n : Int) := by omega
        have c4 : decide (d < n) = false := decide_eq_false (by omega)
        obtain ⟨e, he⟩ : ∃ e, e = k + n := ⟨_, rfl⟩
        have k3 : IntKind.i64.wrap (n : Int) = (n : Int) := by rw [IntKind.wrap_i64]; omega
        have k4 : IntKind.i64.wrap ((k : Int) + (n : Int)) = (e : Int) := by rw [IntKind.wrap_i64]; omega
        have k5 : (k : Int) ≤ (e : Int) := by omega
        have k6 : (e : Int) ≤ (s.size : Int) := by omega
        have k7 : (0 : Int) ≤ (k : Int) := by omega
        have HQ2 := Lib.hid (show rtextS s most = some (s.extract k e, e) from by rw [HQ.out, if_pos ⟨h1, by omega⟩, he])
        clear HQ hr hk1 hk2 hk3 hk4 hd he h1 h2 hm hs
        go_enter Tryd.func37, Tryd.ntmps37
        go_wp2_with fail
        refine (HV.out _).mono ?_
        rintro e w1 ⟨rfl, hb⟩
        have HB := Lib.hid hb
        clear hb
        unfold encRV
        go_wp2_with fail
        exact bodyPost_ret (v := .tuple #[.string (s.extract k e), .int .i64 (e : Int), .bool true]) (by simp [results, Tryd.results37, go_sem]) rfl ⟨(by rw [HQ2.out]; rfl), HB.out⟩
      · have c3 : (d : Int) < (n : Int) := by omega
        have c4 : decide (d < n) = true := decide_eq_true (by omega)
        have HQ2 := Lib.hid (show rtextS s most = none from by rw [HQ.out, if_neg (fun h => by omega)])
        clear HQ hr hk1 hk2 hk3 hk4 hd h1 h2 hm hs
        go_enter Tryd.func37, Tryd.ntmps37
        go_wp2_with fail
        refine (HV.out _).mono ?_
        rintro e w1 ⟨rfl, hb⟩
        have HB := Lib.hid hb
        clear hb
        unfold encRV
        go_wp2_with fail
        exact bodyPost_ret (v := .tuple #[.string ⟨#[]⟩, .int .i64 0, .bool false]) (by simp [results, Tryd.results37, go_sem]) rfl ⟨(by rw [HQ2.out]; rfl), HB.out⟩
    · have c1 : (most : Int) < (n : Int) := by omega
      have c2 : decide (most < n) = true := decide_eq_true (by omega)
      have HQ2 := Lib.hid (show rtextS s most = none from by rw [HQ.out, if_neg (fun h => h1 h.1)])
      clear HQ hr hk1 hk2 hk3 hk4 hd h1 hm hs
      go_enter Tryd.func37, Tryd.ntmps37
      go_wp2_with fail
      refine (HV.out _).mono ?_
      rintro e w1 ⟨rfl, hb⟩
      have HB := Lib.hid hb
      clear hb
      unfold encRV
      go_wp2_with fail
      exact bodyPost_ret (v := .tuple #[.string ⟨#[]⟩, .int .i64 0, .bool false]) (by simp [results, Tryd.results37, go_sem]) rfl ⟨(by rw [HQ2.out]; rfl), HB.out⟩
def encNO : Option UInt64 → Value
  | none => .tuple #[.int .u64 0, .bool false]
  | some n => .tuple #[.int .u64 (n.toNat : Int), .bool true]
set_option maxHeartbeats 800000 in
theorem readNumber (s : ByteArray) (w : World) (hs : s.size ≤ 1000000) : Calls Tryd.prog 12 #[.string s] w fun e w' => e = .returned (encNO (readNumS s)) ∧ Below w.heap.size w w' := by
  have HV := Lib.hid (fun (W : World) => readVar_any s W (by omega))
  cases hr : readRow s.data.toList with
  | none =>
    rw [hr] at HV
    have HQ := Lib.hid (show readNumS s = none from by unfold readNumS; rw [hr])
    clear hr
    go_enter Tryd.func12, Tryd.ntmps12
    go_wp2_with fail
    refine (HV.out _).mono ?_
    rintro e w1 ⟨rfl, hb⟩
    have HB := Lib.hid hb
    clear hb
    unfold encRV
    go_wp2_with fail
    exact bodyPost_ret (v := .tuple #[.int .u64 0, .bool false]) (by simp [results, Tryd.results12, go_sem]) rfl ⟨(by rw [HQ.out]; rfl), HB.out⟩
  | some x =>
    obtain ⟨n, k⟩ := x
    rw [hr] at HV
    obtain ⟨hk1, hk2, hk3, hk4⟩ := row_read hr
    have HQ := Lib.hid (show readNumS s = if k = s.size then some (UInt64.ofNat n) else none from by unfold readNumS; rw [hr])
    have HN := Lib.hid (show ((UInt64.ofNat n).toNat : Int) = (n : Int) from by rw [UInt64.toNat_ofNat', Nat.mod_eq_of_lt hk4])
    by_cases h : k = s.size
    · have c1 : (k : Int) = (s.size : Int) := by omega
      have c2 : ((k : Int) == (s.size : Int)) = true := by rw [c1]; simp
      have c3 : (k == s.size) = true := by rw [h]; simp
      have HQ2 := Lib.hid (show readNumS s = some (UInt64.ofNat n) from by rw [HQ.out, if_pos h])
      clear HQ hr hk1 hk2 hk3 hk4 h c1
      go_enter Tryd.func12, Tryd.ntmps12
      go_wp2_with fail
      refine (HV.out _).mono ?_
      rintro e w1 ⟨rfl, hb⟩
      have HB := Lib.hid hb
      clear hb
      unfold encRV
      go_wp2_with fail
      exact bodyPost_ret (v := .tuple #[.int .u64 (n : Int), .bool true]) (by simp [results, Tryd.results12, go_sem]) rfl ⟨(by rw [HQ2.out]; show _ = Ending.returned (.tuple #[.int .u64 ((UInt64.ofNat n).toNat : Int), .bool true]); rw [HN.out]), HB.out⟩
    · have c1 : ¬ (k : Int) = (s.size : Int) := by omega
      have c2 : ((k : Int) == (s.size : Int)) = false := beq_eq_false_iff_ne.2 c1
      have c3 : (k == s.size) = false := beq_eq_false_iff_ne.2 h
      have HQ2 := Lib.hid (show readNumS s = none from by rw [HQ.out, if_neg h])
      clear HQ hr hk1 hk2 hk3 hk4 h c1
      go_enter Tryd.func12, Tryd.ntmps12
      go_wp2_with fail
      refine (HV.out _).mono ?_
      rintro e w1 ⟨rfl, hb⟩
      have HB := Lib.hid hb
      clear hb
      unfold encRV
      go_wp2_with fail
      exact bodyPost_ret (v := .tuple #[.int .u64 0, .bool false]) (by simp [results, Tryd.results12, go_sem]) rfl ⟨(by rw [HQ2.out]; rfl), HB.out⟩
def encLO : Option (ByteArray × UInt64) → Value
  | none => .tuple #[.string ⟨#[]⟩, .int .u64 0, .bool false]
  | some (t, n) => .tuple #[.string t, .int .u64 (n.toNat : Int), .bool true]
theorem rtext_le {s t : ByteArray} {most z : Nat} (h : rtextS s most = some (t, z)) : z ≤ s.size ∧ t.size ≤ most := by
  unfold rtextS at h
  cases hr : readRow s.data.toList with
  | none => rw [hr] at h; cases h
  | some x =>
    obtain ⟨n, k⟩ := x
    rw [hr] at h
    replace h : (if n ≤ most ∧ k + n ≤ s.size then some (s.extract k (k + n), k + n) else none) = some (t, z) := h
    split at h
    · rename_i hc
      injection h with h
      injection h with h1 h2
      subst h1 h2
      refine ⟨hc.2, ?_⟩
      rw [ByteArray.size_extract]; omega
    · cases h
set_option maxHeartbeats 800000 in
theorem readLease (s : ByteArray) (w : World) (hs : s.size ≤ 1000000) : Calls Tryd.prog 7 #[.string s] w fun e w' => e = .returned (encLO (readLeaseS s)) ∧ Below w.heap.size w w' := by
  have HT := Lib.hid (fun (W : World) => show Calls Tryd.prog 37 #[.string s, .int .i64 32] W _ from rdText_any s 32 W hs (by decide))
  cases hr : rtextS s 32 with
  | none =>
    rw [hr] at HT
    have HQ := Lib.hid (show readLeaseS s = none from by unfold readLeaseS; rw [hr]; rfl)
    clear hr
    unfold encRT2 at HT
    go_enter Tryd.func7, Tryd.ntmps7
    go_wp2_with fail
    refine (HT.out _).mono ?_
    rintro e w1 ⟨rfl, hb⟩
    have HB := Lib.hid hb
    clear hb
    go_wp2_with fail
    exact bodyPost_ret (v := .tuple #[.string ⟨#[]⟩, .int .u64 0, .bool false]) (by simp [results, Tryd.results7, go_sem]) rfl ⟨(by rw [HQ.out]; rfl), HB.out⟩
  | some x =>
    obtain ⟨t, z⟩ := x
    have hz := (rtext_le hr).1
    rw [hr] at HT
    have HQ := Lib.hid (show readLeaseS s = if t.size = 0 then none else (readNumS (s.extract z s.size)).map fun u => (t, u) from by unfold readLeaseS; rw [hr]; rfl)
    have HN := Lib.hid (fun (W : World) => readNumber (s.extract z s.size) W (by rw [ByteArray.size_extract]; omega))
    have q1 : (0 : Int) ≤ (z : Int) := by omega
    have q2 : (z : Int) ≤ (s.size : Int) := by omega
    unfold encRT2 at HT
    clear hr hs
    by_cases h0 : t.size = 0
    · have HQ2 := Lib.hid (show readLeaseS s = none from by rw [HQ.out, if_pos h0])
      obtain rfl := size0 h0
      clear h0 HQ hz
      go_enter Tryd.func7, Tryd.ntmps7
      go_wp2_with fail
      refine (HT.out _).mono ?_
      rintro e w1 ⟨rfl, hb⟩
      have HB := Lib.hid hb
      clear hb
      go_wp2_with fail
      exact bodyPost_ret (v := .tuple #[.string ⟨#[]⟩, .int .u64 0, .bool false]) (by simp [results, Tryd.results7, go_sem]) rfl ⟨(by rw [HQ2.out]; rfl), HB.out⟩
    · have he := str_some t h0
      cases hn : readNumS (s.extract z s.size) with
      | none =>
        rw [hn] at HN
        have HQ2 := Lib.hid (show readLeaseS s = none from by rw [HQ.out, if_neg h0, hn]; rfl)
        unfold encNO at HN
        clear h0 HQ hz hn
        go_enter Tryd.func7, Tryd.ntmps7
        go_wp2_with fail
        refine (HT.out _).mono ?_
        rintro e w1 ⟨rfl, hb⟩
        have HB := Lib.hid hb
        clear hb
        go_wp2_with fail
        refine (HN.out _).mono ?_
        rintro e w2 ⟨rfl, hb⟩
        replace HB := Lib.hid (below_step HB.out hb HB.out.size)
        clear hb
        go_wp2_with fail
        exact bodyPost_ret (v := .tuple #[.string ⟨#[]⟩, .int .u64 0, .bool false]) (by simp [results, Tryd.results7, go_sem]) rfl ⟨(by rw [HQ2.out]; rfl), HB.out⟩
      | some u =>
        rw [hn] at HN
        have HQ2 := Lib.hid (show readLeaseS s = some (t, u) from by rw [HQ.out, if_neg h0, hn]; rfl)
        unfold encNO at HN
        clear h0 HQ hz hn
        go_enter Tryd.func7, Tryd.ntmps7
        go_wp2_with fail
        refine (HT.out _).mono ?_
        rintro e w1 ⟨rfl, hb⟩
        have HB := Lib.hid hb
        clear hb
        go_wp2_with fail
        refine (HN.out _).mono ?_
        rintro e w2 ⟨rfl, hb⟩
        replace HB := Lib.hid (below_step HB.out hb HB.out.size)
        clear hb
        go_wp2_with fail
        exact bodyPost_ret (v := .tuple #[.string t, .int .u64 (u.toNat : Int), .bool true]) (by simp [results, Tryd.results7, go_sem]) rfl ⟨(by rw [HQ2.out]; rfl), HB.out⟩
abbrev U64 : TypeId := 22
abbrev U64s : TypeId := 68
theorem infoU : (Tryd.prog.info? U64).map (fun i => (i.zero, i.size, i.bytes)) = some (some (.int .u64 0), 1, 8) := by kernel_rfl
theorem encN_one {l : List UInt64} : ∀ u ∈ l.flatMap encN, u.oneCell' = true := by
  intro u hu
  rw [List.mem_flatMap] at hu
  obtain ⟨y, _, hy⟩ := hu
  simp only [encN, List.mem_cons, List.not_mem_nil, or_false] at hy
  rw [hy]; rfl
theorem step_pushN {ops : Array Oper} {o : Oper} {a : Act} {W w0 : World} {K : Act → World → Prop} {Q : Exit → Act → World → Prop} {E : Prop} {v : Value} {n : Nat} {xs : List Value} {p : UInt64} {base : Nat}
    (hg : o.guard = none) (d x : Operand) (hop : o.op = Op.call { callee := Callee.builtin Builtin.append, args := #[d, x], argTypes := #[U64s, U64s] }) {b : Nat} {fr : Nat × Nat} {T : TypeId}
    (hd : a.eval d = v) (hx : a.eval x = .slice (some ⟨b, 0, none⟩) 1 1) (hb : W.heap[b]? = some (.cells #[.int .u64 (p.toNat : Int)] T fr)) (ho : W.ownsRow base U64 1 v n xs) (HB : Below base w0 W) (hbase : base ≤ W.heap.size) (hn : n ≤ 1099511627000)
    (hK : ∀ v' W', W'.ownsRow base U64 1 v' (n + 1) (xs ++ encN p) → Below base w0 W' → base ≤ W'.heap.size → K (a.put o.dst v') W') :
    if Region.wanted o (yielded ops a.tmps) = true then Oper.wp Tryd.prog o a W K Q else E := by
  have hs : Seg W 1 (.slice (some ⟨b, 0, none⟩) 1 1) 1 (encN p) := ⟨⟨_, _, rfl, fun _ => ⟨b, 0, rfl, fun j hj => by rw [Nat.zero_add, blk_cell hb]; simp⟩⟩, rfl⟩
  obtain ⟨v', W', hr, ho', hgr, -⟩ := run_append_seg (P := Tryd.prog) W U64s o.type U64 _ 1 8 Tryd.underlying68 infoU rfl (by decide) ho hs (fun u hu => encN_one (l := [p]) u (by simpa using hu)) (by omega) (by decide) hbase
  exact step_append hg d x U64s U64s hop _ _ hd hx hr (hK v' W' ho' (below_grown HB hgr ho (Nat.le_refl _) hbase) (Nat.le_trans hbase hgr.size))
def NumsPost (o : Option (List UInt64 × ByteArray)) (w : World) (e : Ending) (w' : World) : Prop :=
  (match o with
  | none => e = .returned (.tuple #[.slice none 0 0, .string ⟨#[]⟩, .bool false])
  | some (l, t) => ∃ v, e = .returned (.tuple #[v, .string t, .bool true]) ∧ w'.ownsRow w.heap.size U64 1 v l.length (l.flatMap encN)) ∧ Below w.heap.size w w'
set_option maxHeartbeats 3200000 in
theorem numbers_any (s : ByteArray) (many most : Nat) (w : World) (hs : s.size ≤ 1000000) (hmany : many ≤ 1000) (hmost : most ≤ 1000000) :
    Calls Tryd.prog 38 #[.string s, .int .i64 (many : Int), .int .i64 (most : Int)] w (NumsPost (numsS many most s) w) := by
  have HS := Lib.hid hs
  have HMN := Lib.hid hmany
  have HMO := Lib.hid hmost
  obtain ⟨L, hL⟩ : ∃ L, L = readVarsS many s := ⟨_, rfl⟩
  have HL := Lib.hid hL
  have HNS := Lib.hid (show numsS many most s = L.bind fun x => (rtextS x.2 most).bind fun y => if y.2 = x.2.size then some (x.1, y.1) else none from by rw [hL]; rfl)
  clear hL hs hmany hmost
  go_enter Tryd.func38, Tryd.ntmps38
  go_wp2_with fail
  go_loopw [0, 6, 14] (fun vs vl vi W => ∃ (i : Nat) (c : ByteArray) (out : List UInt64), vs = .string c ∧ vi = .int .i64 i ∧ i ≤ many ∧ out.length = i ∧ L = (readVarsS (many - i) c).map (fun x => (out ++ x.1, x.2)) ∧ W.ownsRow w.heap.size U64 1 vl out.length (out.flatMap encN) ∧ c.size ≤ s.size ∧ Below w.heap.size w W) (fun _ _ vi _ => many - (intOf vi).toNat)
  case atStart => exact ⟨0, s, [], rfl, rfl, Nat.zero_le _, rfl, by rw [HL.out]; cases readVarsS (many - 0) s <;> rfl, World.ownsRow_nil _ _ _ _, Nat.le_refl _, Below.refl _ _⟩
  case round =>
    obtain ⟨i, c, out, rfl, rfl, hi, hol, hl, ho, hcs, hb⟩ := hrel
    rw [hol] at ho
    have HOL := Lib.hid hol
    have HLL := Lib.hid hl
    have HB := Lib.hid hb
    have HCS := Lib.hid hcs
    obtain ⟨oo, oc, hov⟩ := owns_slice1 ho
    subst hov
    have HO := Lib.hid ho
    by_cases hlt : i < many
    · have HLT := Lib.hid hlt
      have k2 : (i : Int) < (many : Int) := by omega
      have k4 : IntKind.i64.wrap ((i : Int) + 1) = (i : Int) + 1 := by rw [IntKind.wrap_i64]; have := HMN.out; omega
      have HRV := Lib.hid (fun W => readVar_any c W (by have := HS.out; omega))
      cases hr : readRow c.data.toList with
      | none =>
        rw [hr] at HRV
        have HQ := Lib.hid (show numsS many most s = none from by
          rw [HNS.out, hl, show many - i = (many - i - 1) + 1 by omega]
          unfold readVarsS
          rw [hr]; rfl)
        clear hr hl ho hcs hb hlt hi hol
        unfold encRV at HRV
        go_wp2_with fail
        refine (HRV.out _).mono ?_
        rintro e w1 ⟨rfl, hb⟩
        have HB1 := Lib.hid (below_step HB.out hb HB.out.size)
        clear hb
        go_wp2_with fail
        exact bodyPost_ret (v := .tuple #[.slice none 0 0, .string ⟨#[]⟩, .bool false]) (by simp [results, Tryd.results38, go_sem]) rfl (by rw [HQ.out]; exact ⟨rfl, HB1.out⟩)
      | some x =>
        obtain ⟨num, k⟩ := x
        rw [hr] at HRV
        obtain ⟨hk1, hk2, hk3, hk4⟩ := row_read hr
        rw [← Go.Lib.size_eq] at hk2
        obtain ⟨u, hu⟩ : ∃ u : UInt64, u.toNat = num := ⟨UInt64.ofNat num, by rw [UInt64.toNat_ofNat', Nat.mod_eq_of_lt hk4]⟩
        subst hu
        have HQ := Lib.hid (show L = (readVarsS (many - (i + 1)) (c.extract k c.size)).map (fun x => ((out ++ [u]) ++ x.1, x.2)) from by
          rw [hl, show many - i = (many - (i + 1)) + 1 by omega]
          conv => lhs; unfold readVarsS
          rw [hr]
          show ((readVarsS (many - (i + 1)) (c.extract k c.size)).map _).map _ = _
          rw [Option.map_map, UInt64.ofNat_toNat]
          congr 1
          funext y
          simp)
        have HEZ := Lib.hid (show (c.extract k c.size).size ≤ c.size from by rw [ByteArray.size_extract]; omega)
        have q1 : (0 : Int) ≤ (k : Int) := by omega
        have q2 : (k : Int) ≤ (c.size : Int) := by omega
        clear hr hl ho hcs hb hlt hi hol hk1 hk2 hk3 hk4
        unfold encRV at HRV
        go_wp2_with fail
        refine (HRV.out _).mono ?_
        rintro e w1 ⟨rfl, hb⟩
        have HB1 := Lib.hid (below_step HB.out hb HB.out.size)
        have HB1d := Lib.hid (show Below w.heap.size w w1.drew from HB1.out.drew)
        have HO1d := Lib.hid (show w1.drew.ownsRow w.heap.size U64 1 (.slice oo i oc) i (out.flatMap encN) from (row_keptB HO.out hb).drew)
        clear hb
        go_wp2_with fail
        go_region_held_law (fun W => True) (trivial)
          (((refine step_pushN (p := u) (base := w.heap.size) (w0 := w) rfl (.tmp 24) (.tmp 26) rfl (by rfl) (by rfl) (heap_alloc_new w1.drew _) (HO1d.out.alloc _) (HB1d.out.alloc HB1d.out.size _) (HB1d.out.alloc HB1d.out.size (.cells #[.int .u64 (u.toNat : Int)] U64)).size (by have := HMN.out; have := HLT.out; omega) ?_); intro v6 w6 ho6 hb6 hz6; have HO6 := Lib.hid ho6; have HB6 := Lib.hid hb6; clear ho6 hb6 hz6))
        all_goals
          go_wp2_with fail
          go_roundw
          case rel => exact ⟨i + 1, c.extract k c.size, out ++ [u], rfl, by go_num, HLT.out, by rw [List.length_append, HOL.out]; rfl, HQ.out, by rw [List.length_append, HOL.out, List.flatMap_append]; simpa using HO6.out, Nat.le_trans HEZ.out HCS.out, HB6.out⟩
          case measure => have := HLT.out; simp [intOf]; omega
    · have k2 : ¬ (i : Int) < (many : Int) := by omega
      have HQ := Lib.hid (show L = some (out, c) from by
        rw [hl, show many - i = 0 by omega]
        simp [readVarsS])
      have HT := Lib.hid (fun W => rdText_any c most W (by have := HS.out; omega) HMO.out)
      cases hr : rtextS c most with
      | none =>
        rw [hr] at HT
        have HQ2 := Lib.hid (show numsS many most s = none from by rw [HNS.out, HQ.out]; show (rtextS c most).bind _ = none; rw [hr]; rfl)
        clear hr hl ho hcs hb hlt hi hol
        unfold encRT2 at HT
        go_wp2_with fail
        refine (HT.out _).mono ?_
        rintro e w1 ⟨rfl, hb⟩
        have HB1 := Lib.hid (below_step HB.out hb HB.out.size)
        clear hb
        go_wp2_with fail
        exact bodyPost_ret (v := .tuple #[.slice none 0 0, .string ⟨#[]⟩, .bool false]) (by simp [results, Tryd.results38, go_sem]) rfl (by rw [HQ2.out]; exact ⟨rfl, HB1.out⟩)
      | some x =>
        obtain ⟨t, z⟩ := x
        rw [hr] at HT
        have HQ1 := Lib.hid (show numsS many most s = if z = c.size then some (out, t) else none from by rw [HNS.out, HQ.out]; show (rtextS c most).bind _ = _; rw [hr]; rfl)
        unfold encRT2 at HT
        by_cases hz : z = c.size
        · have c2 : ((z : Int) == (c.size : Int)) = true := by rw [hz]; simp
          have c3 : (z == c.size) = true := by rw [hz]; simp
          have HQ2 := Lib.hid (show numsS many most s = some (out, t) from by rw [HQ1.out, if_pos hz])
          clear hr hl ho hcs hb hlt hi hol hz HQ1
          go_wp2_with fail
          refine (HT.out _).mono ?_
          rintro e w1 ⟨rfl, hb⟩
          have HB1 := Lib.hid (below_step HB.out hb HB.out.size)
          have HO1 := Lib.hid (row_keptB HO.out hb)
          clear hb
          go_wp2_with fail
          exact bodyPost_ret (v := .tuple #[.slice oo i oc, .string t, .bool true]) (by simp [results, Tryd.results38, go_sem]) rfl (by rw [HQ2.out]; exact ⟨⟨_, rfl, by rw [HOL.out]; exact HO1.out⟩, HB1.out⟩)
        · have c2 : ((z : Int) == (c.size : Int)) = false := beq_eq_false_iff_ne.2 (by omega)
          have c3 : (z == c.size) = false := beq_eq_false_iff_ne.2 hz
          have HQ2 := Lib.hid (show numsS many most s = none from by rw [HQ1.out, if_neg hz])
          clear hr hl ho hcs hb hlt hi hol hz HQ1
          go_wp2_with fail
          refine (HT.out _).mono ?_
          rintro e w1 ⟨rfl, hb⟩
          have HB1 := Lib.hid (below_step HB.out hb HB.out.size)
          clear hb
          go_wp2_with fail
          exact bodyPost_ret (v := .tuple #[.slice none 0 0, .string ⟨#[]⟩, .bool false]) (by simp [results, Tryd.results38, go_sem]) rfl (by rw [HQ2.out]; exact ⟨rfl, HB1.out⟩)
end Go.Proofs.Tryd.Rows
