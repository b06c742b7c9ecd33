/- The examples of gap's chapter, plainly. No program in sight. -/
import Derived.Test.YtmnfddmjlkkcoaaGp3
set_option linter.unusedVariables false
namespace Go.Proofs.Try.Gp
open Go.Cph Go.Cph.Px Go.Cph.Gp

abbrev A4 (n : UInt64) : Ad := (4, 0, n)
abbrev A6 (n : UInt64) : Ad := (6, MX, n)
theorem cov_ex {l : List Sp} {L : List Iv} (h : (l.filter rightS).map iv = L) (n : Nat) : covS l n ↔ cov L n := by
  rw [← covS_filter, covS_cov (fun s hs => (List.mem_filter.1 hs).2), h]
theorem set_ex {l : List Sp} {L : List Iv} {P : Nat → Prop} (hr : ∀ s ∈ l, rightS s = true) (h : (l.filter rightS).map iv = L) (hle : ∀ s ∈ L, s.1 ≤ s.2) (hg : L.Pairwise fun s t => s.2 + 1 < t.1) (hc : ∀ n, cov L n ↔ P n) : IsSet l P := by
  have hf : l.filter rightS = l := List.filter_eq_self.2 hr
  rw [hf] at h
  refine ⟨hr, ?_, fun n => ?_⟩
  · rw [h]; exact ⟨hle, hg⟩
  · rw [covS_cov hr, h, hc]
theorem free_ex {a b : Ad} {l m : List Sp} {L M : List Iv} {x y : Nat} (hab : rightS (a, b) = true) (ha : rank a = x) (hb : rank b = y) (hr : ∀ s ∈ l, rightS s = true) (h : (l.filter rightS).map iv = L) (hle : ∀ s ∈ L, s.1 ≤ s.2) (hg : L.Pairwise fun s t => s.2 + 1 < t.1)
    (hm : (m.filter rightS).map iv = M) (hc : ∀ n, cov L n ↔ x ≤ n ∧ n ≤ y ∧ ¬ cov M n) : IsSet l (FreeP a b (covS m)) :=
  set_ex hr h hle hg fun n => by
    rw [hc]
    unfold FreeP
    rw [ha, hb, cov_ex hm]
    exact (and_iff_right hab).symm
theorem cov_cons' (s : Iv) (l : List Iv) (n : Nat) : cov (s :: l) n ↔ (s.1 ≤ n ∧ n ≤ s.2) ∨ cov l n := cov_cons
theorem cov_nil' (n : Nat) : cov [] n ↔ False := iff_false_intro (cov_nil n)
theorem ex_join1 : IsSet [(A4 167772160, A4 167772163), (A4 167772165, A4 167772167)] (covS [(A4 167772165, A4 167772167), (A4 167772160, A4 167772162), (A4 167772163, A4 167772163)]) :=
  set_ex (L := [(1361129467683753853853498429727240617984, 1361129467683753853853498429727240617987), (1361129467683753853853498429727240617989, 1361129467683753853853498429727240617991)]) (by decide +kernel) (by decide +kernel) (by decide +kernel) (by decide +kernel) fun n => by
    rw [cov_ex (L := [(1361129467683753853853498429727240617989, 1361129467683753853853498429727240617991), (1361129467683753853853498429727240617984, 1361129467683753853853498429727240617986), (1361129467683753853853498429727240617987, 1361129467683753853853498429727240617987)]) (by decide +kernel)]
    simp only [cov_cons', cov_nil', or_false]
    omega
theorem ex_free1 : IsSet [(A4 167772164, A4 167772164), (A4 167772168, A4 167772170)] (FreeP (A4 167772160) (A4 167772170) (covS [(A4 167772165, A4 167772167), (A4 167772160, A4 167772162), (A4 167772163, A4 167772163)])) :=
  free_ex (L := [(1361129467683753853853498429727240617988, 1361129467683753853853498429727240617988), (1361129467683753853853498429727240617992, 1361129467683753853853498429727240617994)]) (M := [(1361129467683753853853498429727240617989, 1361129467683753853853498429727240617991), (1361129467683753853853498429727240617984, 1361129467683753853853498429727240617986), (1361129467683753853853498429727240617987, 1361129467683753853853498429727240617987)]) (x := 1361129467683753853853498429727240617984) (y := 1361129467683753853853498429727240617994) (by decide +kernel) (by decide +kernel) (by decide +kernel) (by decide +kernel) (by decide +kernel) (by decide +kernel) (by decide +kernel) (by decide +kernel) fun n => by
    simp only [cov_cons', cov_nil', or_false]
    omega
theorem ex_free2 : IsSet [(A4 167772164, A4 167772164), (A4 167772168, A4 167772170)] (FreeP (A4 167772160) (A4 167772170) (covS [(A4 167772160, A4 167772163), (A4 167772165, A4 167772167)])) :=
  free_ex (L := [(1361129467683753853853498429727240617988, 1361129467683753853853498429727240617988), (1361129467683753853853498429727240617992, 1361129467683753853853498429727240617994)]) (M := [(1361129467683753853853498429727240617984, 1361129467683753853853498429727240617987), (1361129467683753853853498429727240617989, 1361129467683753853853498429727240617991)]) (x := 1361129467683753853853498429727240617984) (y := 1361129467683753853853498429727240617994) (by decide +kernel) (by decide +kernel) (by decide +kernel) (by decide +kernel) (by decide +kernel) (by decide +kernel) (by decide +kernel) (by decide +kernel) fun n => by
    simp only [cov_cons', cov_nil', or_false]
    omega
theorem ex_join2 : IsSet [(A4 167772160, A4 167772163), (A4 167772165, A4 167772167), (A4 167772169, A4 167772169)] (covS [(A4 167772165, A4 167772167), (A4 167772160, A4 167772162), (A4 167772163, A4 167772163), (A4 167772169, A4 167772169)]) :=
  set_ex (L := [(1361129467683753853853498429727240617984, 1361129467683753853853498429727240617987), (1361129467683753853853498429727240617989, 1361129467683753853853498429727240617991), (1361129467683753853853498429727240617993, 1361129467683753853853498429727240617993)]) (by decide +kernel) (by decide +kernel) (by decide +kernel) (by decide +kernel) fun n => by
    rw [cov_ex (L := [(1361129467683753853853498429727240617989, 1361129467683753853853498429727240617991), (1361129467683753853853498429727240617984, 1361129467683753853853498429727240617986), (1361129467683753853853498429727240617987, 1361129467683753853853498429727240617987), (1361129467683753853853498429727240617993, 1361129467683753853853498429727240617993)]) (by decide +kernel)]
    simp only [cov_cons', cov_nil', or_false]
    omega
theorem ex_free3 : IsSet [(A4 167772164, A4 167772164), (A4 167772168, A4 167772170)] (FreeP (A4 167772160) (A4 167772170) (covS [(A4 167772160, A4 167772162), (A4 167772165, A4 167772167), (A4 167772163, A4 167772163)])) :=
  free_ex (L := [(1361129467683753853853498429727240617988, 1361129467683753853853498429727240617988), (1361129467683753853853498429727240617992, 1361129467683753853853498429727240617994)]) (M := [(1361129467683753853853498429727240617984, 1361129467683753853853498429727240617986), (1361129467683753853853498429727240617989, 1361129467683753853853498429727240617991), (1361129467683753853853498429727240617987, 1361129467683753853853498429727240617987)]) (x := 1361129467683753853853498429727240617984) (y := 1361129467683753853853498429727240617994) (by decide +kernel) (by decide +kernel) (by decide +kernel) (by decide +kernel) (by decide +kernel) (by decide +kernel) (by decide +kernel) (by decide +kernel) fun n => by
    simp only [cov_cons', cov_nil', or_false]
    omega
theorem ex_free4 : IsSet [] (FreeP (A4 167772160) (A4 167772163) (covS [(A4 167772160, A4 167772163), (A4 167772165, A4 167772167), (A4 167772169, A4 167772169)])) :=
  free_ex (L := []) (M := [(1361129467683753853853498429727240617984, 1361129467683753853853498429727240617987), (1361129467683753853853498429727240617989, 1361129467683753853853498429727240617991), (1361129467683753853853498429727240617993, 1361129467683753853853498429727240617993)]) (x := 1361129467683753853853498429727240617984) (y := 1361129467683753853853498429727240617987) (by decide +kernel) (by decide +kernel) (by decide +kernel) (by decide +kernel) (by decide +kernel) (by decide +kernel) (by decide +kernel) (by decide +kernel) fun n => by
    simp only [cov_cons', cov_nil', or_false]
    exact ⟨False.elim, fun h => by omega⟩
theorem ex_free5 : IsSet [] (FreeP (A4 167772163) (A4 167772162) (covS [])) := IsSet.nil fun n h => absurd h.1 (by decide +kernel)
theorem ex_free6 : IsSet [(A4 167772162, A4 167772162)] (FreeP (A4 167772162) (A4 167772162) (covS [])) :=
  free_ex (L := [(1361129467683753853853498429727240617986, 1361129467683753853853498429727240617986)]) (M := []) (x := 1361129467683753853853498429727240617986) (y := 1361129467683753853853498429727240617986) (by decide +kernel) (by decide +kernel) (by decide +kernel) (by decide +kernel) (by decide +kernel) (by decide +kernel) (by decide +kernel) (by decide +kernel) fun n => by
    simp only [cov_cons', cov_nil', or_false, not_false_eq_true, and_true]
theorem ex_free7 : IsSet [] (FreeP (6, 0, 0) (A6 18446744073709551615) (covS [((6, 0, 0), A6 18446744073709551615)])) :=
  free_ex (L := []) (M := [(2041694201525630780780247644590609268736, 2381976568446569244243622252022377480191)]) (x := 2041694201525630780780247644590609268736) (y := 2381976568446569244243622252022377480191) (by decide +kernel) (by decide +kernel) (by decide +kernel) (by decide +kernel) (by decide +kernel) (by decide +kernel) (by decide +kernel) (by decide +kernel) fun n => by
    simp only [cov_cons', cov_nil', or_false]
    exact ⟨False.elim, fun h => by omega⟩
theorem ex_free8 : IsSet [(A6 18446744073709551615, A6 18446744073709551615)] (FreeP (A6 18446744073709551610) (A6 18446744073709551615) (covS [(A6 18446744073709551610, A6 18446744073709551614)])) :=
  free_ex (L := [(2381976568446569244243622252022377480191, 2381976568446569244243622252022377480191)]) (M := [(2381976568446569244243622252022377480186, 2381976568446569244243622252022377480190)]) (x := 2381976568446569244243622252022377480186) (y := 2381976568446569244243622252022377480191) (by decide +kernel) (by decide +kernel) (by decide +kernel) (by decide +kernel) (by decide +kernel) (by decide +kernel) (by decide +kernel) (by decide +kernel) fun n => by
    simp only [cov_cons', cov_nil', or_false]
    omega
theorem ex_free9 : IsSet [] (FreeP (A4 167772160) (A6 18446744073709551615) (covS [])) := IsSet.nil fun n h => absurd h.1 (by decide +kernel)
theorem ex_has1 : hasS ((6, 0, 0), A6 18446744073709551615) (A6 18446744073709551612) = true := by decide +kernel
theorem ex_has2 : hasS ((6, 0, 0), A6 18446744073709551615) (A4 167772163) = false := by decide +kernel
end Go.Proofs.Try.Gp
