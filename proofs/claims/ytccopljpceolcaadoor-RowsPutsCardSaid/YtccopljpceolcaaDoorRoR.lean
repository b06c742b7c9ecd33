/- The laws of rows: RowsPuts' walk. -/
import Derived.Test.YtccopljpceolcaaDoorRoP
import Derived.Test.YtccopljpceolcaaDoorMF
set_option linter.unusedVariables false
set_option linter.unusedSimpArgs false
set_option maxRecDepth 100000
namespace Go.Proofs.Tryd.Rows
open Go.RowKit Go.Cph Go.Cph.Ok Go.Proofs.Tryd.Nu Go.Proofs.Tryd.Ok
open Go.Cph.Px (Ad Pf rightA bytesA rightP fromB fromOk)
open Go.Proofs.Tryd.Pfx (encA bcell)
theorem ext_le (s : ByteArray) (k : Nat) : (s.extract 0 k).size ≤ k := by rw [ByteArray.size_extract]; omega
theorem pair_lease (x : ByteArray) (u : UInt64) (hx : x.size ≤ 2000) : ∃ (s : ByteArray) (k : Int), (∀ W, Calls Tryd.prog 24 #[.string x, .int .u64 (u.toNat : Int)] W (fun e w' => e = .returned (.tuple #[.string s, .int .i64 k]) ∧ Below W.heap.size W w')) ∧ (∀ W, Calls Tryd.prog 25 #[.string x, .int .u64 (u.toNat : Int)] W (fun e w' => e = .returned (.tuple #[.string s, .int .i64 k]) ∧ Below W.heap.size W w')) := by
  have h1 := fun W => leaseValue x u W (by omega)
  have h2 := fun W => rlease x u W (by omega)
  cases h : ownerB x with
  | true => rw [h] at h1 h2; exact ⟨_, _, h1, h2⟩
  | false => rw [h] at h1 h2; exact ⟨_, _, h1, h2⟩
theorem pair_event (how : Int) (x : ByteArray) (a u : UInt64) (hx : x.size ≤ 2000) : ∃ (s : ByteArray) (k : Int), (∀ W, Calls Tryd.prog 26 #[.int .i64 how, .string x, .int .u64 (a.toNat : Int), .int .u64 (u.toNat : Int)] W (fun e w' => e = .returned (.tuple #[.string s, .int .i64 k]) ∧ Below W.heap.size W w')) ∧ (∀ W, Calls Tryd.prog 27 #[.int .i64 how, .string x, .int .u64 (a.toNat : Int), .int .u64 (u.toNat : Int)] W (fun e w' => e = .returned (.tuple #[.string s, .int .i64 k]) ∧ Below W.heap.size W w')) := by
  have h1 := fun W => eventValue how x a u W (by omega)
  have h2 := fun W => rhappened how x a u W (by omega)
  cases h : howOk how x with
  | true => rw [h] at h1 h2; exact ⟨_, _, h1, h2⟩
  | false => rw [h] at h1 h2; exact ⟨_, _, h1, h2⟩
theorem pair_client (n : UInt64) (x : ByteArray) (hx : x.size ≤ 2000) : ∃ (s : ByteArray) (k : Int), (∀ W, Calls Tryd.prog 28 #[.int .u64 (n.toNat : Int), .string x] W (fun e w' => e = .returned (.tuple #[.string s, .int .i64 k]) ∧ Below W.heap.size W w')) ∧ (∀ W, Calls Tryd.prog 29 #[.int .u64 (n.toNat : Int), .string x] W (fun e w' => e = .returned (.tuple #[.string s, .int .i64 k]) ∧ Below W.heap.size W w')) := by
  have h1 := fun W => clientValue n x W (by omega)
  have h2 := fun W => rlast n x W (by omega)
  by_cases h : x.size ≤ 480
  · rw [if_pos h] at h1 h2; exact ⟨_, _, h1, h2⟩
  · rw [if_neg h] at h1 h2; exact ⟨_, _, h1, h2⟩
set_option maxHeartbeats 6400000 in
theorem puts_law (who an : ByteArray) (how : Int) (a u : UInt64) (m : Int) (w : World) (hm : MaxAt m w) :
    Calls Tryd.prog 4 #[.string who, .string an, .int .i64 how, .int .u64 (a.toNat : Int), .int .u64 (u.toNat : Int)] w fun e w' => e = .returned (.bool true) ∧ Below w.heap.size w w' := by
  have HM := Lib.hid hm
  have HAW := Lib.hid (fun (W : World) (h : MaxAt m W) => awake_any m W h)
  clear hm
  by_cases ha : (2000 : Int) < (who.size : Int)
  · have za : 2000 ≤ who.size := by omega
    by_cases hn : (2000 : Int) < (an.size : Int)
    · have zn : 2000 ≤ an.size := by omega
      have ga : (2000 : Int) < (who.size : Int) := ha
      have ga2 : (2000 : Int) ≤ (who.size : Int) := by omega
      have gn : (2000 : Int) < (an.size : Int) := hn
      have gn2 : (2000 : Int) ≤ (an.size : Int) := by omega
      obtain ⟨s1, k1, h1, h2⟩ := pair_lease (who.extract 0 2000) u (by first | exact ext_le _ _ | omega)
      obtain ⟨s2, k2, h3, h4⟩ := pair_event how (who.extract 0 2000) a u (by first | exact ext_le _ _ | omega)
      obtain ⟨s3, k3, h5, h6⟩ := pair_client a (an.extract 0 2000) (by first | exact ext_le _ _ | omega)
      have H1 := Lib.hid h1
      have H2 := Lib.hid h2
      have H3 := Lib.hid h3
      have H4 := Lib.hid h4
      have H5 := Lib.hid h5
      have H6 := Lib.hid h6
      have e1 : (s1.toList == s1.toList) = true := by simp
      have e2 : (s2.toList == s2.toList) = true := by simp
      have e3 : (s3.toList == s3.toList) = true := by simp
      clear h1 h2 h3 h4 h5 h6 ha hn
      go_enter Tryd.func4, Tryd.ntmps4
      go_wp2_with fail
      refine (H1.out _).mono ?_
      rintro e w1 ⟨rfl, hb⟩
      have HB := Lib.hid hb
      clear hb
      go_wp2_with fail
      refine (H2.out _).mono ?_
      rintro e w2 ⟨rfl, hb⟩
      replace HB := Lib.hid (below_step HB.out hb HB.out.size)
      clear hb
      go_wp2_with fail
      refine (H3.out _).mono ?_
      rintro e w3 ⟨rfl, hb⟩
      replace HB := Lib.hid (below_step HB.out hb HB.out.size)
      clear hb
      go_wp2_with fail
      refine (H4.out _).mono ?_
      rintro e w4 ⟨rfl, hb⟩
      replace HB := Lib.hid (below_step HB.out hb HB.out.size)
      clear hb
      go_wp2_with fail
      refine (H5.out _).mono ?_
      rintro e w5 ⟨rfl, hb⟩
      replace HB := Lib.hid (below_step HB.out hb HB.out.size)
      clear hb
      go_wp2_with fail
      refine (H6.out _).mono ?_
      rintro e w6 ⟨rfl, hb⟩
      replace HB := Lib.hid (below_step HB.out hb HB.out.size)
      clear hb
      go_wp2_with fail
      refine (HAW.out _ (max_kept HM.out HB.out)).mono ?_
      rintro e w7 ⟨rfl, hb⟩
      replace HB := Lib.hid (below_step HB.out hb HB.out.size)
      clear hb
      go_wp2_with fail
      go_ret
      exact ⟨rfl, HB.out⟩
    · have zn : an.size ≤ 2000 := by omega
      have ga : (2000 : Int) < (who.size : Int) := ha
      have ga2 : (2000 : Int) ≤ (who.size : Int) := by omega
      have gn : ¬ (2000 : Int) < (an.size : Int) := hn
      obtain ⟨s1, k1, h1, h2⟩ := pair_lease (who.extract 0 2000) u (by first | exact ext_le _ _ | omega)
      obtain ⟨s2, k2, h3, h4⟩ := pair_event how (who.extract 0 2000) a u (by first | exact ext_le _ _ | omega)
      obtain ⟨s3, k3, h5, h6⟩ := pair_client a an (by first | exact ext_le _ _ | omega)
      have H1 := Lib.hid h1
      have H2 := Lib.hid h2
      have H3 := Lib.hid h3
      have H4 := Lib.hid h4
      have H5 := Lib.hid h5
      have H6 := Lib.hid h6
      have e1 : (s1.toList == s1.toList) = true := by simp
      have e2 : (s2.toList == s2.toList) = true := by simp
      have e3 : (s3.toList == s3.toList) = true := by simp
      clear h1 h2 h3 h4 h5 h6 ha hn
      go_enter Tryd.func4, Tryd.ntmps4
      go_wp2_with fail
      refine (H1.out _).mono ?_
      rintro e w1 ⟨rfl, hb⟩
      have HB := Lib.hid hb
      clear hb
      go_wp2_with fail
      refine (H2.out _).mono ?_
      rintro e w2 ⟨rfl, hb⟩
      replace HB := Lib.hid (below_step HB.out hb HB.out.size)
      clear hb
      go_wp2_with fail
      refine (H3.out _).mono ?_
      rintro e w3 ⟨rfl, hb⟩
      replace HB := Lib.hid (below_step HB.out hb HB.out.size)
      clear hb
      go_wp2_with fail
      refine (H4.out _).mono ?_
      rintro e w4 ⟨rfl, hb⟩
      replace HB := Lib.hid (below_step HB.out hb HB.out.size)
      clear hb
      go_wp2_with fail
      refine (H5.out _).mono ?_
      rintro e w5 ⟨rfl, hb⟩
      replace HB := Lib.hid (below_step HB.out hb HB.out.size)
      clear hb
      go_wp2_with fail
      refine (H6.out _).mono ?_
      rintro e w6 ⟨rfl, hb⟩
      replace HB := Lib.hid (below_step HB.out hb HB.out.size)
      clear hb
      go_wp2_with fail
      refine (HAW.out _ (max_kept HM.out HB.out)).mono ?_
      rintro e w7 ⟨rfl, hb⟩
      replace HB := Lib.hid (below_step HB.out hb HB.out.size)
      clear hb
      go_wp2_with fail
      go_ret
      exact ⟨rfl, HB.out⟩
  · have za : who.size ≤ 2000 := by omega
    by_cases hn : (2000 : Int) < (an.size : Int)
    · have zn : 2000 ≤ an.size := by omega
      have ga : ¬ (2000 : Int) < (who.size : Int) := ha
      have gn : (2000 : Int) < (an.size : Int) := hn
      have gn2 : (2000 : Int) ≤ (an.size : Int) := by omega
      obtain ⟨s1, k1, h1, h2⟩ := pair_lease who u (by first | exact ext_le _ _ | omega)
      obtain ⟨s2, k2, h3, h4⟩ := pair_event how who a u (by first | exact ext_le _ _ | omega)
      obtain ⟨s3, k3, h5, h6⟩ := pair_client a (an.extract 0 2000) (by first | exact ext_le _ _ | omega)
      have H1 := Lib.hid h1
      have H2 := Lib.hid h2
      have H3 := Lib.hid h3
      have H4 := Lib.hid h4
      have H5 := Lib.hid h5
      have H6 := Lib.hid h6
      have e1 : (s1.toList == s1.toList) = true := by simp
      have e2 : (s2.toList == s2.toList) = true := by simp
      have e3 : (s3.toList == s3.toList) = true := by simp
      clear h1 h2 h3 h4 h5 h6 ha hn
      go_enter Tryd.func4, Tryd.ntmps4
      go_wp2_with fail
      refine (H1.out _).mono ?_
      rintro e w1 ⟨rfl, hb⟩
      have HB := Lib.hid hb
      clear hb
      go_wp2_with fail
      refine (H2.out _).mono ?_
      rintro e w2 ⟨rfl, hb⟩
      replace HB := Lib.hid (below_step HB.out hb HB.out.size)
      clear hb
      go_wp2_with fail
      refine (H3.out _).mono ?_
      rintro e w3 ⟨rfl, hb⟩
      replace HB := Lib.hid (below_step HB.out hb HB.out.size)
      clear hb
      go_wp2_with fail
      refine (H4.out _).mono ?_
      rintro e w4 ⟨rfl, hb⟩
      replace HB := Lib.hid (below_step HB.out hb HB.out.size)
      clear hb
      go_wp2_with fail
      refine (H5.out _).mono ?_
      rintro e w5 ⟨rfl, hb⟩
      replace HB := Lib.hid (below_step HB.out hb HB.out.size)
      clear hb
      go_wp2_with fail
      refine (H6.out _).mono ?_
      rintro e w6 ⟨rfl, hb⟩
      replace HB := Lib.hid (below_step HB.out hb HB.out.size)
      clear hb
      go_wp2_with fail
      refine (HAW.out _ (max_kept HM.out HB.out)).mono ?_
      rintro e w7 ⟨rfl, hb⟩
      replace HB := Lib.hid (below_step HB.out hb HB.out.size)
      clear hb
      go_wp2_with fail
      go_ret
      exact ⟨rfl, HB.out⟩
    · have zn : an.size ≤ 2000 := by omega
      have ga : ¬ (2000 : Int) < (who.size : Int) := ha
      have gn : ¬ (2000 : Int) < (an.size : Int) := hn
      obtain ⟨s1, k1, h1, h2⟩ := pair_lease who u (by first | exact ext_le _ _ | omega)
      obtain ⟨s2, k2, h3, h4⟩ := pair_event how who a u (by first | exact ext_le _ _ | omega)
      obtain ⟨s3, k3, h5, h6⟩ := pair_client a an (by first | exact ext_le _ _ | omega)
      have H1 := Lib.hid h1
      have H2 := Lib.hid h2
      have H3 := Lib.hid h3
      have H4 := Lib.hid h4
      have H5 := Lib.hid h5
      have H6 := Lib.hid h6
      have e1 : (s1.toList == s1.toList) = true := by simp
      have e2 : (s2.toList == s2.toList) = true := by simp
      have e3 : (s3.toList == s3.toList) = true := by simp
      clear h1 h2 h3 h4 h5 h6 ha hn
      go_enter Tryd.func4, Tryd.ntmps4
      go_wp2_with fail
      refine (H1.out _).mono ?_
      rintro e w1 ⟨rfl, hb⟩
      have HB := Lib.hid hb
      clear hb
      go_wp2_with fail
      refine (H2.out _).mono ?_
      rintro e w2 ⟨rfl, hb⟩
      replace HB := Lib.hid (below_step HB.out hb HB.out.size)
      clear hb
      go_wp2_with fail
      refine (H3.out _).mono ?_
      rintro e w3 ⟨rfl, hb⟩
      replace HB := Lib.hid (below_step HB.out hb HB.out.size)
      clear hb
      go_wp2_with fail
      refine (H4.out _).mono ?_
      rintro e w4 ⟨rfl, hb⟩
      replace HB := Lib.hid (below_step HB.out hb HB.out.size)
      clear hb
      go_wp2_with fail
      refine (H5.out _).mono ?_
      rintro e w5 ⟨rfl, hb⟩
      replace HB := Lib.hid (below_step HB.out hb HB.out.size)
      clear hb
      go_wp2_with fail
      refine (H6.out _).mono ?_
      rintro e w6 ⟨rfl, hb⟩
      replace HB := Lib.hid (below_step HB.out hb HB.out.size)
      clear hb
      go_wp2_with fail
      refine (HAW.out _ (max_kept HM.out HB.out)).mono ?_
      rintro e w7 ⟨rfl, hb⟩
      replace HB := Lib.hid (below_step HB.out hb HB.out.size)
      clear hb
      go_wp2_with fail
      go_ret
      exact ⟨rfl, HB.out⟩
theorem puts_law_i (who an : ByteArray) (how : Int) (a u : Int) (m : Int) (w : World) (ha : ∃ x : UInt64, a = (x.toNat : Int)) (hu : ∃ x : UInt64, u = (x.toNat : Int)) (hm : MaxAt m w) :
    Calls Tryd.prog 4 #[.string who, .string an, .int .i64 how, .int .u64 a, .int .u64 u] w fun e w' => e = .returned (.bool true) ∧ Below w.heap.size w w' := by
  obtain ⟨a, rfl⟩ := ha
  obtain ⟨u, rfl⟩ := hu
  exact puts_law who an how a u m w hm
end Go.Proofs.Tryd.Rows
