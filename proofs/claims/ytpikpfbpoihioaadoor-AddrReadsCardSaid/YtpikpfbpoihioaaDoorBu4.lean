/- The document's reading of a text: what its parts want. -/
import Derived.Test.YtpikpfbpoihioaaDoorBu3
import Derived.Test.YtpikpfbpoihioaaDoorBt8
import Derived.Test.YtpikpfbpoihioaaDoorBt5
set_option linter.unusedVariables false
set_option linter.unusedSimpArgs false
set_option maxRecDepth 100000
namespace Go.Proofs.Tryd.Tx
open Go.RowKit Go.Cph Go.Cph.Tx
open Go.Cph.Ok (ofBs)
open Go.Cph.Px (Ad rightA bytesA zeroA lessA fromB fromOk)
open Go.Proofs.Tryd.Pfx (encA BsAt encB encB_len)
theorem bs_four (W : World) (a b c d : UInt8) : BsAt (W.alloc (.cells #[.int .u8 (a.toNat : Int), .int .u8 (b.toNat : Int), .int .u8 (c.toNat : Int), .int .u8 (d.toNat : Int)] 5)) (.slice (some ⟨W.heap.size, 0, none⟩) 4 4) [a, b, c, d] :=
  ⟨⟨_, _, rfl, fun _ => ⟨W.heap.size, 0, rfl, fun j hj => by
    rw [Nat.zero_add, blk_cell (heap_alloc_new W _)]
    have hj4 : j < 4 := by simpa using hj
    rcases (show j = 0 ∨ j = 1 ∨ j = 2 ∨ j = 3 by omega) with rfl | rfl | rfl | rfl <;> rfl⟩⟩, rfl⟩
theorem ofBs_take (l : Bs) (k : Nat) : (ofBs l).extract 0 k = ofBs (l.take k) := by
  apply ByteArray.ext
  apply Array.ext'
  simp [ofBs, ByteArray.data_extract]
theorem ofBs_drop (l : Bs) (k : Nat) : (ofBs l).extract k l.length = ofBs (l.drop k) := by
  apply ByteArray.ext
  apply Array.ext'
  simp [ofBs, ByteArray.data_extract]
  exact List.take_of_length_le (by simp)
/-- What words tells, in one form. -/
structure WordsIs (r : Option (List Nat)) (base : Nat) (w' : World) (ao : Option Addr) (n cap : Nat) (ok : Bool) : Prop where
  out : (ok = false ∧ r = none ∧ ao = none ∧ n = 0 ∧ cap = 0) ∨ (ok = true ∧ ∃ L, r = some L ∧ n = L.length ∧ w'.ownsRow base 3 1 (.slice ao n cap) L.length (intV L))
theorem words_any2 (l : Bs) (sign : UInt8) (b most : Nat) (hb : b = 10 ∨ b = 16) (hm : most ≤ 65535) (hl : l.length ≤ 1000000) (w : World) :
    Calls Tryd.prog 45 #[.string (ofBs l), .int .u8 (sign.toNat : Int), .int .i64 (b : Int), .int .i64 (most : Int)] w fun e w' => ∃ ao n cap ok, e = .returned (.tuple #[.slice ao n cap, .bool ok]) ∧ Below w.heap.size w w' ∧ WordsIs (wordsF b most sign [] .none l) w.heap.size w' ao n cap ok := by
  refine (words_any l sign b most hb hm hl w).mono ?_
  rintro e w' ⟨hbl, hp⟩
  cases hr : wordsF b most sign [] .none l with
  | none =>
    rw [hr] at hp
    obtain rfl := hp
    exact ⟨_, _, _, _, rfl, hbl, ⟨.inl ⟨rfl, rfl, rfl, rfl, rfl⟩⟩⟩
  | some L =>
    rw [hr] at hp
    obtain ⟨v, rfl, ho⟩ := hp
    obtain ⟨ao, cap, rfl⟩ := owns_slice1 ho
    exact ⟨_, _, _, _, rfl, hbl, ⟨.inr ⟨rfl, L, rfl, rfl, ho⟩⟩⟩
end Go.Proofs.Tryd.Tx
