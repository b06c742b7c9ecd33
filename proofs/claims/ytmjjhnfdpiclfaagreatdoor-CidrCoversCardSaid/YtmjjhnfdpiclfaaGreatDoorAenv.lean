/- What the rows lay gives what the walks ask: the tables, the variables. -/
import Derived.Test.YtmjjhnfdpiclfaaGreatDoorMU
import Derived.Test.YtmjjhnfdpiclfaaGreatDoorRows
import Derived.Test.YtmjjhnfdpiclfaaGreatDoorDoor
import Derived.Stop.LaidErr
import Derived.Lib.LaidTab
import Derived.Lib.TrailingZeros
set_option linter.unusedVariables false
set_option maxRecDepth 100000
namespace Go.Proofs.Tryz.Tx
open Go.RowKit Go.Cph
theorem laid_tail {P : Program} {x : String × DataW Unit} {r : List (String × DataW Unit)} {W : World} (h : laidMet P (x :: r) W) : laidMet P r W := by
  obtain ⟨n, d⟩ := x
  obtain ⟨ps, ⟨g, t, cs, f, p, q, hg, ht, hv, hd, hr, e⟩, hnd, hc⟩ := h
  subst e
  exact ⟨q, hr, (List.nodup_append.1 hnd).2.1, fun b off hb => hc b off (List.mem_append_right _ hb)⟩
theorem star : "*" ++ "errors.errorString" = "*errors.errorString" := by decide
theorem rowPtr (u : TypeId) (h : Tryz.prog.typeName? 3 u = some "*errors.errorString") : u = 153 :=
  typeName_ptr_named (nm := "errors.errorString") (by rw [star]; kernel_rfl) (by kernel_rfl) (by decide) u (by rw [star]; exact h)
theorem sentinel {n : String} {g : Nat} {text : List UInt8} {r : List (String × DataW Unit)} {W : World} (h : laidMet Tryz.prog ((n, .iface "*errors.errorString" (.ptr (.agg [.lit (.string text)]))) :: r) W)
    (hg : Tryz.prog.globalNamed n = some g) (ht : (Tryz.prog.globals[g]?).map (·.type) = some 71) : ∃ t p, W.cell? ⟨g, 0, none⟩ = some (.iface t p) := by
  obtain ⟨a0, s0, hv0, -, -, -⟩ := laid_sentinel h hg ht Tryz.underlying71 rowPtr Tryz.underlying153 Tryz.underlying155 rfl rfl Tryz.underlying9 (by kernel_rfl) (by kernel_rfl)
  exact ⟨_, _, by have h0 := World.var?_cell hg hv0 0; simpa using h0⟩
/-- The row's list, as these rows have it. -/
theorem env_of {W : World} (hsh : W.ShapedOpen Tryz.prog)
    (h0 : laidMet Tryz.prog [("math/bits.deBruijn32tab", Go.Proofs.YtmjjhnfdpiclfaaGreatDoor.Rows.laid_math_bits_deBruijn32tab), ("math/bits.deBruijn64tab", Go.Proofs.YtmjjhnfdpiclfaaGreatDoor.Rows.laid_math_bits_deBruijn64tab), ("internal/strconv.uint64pow10", Go.Proofs.YtmjjhnfdpiclfaaGreatDoor.Rows.laid_internal_strconv_uint64pow10), ("unicode/utf8.acceptRanges", Go.Proofs.YtmjjhnfdpiclfaaGreatDoor.Rows.laid_unicode_utf8_acceptRanges),
      ("strconv.ErrRange", Go.Proofs.YtmjjhnfdpiclfaaGreatDoor.Rows.laid_strconv_ErrRange), ("strconv.ErrSyntax", Go.Proofs.YtmjjhnfdpiclfaaGreatDoor.Rows.laid_strconv_ErrSyntax), ("unicode/utf8.first", Go.Proofs.YtmjjhnfdpiclfaaGreatDoor.Rows.laid_unicode_utf8_first)] W) : Env W := by
  have h : laidMet Tryz.prog [("math/bits.deBruijn32tab", Go.Proofs.YtmjjhnfdpiclfaaGreatDoor.Rows.laid_math_bits_deBruijn32tab), ("math/bits.deBruijn64tab", Lib.tabData .u8 (Lib.deBruijn64tab.map Int.ofNat)), ("internal/strconv.uint64pow10", Lib.tabData .u64 Lib.pow10Tab), ("unicode/utf8.acceptRanges", Go.Proofs.YtmjjhnfdpiclfaaGreatDoor.Rows.laid_unicode_utf8_acceptRanges),
      ("strconv.ErrRange", .iface "*errors.errorString" (.ptr (.agg [.lit (.string [118, 97, 108, 117, 101, 32, 111, 117, 116, 32, 111, 102, 32, 114, 97, 110, 103, 101])]))), ("strconv.ErrSyntax", .iface "*errors.errorString" (.ptr (.agg [.lit (.string [105, 110, 118, 97, 108, 105, 100, 32, 115, 121, 110, 116, 97, 120])]))), ("unicode/utf8.first", Go.Proofs.YtmjjhnfdpiclfaaGreatDoor.Rows.laid_unicode_utf8_first)] W := h0
  have h1 := laid_tail h
  have h2 := laid_tail h1
  have h4 := laid_tail (laid_tail h2)
  have h5 := laid_tail h4
  have t64 := Lib.tabIs_of_head (P := Tryz.prog) (g := 5) (t := 168) (e := 5) (n := 64) (by kernel_rfl) (by kernel_rfl) (by kernel_rfl) Tryz.underlying5 (by kernel_rfl) (by kernel_rfl) h1
  have t10 := Lib.tabIs_of_head (P := Tryz.prog) (g := 3) (t := 160) (e := 22) (n := 20) (by kernel_rfl) (by kernel_rfl) (by kernel_rfl) Tryz.underlying22 (by kernel_rfl) (by kernel_rfl) h2
  refine ⟨Door.maxLen_some hsh, t10, ?_, sentinel h5 (by kernel_rfl) (by kernel_rfl), sentinel h4 (by kernel_rfl) (by kernel_rfl)⟩
  have := t64.cell (g := 5) (by kernel_rfl) 15 (by decide)
  exact this
end Go.Proofs.Tryz.Tx
