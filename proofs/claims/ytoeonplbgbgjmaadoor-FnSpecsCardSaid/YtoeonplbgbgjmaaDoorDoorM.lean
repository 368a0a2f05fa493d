/- What a row that lists strconv's and utf8's tables wants of its witness. -/
import Derived.Test.YtoeonplbgbgjmaaDoorDoorS
import Derived.Lay
namespace Go.Proofs.YtoeonplbgbgjmaaDoor
open Go.RowKit
set_option linter.unusedVariables false
set_option linter.unusedSimpArgs false

def laidMix : List (String × DataW Unit) := [("math/bits.deBruijn32tab", Rows.laid_math_bits_deBruijn32tab), ("math/bits.deBruijn64tab", Rows.laid_math_bits_deBruijn64tab), ("internal/strconv.uint64pow10", Rows.laid_internal_strconv_uint64pow10),
  ("unicode/utf8.acceptRanges", Rows.laid_unicode_utf8_acceptRanges), ("unicode/utf8.first", Rows.laid_unicode_utf8_first)]
theorem mix_met (os : Os) (args : Array Value) : laidMetH Tryd.prog laidMix ((World.laidAll Tryd.prog os laidMix).forCall (fun _ _ => 0) ⟨#[], args, []⟩).memory := by
  rw [MakeChecks.laidMetH_plain _ _ _ (by kernel_rfl)]
  exact laidMet_laidAll _ (by kernel_rfl) (by kernel_rfl)
theorem tab_of_laidM {W : World} (h : laidMetH Tryd.prog laidMix W) : Tab W := by
  rw [MakeChecks.laidMetH_plain _ _ _ (by kernel_rfl)] at h
  have h3 := h.tail.tail
  rw [pow_data] at h3
  have hb : (Tryd.prog.globalNamed "internal/strconv.uint64pow10").bind (fun g => (Tryd.prog.globals[g]?).map (·.type)) = some 167 := by kernel_rfl
  rw [Option.bind_eq_some_iff] at hb
  obtain ⟨g, hg1, hg2⟩ := hb
  exact Lib.tabIs_of_head hg1 hg2 Tryd.underlying167 Tryd.underlying97 (by kernel_rfl) (by kernel_rfl) h3
end Go.Proofs.YtoeonplbgbgjmaaDoor
