/- What a row that lists utf8's tables (one of them pinned) wants of its witness. -/
import Derived.Test.YtoeonplbgbgjmaaDoorDoorS
import Derived.Lay
namespace Go.Proofs.YtoeonplbgbgjmaaDoor
open Go.RowKit
set_option linter.unusedVariables false
set_option linter.unusedSimpArgs false

def laidUtf : List (String × DataW Unit) := [("unicode/utf8.acceptRanges", Rows.laid_unicode_utf8_acceptRanges), ("unicode/utf8.first", Rows.laid_unicode_utf8_first)]
theorem utf_met (os : Os) (args : Array Value) : laidMetH Tryd.prog laidUtf ((World.laidAll Tryd.prog os laidUtf).forCall (fun _ _ => 0) ⟨#[], args, []⟩).memory := by
  rw [MakeChecks.laidMetH_plain _ _ _ (by kernel_rfl)]
  exact laidMet_laidAll _ (by kernel_rfl) (by kernel_rfl)
end Go.Proofs.YtoeonplbgbgjmaaDoor
