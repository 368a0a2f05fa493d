/- What the listed tables give: strconv's table of powers of ten. -/
import Derived.Test.YtoeonplbgbgjmaaDoorMg2
import Derived.Test.YtoeonplbgbgjmaaDoorTie
import Derived.Lib.LaidTab
import Derived.Lib.ItoaNum
import Derived.Lib.SmallJoins
import Derived.LaidMore
import Derived.Stop.LaidErr
import Derived.Stop.Joined
namespace Go.Proofs.YtoeonplbgbgjmaaDoor
open Go.RowKit
set_option linter.unusedVariables false
set_option linter.unusedSimpArgs false

/-- strconv's table of powers of ten is as its text lays it. -/
def Tab (w : World) : Prop := Lib.TabIs Tryd.prog w "internal/strconv.uint64pow10" .u64 Lib.pow10Tab
theorem gPow : ∃ g, Tryd.prog.globalNamed "internal/strconv.uint64pow10" = some g := by
  refine Option.isSome_iff_exists.1 ?_
  kernel_rfl
theorem Tab.next {w w' : World} (h : Tab w) (hb : Below w.heap.size w w') : Tab w' := by
  obtain ⟨g, hg⟩ := gPow
  unfold Tab Lib.TabIs at *
  exact Joins.var_stays hg h hb (Nat.le_refl _)
def laidNum : List (String × DataW Unit) := [("math/bits.deBruijn32tab", Rows.laid_math_bits_deBruijn32tab), ("math/bits.deBruijn64tab", Rows.laid_math_bits_deBruijn64tab), ("internal/strconv.uint64pow10", Rows.laid_internal_strconv_uint64pow10)]
theorem pow_data : (Rows.laid_internal_strconv_uint64pow10 : DataW Unit) = Lib.tabData .u64 Lib.pow10Tab := by kernel_rfl
theorem tab_of_laid {W : World} (h : laidMet Tryd.prog laidNum W) : Tab W := by
  have h3 := h.tail.tail
  rw [pow_data] at h3
  have hb : (Tryd.prog.globalNamed "internal/strconv.uint64pow10").bind (fun g => (Tryd.prog.globals[g]?).map (·.type)) = some 167 := by kernel_rfl
  rw [Option.bind_eq_some_iff] at hb
  obtain ⟨g, hg1, hg2⟩ := hb
  exact Lib.tabIs_of_head hg1 hg2 Tryd.underlying167 Tryd.underlying97 (by kernel_rfl) (by kernel_rfl) h3
theorem door_num (os : Os) (args : Array Value) : laidMetH Tryd.prog laidNum ((World.doorLaid Tryd.prog 72 os).forCall (fun _ _ => 0) ⟨#[], args, []⟩).memory :=
  laidMetH_of_parts3 (fuel := 8) (laidMet_of_run' 8 (by kernel_rfl) (by kernel_rfl)) (by kernel_rfl) (by kernel_rfl)
theorem tab_of_laidH {W : World} (h : laidMetH Tryd.prog laidNum W) : Tab W := by
  rw [MakeChecks.laidMetH_plain _ _ _ (by kernel_rfl)] at h
  exact tab_of_laid h
end Go.Proofs.YtoeonplbgbgjmaaDoor
