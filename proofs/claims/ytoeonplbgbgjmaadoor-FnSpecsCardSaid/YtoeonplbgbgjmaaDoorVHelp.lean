/- The helpers of the property laws: vBig, and the draws that pass on. -/
import Derived.Test.YtoeonplbgbgjmaaDoorDrawR
namespace Go.Proofs.YtoeonplbgbgjmaaDoor
open Go.RowKit
set_option linter.unusedVariables false
set_option linter.unusedSimpArgs false

set_option maxHeartbeats 1000000 in
theorem vBig_law {ao : Option Addr} {n c : Nat} {w : World} :
    Calls Tryd.prog 32 #[.slice ao n c] w fun e w' => e = .returned (.bool (decide (65536 < (n : Int)))) ∧ w' = w := by
  go_enter Tryd.func32, Tryd.ntmps32
  go_wp2
  go_ret
  exact ⟨rfl, rfl⟩
end Go.Proofs.YtoeonplbgbgjmaaDoor
