/- The helpers of the property laws: vBig, and the draws that pass on. -/
import Derived.Test.YtdhcpoeopooejaaDrawR
namespace Go.Proofs.Ytdhcpoeopooejaa
open Go.RowKit
set_option linter.unusedVariables false
set_option linter.unusedSimpArgs false

set_option maxHeartbeats 1000000 in
theorem vBig_law {ao : Option Addr} {n c : Nat} {w : World} :
    Calls Try.prog 37 #[.slice ao n c] w fun e w' => e = .returned (.bool (decide (65536 < (n : Int)))) ∧ w' = w := by
  go_enter Try.func37, Try.ntmps37
  go_wp2
  go_ret
  exact ⟨rfl, rfl⟩
end Go.Proofs.Ytdhcpoeopooejaa
