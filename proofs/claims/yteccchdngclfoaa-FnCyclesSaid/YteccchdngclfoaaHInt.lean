/- The law's helpers on slices of ints, as the laws use them. -/
import Derived.Test.YteccchdngclfoaaFrame
import Derived.Test.YteccchdngclfoaaToInt
import Derived.Test.YteccchdngclfoaaEqInt
import Derived.Test.YteccchdngclfoaaMarkInt
namespace Go.Proofs.Yteccchdngclfoaa
open Go.RowKit
set_option linter.unusedVariables false
set_option linter.unusedSimpArgs false

/-- The slice y bears the marks from k to k'. -/
def MkIntS (k k' : Int) (y : List Int) : Prop := ∃ n : Nat, y = marks k n ∧ k' = k + n ∧ n ≤ 100000000000
end Go.Proofs.Yteccchdngclfoaa
