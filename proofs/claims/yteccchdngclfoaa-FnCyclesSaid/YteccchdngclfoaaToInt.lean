/- The law's own helpers on integer slices: toIntS, eqIntS, markIntS, heldIntS. -/
import Derived.Test.YteccchdngclfoaaBase
namespace Go.Proofs.Yteccchdngclfoaa
open Go.RowKit
set_option linter.unusedVariables false
set_option linter.unusedSimpArgs false

end Go.Proofs.Yteccchdngclfoaa
