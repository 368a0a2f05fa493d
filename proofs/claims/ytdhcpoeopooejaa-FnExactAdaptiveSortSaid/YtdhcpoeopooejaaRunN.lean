/- RunMerges: spec.l5Next. -/
import Derived.Test.YtdhcpoeopooejaaRunNA
import Derived.Test.YtdhcpoeopooejaaRunNB
import Derived.Test.YtdhcpoeopooejaaRunNC
import Derived.Test.YtdhcpoeopooejaaRunND
import Derived.Test.YtdhcpoeopooejaaRunNE
namespace Go.Proofs.Ytdhcpoeopooejaa
open Go.RowKit
set_option linter.unusedVariables false
set_option linter.unusedSimpArgs false


set_option maxRecDepth 10000 in
set_option maxHeartbeats 4000000 in
theorem l5Next_any (v : Value) (st : List Int) (e : Bool) (w : World) (hv : Rd w v st) (hl : st.length ≤ 1000) (hg : ∀ i, i < st.length → 0 ≤ gi st i ∧ gi st i ≤ 100000000) :
    Calls Try.prog 74 #[v, .bool e] w fun e2 w' => e2 = .returned (.int .i64 (nextF st e)) ∧ ∃ q, w' = w.drewN q := by
  by_cases hn3 : 3 ≤ st.length
  · cases e
    · by_cases hA : fromT st 3 ≤ fromT st 1 + fromT st 2
      · exact l5Next_c v st w hv hl hg hn3 hA
      · by_cases hn4 : 4 ≤ st.length
        · exact l5Next_d v st w hv hl hg hn4 hA
        · exact l5Next_e v st w hv hl hg hn3 hn4 hA
    · exact l5Next_b v st w hv hl hg hn3
  · exact l5Next_a v st e w hv hl hg hn3
end Go.Proofs.Ytdhcpoeopooejaa
