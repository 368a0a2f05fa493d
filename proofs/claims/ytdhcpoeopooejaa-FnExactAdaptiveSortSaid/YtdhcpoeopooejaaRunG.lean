/- RunMerges: the fuel of settle does not matter once it is enough. -/
import Derived.Test.YtdhcpoeopooejaaRunM
namespace Go.Proofs.Ytdhcpoeopooejaa
open Go.RowKit
set_option linter.unusedVariables false
set_option linter.unusedSimpArgs false

theorem settle_fuel (e : Bool) : ∀ m m' st out, st.length ≤ m → st.length ≤ m' → settle e m st out = settle e m' st out := by
  intro m
  induction m with
  | zero =>
    intro m' st out h h'
    have hn : ¬ 0 ≤ nextF st e := by
      intro hh
      have := nextF_bd hh
      omega
    rw [settle_stop hn, settle_stop hn]
  | succ m ih =>
    intro m' st out h h'
    by_cases hn : 0 ≤ nextF st e
    · have hb := nextF_bd hn
      obtain ⟨k, rfl⟩ : ∃ k, m' = k + 1 := ⟨m' - 1, by omega⟩
      have hl := mgAt_length (st := st) (k := (nextF st e).toNat) (by omega)
      rw [settle_next hn, settle_next hn]
      exact ih k _ _ (by omega) (by omega)
    · rw [settle_stop hn, settle_stop hn]

end Go.Proofs.Ytdhcpoeopooejaa
