/- ComposePermutations. -/
import Derived.Test.YtdhcpoeopooejaaApply
namespace Go.Proofs.Ytdhcpoeopooejaa
open Go.RowKit
set_option linter.unusedVariables false
set_option linter.unusedSimpArgs false

/-- The result of ComposePermutations. -/
def compR (p q : List Int) : List Int × Bool := if goodP p && goodP q && decide (p.length = q.length) then (apF q p, true) else ([], false)
theorem compR_no {p q : List Int} (h : ¬ (goodP p = true ∧ goodP q = true ∧ p.length = q.length)) : compR p q = ([], false) := by
  unfold compR
  rw [if_neg]
  simp
  intro h1 h2 h3
  exact h ⟨h1, h2, h3⟩
theorem compR_yes {p q : List Int} (h1 : goodP p = true) (h2 : goodP q = true) (h3 : p.length = q.length) : compR p q = (apF q p, true) := by
  simp [compR, h1, h2, h3]

theorem compR_len (p q : List Int) : (compR p q).1.length ≤ 100000000000 := by
  unfold compR
  split
  · rename_i h
    simp at h
    have := (goodP_iff.1 h.1.2).1
    simp [apF]
    omega
  · simp


end Go.Proofs.Ytdhcpoeopooejaa
