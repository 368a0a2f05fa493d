/- InversePermutation. -/
import Derived.Test.YtdhcpoeopooejaaApply
namespace Go.Proofs.Ytdhcpoeopooejaa
open Go.RowKit
set_option linter.unusedVariables false
set_option linter.unusedSimpArgs false

/-- The inverse, as it is written element by element: after k steps. -/
def invK (p : List Int) : Nat → List Int
  | 0 => List.replicate p.length 0
  | k + 1 => (invK p k).set (gi p k).toNat k
@[simp] theorem invK_length (p : List Int) (k : Nat) : (invK p k).length = p.length := by
  induction k with
  | zero => simp [invK]
  | succ k ih => simp [invK, ih]
/-- The result of InversePermutation. -/
def invR (p : List Int) : List Int × Bool := if goodP p then (invK p p.length, true) else ([], false)
theorem invR_len (p : List Int) : (invR p).1.length ≤ 100000000000 := by
  unfold invR
  split
  · rename_i h
    have := (goodP_iff.1 h).1
    simp; omega
  · simp



end Go.Proofs.Ytdhcpoeopooejaa
