/- CycleWrites, in plain lists. No program. -/
import Derived.Test.YtdhcpoeopooejaaL2S
import Derived.Test.YtdhcpoeopooejaaValid
namespace Go.Proofs.Ytdhcpoeopooejaa
open Go.RowKit
set_option linter.unusedVariables false
set_option linter.unusedSimpArgs false

/-- The sorted list. -/
def sortL (x : List Int) : List Int := x.mergeSort fun a b => decide (a ≤ b)
theorem sortL_perm (x : List Int) : (sortL x).Perm x := List.mergeSort_perm _ _
theorem sortL_pw (x : List Int) : (sortL x).Pairwise (· ≤ ·) := by
  have h := List.pairwise_mergeSort (le := fun (a b : Int) => decide (a ≤ b)) (fun a b c h1 h2 => by simp at *; omega) (fun a b => by simp; omega) x
  refine h.imp ?_
  intro a b hab
  simpa using hab
theorem sortL_length (x : List Int) : (sortL x).length = x.length := (sortL_perm x).length_eq
theorem sortL_unique {x L : List Int} (h : L.Perm x) (ha : Asc L) : L = sortL x := by
  refine (h.trans (sortL_perm x).symm).eq_of_pairwise (fun a b _ _ h1 h2 => Int.le_antisymm h1 h2) ?_ (sortL_pw x)
  rw [List.pairwise_iff_getElem]
  intro i j hi hj hij
  have := ha i j hij hj
  rwa [gi_eq hi, gi_eq hj] at this
theorem sortL_asc (x : List Int) : Asc (sortL x) := by
  intro i j hij hj
  have := List.pairwise_iff_getElem.1 (sortL_pw x) i j (by omega) hj hij
  rwa [gi_eq (by omega), gi_eq hj]
/-- How many of the first k elements are not what s has there. -/
def cwK (x s : List Int) : Nat → Nat
  | 0 => 0
  | k + 1 => cwK x s k + if gi x k = gi s k then 0 else 1
theorem cwK_le (x s : List Int) (k : Nat) : cwK x s k ≤ k := by
  induction k with
  | zero => exact Nat.le_refl _
  | succ k ih => rw [cwK]; split <;> omega
/-- The result of CycleWrites. -/
def cwR (x : List Int) : Nat × Bool := if vlist x then (cwK x (sortL x) x.length, true) else (0, false)
end Go.Proofs.Ytdhcpoeopooejaa
