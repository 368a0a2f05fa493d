/- The property laws' helper vInts: do two slices of ints read alike. -/
import Derived.Test.YtoeonplbgbgjmaaDoorBase
namespace Go.Proofs.YtoeonplbgbgjmaaDoor
open Go.RowKit
set_option linter.unusedVariables false
set_option linter.unusedSimpArgs false

private theorem eq_upto {xs ys : List Int} {n : Nat} (hx : xs.length = n) (hy : ys.length = n) (h : ∀ j, j < n → gi xs j = gi ys j) : xs = ys := by
  apply List.ext_getElem (by omega)
  intro i h1 h2
  have := h i (by omega)
  rw [gi_eq h1, gi_eq h2] at this
  exact this
private theorem ne_at {xs ys : List Int} {k : Nat} (h : ¬ gi xs k = gi ys k) : ¬ xs = ys := fun e => h (by rw [e])

end Go.Proofs.YtoeonplbgbgjmaaDoor
