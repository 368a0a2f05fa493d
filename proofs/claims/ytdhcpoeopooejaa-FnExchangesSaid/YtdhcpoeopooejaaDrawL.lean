/- The draws: DrawApplyPermutation, DrawComposePermutations, DrawRankPermutation. -/
import Derived.Test.YtdhcpoeopooejaaDrawK
import Derived.Test.YtdhcpoeopooejaaVHelp
namespace Go.Proofs.Ytdhcpoeopooejaa
open Go.RowKit
set_option linter.unusedVariables false
set_option linter.unusedSimpArgs false

/-- What a draw has made. -/
theorem drawn {w w' : World} {o : Obj} {r : Value} {L : List Int} (hO : Own w' 3 (w.alloc o).heap.size r (ints L)) (hx : Ex [w.heap.size] (w.alloc o) w') :
    RIntS w' r L r.ownBlock.toList ∧ Fr w.heap.size r.ownBlock.toList ∧ Below w.heap.size w w' := by
  have hB0 : Below w.heap.size w (w.alloc o) := (Below.refl _ _).alloc (Nat.le_refl _) _
  exact (Fresh.of_own (hO.base (show w.heap.size ≤ _ by simp)) (Below.ex hB0 hx (fun x hx => by simp at hx; omega))).law


end Go.Proofs.Ytdhcpoeopooejaa
