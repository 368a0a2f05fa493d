/- The helpers of the property laws: vBig, and the draws that pass on. -/
import Derived.Test.YteccchdngclfoaaDrawR
namespace Go.Proofs.Yteccchdngclfoaa
open Go.RowKit
set_option linter.unusedVariables false
set_option linter.unusedSimpArgs false

set_option maxHeartbeats 1000000 in
theorem DrawPermutationCycles_law {d : Value} {w : World} (h : RdBy w d) (hd : ∀ b, d.ownBlock = some b → b < w.heap.size) :
    Calls Try.prog 6 #[d] w fun e w' => ∃ (r : Value) (L : List Int) (F : List Nat), e = .returned r ∧ RIntS w' r L F ∧ Fr w.heap.size F ∧ Below w.heap.size w w' ∧ L.length ≤ 100 := by
  have hal := Lib.hid (DrawIsValidPermutation_law h hd)
  clear hd
  obtain ⟨ao, n, c, rfl, h1, h2, _⟩ := h
  go_enter Try.func6, Try.ntmps6
  go_wp2_with fail
  refine hal.out.mono ?_
  rintro e w1 ⟨r, L, F, rfl, hR, hF, hB, hL⟩
  replace hR := Lib.hid hR
  replace hF := Lib.hid hF
  replace hB := Lib.hid hB
  clear hal
  go_wp2
  go_ret
  exact ⟨_, L, F, rfl, hR.out, hF.out, hB.out, hL⟩
set_option maxHeartbeats 1000000 in
theorem vBig_law {ao : Option Addr} {n c : Nat} {w : World} :
    Calls Try.prog 5 #[.slice ao n c] w fun e w' => e = .returned (.bool (decide (65536 < (n : Int)))) ∧ w' = w := by
  go_enter Try.func5, Try.ntmps5
  go_wp2
  go_ret
  exact ⟨rfl, rfl⟩
end Go.Proofs.Yteccchdngclfoaa
