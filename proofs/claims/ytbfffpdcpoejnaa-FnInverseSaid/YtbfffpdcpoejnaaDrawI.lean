/- The draws that FnInverse takes. -/
import Derived.Test.YtbfffpdcpoejnaaVHelp
namespace Go.Proofs.Ytbfffpdcpoejnaa
open Go.RowKit
set_option linter.unusedVariables false
set_option linter.unusedSimpArgs false

set_option maxHeartbeats 1000000 in
theorem DrawInversePermutation_law {d : Value} {w : World} (h : RdBy w d) (hd : ∀ b, d.ownBlock = some b → b < w.heap.size) :
    Calls Try.prog 12 #[d] w fun e w' => ∃ (r : Value) (L : List Int) (F : List Nat), e = .returned r ∧ RIntS w' r L F ∧ Fr w.heap.size F ∧ Below w.heap.size w w' ∧ L.length ≤ 100 := by
  have hal := Lib.hid (DrawIsValidPermutation_law h hd)
  clear hd
  obtain ⟨ao, n, c, rfl, h1, h2, _⟩ := h
  go_enter Try.func12, Try.ntmps12
  go_wp2_with fail
  refine hal.out.mono ?_
  rintro e w1 ⟨r, L, F, rfl, hR, hF, hB, hL⟩
  replace hR := Lib.hid hR
  replace hF := Lib.hid hF
  replace hB := Lib.hid hB
  clear hal
  go_wp2
  go_ret
  exact ⟨_, L, F, rfl, hR.out, hF.out, hB.out, hL⟩
end Go.Proofs.Ytbfffpdcpoejnaa
