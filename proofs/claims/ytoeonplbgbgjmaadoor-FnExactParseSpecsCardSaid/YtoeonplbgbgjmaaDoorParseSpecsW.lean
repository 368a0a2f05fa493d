/- laws.FnExactParseSpecs: the walk. -/
import Derived.Test.YtoeonplbgbgjmaaDoorPsI
import Derived.Test.YtoeonplbgbgjmaaDoorPsS
import Derived.Test.YtoeonplbgbgjmaaDoorKsK
namespace Go.Proofs.YtoeonplbgbgjmaaDoor
open Go.RowKit
set_option linter.unusedVariables false
set_option linter.unusedSimpArgs false

set_option maxHeartbeats 1000000 in
theorem FnExactParseSpecs_walk (aS : ByteArray) (w : World) (_laS : aS.size ≤ maxLen) (T : PsT w) :
    Calls Tryd.prog 4 #[.string aS] w fun e w' => e = .returned (.bool true) ∧ Below w.heap.size w w' := by
  have hT := Lib.hid T
  clear T
  unfold maxLen at _laS
  by_cases haS : aS.size ≤ 1048576
  · have hdaS : decide (1048576 < (aS.size : Int)) = false := by simp; omega
    go_enter Tryd.func4, Tryd.ntmps4
    have hB := Lib.hid (Below.refl w.heap.size w)
    go_wp2_with fail
    refine (spec_ParseSpecs_law haS).mono ?_
    rintro e W1 ⟨vw0, Fw0, rfl, rw0, fr, b, lnw0⟩
    have fw0 := Lib.hid (Fr.of hB.out fr)
    clear fr
    replace hB := Lib.hid (Below.next hB.out b)
    clear b
    replace rw0 := Lib.hid rw0
    go_wp2_with fail
    refine (impl_ParseSpecs_law haS (hT.out.next hB.out)).mono ?_
    rintro e W2 ⟨vg0, Fg0, rfl, rg0, fr, b, lng0⟩
    have dw0g0 := Lib.hid (Dj.of (rw0.out.lt) fr)
    have fg0 := Lib.hid (Fr.of hB.out fr)
    clear fr
    replace hB := Lib.hid (Below.next hB.out b)
    replace rw0 := Lib.hid (rw0.out.next b)
    clear b
    replace rg0 := Lib.hid rg0
    go_wp2_with fail
    refine (eqKeySpecS_law rg0.out rw0.out).mono ?_
    rintro e W3 ⟨rfl, b⟩
    replace hB := Lib.hid (Below.next hB.out b)
    replace rw0 := Lib.hid (rw0.out.next b)
    replace rg0 := Lib.hid (rg0.out.next b)
    clear b
    go_wp2_with fail
    refine (markKeySpecS_law rg0.out (by unfold szKeySpecS; omega) (by omega) (by omega)).mono ?_
    rintro e W4 ⟨yg0, ng0, rfl, rmg0, hmg0, lpg0, lmg0, ex⟩
    replace hB := Lib.hid (Below.ex hB.out ex fg0.out)
    replace rw0 := Lib.hid (rw0.out.ex ex dw0g0.out)
    clear ex rg0
    have rg0 := Lib.hid rmg0
    clear rmg0
    replace hmg0 := Lib.hid hmg0
    go_wp2_with fail
    refine (heldKeySpecS_law rg0.out hmg0.out (by omega) (by omega)).mono ?_
    rintro e W5 ⟨rfl, b⟩
    replace hB := Lib.hid (Below.next hB.out b)
    replace rw0 := Lib.hid (rw0.out.next b)
    replace rg0 := Lib.hid (rg0.out.next b)
    clear b
    go_wp2_with fail
    refine (impl_ParseSpecs_law haS (hT.out.next hB.out)).mono ?_
    rintro e W6 ⟨vh0, Fh0, rfl, rh0, fr, b, lnh0⟩
    have dw0h0 := Lib.hid (Dj.of (rw0.out.lt) fr)
    have dg0h0 := Lib.hid (Dj.of (rg0.out.lt) fr)
    have fh0 := Lib.hid (Fr.of hB.out fr)
    clear fr
    replace hB := Lib.hid (Below.next hB.out b)
    replace rw0 := Lib.hid (rw0.out.next b)
    replace rg0 := Lib.hid (rg0.out.next b)
    clear b
    replace rh0 := Lib.hid rh0
    go_wp2_with fail
    refine (eqKeySpecS_law rh0.out rw0.out).mono ?_
    rintro e W7 ⟨rfl, b⟩
    replace hB := Lib.hid (Below.next hB.out b)
    replace rw0 := Lib.hid (rw0.out.next b)
    replace rg0 := Lib.hid (rg0.out.next b)
    replace rh0 := Lib.hid (rh0.out.next b)
    clear b
    clear rw0 fw0
    clear dw0g0 dw0h0
    clear rh0 fh0
    clear dg0h0
    go_wp2_with fail
    refine (heldKeySpecS_law rg0.out hmg0.out (by omega) (by omega)).mono ?_
    rintro e W8 ⟨rfl, b⟩
    replace hB := Lib.hid (Below.next hB.out b)
    replace rg0 := Lib.hid (rg0.out.next b)
    clear b
    clear rg0 fg0
    go_wp2
    go_ret
    exact ⟨rfl, hB.out⟩
  · have hdaS : decide (1048576 < (aS.size : Int)) = true := by simp; omega
    go_enter Tryd.func4, Tryd.ntmps4
    go_wp2
    go_ret
    exact ⟨rfl, Below.refl _ _⟩

end Go.Proofs.YtoeonplbgbgjmaaDoor
