/- laws.FnExactFormatSpecs: the walk. -/
import Derived.Test.YtoeonplbgbgjmaaDoorFSpI
import Derived.Test.YtoeonplbgbgjmaaDoorFSpS
namespace Go.Proofs.YtoeonplbgbgjmaaDoor
open Go.RowKit
set_option linter.unusedVariables false
set_option linter.unusedSimpArgs false

set_option maxHeartbeats 1000000 in
theorem FnExactFormatSpecs_walk (vaSpecs : Value) (xaSpecs : TKeySpecS) (w : World) (DaSpecs : DKeySpecS w vaSpecs xaSpecs) (T : Tab w) :
    Calls Tryd.prog 3 #[vaSpecs] w fun e w' => e = .returned (.bool true) ∧ Below w.heap.size w w' := by
  have hT := Lib.hid T
  clear T
  obtain ⟨aoaSpecs, caSpecs, rfl⟩ := DaSpecs.shape
  replace DaSpecs := Lib.hid DaSpecs
  by_cases haSpecs : szKeySpecS xaSpecs ≤ 1048576
  · have hdaSpecs : True := trivial
    go_enter Tryd.func3, Tryd.ntmps3
    have hB := Lib.hid (Below.refl w.heap.size w)
    go_wp2_with fail
    refine (szKeySpecS_yes (DaSpecs.out.next hB.out) (by omega) (by omega)).mono ?_
    rintro e W1 ⟨rfl, b⟩
    replace hB := Lib.hid (Below.next hB.out b)
    clear b
    go_wp2_with fail
    refine (toKeySpecS_law (DaSpecs.out.next hB.out) (by first | exact haSpecs | omega)).mono ?_
    rintro e W3 ⟨vt2, Ft2, rfl, rt2, fr, b⟩
    have ft2 := Lib.hid (Fr.of hB.out fr)
    clear fr
    replace hB := Lib.hid (Below.next hB.out b)
    clear b
    replace rt2 := Lib.hid rt2
    go_wp2_with fail
    refine (spec_FormatSpecs_law rt2.out).mono ?_
    rintro e W4 ⟨rfl, b⟩
    replace hB := Lib.hid (Below.next hB.out b)
    replace rt2 := Lib.hid (rt2.out.next b)
    clear b
    clear rt2 ft2
    go_wp2_with fail
    refine (toKeySpecS_law (DaSpecs.out.next hB.out) (by first | exact haSpecs | omega)).mono ?_
    rintro e W6 ⟨vx0, Fx0, rfl, rx0, fr, b⟩
    have fx0 := Lib.hid (Fr.of hB.out fr)
    clear fr
    replace hB := Lib.hid (Below.next hB.out b)
    clear b
    replace rx0 := Lib.hid rx0
    go_wp2_with fail
    refine (impl_FormatSpecs_law rx0.out (hT.out.next hB.out)).mono ?_
    rintro e W7 ⟨rfl, b⟩
    replace hB := Lib.hid (Below.next hB.out b)
    replace rx0 := Lib.hid (rx0.out.next b)
    clear b
    go_wp2_with fail
    refine (toKeySpecS_law (DaSpecs.out.next hB.out) (by first | exact haSpecs | omega)).mono ?_
    rintro e W9 ⟨vt8, Ft8, rfl, rt8, fr, b⟩
    have dx0t8 := Lib.hid (Dj.of (rx0.out.lt) fr)
    have ft8 := Lib.hid (Fr.of hB.out fr)
    clear fr
    replace hB := Lib.hid (Below.next hB.out b)
    replace rx0 := Lib.hid (rx0.out.next b)
    clear b
    replace rt8 := Lib.hid rt8
    go_wp2_with fail
    refine (eqKeySpecS_law rx0.out rt8.out).mono ?_
    rintro e W10 ⟨rfl, b⟩
    replace hB := Lib.hid (Below.next hB.out b)
    replace rx0 := Lib.hid (rx0.out.next b)
    replace rt8 := Lib.hid (rt8.out.next b)
    clear b
    clear rx0 fx0
    clear dx0t8
    clear rt8 ft8
    go_wp2
    go_ret
    exact ⟨rfl, hB.out⟩
  · go_enter Tryd.func3, Tryd.ntmps3
    have hB := Lib.hid (Below.refl w.heap.size w)
    go_wp2_with fail
    refine (szKeySpecS_no (DaSpecs.out.next hB.out) (by omega) (by omega) (by omega)).mono ?_
    rintro e _ ⟨rfl, b⟩
    replace hB := Lib.hid (Below.next hB.out b)
    clear b
    go_wp2
    go_ret
    exact ⟨rfl, hB.out⟩

end Go.Proofs.YtoeonplbgbgjmaaDoor
