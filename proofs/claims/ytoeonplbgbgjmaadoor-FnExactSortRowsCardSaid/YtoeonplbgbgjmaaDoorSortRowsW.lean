/- laws.FnExactSortRows: the walk. -/
import Derived.Test.YtoeonplbgbgjmaaDoorSrI
import Derived.Test.YtoeonplbgbgjmaaDoorSrS
import Derived.Test.YtoeonplbgbgjmaaDoorHRowS
import Derived.Test.YtoeonplbgbgjmaaDoorKsK
import Derived.Deep.Cut
import Derived.Deep.RegionWith
import Derived.BigRegion
import Derived.RegionTactic
namespace Go.Proofs.YtoeonplbgbgjmaaDoor
open Go.RowKit
set_option linter.unusedVariables false
set_option linter.unusedSimpArgs false

set_option maxHeartbeats 1000000 in
theorem FnExactSortRows_walk (vaSpecs : Value) (xaSpecs : TKeySpecS) (vaRows : Value) (xaRows : TRowS) (w : World) (DaSpecs : DKeySpecS w vaSpecs xaSpecs) (DaRows : DRowS w vaRows xaRows) (T : TabS w) :
    Calls Tryd.prog 6 #[vaSpecs, vaRows] w fun e w' => e = .returned (.bool true) ∧ Below w.heap.size w w' := by
  have hT := Lib.hid T
  clear T
  obtain ⟨aoaSpecs, caSpecs, rfl⟩ := DaSpecs.shape
  replace DaSpecs := Lib.hid DaSpecs
  obtain ⟨aoaRows, caRows, rfl⟩ := DaRows.shape
  replace DaRows := Lib.hid DaRows
  by_cases haSpecs : szKeySpecS xaSpecs ≤ 1048576
  · have hdaSpecs : True := trivial
    by_cases haRows : szKeySpecS xaSpecs + szRowS xaRows ≤ 1048576
    · have hdaRows : True := trivial
      go_enter Tryd.func6, Tryd.ntmps6
      have hB := Lib.hid (Below.refl w.heap.size w)
      go_wp2_with fail
      refine (szKeySpecS_yes (DaSpecs.out.next hB.out) (by omega) (by omega)).mono ?_
      rintro e W1 ⟨rfl, b⟩
      replace hB := Lib.hid (Below.next hB.out b)
      clear b
      go_wp2_with fail
      refine (szRowS_yes (DaRows.out.next hB.out) (by omega) (by omega)).mono ?_
      rintro e W2 ⟨rfl, b⟩
      replace hB := Lib.hid (Below.next hB.out b)
      clear b
      go_wp2_with fail
      refine (toKeySpecS_law (DaSpecs.out.next hB.out) (by first | exact haSpecs | omega)).mono ?_
      rintro e W4 ⟨vt3, Ft3, rfl, rt3, fr, b⟩
      have ft3 := Lib.hid (Fr.of hB.out fr)
      clear fr
      replace hB := Lib.hid (Below.next hB.out b)
      clear b
      replace rt3 := Lib.hid rt3
      go_wp2_with fail
      refine (toRowS_law (DaRows.out.next hB.out) (by first | exact haRows | omega)).mono ?_
      rintro e W6 ⟨vt5, Ft5, rfl, rt5, fr, b⟩
      have dt3t5 := Lib.hid (Dj.of (rt3.out.lt) fr)
      have ft5 := Lib.hid (Fr.of hB.out fr)
      clear fr
      replace hB := Lib.hid (Below.next hB.out b)
      replace rt3 := Lib.hid (rt3.out.next b)
      clear b
      replace rt5 := Lib.hid rt5
      go_wp2_with fail
      refine (spec_SortRows_law rt3.out rt5.out).mono ?_
      rintro e W7 ⟨vw0, Fw0, rfl, rw0, fr, b, lnw0⟩
      have dt3w0 := Lib.hid (Dj.of (rt3.out.lt) fr)
      have dt5w0 := Lib.hid (Dj.of (rt5.out.lt) fr)
      have fw0 := Lib.hid (Fr.of hB.out fr)
      clear fr
      replace hB := Lib.hid (Below.next hB.out b)
      replace rt3 := Lib.hid (rt3.out.next b)
      replace rt5 := Lib.hid (rt5.out.next b)
      clear b
      replace rw0 := Lib.hid rw0
      clear rt3 ft3
      clear dt3t5 dt3w0
      clear rt5 ft5
      clear dt5w0
      go_wp2_with fail
      refine (toKeySpecS_law (DaSpecs.out.next hB.out) (by first | exact haSpecs | omega)).mono ?_
      rintro e W9 ⟨vx0, Fx0, rfl, rx0, fr, b⟩
      have dw0x0 := Lib.hid (Dj.of (rw0.out.lt) fr)
      have fx0 := Lib.hid (Fr.of hB.out fr)
      clear fr
      replace hB := Lib.hid (Below.next hB.out b)
      replace rw0 := Lib.hid (rw0.out.next b)
      clear b
      replace rx0 := Lib.hid rx0
      go_wp2_with fail
      refine (toRowS_law (DaRows.out.next hB.out) (by first | exact haRows | omega)).mono ?_
      rintro e W11 ⟨vx1, Fx1, rfl, rx1, fr, b⟩
      have dw0x1 := Lib.hid (Dj.of (rw0.out.lt) fr)
      have dx0x1 := Lib.hid (Dj.of (rx0.out.lt) fr)
      have fx1 := Lib.hid (Fr.of hB.out fr)
      clear fr
      replace hB := Lib.hid (Below.next hB.out b)
      replace rw0 := Lib.hid (rw0.out.next b)
      replace rx0 := Lib.hid (rx0.out.next b)
      clear b
      replace rx1 := Lib.hid rx1
      go_wp2_with fail
      refine (impl_SortRows_law rx0.out rx1.out (hT.out.next hB.out)).mono ?_
      rintro e W12 ⟨vg0, Fg0, rfl, rg0, fr, b, lng0⟩
      have dw0g0 := Lib.hid (Dj.of (rw0.out.lt) fr)
      have dx0g0 := Lib.hid (Dj.of (rx0.out.lt) fr)
      have dx1g0 := Lib.hid (Dj.of (rx1.out.lt) fr)
      have fg0 := Lib.hid (Fr.of hB.out fr)
      clear fr
      replace hB := Lib.hid (Below.next hB.out b)
      replace rw0 := Lib.hid (rw0.out.next b)
      replace rx0 := Lib.hid (rx0.out.next b)
      replace rx1 := Lib.hid (rx1.out.next b)
      clear b
      replace rg0 := Lib.hid rg0
      go_wp2_with fail
      refine (eqRowS_law rg0.out rw0.out).mono ?_
      rintro e W13 ⟨rfl, b⟩
      replace hB := Lib.hid (Below.next hB.out b)
      replace rw0 := Lib.hid (rw0.out.next b)
      replace rx0 := Lib.hid (rx0.out.next b)
      replace rx1 := Lib.hid (rx1.out.next b)
      replace rg0 := Lib.hid (rg0.out.next b)
      clear b
      go_wp2_with fail
      refine (toKeySpecS_law (DaSpecs.out.next hB.out) (by first | exact haSpecs | omega)).mono ?_
      rintro e W15 ⟨vt14, Ft14, rfl, rt14, fr, b⟩
      have dw0t14 := Lib.hid (Dj.of (rw0.out.lt) fr)
      have dx0t14 := Lib.hid (Dj.of (rx0.out.lt) fr)
      have dx1t14 := Lib.hid (Dj.of (rx1.out.lt) fr)
      have dg0t14 := Lib.hid (Dj.of (rg0.out.lt) fr)
      have ft14 := Lib.hid (Fr.of hB.out fr)
      clear fr
      replace hB := Lib.hid (Below.next hB.out b)
      replace rw0 := Lib.hid (rw0.out.next b)
      replace rx0 := Lib.hid (rx0.out.next b)
      replace rx1 := Lib.hid (rx1.out.next b)
      replace rg0 := Lib.hid (rg0.out.next b)
      clear b
      replace rt14 := Lib.hid rt14
      go_wp2_with fail
      refine (eqKeySpecS_law rx0.out rt14.out).mono ?_
      rintro e W16 ⟨rfl, b⟩
      replace hB := Lib.hid (Below.next hB.out b)
      replace rw0 := Lib.hid (rw0.out.next b)
      replace rx0 := Lib.hid (rx0.out.next b)
      replace rx1 := Lib.hid (rx1.out.next b)
      replace rg0 := Lib.hid (rg0.out.next b)
      replace rt14 := Lib.hid (rt14.out.next b)
      clear b
      clear rt14 ft14
      clear dx1t14 dw0t14 dg0t14 dx0t14
      go_wp2_with fail
      refine (toRowS_law (DaRows.out.next hB.out) (by first | exact haRows | omega)).mono ?_
      rintro e W18 ⟨vt17, Ft17, rfl, rt17, fr, b⟩
      have dw0t17 := Lib.hid (Dj.of (rw0.out.lt) fr)
      have dx0t17 := Lib.hid (Dj.of (rx0.out.lt) fr)
      have dx1t17 := Lib.hid (Dj.of (rx1.out.lt) fr)
      have dg0t17 := Lib.hid (Dj.of (rg0.out.lt) fr)
      have ft17 := Lib.hid (Fr.of hB.out fr)
      clear fr
      replace hB := Lib.hid (Below.next hB.out b)
      replace rw0 := Lib.hid (rw0.out.next b)
      replace rx0 := Lib.hid (rx0.out.next b)
      replace rx1 := Lib.hid (rx1.out.next b)
      replace rg0 := Lib.hid (rg0.out.next b)
      clear b
      replace rt17 := Lib.hid rt17
      go_wp2_with fail
      refine (eqRowS_law rx1.out rt17.out).mono ?_
      rintro e W19 ⟨rfl, b⟩
      replace hB := Lib.hid (Below.next hB.out b)
      replace rw0 := Lib.hid (rw0.out.next b)
      replace rx0 := Lib.hid (rx0.out.next b)
      replace rx1 := Lib.hid (rx1.out.next b)
      replace rg0 := Lib.hid (rg0.out.next b)
      replace rt17 := Lib.hid (rt17.out.next b)
      clear b
      clear rt17 ft17
      clear dx1t17 dg0t17 dw0t17 dx0t17
      go_wp2_with fail
      refine (markKeySpecS_law rx0.out (by omega) (by omega) (by omega)).mono ?_
      rintro e W20 ⟨yx0, nx0, rfl, rmx0, hmx0, lpx0, lmx0, ex⟩
      replace hB := Lib.hid (Below.ex hB.out ex fx0.out)
      replace rw0 := Lib.hid (rw0.out.ex ex dw0x0.out)
      replace rx1 := Lib.hid (rx1.out.ex ex dx0x1.out.symm)
      replace rg0 := Lib.hid (rg0.out.ex ex dx0g0.out.symm)
      clear ex rx0
      have rx0 := Lib.hid rmx0
      clear rmx0
      replace hmx0 := Lib.hid hmx0
      clear rx0 fx0
      clear dx0x1 dx0g0 dw0x0
      go_wp2_with fail
      refine (markRowS_law rx1.out (by omega) (by omega) (by omega)).mono ?_
      rintro e W21 ⟨yx1, nx1, rfl, rmx1, hmx1, lpx1, lmx1, ex⟩
      replace hB := Lib.hid (Below.ex hB.out ex fx1.out)
      replace rw0 := Lib.hid (rw0.out.ex ex dw0x1.out)
      replace rg0 := Lib.hid (rg0.out.ex ex dx1g0.out.symm)
      clear ex rx1
      have rx1 := Lib.hid rmx1
      clear rmx1
      replace hmx1 := Lib.hid hmx1
      clear rx1 fx1
      clear dw0x1 dx1g0
      go_wp2_with fail
      refine (eqRowS_law rg0.out rw0.out).mono ?_
      rintro e W22 ⟨rfl, b⟩
      replace hB := Lib.hid (Below.next hB.out b)
      replace rw0 := Lib.hid (rw0.out.next b)
      replace rg0 := Lib.hid (rg0.out.next b)
      clear b
      go_wp2_with fail
      refine (markRowS_law rg0.out (by omega) (by omega) (by omega)).mono ?_
      rintro e W23 ⟨yg0, ng0, rfl, rmg0, hmg0, lpg0, lmg0, ex⟩
      replace hB := Lib.hid (Below.ex hB.out ex fg0.out)
      replace rw0 := Lib.hid (rw0.out.ex ex dw0g0.out)
      clear ex rg0
      have rg0 := Lib.hid rmg0
      clear rmg0
      replace hmg0 := Lib.hid hmg0
      go_wp2_with fail
      refine (heldRowS_law rg0.out hmg0.out (by omega) (by omega)).mono ?_
      rintro e W24 ⟨rfl, b⟩
      replace hB := Lib.hid (Below.next hB.out b)
      replace rw0 := Lib.hid (rw0.out.next b)
      replace rg0 := Lib.hid (rg0.out.next b)
      clear b
      go_wp2_with fail
      refine (toKeySpecS_law (DaSpecs.out.next hB.out) (by first | exact haSpecs | omega)).mono ?_
      rintro e W26 ⟨vt25, Ft25, rfl, rt25, fr, b⟩
      have dw0t25 := Lib.hid (Dj.of (rw0.out.lt) fr)
      have dg0t25 := Lib.hid (Dj.of (rg0.out.lt) fr)
      have ft25 := Lib.hid (Fr.of hB.out fr)
      clear fr
      replace hB := Lib.hid (Below.next hB.out b)
      replace rw0 := Lib.hid (rw0.out.next b)
      replace rg0 := Lib.hid (rg0.out.next b)
      clear b
      replace rt25 := Lib.hid rt25
      go_wp2_with fail
      refine (toRowS_law (DaRows.out.next hB.out) (by first | exact haRows | omega)).mono ?_
      rintro e W28 ⟨vt27, Ft27, rfl, rt27, fr, b⟩
      have dw0t27 := Lib.hid (Dj.of (rw0.out.lt) fr)
      have dg0t27 := Lib.hid (Dj.of (rg0.out.lt) fr)
      have dt25t27 := Lib.hid (Dj.of (rt25.out.lt) fr)
      have ft27 := Lib.hid (Fr.of hB.out fr)
      clear fr
      replace hB := Lib.hid (Below.next hB.out b)
      replace rw0 := Lib.hid (rw0.out.next b)
      replace rg0 := Lib.hid (rg0.out.next b)
      replace rt25 := Lib.hid (rt25.out.next b)
      clear b
      replace rt27 := Lib.hid rt27
      go_wp2_with fail
      refine (impl_SortRows_law rt25.out rt27.out (hT.out.next hB.out)).mono ?_
      rintro e W29 ⟨vh0, Fh0, rfl, rh0, fr, b, lnh0⟩
      have dw0h0 := Lib.hid (Dj.of (rw0.out.lt) fr)
      have dg0h0 := Lib.hid (Dj.of (rg0.out.lt) fr)
      have dt25h0 := Lib.hid (Dj.of (rt25.out.lt) fr)
      have dt27h0 := Lib.hid (Dj.of (rt27.out.lt) fr)
      have fh0 := Lib.hid (Fr.of hB.out fr)
      clear fr
      replace hB := Lib.hid (Below.next hB.out b)
      replace rw0 := Lib.hid (rw0.out.next b)
      replace rg0 := Lib.hid (rg0.out.next b)
      replace rt25 := Lib.hid (rt25.out.next b)
      replace rt27 := Lib.hid (rt27.out.next b)
      clear b
      replace rh0 := Lib.hid rh0
      clear rt25 ft25
      clear dg0t25 dt25h0 dt25t27 dw0t25
      clear rt27 ft27
      clear dg0t27 dw0t27 dt27h0
      go_wp2_with fail
      refine (eqRowS_law rh0.out rw0.out).mono ?_
      rintro e W30 ⟨rfl, b⟩
      replace hB := Lib.hid (Below.next hB.out b)
      replace rw0 := Lib.hid (rw0.out.next b)
      replace rg0 := Lib.hid (rg0.out.next b)
      replace rh0 := Lib.hid (rh0.out.next b)
      clear b
      clear rw0 fw0
      clear dw0g0 dw0h0
      clear rh0 fh0
      clear dg0h0
      go_wp2_with fail
      refine (heldRowS_law rg0.out hmg0.out (by omega) (by omega)).mono ?_
      rintro e W31 ⟨rfl, b⟩
      replace hB := Lib.hid (Below.next hB.out b)
      replace rg0 := Lib.hid (rg0.out.next b)
      clear b
      clear rg0 fg0
      go_wp2
      go_ret
      exact ⟨rfl, hB.out⟩
    · go_enter Tryd.func6, Tryd.ntmps6
      have hB := Lib.hid (Below.refl w.heap.size w)
      go_wp2_with fail
      refine (szKeySpecS_yes (DaSpecs.out.next hB.out) (by omega) (by omega)).mono ?_
      rintro e _ ⟨rfl, b⟩
      replace hB := Lib.hid (Below.next hB.out b)
      clear b
      go_wp2_with fail
      refine (szRowS_no (DaRows.out.next hB.out) (by omega) (by omega) (by omega)).mono ?_
      rintro e _ ⟨rfl, b⟩
      replace hB := Lib.hid (Below.next hB.out b)
      clear b
      go_wp2
      go_ret
      exact ⟨rfl, hB.out⟩
  · go_enter Tryd.func6, Tryd.ntmps6
    have hB := Lib.hid (Below.refl w.heap.size w)
    go_wp2_with fail
    refine (szKeySpecS_no (DaSpecs.out.next hB.out) (by omega) (by omega) (by omega)).mono ?_
    rintro e _ ⟨rfl, b⟩
    replace hB := Lib.hid (Below.next hB.out b)
    clear b
    go_wp2
    go_ret
    exact ⟨rfl, hB.out⟩

end Go.Proofs.YtoeonplbgbgjmaaDoor
