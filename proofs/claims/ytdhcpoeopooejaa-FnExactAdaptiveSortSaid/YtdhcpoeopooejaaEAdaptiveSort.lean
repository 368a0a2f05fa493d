/- laws.FnExactAdaptiveSort returns true for every input, and its arguments read behind the call as they read before. No condition. -/
import Derived.Test.YtdhcpoeopooejaaFrame
import Derived.Test.YtdhcpoeopooejaaHRecord
import Derived.Test.YtdhcpoeopooejaaMarkRecord
import Derived.Test.YtdhcpoeopooejaaAdT
namespace Go.Proofs.Ytdhcpoeopooejaa.fnExactAdaptiveSort
open Go.ChangeShapes Go.WideShapes Go.ChangeAt Go.RowKit
open Go.ChangeMaps (open_string shut_string)
set_option linter.unusedVariables false
set_option linter.unusedSimpArgs false

set_option maxHeartbeats 1000000 in
theorem walk (vaList : Value) (xaList : TRecordS) (w : World) (DaList : DRecordS w vaList xaList) :
    Calls Try.prog 7 #[vaList] w fun e w' => e = .returned (.bool true) ∧ Below w.heap.size w w' := by
  obtain ⟨aoaList, caList, rfl⟩ := DaList.shape
  replace DaList := Lib.hid DaList
  by_cases haList : szRecordS xaList ≤ 1048576
  · have hdaList : True := trivial
    go_enter Try.func7, Try.ntmps7
    have hB := Lib.hid (Below.refl w.heap.size w)
    go_wp2_with fail
    refine (szRecordS_yes (DaList.out.next hB.out) (by omega) (by omega)).mono ?_
    rintro e W1 ⟨rfl, b⟩
    replace hB := Lib.hid (Below.next hB.out b)
    clear b
    go_wp2_with fail
    refine (toRecordS_law (DaList.out.next hB.out) (by first | exact haList | omega)).mono ?_
    rintro e W3 ⟨vt2, Ft2, rfl, rt2, fr, b⟩
    have ft2 := Lib.hid (Fr.of hB.out fr)
    clear fr
    replace hB := Lib.hid (Below.next hB.out b)
    clear b
    replace rt2 := Lib.hid rt2
    go_wp2_with fail
    refine (spec_AdaptiveSort_law rt2.out).mono ?_
    rintro e W4 ⟨vw0, Fw0, rfl, rw0, fr, b, lnw0⟩
    have dt2w0 := Lib.hid (Dj.of (rt2.out.lt) fr)
    have fw0 := Lib.hid (Fr.of hB.out fr)
    clear fr
    replace hB := Lib.hid (Below.next hB.out b)
    replace rt2 := Lib.hid (rt2.out.next b)
    clear b
    replace rw0 := Lib.hid rw0
    clear rt2 ft2
    clear dt2w0
    go_wp2_with fail
    refine (toRecordS_law (DaList.out.next hB.out) (by first | exact haList | omega)).mono ?_
    rintro e W6 ⟨vx0, Fx0, rfl, rx0, fr, b⟩
    have dw0x0 := Lib.hid (Dj.of (rw0.out.lt) fr)
    have fx0 := Lib.hid (Fr.of hB.out fr)
    clear fr
    replace hB := Lib.hid (Below.next hB.out b)
    replace rw0 := Lib.hid (rw0.out.next b)
    clear b
    replace rx0 := Lib.hid rx0
    go_wp2_with fail
    refine (impl_AdaptiveSort_law rx0.out).mono ?_
    rintro e W7 ⟨vg0, Fg0, rfl, rg0, fr, b, lng0⟩
    have dw0g0 := Lib.hid (Dj.of (rw0.out.lt) fr)
    have dx0g0 := Lib.hid (Dj.of (rx0.out.lt) fr)
    have fg0 := Lib.hid (Fr.of hB.out fr)
    clear fr
    replace hB := Lib.hid (Below.next hB.out b)
    replace rw0 := Lib.hid (rw0.out.next b)
    replace rx0 := Lib.hid (rx0.out.next b)
    clear b
    replace rg0 := Lib.hid rg0
    go_wp2_with fail
    refine (eqRecordS_law rg0.out rw0.out).mono ?_
    rintro e W8 ⟨rfl, b⟩
    replace hB := Lib.hid (Below.next hB.out b)
    replace rw0 := Lib.hid (rw0.out.next b)
    replace rx0 := Lib.hid (rx0.out.next b)
    replace rg0 := Lib.hid (rg0.out.next b)
    clear b
    go_wp2_with fail
    refine (toRecordS_law (DaList.out.next hB.out) (by first | exact haList | omega)).mono ?_
    rintro e W10 ⟨vt9, Ft9, rfl, rt9, fr, b⟩
    have dw0t9 := Lib.hid (Dj.of (rw0.out.lt) fr)
    have dx0t9 := Lib.hid (Dj.of (rx0.out.lt) fr)
    have dg0t9 := Lib.hid (Dj.of (rg0.out.lt) fr)
    have ft9 := Lib.hid (Fr.of hB.out fr)
    clear fr
    replace hB := Lib.hid (Below.next hB.out b)
    replace rw0 := Lib.hid (rw0.out.next b)
    replace rx0 := Lib.hid (rx0.out.next b)
    replace rg0 := Lib.hid (rg0.out.next b)
    clear b
    replace rt9 := Lib.hid rt9
    go_wp2_with fail
    refine (eqRecordS_law rx0.out rt9.out).mono ?_
    rintro e W11 ⟨rfl, b⟩
    replace hB := Lib.hid (Below.next hB.out b)
    replace rw0 := Lib.hid (rw0.out.next b)
    replace rx0 := Lib.hid (rx0.out.next b)
    replace rg0 := Lib.hid (rg0.out.next b)
    replace rt9 := Lib.hid (rt9.out.next b)
    clear b
    clear rt9 ft9
    clear dg0t9 dw0t9 dx0t9
    go_wp2_with fail
    refine (markRecordS_law rx0.out (by omega) (by omega) (by omega)).mono ?_
    rintro e W12 ⟨yx0, nx0, rfl, rmx0, hmx0, lpx0, lmx0, ex⟩
    replace hB := Lib.hid (Below.ex hB.out ex fx0.out)
    replace rw0 := Lib.hid (rw0.out.ex ex dw0x0.out)
    replace rg0 := Lib.hid (rg0.out.ex ex dx0g0.out.symm)
    clear ex rx0
    have rx0 := Lib.hid rmx0
    clear rmx0
    replace hmx0 := Lib.hid hmx0
    clear rx0 fx0
    clear dw0x0 dx0g0
    go_wp2_with fail
    refine (eqRecordS_law rg0.out rw0.out).mono ?_
    rintro e W13 ⟨rfl, b⟩
    replace hB := Lib.hid (Below.next hB.out b)
    replace rw0 := Lib.hid (rw0.out.next b)
    replace rg0 := Lib.hid (rg0.out.next b)
    clear b
    go_wp2_with fail
    refine (markRecordS_law rg0.out (by omega) (by omega) (by omega)).mono ?_
    rintro e W14 ⟨yg0, ng0, rfl, rmg0, hmg0, lpg0, lmg0, ex⟩
    replace hB := Lib.hid (Below.ex hB.out ex fg0.out)
    replace rw0 := Lib.hid (rw0.out.ex ex dw0g0.out)
    clear ex rg0
    have rg0 := Lib.hid rmg0
    clear rmg0
    replace hmg0 := Lib.hid hmg0
    go_wp2_with fail
    refine (heldRecordS_law rg0.out hmg0.out (by omega) (by omega)).mono ?_
    rintro e W15 ⟨rfl, b⟩
    replace hB := Lib.hid (Below.next hB.out b)
    replace rw0 := Lib.hid (rw0.out.next b)
    replace rg0 := Lib.hid (rg0.out.next b)
    clear b
    go_wp2_with fail
    refine (toRecordS_law (DaList.out.next hB.out) (by first | exact haList | omega)).mono ?_
    rintro e W17 ⟨vt16, Ft16, rfl, rt16, fr, b⟩
    have dw0t16 := Lib.hid (Dj.of (rw0.out.lt) fr)
    have dg0t16 := Lib.hid (Dj.of (rg0.out.lt) fr)
    have ft16 := Lib.hid (Fr.of hB.out fr)
    clear fr
    replace hB := Lib.hid (Below.next hB.out b)
    replace rw0 := Lib.hid (rw0.out.next b)
    replace rg0 := Lib.hid (rg0.out.next b)
    clear b
    replace rt16 := Lib.hid rt16
    go_wp2_with fail
    refine (impl_AdaptiveSort_law rt16.out).mono ?_
    rintro e W18 ⟨vh0, Fh0, rfl, rh0, fr, b, lnh0⟩
    have dw0h0 := Lib.hid (Dj.of (rw0.out.lt) fr)
    have dg0h0 := Lib.hid (Dj.of (rg0.out.lt) fr)
    have dt16h0 := Lib.hid (Dj.of (rt16.out.lt) fr)
    have fh0 := Lib.hid (Fr.of hB.out fr)
    clear fr
    replace hB := Lib.hid (Below.next hB.out b)
    replace rw0 := Lib.hid (rw0.out.next b)
    replace rg0 := Lib.hid (rg0.out.next b)
    replace rt16 := Lib.hid (rt16.out.next b)
    clear b
    replace rh0 := Lib.hid rh0
    clear rt16 ft16
    clear dg0t16 dt16h0 dw0t16
    go_wp2_with fail
    refine (eqRecordS_law rh0.out rw0.out).mono ?_
    rintro e W19 ⟨rfl, b⟩
    replace hB := Lib.hid (Below.next hB.out b)
    replace rw0 := Lib.hid (rw0.out.next b)
    replace rg0 := Lib.hid (rg0.out.next b)
    replace rh0 := Lib.hid (rh0.out.next b)
    clear b
    clear rw0 fw0
    clear dw0g0 dw0h0
    clear rh0 fh0
    clear dg0h0
    go_wp2_with fail
    refine (heldRecordS_law rg0.out hmg0.out (by omega) (by omega)).mono ?_
    rintro e W20 ⟨rfl, b⟩
    replace hB := Lib.hid (Below.next hB.out b)
    replace rg0 := Lib.hid (rg0.out.next b)
    clear b
    clear rg0 fg0
    go_wp2
    go_ret
    exact ⟨rfl, hB.out⟩
  · go_enter Try.func7, Try.ntmps7
    have hB := Lib.hid (Below.refl w.heap.size w)
    go_wp2_with fail
    refine (szRecordS_no (DaList.out.next hB.out) (by omega) (by omega) (by omega)).mono ?_
    rintro e _ ⟨rfl, b⟩
    replace hB := Lib.hid (Below.next hB.out b)
    clear b
    go_wp2
    go_ret
    exact ⟨rfl, hB.out⟩

set_option maxRecDepth 100000 in
theorem lifted (os : Os) (started : os.Started) (H : Type) (enc : TypeId × Value → H) :
    ReturnsInHanded {} Try.checked os 7 .any (Rows.fnExactAdaptiveSortSpec.pre6 enc Try.prog Try.f7 Rows.fnExactAdaptiveSortRow.domain false) (Rows.fnExactAdaptiveSortSpec.post enc Try.prog Try.f7 false true false false) := by
  refine returnsInHanded_of_change (C := Try.checked) own started (by kernel_rfl) Try.func7
    (ChangeSpec.witness6 (enc := enc) (C := Try.checked) false ⟨#[], #[.slice none 0 0], []⟩ 8 (by kernel_rfl) (by kernel_rfl) (by kernel_rfl) (by kernel_rfl)) ?_
  intro W base args ds gs before hval0 hW hcnd _
  have hval : ∀ (j : Nat) t v, Try.f7.params[j]? = some t → args[j]? = some v → Value.okWide Try.prog W .any base t v := hval0
  have hW' := hW
  obtain ⟨p, q, hA0, hV, rfl, hfz, hnd⟩ := hW
  have hA : DataW.TrodAll enc Try.prog W 0 (fun _ => true) true Try.f7.params.toList args.toList ds p := hA0
  rw [Try.params7] at hA hval
  obtain ⟨v0, vs0, d0, ds0, p0, q0, hargs, rfl, rfl, h0, r0⟩ := trodAll_cons hA
  obtain ⟨rfl, rfl, rfl⟩ := trodAll_nil r0
  obtain rfl : args = #[v0] := by cases args; simp_all
  obtain ⟨rfl, rfl⟩ := trodVars_none hV
  have k0 := h0
  have lt0 : ∀ x ∈ p0, x.block < W.heap.size := by obtain ⟨m, hm⟩ := k0; exact DataW.trod_lt m _ _ _ hm
  obtain ⟨x0, D0⟩ := argRecordS (hval 0 41 v0 rfl rfl) h0
  clear hA0 hval0
  refine (walk v0 x0 W D0).mono fun e W' ⟨he, bel⟩ => ?_
  subst he
  exact ⟨_, rfl, _, _, _, [], _, [], hW', trodAll_mk1 (shut_bool Try.underlying4 _), (trodAll_cons_mk (Below.trod laidOut (by kernel_rfl) (of_decide_eq_true (by kernel_rfl)) k0 bel lt0) trodAll_mk0), rfl, bel.frame _, fun h => by cases h⟩

theorem over : Rows.fnExactAdaptiveSortRow.holds Try.pinned (OpenSpec.ofChange Rows.fnExactAdaptiveSortSpec) :=
  OpenClaim.holds_of_wide 7 Try.f7 rfl rfl rfl rfl rfl rfl rfl ⟨rfl, rfl, rfl, rfl, rfl⟩ rfl rfl rfl rfl rfl (by kernel_rfl) Try.func7 (by kernel_rfl)
    (of_decide_eq_true (by kernel_rfl)) (by unfold Func.isWrapper; first | (rw [if_pos (by decide +kernel)]; kernel_rfl) | (rw [if_neg (by decide +kernel)]; exact ⟨rfl, rfl⟩))
    (fun os started H enc _ => lifted os started H enc)

theorem proved : Rows.FnExactAdaptiveSortSaid := over
end Go.Proofs.Ytdhcpoeopooejaa.fnExactAdaptiveSort
