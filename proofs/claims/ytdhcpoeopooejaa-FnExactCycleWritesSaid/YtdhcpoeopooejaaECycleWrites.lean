/- laws.FnExactCycleWrites returns true for every input, and its arguments read behind the call as they read before. No condition. -/
import Derived.Test.YtdhcpoeopooejaaFrame
import Derived.Test.YtdhcpoeopooejaaHInt
import Derived.Test.YtdhcpoeopooejaaCwI
namespace Go.Proofs.Ytdhcpoeopooejaa.fnExactCycleWrites
open Go.ChangeShapes Go.WideShapes Go.ChangeAt Go.RowKit
open Go.ChangeMaps (open_string shut_string)
set_option linter.unusedVariables false
set_option linter.unusedSimpArgs false

set_option maxHeartbeats 1000000 in
theorem walk (vaList : Value) (xaList : TIntS) (w : World) (DaList : DIntS w vaList xaList) :
    Calls Try.prog 3 #[vaList] w fun e w' => e = .returned (.bool true) ∧ Below w.heap.size w w' := by
  have laList := DaList.len
  obtain ⟨aoaList, caList, rfl⟩ := DaList.shape
  replace DaList := Lib.hid DaList
  by_cases haList : xaList.length ≤ 1048576
  · have hdaList : decide (1048576 < (xaList.length : Int)) = false := by simp; omega
    go_enter Try.func3, Try.ntmps3
    have hB := Lib.hid (Below.refl w.heap.size w)
    go_wp2_with fail
    refine (toIntS_law (DaList.out.next hB.out) (by first | exact haList | omega)).mono ?_
    rintro e W2 ⟨vt1, Ft1, rfl, rt1, fr, b⟩
    have ft1 := Lib.hid (Fr.of hB.out fr)
    clear fr
    replace hB := Lib.hid (Below.next hB.out b)
    clear b
    replace rt1 := Lib.hid rt1
    go_wp2_with fail
    refine (spec_CycleWrites_law rt1.out).mono ?_
    rintro e W3 ⟨rfl, b⟩
    replace hB := Lib.hid (Below.next hB.out b)
    replace rt1 := Lib.hid (rt1.out.next b)
    clear b
    clear rt1 ft1
    go_wp2_with fail
    refine (toIntS_law (DaList.out.next hB.out) (by first | exact haList | omega)).mono ?_
    rintro e W5 ⟨vx0, Fx0, rfl, rx0, fr, b⟩
    have fx0 := Lib.hid (Fr.of hB.out fr)
    clear fr
    replace hB := Lib.hid (Below.next hB.out b)
    clear b
    replace rx0 := Lib.hid rx0
    go_wp2_with fail
    refine (impl_CycleWrites_law rx0.out).mono ?_
    rintro e W6 ⟨rfl, b⟩
    replace hB := Lib.hid (Below.next hB.out b)
    replace rx0 := Lib.hid (rx0.out.next b)
    clear b
    go_wp2_with fail
    refine (toIntS_law (DaList.out.next hB.out) (by first | exact haList | omega)).mono ?_
    rintro e W8 ⟨vt7, Ft7, rfl, rt7, fr, b⟩
    have dx0t7 := Lib.hid (Dj.of (rx0.out.lt) fr)
    have ft7 := Lib.hid (Fr.of hB.out fr)
    clear fr
    replace hB := Lib.hid (Below.next hB.out b)
    replace rx0 := Lib.hid (rx0.out.next b)
    clear b
    replace rt7 := Lib.hid rt7
    go_wp2_with fail
    refine (eqIntS_law rx0.out rt7.out).mono ?_
    rintro e W9 ⟨rfl, b⟩
    replace hB := Lib.hid (Below.next hB.out b)
    replace rx0 := Lib.hid (rx0.out.next b)
    replace rt7 := Lib.hid (rt7.out.next b)
    clear b
    clear rx0 fx0
    clear dx0t7
    clear rt7 ft7
    go_wp2
    go_ret
    exact ⟨rfl, hB.out⟩
  · have hdaList : decide (1048576 < (xaList.length : Int)) = true := by simp; omega
    go_enter Try.func3, Try.ntmps3
    go_wp2
    go_ret
    exact ⟨rfl, Below.refl _ _⟩

set_option maxRecDepth 100000 in
theorem lifted (os : Os) (started : os.Started) (H : Type) (enc : TypeId × Value → H) :
    ReturnsInHanded {} Try.checked os 3 .any (Rows.fnExactCycleWritesSpec.pre6 enc Try.prog Try.f3 Rows.fnExactCycleWritesRow.domain false) (Rows.fnExactCycleWritesSpec.post enc Try.prog Try.f3 false true false false) := by
  refine returnsInHanded_of_change (C := Try.checked) own started (by kernel_rfl) Try.func3
    (ChangeSpec.witness6 (enc := enc) (C := Try.checked) false ⟨#[], #[.slice none 0 0], []⟩ 8 (by kernel_rfl) (by kernel_rfl) (by kernel_rfl) (by kernel_rfl)) ?_
  intro W base args ds gs before hval0 hW hcnd _
  have hval : ∀ (j : Nat) t v, Try.f3.params[j]? = some t → args[j]? = some v → Value.okWide Try.prog W .any base t v := hval0
  have hW' := hW
  obtain ⟨p, q, hA0, hV, rfl, hfz, hnd⟩ := hW
  have hA : DataW.TrodAll enc Try.prog W 0 (fun _ => true) true Try.f3.params.toList args.toList ds p := hA0
  rw [Try.params3] at hA hval
  obtain ⟨v0, vs0, d0, ds0, p0, q0, hargs, rfl, rfl, h0, r0⟩ := trodAll_cons hA
  obtain ⟨rfl, rfl, rfl⟩ := trodAll_nil r0
  obtain rfl : args = #[v0] := by cases args; simp_all
  obtain ⟨rfl, rfl⟩ := trodVars_none hV
  have k0 := h0
  have lt0 : ∀ x ∈ p0, x.block < W.heap.size := by obtain ⟨m, hm⟩ := k0; exact DataW.trod_lt m _ _ _ hm
  obtain ⟨x0, D0⟩ := argIntS (hval 0 22 v0 rfl rfl) h0
  clear hA0 hval0
  refine (walk v0 x0 W D0).mono fun e W' ⟨he, bel⟩ => ?_
  subst he
  exact ⟨_, rfl, _, _, _, [], _, [], hW', trodAll_mk1 (shut_bool Try.underlying4 _), (trodAll_cons_mk (Below.trod laidOut (by kernel_rfl) (of_decide_eq_true (by kernel_rfl)) k0 bel lt0) trodAll_mk0), rfl, bel.frame _, fun h => by cases h⟩

theorem over : Rows.fnExactCycleWritesRow.holds Try.pinned (OpenSpec.ofChange Rows.fnExactCycleWritesSpec) :=
  OpenClaim.holds_of_wide 3 Try.f3 rfl rfl rfl rfl rfl rfl rfl ⟨rfl, rfl, rfl, rfl, rfl⟩ rfl rfl rfl rfl rfl (by kernel_rfl) Try.func3 (by kernel_rfl)
    (of_decide_eq_true (by kernel_rfl)) (by unfold Func.isWrapper; first | (rw [if_pos (by decide +kernel)]; kernel_rfl) | (rw [if_neg (by decide +kernel)]; exact ⟨rfl, rfl⟩))
    (fun os started H enc _ => lifted os started H enc)

theorem proved : Rows.FnExactCycleWritesSaid := over
end Go.Proofs.Ytdhcpoeopooejaa.fnExactCycleWrites
