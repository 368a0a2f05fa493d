/- laws.FnExactApplyPermutation returns true for every input, and its arguments read behind the call as they read before. No condition. -/
import Derived.Test.YtkdengglllfcdaaFrame
import Derived.Test.YtkdengglllfcdaaHInt
import Derived.Test.YtkdengglllfcdaaApplyPerm
import Derived.Test.YtkdengglllfcdaaValid
namespace Go.Proofs.Ytkdengglllfcdaa.fnExactApplyPermutation
open Go.ChangeShapes Go.WideShapes Go.ChangeAt Go.RowKit
open Go.ChangeMaps (open_string shut_string)
set_option linter.unusedVariables false
set_option linter.unusedSimpArgs false

set_option maxHeartbeats 1000000 in
theorem walk (vaP : Value) (xaP : TIntS) (vaList : Value) (xaList : TIntS) (w : World) (DaP : DIntS w vaP xaP) (DaList : DIntS w vaList xaList) :
    Calls Try.prog 5 #[vaP, vaList] w fun e w' => e = .returned (.bool true) ∧ Below w.heap.size w w' := by
  have laP := DaP.len
  obtain ⟨aoaP, caP, rfl⟩ := DaP.shape
  replace DaP := Lib.hid DaP
  have laList := DaList.len
  obtain ⟨aoaList, caList, rfl⟩ := DaList.shape
  replace DaList := Lib.hid DaList
  by_cases haP : xaP.length ≤ 1048576
  · have hdaP : decide (1048576 < (xaP.length : Int)) = false := by simp; omega
    by_cases haList : xaList.length ≤ 1048576
    · have hdaList : decide (1048576 < (xaList.length : Int)) = false := by simp; omega
      go_enter Try.func5, Try.ntmps5
      have hB := Lib.hid (Below.refl w.heap.size w)
      go_wp2_with fail
      refine (toIntS_law (DaP.out.next hB.out) (by first | exact haP | omega)).mono ?_
      rintro e W2 ⟨vt1, Ft1, rfl, rt1, fr, b⟩
      have ft1 := Lib.hid (Fr.of hB.out fr)
      clear fr
      replace hB := Lib.hid (Below.next hB.out b)
      clear b
      replace rt1 := Lib.hid rt1
      go_wp2_with fail
      refine (toIntS_law (DaList.out.next hB.out) (by first | exact haList | omega)).mono ?_
      rintro e W4 ⟨vt3, Ft3, rfl, rt3, fr, b⟩
      have dt1t3 := Lib.hid (Dj.of (rt1.out.lt) fr)
      have ft3 := Lib.hid (Fr.of hB.out fr)
      clear fr
      replace hB := Lib.hid (Below.next hB.out b)
      replace rt1 := Lib.hid (rt1.out.next b)
      clear b
      replace rt3 := Lib.hid rt3
      go_wp2_with fail
      refine (spec_ApplyPermutation_law rt1.out rt3.out).mono ?_
      rintro e W5 ⟨vw0, Fw0, rfl, rw0, fr, b, lnw0⟩
      have dt1w0 := Lib.hid (Dj.of (rt1.out.lt) fr)
      have dt3w0 := Lib.hid (Dj.of (rt3.out.lt) fr)
      have fw0 := Lib.hid (Fr.of hB.out fr)
      clear fr
      replace hB := Lib.hid (Below.next hB.out b)
      replace rt1 := Lib.hid (rt1.out.next b)
      replace rt3 := Lib.hid (rt3.out.next b)
      clear b
      replace rw0 := Lib.hid rw0
      clear rt1 ft1
      clear dt1t3 dt1w0
      clear rt3 ft3
      clear dt3w0
      go_wp2_with fail
      refine (toIntS_law (DaP.out.next hB.out) (by first | exact haP | omega)).mono ?_
      rintro e W7 ⟨vx0, Fx0, rfl, rx0, fr, b⟩
      have dw0x0 := Lib.hid (Dj.of (rw0.out.lt) fr)
      have fx0 := Lib.hid (Fr.of hB.out fr)
      clear fr
      replace hB := Lib.hid (Below.next hB.out b)
      replace rw0 := Lib.hid (rw0.out.next b)
      clear b
      replace rx0 := Lib.hid rx0
      go_wp2_with fail
      refine (toIntS_law (DaList.out.next hB.out) (by first | exact haList | omega)).mono ?_
      rintro e W9 ⟨vx1, Fx1, rfl, rx1, fr, b⟩
      have dw0x1 := Lib.hid (Dj.of (rw0.out.lt) fr)
      have dx0x1 := Lib.hid (Dj.of (rx0.out.lt) fr)
      have fx1 := Lib.hid (Fr.of hB.out fr)
      clear fr
      replace hB := Lib.hid (Below.next hB.out b)
      replace rw0 := Lib.hid (rw0.out.next b)
      replace rx0 := Lib.hid (rx0.out.next b)
      clear b
      replace rx1 := Lib.hid rx1
      go_wp2_with fail
      refine (impl_ApplyPermutation_law rx0.out rx1.out).mono ?_
      rintro e W10 ⟨vg0, Fg0, rfl, rg0, fr, b, lng0⟩
      have dw0g0 := Lib.hid (Dj.of (rw0.out.lt) fr)
      have dx0g0 := Lib.hid (Dj.of (rx0.out.lt) fr)
      have dx1g0 := Lib.hid (Dj.of (rx1.out.lt) fr)
      have fg0 := Lib.hid (Fr.of hB.out fr)
      clear fr
      replace hB := Lib.hid (Below.next hB.out b)
      replace rw0 := Lib.hid (rw0.out.next b)
      replace rx0 := Lib.hid (rx0.out.next b)
      replace rx1 := Lib.hid (rx1.out.next b)
      clear b
      replace rg0 := Lib.hid rg0
      go_wp2_with fail
      refine (eqIntS_law rg0.out rw0.out).mono ?_
      rintro e W11 ⟨rfl, b⟩
      replace hB := Lib.hid (Below.next hB.out b)
      replace rw0 := Lib.hid (rw0.out.next b)
      replace rx0 := Lib.hid (rx0.out.next b)
      replace rx1 := Lib.hid (rx1.out.next b)
      replace rg0 := Lib.hid (rg0.out.next b)
      clear b
      go_wp2_with fail
      refine (toIntS_law (DaP.out.next hB.out) (by first | exact haP | omega)).mono ?_
      rintro e W13 ⟨vt12, Ft12, rfl, rt12, fr, b⟩
      have dw0t12 := Lib.hid (Dj.of (rw0.out.lt) fr)
      have dx0t12 := Lib.hid (Dj.of (rx0.out.lt) fr)
      have dx1t12 := Lib.hid (Dj.of (rx1.out.lt) fr)
      have dg0t12 := Lib.hid (Dj.of (rg0.out.lt) fr)
      have ft12 := Lib.hid (Fr.of hB.out fr)
      clear fr
      replace hB := Lib.hid (Below.next hB.out b)
      replace rw0 := Lib.hid (rw0.out.next b)
      replace rx0 := Lib.hid (rx0.out.next b)
      replace rx1 := Lib.hid (rx1.out.next b)
      replace rg0 := Lib.hid (rg0.out.next b)
      clear b
      replace rt12 := Lib.hid rt12
      go_wp2_with fail
      refine (eqIntS_law rx0.out rt12.out).mono ?_
      rintro e W14 ⟨rfl, b⟩
      replace hB := Lib.hid (Below.next hB.out b)
      replace rw0 := Lib.hid (rw0.out.next b)
      replace rx0 := Lib.hid (rx0.out.next b)
      replace rx1 := Lib.hid (rx1.out.next b)
      replace rg0 := Lib.hid (rg0.out.next b)
      replace rt12 := Lib.hid (rt12.out.next b)
      clear b
      clear rt12 ft12
      clear dw0t12 dx1t12 dg0t12 dx0t12
      go_wp2_with fail
      refine (toIntS_law (DaList.out.next hB.out) (by first | exact haList | omega)).mono ?_
      rintro e W16 ⟨vt15, Ft15, rfl, rt15, fr, b⟩
      have dw0t15 := Lib.hid (Dj.of (rw0.out.lt) fr)
      have dx0t15 := Lib.hid (Dj.of (rx0.out.lt) fr)
      have dx1t15 := Lib.hid (Dj.of (rx1.out.lt) fr)
      have dg0t15 := Lib.hid (Dj.of (rg0.out.lt) fr)
      have ft15 := Lib.hid (Fr.of hB.out fr)
      clear fr
      replace hB := Lib.hid (Below.next hB.out b)
      replace rw0 := Lib.hid (rw0.out.next b)
      replace rx0 := Lib.hid (rx0.out.next b)
      replace rx1 := Lib.hid (rx1.out.next b)
      replace rg0 := Lib.hid (rg0.out.next b)
      clear b
      replace rt15 := Lib.hid rt15
      go_wp2_with fail
      refine (eqIntS_law rx1.out rt15.out).mono ?_
      rintro e W17 ⟨rfl, b⟩
      replace hB := Lib.hid (Below.next hB.out b)
      replace rw0 := Lib.hid (rw0.out.next b)
      replace rx0 := Lib.hid (rx0.out.next b)
      replace rx1 := Lib.hid (rx1.out.next b)
      replace rg0 := Lib.hid (rg0.out.next b)
      replace rt15 := Lib.hid (rt15.out.next b)
      clear b
      clear rt15 ft15
      clear dw0t15 dx1t15 dx0t15 dg0t15
      go_wp2_with fail
      refine (markIntS_law rx0.out (by omega) (by omega) (by omega)).mono ?_
      rintro e W18 ⟨yx0, nx0, rfl, rmx0, hmx0, lpx0, lmx0, ex⟩
      replace hB := Lib.hid (Below.ex hB.out ex fx0.out)
      replace rw0 := Lib.hid (rw0.out.ex ex dw0x0.out)
      replace rx1 := Lib.hid (rx1.out.ex ex dx0x1.out.symm)
      replace rg0 := Lib.hid (rg0.out.ex ex dx0g0.out.symm)
      clear ex rx0
      have rx0 := Lib.hid rmx0
      clear rmx0
      replace hmx0 := Lib.hid hmx0
      clear rx0 fx0
      clear dx0g0 dw0x0 dx0x1
      go_wp2_with fail
      refine (markIntS_law rx1.out (by omega) (by omega) (by omega)).mono ?_
      rintro e W19 ⟨yx1, nx1, rfl, rmx1, hmx1, lpx1, lmx1, ex⟩
      replace hB := Lib.hid (Below.ex hB.out ex fx1.out)
      replace rw0 := Lib.hid (rw0.out.ex ex dw0x1.out)
      replace rg0 := Lib.hid (rg0.out.ex ex dx1g0.out.symm)
      clear ex rx1
      have rx1 := Lib.hid rmx1
      clear rmx1
      replace hmx1 := Lib.hid hmx1
      clear rx1 fx1
      clear dw0x1 dx1g0
      go_wp2_with fail
      refine (eqIntS_law rg0.out rw0.out).mono ?_
      rintro e W20 ⟨rfl, b⟩
      replace hB := Lib.hid (Below.next hB.out b)
      replace rw0 := Lib.hid (rw0.out.next b)
      replace rg0 := Lib.hid (rg0.out.next b)
      clear b
      go_wp2_with fail
      refine (markIntS_law rg0.out (by omega) (by omega) (by omega)).mono ?_
      rintro e W21 ⟨yg0, ng0, rfl, rmg0, hmg0, lpg0, lmg0, ex⟩
      replace hB := Lib.hid (Below.ex hB.out ex fg0.out)
      replace rw0 := Lib.hid (rw0.out.ex ex dw0g0.out)
      clear ex rg0
      have rg0 := Lib.hid rmg0
      clear rmg0
      replace hmg0 := Lib.hid hmg0
      go_wp2_with fail
      refine (heldIntS_law rg0.out hmg0.out (by omega) (by omega)).mono ?_
      rintro e W22 ⟨rfl, b⟩
      replace hB := Lib.hid (Below.next hB.out b)
      replace rw0 := Lib.hid (rw0.out.next b)
      replace rg0 := Lib.hid (rg0.out.next b)
      clear b
      go_wp2_with fail
      refine (toIntS_law (DaP.out.next hB.out) (by first | exact haP | omega)).mono ?_
      rintro e W24 ⟨vt23, Ft23, rfl, rt23, fr, b⟩
      have dw0t23 := Lib.hid (Dj.of (rw0.out.lt) fr)
      have dg0t23 := Lib.hid (Dj.of (rg0.out.lt) fr)
      have ft23 := Lib.hid (Fr.of hB.out fr)
      clear fr
      replace hB := Lib.hid (Below.next hB.out b)
      replace rw0 := Lib.hid (rw0.out.next b)
      replace rg0 := Lib.hid (rg0.out.next b)
      clear b
      replace rt23 := Lib.hid rt23
      go_wp2_with fail
      refine (toIntS_law (DaList.out.next hB.out) (by first | exact haList | omega)).mono ?_
      rintro e W26 ⟨vt25, Ft25, rfl, rt25, fr, b⟩
      have dw0t25 := Lib.hid (Dj.of (rw0.out.lt) fr)
      have dg0t25 := Lib.hid (Dj.of (rg0.out.lt) fr)
      have dt23t25 := Lib.hid (Dj.of (rt23.out.lt) fr)
      have ft25 := Lib.hid (Fr.of hB.out fr)
      clear fr
      replace hB := Lib.hid (Below.next hB.out b)
      replace rw0 := Lib.hid (rw0.out.next b)
      replace rg0 := Lib.hid (rg0.out.next b)
      replace rt23 := Lib.hid (rt23.out.next b)
      clear b
      replace rt25 := Lib.hid rt25
      go_wp2_with fail
      refine (impl_ApplyPermutation_law rt23.out rt25.out).mono ?_
      rintro e W27 ⟨vh0, Fh0, rfl, rh0, fr, b, lnh0⟩
      have dw0h0 := Lib.hid (Dj.of (rw0.out.lt) fr)
      have dg0h0 := Lib.hid (Dj.of (rg0.out.lt) fr)
      have dt23h0 := Lib.hid (Dj.of (rt23.out.lt) fr)
      have dt25h0 := Lib.hid (Dj.of (rt25.out.lt) fr)
      have fh0 := Lib.hid (Fr.of hB.out fr)
      clear fr
      replace hB := Lib.hid (Below.next hB.out b)
      replace rw0 := Lib.hid (rw0.out.next b)
      replace rg0 := Lib.hid (rg0.out.next b)
      replace rt23 := Lib.hid (rt23.out.next b)
      replace rt25 := Lib.hid (rt25.out.next b)
      clear b
      replace rh0 := Lib.hid rh0
      clear rt23 ft23
      clear dt23h0 dt23t25 dw0t23 dg0t23
      clear rt25 ft25
      clear dg0t25 dw0t25 dt25h0
      go_wp2_with fail
      refine (eqIntS_law rh0.out rw0.out).mono ?_
      rintro e W28 ⟨rfl, b⟩
      replace hB := Lib.hid (Below.next hB.out b)
      replace rw0 := Lib.hid (rw0.out.next b)
      replace rg0 := Lib.hid (rg0.out.next b)
      replace rh0 := Lib.hid (rh0.out.next b)
      clear b
      clear rw0 fw0
      clear dw0g0 dw0h0
      clear rh0 fh0
      clear dg0h0
      go_wp2_with fail
      refine (heldIntS_law rg0.out hmg0.out (by omega) (by omega)).mono ?_
      rintro e W29 ⟨rfl, b⟩
      replace hB := Lib.hid (Below.next hB.out b)
      replace rg0 := Lib.hid (rg0.out.next b)
      clear b
      clear rg0 fg0
      go_wp2
      go_ret
      exact ⟨rfl, hB.out⟩
    · have hdaList : decide (1048576 < (xaList.length : Int)) = true := by simp; omega
      go_enter Try.func5, Try.ntmps5
      go_wp2
      go_ret
      exact ⟨rfl, Below.refl _ _⟩
  · have hdaP : decide (1048576 < (xaP.length : Int)) = true := by simp; omega
    go_enter Try.func5, Try.ntmps5
    go_wp2
    go_ret
    exact ⟨rfl, Below.refl _ _⟩

set_option maxRecDepth 100000 in
theorem lifted (os : Os) (started : os.Started) (H : Type) (enc : TypeId × Value → H) :
    ReturnsInHanded {} Try.checked os 5 .any (Rows.fnExactApplyPermutationSpec.pre6 enc Try.prog Try.f5 Rows.fnExactApplyPermutationRow.domain false) (Rows.fnExactApplyPermutationSpec.post enc Try.prog Try.f5 false true false false) := by
  refine returnsInHanded_of_change (C := Try.checked) own started (by kernel_rfl) Try.func5
    (ChangeSpec.witness6 (enc := enc) (C := Try.checked) false ⟨#[], #[.slice none 0 0, .slice none 0 0], []⟩ 8 (by kernel_rfl) (by kernel_rfl) (by kernel_rfl) (by kernel_rfl)) ?_
  intro W base args ds gs before hval0 hW hcnd _
  have hval : ∀ (j : Nat) t v, Try.f5.params[j]? = some t → args[j]? = some v → Value.okWide Try.prog W .any base t v := hval0
  have hW' := hW
  obtain ⟨p, q, hA0, hV, rfl, hfz, hnd⟩ := hW
  have hA : DataW.TrodAll enc Try.prog W 0 (fun _ => true) true Try.f5.params.toList args.toList ds p := hA0
  rw [Try.params5] at hA hval
  obtain ⟨v0, vs0, d0, ds0, p0, q0, hargs, rfl, rfl, h0, r0⟩ := trodAll_cons hA
  obtain ⟨v1, vs1, d1, ds1, p1, q1, rfl, rfl, rfl, h1, r1⟩ := trodAll_cons r0
  obtain ⟨rfl, rfl, rfl⟩ := trodAll_nil r1
  obtain rfl : args = #[v0, v1] := by cases args; simp_all
  obtain ⟨rfl, rfl⟩ := trodVars_none hV
  have k0 := h0
  have lt0 : ∀ x ∈ p0, x.block < W.heap.size := by obtain ⟨m, hm⟩ := k0; exact DataW.trod_lt m _ _ _ hm
  obtain ⟨x0, D0⟩ := argIntS (hval 0 22 v0 rfl rfl) h0
  have k1 := h1
  have lt1 : ∀ x ∈ p1, x.block < W.heap.size := by obtain ⟨m, hm⟩ := k1; exact DataW.trod_lt m _ _ _ hm
  obtain ⟨x1, D1⟩ := argIntS (hval 1 22 v1 rfl rfl) h1
  clear hA0 hval0
  refine (walk v0 x0 v1 x1 W D0 D1).mono fun e W' ⟨he, bel⟩ => ?_
  subst he
  exact ⟨_, rfl, _, _, _, [], _, [], hW', trodAll_mk1 (shut_bool Try.underlying4 _), (trodAll_cons_mk (Below.trod laidOut (by kernel_rfl) (of_decide_eq_true (by kernel_rfl)) k0 bel lt0) (trodAll_cons_mk (Below.trod laidOut (by kernel_rfl) (of_decide_eq_true (by kernel_rfl)) k1 bel lt1) trodAll_mk0)), rfl, bel.frame _, fun h => by cases h⟩

theorem over : Rows.fnExactApplyPermutationRow.holds Try.pinned (OpenSpec.ofChange Rows.fnExactApplyPermutationSpec) :=
  OpenClaim.holds_of_wide 5 Try.f5 rfl rfl rfl rfl rfl rfl rfl ⟨rfl, rfl, rfl, rfl, rfl⟩ rfl rfl rfl rfl rfl (by kernel_rfl) Try.func5 (by kernel_rfl)
    (of_decide_eq_true (by kernel_rfl)) (by unfold Func.isWrapper; first | (rw [if_pos (by decide +kernel)]; kernel_rfl) | (rw [if_neg (by decide +kernel)]; exact ⟨rfl, rfl⟩))
    (fun os started H enc _ => lifted os started H enc)

theorem proved : Rows.FnExactApplyPermutationSaid := over
end Go.Proofs.Ytkdengglllfcdaa.fnExactApplyPermutation
