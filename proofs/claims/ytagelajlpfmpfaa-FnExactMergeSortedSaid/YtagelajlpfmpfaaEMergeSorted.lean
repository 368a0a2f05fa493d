/- laws.FnExactMergeSorted returns true for every input, and its arguments read behind the call as they read before. No condition. -/
import Derived.Test.YtagelajlpfmpfaaFrame
import Derived.Test.YtagelajlpfmpfaaHRecord
import Derived.Test.YtagelajlpfmpfaaMarkRecord
import Derived.Test.YtagelajlpfmpfaaMSorted
namespace Go.Proofs.Ytagelajlpfmpfaa.fnExactMergeSorted
open Go.ChangeShapes Go.WideShapes Go.ChangeAt Go.RowKit
open Go.ChangeMaps (open_string shut_string)
set_option linter.unusedVariables false
set_option linter.unusedSimpArgs false

set_option maxHeartbeats 1000000 in
theorem walk (vaA : Value) (xaA : TRecordS) (vaB : Value) (xaB : TRecordS) (w : World) (DaA : DRecordS w vaA xaA) (DaB : DRecordS w vaB xaB) :
    Calls Try.prog 12 #[vaA, vaB] w fun e w' => e = .returned (.bool true) ∧ Below w.heap.size w w' := by
  obtain ⟨aoaA, caA, rfl⟩ := DaA.shape
  replace DaA := Lib.hid DaA
  obtain ⟨aoaB, caB, rfl⟩ := DaB.shape
  replace DaB := Lib.hid DaB
  by_cases haA : szRecordS xaA ≤ 1048576
  · have hdaA : True := trivial
    by_cases haB : szRecordS xaA + szRecordS xaB ≤ 1048576
    · have hdaB : True := trivial
      go_enter Try.func12, Try.ntmps12
      have hB := Lib.hid (Below.refl w.heap.size w)
      go_wp2_with fail
      refine (szRecordS_yes (DaA.out.next hB.out) (by omega) (by omega)).mono ?_
      rintro e W1 ⟨rfl, b⟩
      replace hB := Lib.hid (Below.next hB.out b)
      clear b
      go_wp2_with fail
      refine (szRecordS_yes (DaB.out.next hB.out) (by omega) (by omega)).mono ?_
      rintro e W2 ⟨rfl, b⟩
      replace hB := Lib.hid (Below.next hB.out b)
      clear b
      go_wp2_with fail
      refine (toRecordS_law (DaA.out.next hB.out) (by first | exact haA | omega)).mono ?_
      rintro e W4 ⟨vt3, Ft3, rfl, rt3, fr, b⟩
      have ft3 := Lib.hid (Fr.of hB.out fr)
      clear fr
      replace hB := Lib.hid (Below.next hB.out b)
      clear b
      replace rt3 := Lib.hid rt3
      go_wp2_with fail
      refine (toRecordS_law (DaB.out.next hB.out) (by first | exact haB | omega)).mono ?_
      rintro e W6 ⟨vt5, Ft5, rfl, rt5, fr, b⟩
      have dt3t5 := Lib.hid (Dj.of (rt3.out.lt) fr)
      have ft5 := Lib.hid (Fr.of hB.out fr)
      clear fr
      replace hB := Lib.hid (Below.next hB.out b)
      replace rt3 := Lib.hid (rt3.out.next b)
      clear b
      replace rt5 := Lib.hid rt5
      go_wp2_with fail
      refine (spec_MergeSorted_law rt3.out rt5.out).mono ?_
      rintro e W7 ⟨vw0, Fw0, rfl, rw0, fr, b, lnw0⟩
      have dt3w0 := Lib.hid (Dj.of (rt3.out.lt) fr)
      have dt5w0 := Lib.hid (Dj.of (rt5.out.lt) fr)
      have fw0 := Lib.hid (Fr.of hB.out fr)
      clear fr
      replace hB := Lib.hid (Below.next hB.out b)
      replace rt3 := Lib.hid (rt3.out.next b)
      replace rt5 := Lib.hid (rt5.out.next b)
      clear b
      replace rw0 := Lib.hid rw0
      clear rt3 ft3
      clear dt3w0 dt3t5
      clear rt5 ft5
      clear dt5w0
      go_wp2_with fail
      refine (toRecordS_law (DaA.out.next hB.out) (by first | exact haA | omega)).mono ?_
      rintro e W9 ⟨vx0, Fx0, rfl, rx0, fr, b⟩
      have dw0x0 := Lib.hid (Dj.of (rw0.out.lt) fr)
      have fx0 := Lib.hid (Fr.of hB.out fr)
      clear fr
      replace hB := Lib.hid (Below.next hB.out b)
      replace rw0 := Lib.hid (rw0.out.next b)
      clear b
      replace rx0 := Lib.hid rx0
      go_wp2_with fail
      refine (toRecordS_law (DaB.out.next hB.out) (by first | exact haB | omega)).mono ?_
      rintro e W11 ⟨vx1, Fx1, rfl, rx1, fr, b⟩
      have dw0x1 := Lib.hid (Dj.of (rw0.out.lt) fr)
      have dx0x1 := Lib.hid (Dj.of (rx0.out.lt) fr)
      have fx1 := Lib.hid (Fr.of hB.out fr)
      clear fr
      replace hB := Lib.hid (Below.next hB.out b)
      replace rw0 := Lib.hid (rw0.out.next b)
      replace rx0 := Lib.hid (rx0.out.next b)
      clear b
      replace rx1 := Lib.hid rx1
      go_wp2_with fail
      refine (impl_MergeSorted_law rx0.out rx1.out).mono ?_
      rintro e W12 ⟨vg0, Fg0, rfl, rg0, fr, b, lng0⟩
      have dw0g0 := Lib.hid (Dj.of (rw0.out.lt) fr)
      have dx0g0 := Lib.hid (Dj.of (rx0.out.lt) fr)
      have dx1g0 := Lib.hid (Dj.of (rx1.out.lt) fr)
      have fg0 := Lib.hid (Fr.of hB.out fr)
      clear fr
      replace hB := Lib.hid (Below.next hB.out b)
      replace rw0 := Lib.hid (rw0.out.next b)
      replace rx0 := Lib.hid (rx0.out.next b)
      replace rx1 := Lib.hid (rx1.out.next b)
      clear b
      replace rg0 := Lib.hid rg0
      go_wp2_with fail
      refine (eqRecordS_law rg0.out rw0.out).mono ?_
      rintro e W13 ⟨rfl, b⟩
      replace hB := Lib.hid (Below.next hB.out b)
      replace rw0 := Lib.hid (rw0.out.next b)
      replace rx0 := Lib.hid (rx0.out.next b)
      replace rx1 := Lib.hid (rx1.out.next b)
      replace rg0 := Lib.hid (rg0.out.next b)
      clear b
      go_wp2_with fail
      refine (toRecordS_law (DaA.out.next hB.out) (by first | exact haA | omega)).mono ?_
      rintro e W15 ⟨vt14, Ft14, rfl, rt14, fr, b⟩
      have dw0t14 := Lib.hid (Dj.of (rw0.out.lt) fr)
      have dx0t14 := Lib.hid (Dj.of (rx0.out.lt) fr)
      have dx1t14 := Lib.hid (Dj.of (rx1.out.lt) fr)
      have dg0t14 := Lib.hid (Dj.of (rg0.out.lt) fr)
      have ft14 := Lib.hid (Fr.of hB.out fr)
      clear fr
      replace hB := Lib.hid (Below.next hB.out b)
      replace rw0 := Lib.hid (rw0.out.next b)
      replace rx0 := Lib.hid (rx0.out.next b)
      replace rx1 := Lib.hid (rx1.out.next b)
      replace rg0 := Lib.hid (rg0.out.next b)
      clear b
      replace rt14 := Lib.hid rt14
      go_wp2_with fail
      refine (eqRecordS_law rx0.out rt14.out).mono ?_
      rintro e W16 ⟨rfl, b⟩
      replace hB := Lib.hid (Below.next hB.out b)
      replace rw0 := Lib.hid (rw0.out.next b)
      replace rx0 := Lib.hid (rx0.out.next b)
      replace rx1 := Lib.hid (rx1.out.next b)
      replace rg0 := Lib.hid (rg0.out.next b)
      replace rt14 := Lib.hid (rt14.out.next b)
      clear b
      clear rt14 ft14
      clear dw0t14 dg0t14 dx1t14 dx0t14
      go_wp2_with fail
      refine (toRecordS_law (DaB.out.next hB.out) (by first | exact haB | omega)).mono ?_
      rintro e W18 ⟨vt17, Ft17, rfl, rt17, fr, b⟩
      have dw0t17 := Lib.hid (Dj.of (rw0.out.lt) fr)
      have dx0t17 := Lib.hid (Dj.of (rx0.out.lt) fr)
      have dx1t17 := Lib.hid (Dj.of (rx1.out.lt) fr)
      have dg0t17 := Lib.hid (Dj.of (rg0.out.lt) fr)
      have ft17 := Lib.hid (Fr.of hB.out fr)
      clear fr
      replace hB := Lib.hid (Below.next hB.out b)
      replace rw0 := Lib.hid (rw0.out.next b)
      replace rx0 := Lib.hid (rx0.out.next b)
      replace rx1 := Lib.hid (rx1.out.next b)
      replace rg0 := Lib.hid (rg0.out.next b)
      clear b
      replace rt17 := Lib.hid rt17
      go_wp2_with fail
      refine (eqRecordS_law rx1.out rt17.out).mono ?_
      rintro e W19 ⟨rfl, b⟩
      replace hB := Lib.hid (Below.next hB.out b)
      replace rw0 := Lib.hid (rw0.out.next b)
      replace rx0 := Lib.hid (rx0.out.next b)
      replace rx1 := Lib.hid (rx1.out.next b)
      replace rg0 := Lib.hid (rg0.out.next b)
      replace rt17 := Lib.hid (rt17.out.next b)
      clear b
      clear rt17 ft17
      clear dx0t17 dg0t17 dx1t17 dw0t17
      go_wp2_with fail
      refine (markRecordS_law rx0.out (by omega) (by omega) (by omega)).mono ?_
      rintro e W20 ⟨yx0, nx0, rfl, rmx0, hmx0, lpx0, lmx0, ex⟩
      replace hB := Lib.hid (Below.ex hB.out ex fx0.out)
      replace rw0 := Lib.hid (rw0.out.ex ex dw0x0.out)
      replace rx1 := Lib.hid (rx1.out.ex ex dx0x1.out.symm)
      replace rg0 := Lib.hid (rg0.out.ex ex dx0g0.out.symm)
      clear ex rx0
      have rx0 := Lib.hid rmx0
      clear rmx0
      replace hmx0 := Lib.hid hmx0
      clear rx0 fx0
      clear dx0g0 dw0x0 dx0x1
      go_wp2_with fail
      refine (markRecordS_law rx1.out (by omega) (by omega) (by omega)).mono ?_
      rintro e W21 ⟨yx1, nx1, rfl, rmx1, hmx1, lpx1, lmx1, ex⟩
      replace hB := Lib.hid (Below.ex hB.out ex fx1.out)
      replace rw0 := Lib.hid (rw0.out.ex ex dw0x1.out)
      replace rg0 := Lib.hid (rg0.out.ex ex dx1g0.out.symm)
      clear ex rx1
      have rx1 := Lib.hid rmx1
      clear rmx1
      replace hmx1 := Lib.hid hmx1
      clear rx1 fx1
      clear dx1g0 dw0x1
      go_wp2_with fail
      refine (eqRecordS_law rg0.out rw0.out).mono ?_
      rintro e W22 ⟨rfl, b⟩
      replace hB := Lib.hid (Below.next hB.out b)
      replace rw0 := Lib.hid (rw0.out.next b)
      replace rg0 := Lib.hid (rg0.out.next b)
      clear b
      go_wp2_with fail
      refine (markRecordS_law rg0.out (by omega) (by omega) (by omega)).mono ?_
      rintro e W23 ⟨yg0, ng0, rfl, rmg0, hmg0, lpg0, lmg0, ex⟩
      replace hB := Lib.hid (Below.ex hB.out ex fg0.out)
      replace rw0 := Lib.hid (rw0.out.ex ex dw0g0.out)
      clear ex rg0
      have rg0 := Lib.hid rmg0
      clear rmg0
      replace hmg0 := Lib.hid hmg0
      go_wp2_with fail
      refine (heldRecordS_law rg0.out hmg0.out (by omega) (by omega)).mono ?_
      rintro e W24 ⟨rfl, b⟩
      replace hB := Lib.hid (Below.next hB.out b)
      replace rw0 := Lib.hid (rw0.out.next b)
      replace rg0 := Lib.hid (rg0.out.next b)
      clear b
      go_wp2_with fail
      refine (toRecordS_law (DaA.out.next hB.out) (by first | exact haA | omega)).mono ?_
      rintro e W26 ⟨vt25, Ft25, rfl, rt25, fr, b⟩
      have dw0t25 := Lib.hid (Dj.of (rw0.out.lt) fr)
      have dg0t25 := Lib.hid (Dj.of (rg0.out.lt) fr)
      have ft25 := Lib.hid (Fr.of hB.out fr)
      clear fr
      replace hB := Lib.hid (Below.next hB.out b)
      replace rw0 := Lib.hid (rw0.out.next b)
      replace rg0 := Lib.hid (rg0.out.next b)
      clear b
      replace rt25 := Lib.hid rt25
      go_wp2_with fail
      refine (toRecordS_law (DaB.out.next hB.out) (by first | exact haB | omega)).mono ?_
      rintro e W28 ⟨vt27, Ft27, rfl, rt27, fr, b⟩
      have dw0t27 := Lib.hid (Dj.of (rw0.out.lt) fr)
      have dg0t27 := Lib.hid (Dj.of (rg0.out.lt) fr)
      have dt25t27 := Lib.hid (Dj.of (rt25.out.lt) fr)
      have ft27 := Lib.hid (Fr.of hB.out fr)
      clear fr
      replace hB := Lib.hid (Below.next hB.out b)
      replace rw0 := Lib.hid (rw0.out.next b)
      replace rg0 := Lib.hid (rg0.out.next b)
      replace rt25 := Lib.hid (rt25.out.next b)
      clear b
      replace rt27 := Lib.hid rt27
      go_wp2_with fail
      refine (impl_MergeSorted_law rt25.out rt27.out).mono ?_
      rintro e W29 ⟨vh0, Fh0, rfl, rh0, fr, b, lnh0⟩
      have dw0h0 := Lib.hid (Dj.of (rw0.out.lt) fr)
      have dg0h0 := Lib.hid (Dj.of (rg0.out.lt) fr)
      have dt25h0 := Lib.hid (Dj.of (rt25.out.lt) fr)
      have dt27h0 := Lib.hid (Dj.of (rt27.out.lt) fr)
      have fh0 := Lib.hid (Fr.of hB.out fr)
      clear fr
      replace hB := Lib.hid (Below.next hB.out b)
      replace rw0 := Lib.hid (rw0.out.next b)
      replace rg0 := Lib.hid (rg0.out.next b)
      replace rt25 := Lib.hid (rt25.out.next b)
      replace rt27 := Lib.hid (rt27.out.next b)
      clear b
      replace rh0 := Lib.hid rh0
      clear rt25 ft25
      clear dt25t27 dw0t25 dg0t25 dt25h0
      clear rt27 ft27
      clear dg0t27 dw0t27 dt27h0
      go_wp2_with fail
      refine (eqRecordS_law rh0.out rw0.out).mono ?_
      rintro e W30 ⟨rfl, b⟩
      replace hB := Lib.hid (Below.next hB.out b)
      replace rw0 := Lib.hid (rw0.out.next b)
      replace rg0 := Lib.hid (rg0.out.next b)
      replace rh0 := Lib.hid (rh0.out.next b)
      clear b
      clear rw0 fw0
      clear dw0h0 dw0g0
      clear rh0 fh0
      clear dg0h0
      go_wp2_with fail
      refine (heldRecordS_law rg0.out hmg0.out (by omega) (by omega)).mono ?_
      rintro e W31 ⟨rfl, b⟩
      replace hB := Lib.hid (Below.next hB.out b)
      replace rg0 := Lib.hid (rg0.out.next b)
      clear b
      clear rg0 fg0
      go_wp2
      go_ret
      exact ⟨rfl, hB.out⟩
    · go_enter Try.func12, Try.ntmps12
      have hB := Lib.hid (Below.refl w.heap.size w)
      go_wp2_with fail
      refine (szRecordS_yes (DaA.out.next hB.out) (by omega) (by omega)).mono ?_
      rintro e _ ⟨rfl, b⟩
      replace hB := Lib.hid (Below.next hB.out b)
      clear b
      go_wp2_with fail
      refine (szRecordS_no (DaB.out.next hB.out) (by omega) (by omega) (by omega)).mono ?_
      rintro e _ ⟨rfl, b⟩
      replace hB := Lib.hid (Below.next hB.out b)
      clear b
      go_wp2
      go_ret
      exact ⟨rfl, hB.out⟩
  · go_enter Try.func12, Try.ntmps12
    have hB := Lib.hid (Below.refl w.heap.size w)
    go_wp2_with fail
    refine (szRecordS_no (DaA.out.next hB.out) (by omega) (by omega) (by omega)).mono ?_
    rintro e _ ⟨rfl, b⟩
    replace hB := Lib.hid (Below.next hB.out b)
    clear b
    go_wp2
    go_ret
    exact ⟨rfl, hB.out⟩

set_option maxRecDepth 100000 in
theorem lifted (os : Os) (started : os.Started) (H : Type) (enc : TypeId × Value → H) :
    ReturnsInHanded {} Try.checked os 12 .any (Rows.fnExactMergeSortedSpec.pre6 enc Try.prog Try.f12 Rows.fnExactMergeSortedRow.domain false) (Rows.fnExactMergeSortedSpec.post enc Try.prog Try.f12 false true false false) := by
  refine returnsInHanded_of_change (C := Try.checked) own started (by kernel_rfl) Try.func12
    (ChangeSpec.witness6 (enc := enc) (C := Try.checked) false ⟨#[], #[.slice none 0 0, .slice none 0 0], []⟩ 8 (by kernel_rfl) (by kernel_rfl) (by kernel_rfl) (by kernel_rfl)) ?_
  intro W base args ds gs before hval0 hW hcnd _
  have hval : ∀ (j : Nat) t v, Try.f12.params[j]? = some t → args[j]? = some v → Value.okWide Try.prog W .any base t v := hval0
  have hW' := hW
  obtain ⟨p, q, hA0, hV, rfl, hfz, hnd⟩ := hW
  have hA : DataW.TrodAll enc Try.prog W 0 (fun _ => true) true Try.f12.params.toList args.toList ds p := hA0
  rw [Try.params12] at hA hval
  obtain ⟨v0, vs0, d0, ds0, p0, q0, hargs, rfl, rfl, h0, r0⟩ := trodAll_cons hA
  obtain ⟨v1, vs1, d1, ds1, p1, q1, rfl, rfl, rfl, h1, r1⟩ := trodAll_cons r0
  obtain ⟨rfl, rfl, rfl⟩ := trodAll_nil r1
  obtain rfl : args = #[v0, v1] := by cases args; simp_all
  obtain ⟨rfl, rfl⟩ := trodVars_none hV
  have k0 := h0
  have lt0 : ∀ x ∈ p0, x.block < W.heap.size := by obtain ⟨m, hm⟩ := k0; exact DataW.trod_lt m _ _ _ hm
  obtain ⟨x0, D0⟩ := argRecordS (hval 0 41 v0 rfl rfl) h0
  have k1 := h1
  have lt1 : ∀ x ∈ p1, x.block < W.heap.size := by obtain ⟨m, hm⟩ := k1; exact DataW.trod_lt m _ _ _ hm
  obtain ⟨x1, D1⟩ := argRecordS (hval 1 41 v1 rfl rfl) h1
  clear hA0 hval0
  refine (walk v0 x0 v1 x1 W D0 D1).mono fun e W' ⟨he, bel⟩ => ?_
  subst he
  exact ⟨_, rfl, _, _, _, [], _, [], hW', trodAll_mk1 (shut_bool Try.underlying4 _), (trodAll_cons_mk (Below.trod laidOut (by kernel_rfl) (of_decide_eq_true (by kernel_rfl)) k0 bel lt0) (trodAll_cons_mk (Below.trod laidOut (by kernel_rfl) (of_decide_eq_true (by kernel_rfl)) k1 bel lt1) trodAll_mk0)), rfl, bel.frame _, fun h => by cases h⟩

theorem over : Rows.fnExactMergeSortedRow.holds Try.pinned (OpenSpec.ofChange Rows.fnExactMergeSortedSpec) :=
  OpenClaim.holds_of_wide 12 Try.f12 rfl rfl rfl rfl rfl rfl rfl ⟨rfl, rfl, rfl, rfl, rfl⟩ rfl rfl rfl rfl rfl (by kernel_rfl) Try.func12 (by kernel_rfl)
    (of_decide_eq_true (by kernel_rfl)) (by unfold Func.isWrapper; first | (rw [if_pos (by decide +kernel)]; kernel_rfl) | (rw [if_neg (by decide +kernel)]; exact ⟨rfl, rfl⟩))
    (fun os started H enc _ => lifted os started H enc)

theorem proved : Rows.FnExactMergeSortedSaid := over
end Go.Proofs.Ytagelajlpfmpfaa.fnExactMergeSorted
