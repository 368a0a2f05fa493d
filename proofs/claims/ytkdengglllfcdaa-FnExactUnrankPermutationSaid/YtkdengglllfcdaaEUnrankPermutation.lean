/- laws.FnExactUnrankPermutation returns true for every input, and its arguments read behind the call as they read before. No condition. -/
import Derived.Test.YtkdengglllfcdaaFrame
import Derived.Test.YtkdengglllfcdaaHInt
import Derived.Test.YtkdengglllfcdaaUnrank
namespace Go.Proofs.Ytkdengglllfcdaa.fnExactUnrankPermutation
open Go.ChangeShapes Go.WideShapes Go.ChangeAt Go.RowKit
open Go.ChangeMaps (open_string shut_string)
set_option linter.unusedVariables false
set_option linter.unusedSimpArgs false

set_option maxHeartbeats 1000000 in
theorem walk (aN : Int) (aRank : Int) (w : World) (_iaN : -9223372036854775808 ≤ aN ∧ aN ≤ 9223372036854775807) (_iaRank : -9223372036854775808 ≤ aRank ∧ aRank ≤ 9223372036854775807) :
    Calls Try.prog 3 #[.int .i64 aN, .int .i64 aRank] w fun e w' => e = .returned (.bool true) ∧ Below w.heap.size w w' := by
  go_enter Try.func3, Try.ntmps3
  have hB := Lib.hid (Below.refl w.heap.size w)
  go_wp2_with fail
  refine (spec_UnrankPermutation_law _iaN _iaRank).mono ?_
  rintro e W1 ⟨vw0, Fw0, rfl, rw0, fr, b, lnw0⟩
  have fw0 := Lib.hid (Fr.of hB.out fr)
  clear fr
  replace hB := Lib.hid (Below.next hB.out b)
  clear b
  replace rw0 := Lib.hid rw0
  go_wp2_with fail
  refine (impl_UnrankPermutation_law _iaN _iaRank).mono ?_
  rintro e W2 ⟨vg0, Fg0, rfl, rg0, fr, b, lng0⟩
  have dw0g0 := Lib.hid (Dj.of (rw0.out.lt) fr)
  have fg0 := Lib.hid (Fr.of hB.out fr)
  clear fr
  replace hB := Lib.hid (Below.next hB.out b)
  replace rw0 := Lib.hid (rw0.out.next b)
  clear b
  replace rg0 := Lib.hid rg0
  go_wp2_with fail
  refine (eqIntS_law rg0.out rw0.out).mono ?_
  rintro e W3 ⟨rfl, b⟩
  replace hB := Lib.hid (Below.next hB.out b)
  replace rw0 := Lib.hid (rw0.out.next b)
  replace rg0 := Lib.hid (rg0.out.next b)
  clear b
  go_wp2_with fail
  refine (markIntS_law rg0.out (by omega) (by omega) (by omega)).mono ?_
  rintro e W4 ⟨yg0, ng0, rfl, rmg0, hmg0, lpg0, lmg0, ex⟩
  replace hB := Lib.hid (Below.ex hB.out ex fg0.out)
  replace rw0 := Lib.hid (rw0.out.ex ex dw0g0.out)
  clear ex rg0
  have rg0 := Lib.hid rmg0
  clear rmg0
  replace hmg0 := Lib.hid hmg0
  go_wp2_with fail
  refine (heldIntS_law rg0.out hmg0.out (by omega) (by omega)).mono ?_
  rintro e W5 ⟨rfl, b⟩
  replace hB := Lib.hid (Below.next hB.out b)
  replace rw0 := Lib.hid (rw0.out.next b)
  replace rg0 := Lib.hid (rg0.out.next b)
  clear b
  go_wp2_with fail
  refine (impl_UnrankPermutation_law _iaN _iaRank).mono ?_
  rintro e W6 ⟨vh0, Fh0, rfl, rh0, fr, b, lnh0⟩
  have dw0h0 := Lib.hid (Dj.of (rw0.out.lt) fr)
  have dg0h0 := Lib.hid (Dj.of (rg0.out.lt) fr)
  have fh0 := Lib.hid (Fr.of hB.out fr)
  clear fr
  replace hB := Lib.hid (Below.next hB.out b)
  replace rw0 := Lib.hid (rw0.out.next b)
  replace rg0 := Lib.hid (rg0.out.next b)
  clear b
  replace rh0 := Lib.hid rh0
  go_wp2_with fail
  refine (eqIntS_law rh0.out rw0.out).mono ?_
  rintro e W7 ⟨rfl, b⟩
  replace hB := Lib.hid (Below.next hB.out b)
  replace rw0 := Lib.hid (rw0.out.next b)
  replace rg0 := Lib.hid (rg0.out.next b)
  replace rh0 := Lib.hid (rh0.out.next b)
  clear b
  clear rw0 fw0
  clear dw0g0 dw0h0
  clear rh0 fh0
  clear dg0h0
  go_wp2_with fail
  refine (heldIntS_law rg0.out hmg0.out (by omega) (by omega)).mono ?_
  rintro e W8 ⟨rfl, b⟩
  replace hB := Lib.hid (Below.next hB.out b)
  replace rg0 := Lib.hid (rg0.out.next b)
  clear b
  clear rg0 fg0
  go_wp2
  go_ret
  exact ⟨rfl, hB.out⟩

set_option maxRecDepth 100000 in
theorem lifted (os : Os) (started : os.Started) (H : Type) (enc : TypeId × Value → H) :
    ReturnsInHanded {} Try.checked os 3 .any (Rows.fnExactUnrankPermutationSpec.pre6 enc Try.prog Try.f3 Rows.fnExactUnrankPermutationRow.domain false) (Rows.fnExactUnrankPermutationSpec.post enc Try.prog Try.f3 false true false false) := by
  refine returnsInHanded_of_change (C := Try.checked) own started (by kernel_rfl) Try.func3
    (ChangeSpec.witness6 (enc := enc) (C := Try.checked) false ⟨#[], #[.int .i64 0, .int .i64 0], []⟩ 8 (by kernel_rfl) (by kernel_rfl) (by kernel_rfl) (by kernel_rfl)) ?_
  intro W base args ds gs before hval0 hW hcnd _
  have hval : ∀ (j : Nat) t v, Try.f3.params[j]? = some t → args[j]? = some v → Value.okWide Try.prog W .any base t v := hval0
  have hW' := hW
  obtain ⟨p, q, hA0, hV, rfl, hfz, hnd⟩ := hW
  have hA : DataW.TrodAll enc Try.prog W 0 (fun _ => true) true Try.f3.params.toList args.toList ds p := hA0
  rw [Try.params3] at hA hval
  obtain ⟨v0, vs0, d0, ds0, p0, q0, hargs, rfl, rfl, h0, r0⟩ := trodAll_cons hA
  obtain ⟨v1, vs1, d1, ds1, p1, q1, rfl, rfl, rfl, h1, r1⟩ := trodAll_cons r0
  obtain ⟨rfl, rfl, rfl⟩ := trodAll_nil r1
  obtain rfl : args = #[v0, v1] := by cases args; simp_all
  obtain ⟨rfl, rfl⟩ := trodVars_none hV
  obtain ⟨z0, rfl, rfl, rfl, wz0⟩ := open_int Try.underlying3 (hval 0 3 v0 rfl rfl) h0
  obtain ⟨z1, rfl, rfl, rfl, wz1⟩ := open_int Try.underlying3 (hval 1 3 v1 rfl rfl) h1
  clear hA0 hval0
  refine (walk z0 z1 W (bounds_i64 wz0) (bounds_i64 wz1)).mono fun e W' ⟨he, bel⟩ => ?_
  subst he
  exact ⟨_, rfl, _, _, _, [], _, [], hW', trodAll_mk1 (shut_bool Try.underlying4 _), (trodAll_cons_mk (shut_int Try.underlying3 wz0) (trodAll_cons_mk (shut_int Try.underlying3 wz1) trodAll_mk0)), rfl, bel.frame _, fun h => by cases h⟩

theorem over : Rows.fnExactUnrankPermutationRow.holds Try.pinned (OpenSpec.ofChange Rows.fnExactUnrankPermutationSpec) :=
  OpenClaim.holds_of_wide 3 Try.f3 rfl rfl rfl rfl rfl rfl rfl ⟨rfl, rfl, rfl, rfl, rfl⟩ rfl rfl rfl rfl rfl (by kernel_rfl) Try.func3 (by kernel_rfl)
    (of_decide_eq_true (by kernel_rfl)) (by unfold Func.isWrapper; first | (rw [if_pos (by decide +kernel)]; kernel_rfl) | (rw [if_neg (by decide +kernel)]; exact ⟨rfl, rfl⟩))
    (fun os started H enc _ => lifted os started H enc)

theorem proved : Rows.FnExactUnrankPermutationSaid := over
end Go.Proofs.Ytkdengglllfcdaa.fnExactUnrankPermutation
