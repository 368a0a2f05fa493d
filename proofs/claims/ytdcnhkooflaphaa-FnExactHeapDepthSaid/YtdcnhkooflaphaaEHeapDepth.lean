/- laws.FnExactHeapDepth returns true for every input, and its arguments read behind the call as they read before. No condition. -/
import Derived.Test.YtdcnhkooflaphaaFrame
import Derived.Test.YtdcnhkooflaphaaHeapDepth
namespace Go.Proofs.Ytdcnhkooflaphaa.fnExactHeapDepth
open Go.ChangeShapes Go.WideShapes Go.ChangeAt Go.RowKit
open Go.ChangeMaps (open_string shut_string)
set_option linter.unusedVariables false
set_option linter.unusedSimpArgs false

set_option maxHeartbeats 1000000 in
theorem walk (aN : Int) (aD : Int) (w : World) (_iaN : -9223372036854775808 ≤ aN ∧ aN ≤ 9223372036854775807) (_iaD : -9223372036854775808 ≤ aD ∧ aD ≤ 9223372036854775807) :
    Calls Try.prog 6 #[.int .i64 aN, .int .i64 aD] w fun e w' => e = .returned (.bool true) ∧ Below w.heap.size w w' := by
  go_enter Try.func6, Try.ntmps6
  have hB := Lib.hid (Below.refl w.heap.size w)
  go_wp2_with fail
  refine (spec_HeapDepth_law _iaN _iaD).mono ?_
  rintro e W1 ⟨rfl, b⟩
  replace hB := Lib.hid (Below.next hB.out b)
  clear b
  go_wp2_with fail
  refine (impl_HeapDepth_law _iaN _iaD).mono ?_
  rintro e W2 ⟨rfl, b⟩
  replace hB := Lib.hid (Below.next hB.out b)
  clear b
  go_wp2
  go_ret
  exact ⟨rfl, hB.out⟩

set_option maxRecDepth 100000 in
theorem lifted (os : Os) (started : os.Started) (H : Type) (enc : TypeId × Value → H) :
    ReturnsInHanded {} Try.checked os 6 .any (Rows.fnExactHeapDepthSpec.pre6 enc Try.prog Try.f6 Rows.fnExactHeapDepthRow.domain false) (Rows.fnExactHeapDepthSpec.post enc Try.prog Try.f6 false true false false) := by
  refine returnsInHanded_of_change (C := Try.checked) own started (by kernel_rfl) Try.func6
    (ChangeSpec.witness6 (enc := enc) (C := Try.checked) false ⟨#[], #[.int .i64 0, .int .i64 0], []⟩ 8 (by kernel_rfl) (by kernel_rfl) (by kernel_rfl) (by kernel_rfl)) ?_
  intro W base args ds gs before hval0 hW hcnd _
  have hval : ∀ (j : Nat) t v, Try.f6.params[j]? = some t → args[j]? = some v → Value.okWide Try.prog W .any base t v := hval0
  have hW' := hW
  obtain ⟨p, q, hA0, hV, rfl, hfz, hnd⟩ := hW
  have hA : DataW.TrodAll enc Try.prog W 0 (fun _ => true) true Try.f6.params.toList args.toList ds p := hA0
  rw [Try.params6] at hA hval
  obtain ⟨v0, vs0, d0, ds0, p0, q0, hargs, rfl, rfl, h0, r0⟩ := trodAll_cons hA
  obtain ⟨v1, vs1, d1, ds1, p1, q1, rfl, rfl, rfl, h1, r1⟩ := trodAll_cons r0
  obtain ⟨rfl, rfl, rfl⟩ := trodAll_nil r1
  obtain rfl : args = #[v0, v1] := by cases args; simp_all
  obtain ⟨rfl, rfl⟩ := trodVars_none hV
  obtain ⟨z0, rfl, rfl, rfl, wz0⟩ := open_int Try.underlying3 (hval 0 3 v0 rfl rfl) h0
  obtain ⟨z1, rfl, rfl, rfl, wz1⟩ := open_int Try.underlying3 (hval 1 3 v1 rfl rfl) h1
  clear hA0 hval0
  refine (walk z0 z1 W (bounds_i64 wz0) (bounds_i64 wz1)).mono fun e W' ⟨he, bel⟩ => ?_
  subst he
  exact ⟨_, rfl, _, _, _, [], _, [], hW', trodAll_mk1 (shut_bool Try.underlying4 _), (trodAll_cons_mk (shut_int Try.underlying3 wz0) (trodAll_cons_mk (shut_int Try.underlying3 wz1) trodAll_mk0)), rfl, bel.frame _, fun h => by cases h⟩

theorem over : Rows.fnExactHeapDepthRow.holds Try.pinned (OpenSpec.ofChange Rows.fnExactHeapDepthSpec) :=
  OpenClaim.holds_of_wide 6 Try.f6 rfl rfl rfl rfl rfl rfl rfl ⟨rfl, rfl, rfl, rfl, rfl⟩ rfl rfl rfl rfl rfl (by kernel_rfl) Try.func6 (by kernel_rfl)
    (of_decide_eq_true (by kernel_rfl)) (by unfold Func.isWrapper; first | (rw [if_pos (by decide +kernel)]; kernel_rfl) | (rw [if_neg (by decide +kernel)]; exact ⟨rfl, rfl⟩))
    (fun os started H enc _ => lifted os started H enc)

theorem proved : Rows.FnExactHeapDepthSaid := over
end Go.Proofs.Ytdcnhkooflaphaa.fnExactHeapDepth
