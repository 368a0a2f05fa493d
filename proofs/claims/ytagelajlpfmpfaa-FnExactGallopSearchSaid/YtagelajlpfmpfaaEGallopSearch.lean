/- laws.FnExactGallopSearch returns true for every input, and its arguments read behind the call as they read before. No condition. -/
import Derived.Test.YtagelajlpfmpfaaFrame
import Derived.Test.YtagelajlpfmpfaaHInt
import Derived.Test.YtagelajlpfmpfaaGallopS
import Derived.Test.YtagelajlpfmpfaaGallopI
namespace Go.Proofs.Ytagelajlpfmpfaa.fnExactGallopSearch
open Go.ChangeShapes Go.WideShapes Go.ChangeAt Go.RowKit
open Go.ChangeMaps (open_string shut_string)
set_option linter.unusedVariables false
set_option linter.unusedSimpArgs false

set_option maxHeartbeats 1000000 in
theorem walk (vaList : Value) (xaList : TIntS) (aX : Int) (aHint : Int) (w : World) (DaList : DIntS w vaList xaList) (_iaX : -9223372036854775808 ≤ aX ∧ aX ≤ 9223372036854775807) (_iaHint : -9223372036854775808 ≤ aHint ∧ aHint ≤ 9223372036854775807) :
    Calls Try.prog 5 #[vaList, .int .i64 aX, .int .i64 aHint] w fun e w' => e = .returned (.bool true) ∧ Below w.heap.size w w' := by
  have laList := DaList.len
  obtain ⟨aoaList, caList, rfl⟩ := DaList.shape
  replace DaList := Lib.hid DaList
  by_cases haList : xaList.length ≤ 1048576
  · have hdaList : decide (1048576 < (xaList.length : Int)) = false := by simp; omega
    go_enter Try.func5, Try.ntmps5
    have hB := Lib.hid (Below.refl w.heap.size w)
    go_wp2_with fail
    refine (toIntS_law (DaList.out.next hB.out) (by first | exact haList | omega)).mono ?_
    rintro e W2 ⟨vt1, Ft1, rfl, rt1, fr, b⟩
    have ft1 := Lib.hid (Fr.of hB.out fr)
    clear fr
    replace hB := Lib.hid (Below.next hB.out b)
    clear b
    replace rt1 := Lib.hid rt1
    go_wp2_with fail
    refine (spec_GallopSearch_law rt1.out _iaX _iaHint).mono ?_
    rintro e W3 ⟨rfl, b⟩
    replace hB := Lib.hid (Below.next hB.out b)
    replace rt1 := Lib.hid (rt1.out.next b)
    clear b
    clear rt1 ft1
    go_wp2_with fail
    refine (toIntS_law (DaList.out.next hB.out) (by first | exact haList | omega)).mono ?_
    rintro e W5 ⟨vx0, Fx0, rfl, rx0, fr, b⟩
    have fx0 := Lib.hid (Fr.of hB.out fr)
    clear fr
    replace hB := Lib.hid (Below.next hB.out b)
    clear b
    replace rx0 := Lib.hid rx0
    go_wp2_with fail
    refine (impl_GallopSearch_law rx0.out _iaX _iaHint).mono ?_
    rintro e W6 ⟨rfl, b⟩
    replace hB := Lib.hid (Below.next hB.out b)
    replace rx0 := Lib.hid (rx0.out.next b)
    clear b
    go_wp2_with fail
    refine (toIntS_law (DaList.out.next hB.out) (by first | exact haList | omega)).mono ?_
    rintro e W8 ⟨vt7, Ft7, rfl, rt7, fr, b⟩
    have dx0t7 := Lib.hid (Dj.of (rx0.out.lt) fr)
    have ft7 := Lib.hid (Fr.of hB.out fr)
    clear fr
    replace hB := Lib.hid (Below.next hB.out b)
    replace rx0 := Lib.hid (rx0.out.next b)
    clear b
    replace rt7 := Lib.hid rt7
    go_wp2_with fail
    refine (eqIntS_law rx0.out rt7.out).mono ?_
    rintro e W9 ⟨rfl, b⟩
    replace hB := Lib.hid (Below.next hB.out b)
    replace rx0 := Lib.hid (rx0.out.next b)
    replace rt7 := Lib.hid (rt7.out.next b)
    clear b
    clear rx0 fx0
    clear dx0t7
    clear rt7 ft7
    go_wp2
    go_ret
    exact ⟨rfl, hB.out⟩
  · have hdaList : decide (1048576 < (xaList.length : Int)) = true := by simp; omega
    go_enter Try.func5, Try.ntmps5
    go_wp2
    go_ret
    exact ⟨rfl, Below.refl _ _⟩

set_option maxRecDepth 100000 in
theorem lifted (os : Os) (started : os.Started) (H : Type) (enc : TypeId × Value → H) :
    ReturnsInHanded {} Try.checked os 5 .any (Rows.fnExactGallopSearchSpec.pre6 enc Try.prog Try.f5 Rows.fnExactGallopSearchRow.domain false) (Rows.fnExactGallopSearchSpec.post enc Try.prog Try.f5 false true false false) := by
  refine returnsInHanded_of_change (C := Try.checked) own started (by kernel_rfl) Try.func5
    (ChangeSpec.witness6 (enc := enc) (C := Try.checked) false ⟨#[], #[.slice none 0 0, .int .i64 0, .int .i64 0], []⟩ 8 (by kernel_rfl) (by kernel_rfl) (by kernel_rfl) (by kernel_rfl)) ?_
  intro W base args ds gs before hval0 hW hcnd _
  have hval : ∀ (j : Nat) t v, Try.f5.params[j]? = some t → args[j]? = some v → Value.okWide Try.prog W .any base t v := hval0
  have hW' := hW
  obtain ⟨p, q, hA0, hV, rfl, hfz, hnd⟩ := hW
  have hA : DataW.TrodAll enc Try.prog W 0 (fun _ => true) true Try.f5.params.toList args.toList ds p := hA0
  rw [Try.params5] at hA hval
  obtain ⟨v0, vs0, d0, ds0, p0, q0, hargs, rfl, rfl, h0, r0⟩ := trodAll_cons hA
  obtain ⟨v1, vs1, d1, ds1, p1, q1, rfl, rfl, rfl, h1, r1⟩ := trodAll_cons r0
  obtain ⟨v2, vs2, d2, ds2, p2, q2, rfl, rfl, rfl, h2, r2⟩ := trodAll_cons r1
  obtain ⟨rfl, rfl, rfl⟩ := trodAll_nil r2
  obtain rfl : args = #[v0, v1, v2] := by cases args; simp_all
  obtain ⟨rfl, rfl⟩ := trodVars_none hV
  have k0 := h0
  have lt0 : ∀ x ∈ p0, x.block < W.heap.size := by obtain ⟨m, hm⟩ := k0; exact DataW.trod_lt m _ _ _ hm
  obtain ⟨x0, D0⟩ := argIntS (hval 0 22 v0 rfl rfl) h0
  obtain ⟨z1, rfl, rfl, rfl, wz1⟩ := open_int Try.underlying3 (hval 1 3 v1 rfl rfl) h1
  obtain ⟨z2, rfl, rfl, rfl, wz2⟩ := open_int Try.underlying3 (hval 2 3 v2 rfl rfl) h2
  clear hA0 hval0
  refine (walk v0 x0 z1 z2 W D0 (bounds_i64 wz1) (bounds_i64 wz2)).mono fun e W' ⟨he, bel⟩ => ?_
  subst he
  exact ⟨_, rfl, _, _, _, [], _, [], hW', trodAll_mk1 (shut_bool Try.underlying4 _), (trodAll_cons_mk (Below.trod laidOut (by kernel_rfl) (of_decide_eq_true (by kernel_rfl)) k0 bel lt0) (trodAll_cons_mk (shut_int Try.underlying3 wz1) (trodAll_cons_mk (shut_int Try.underlying3 wz2) trodAll_mk0))), rfl, bel.frame _, fun h => by cases h⟩

theorem over : Rows.fnExactGallopSearchRow.holds Try.pinned (OpenSpec.ofChange Rows.fnExactGallopSearchSpec) :=
  OpenClaim.holds_of_wide 5 Try.f5 rfl rfl rfl rfl rfl rfl rfl ⟨rfl, rfl, rfl, rfl, rfl⟩ rfl rfl rfl rfl rfl (by kernel_rfl) Try.func5 (by kernel_rfl)
    (of_decide_eq_true (by kernel_rfl)) (by unfold Func.isWrapper; first | (rw [if_pos (by decide +kernel)]; kernel_rfl) | (rw [if_neg (by decide +kernel)]; exact ⟨rfl, rfl⟩))
    (fun os started H enc _ => lifted os started H enc)

theorem proved : Rows.FnExactGallopSearchSaid := over
end Go.Proofs.Ytagelajlpfmpfaa.fnExactGallopSearch
