/- laws.FnExactJoinStrings returns true for every input, and its arguments read behind the call as they read before. No condition. -/
import Derived.Test.YtidgfeemjlkdjaaFrame
import Derived.Test.YtidgfeemjlkdjaaRow
import Derived.Test.YtidgfeemjlkdjaaJoin
namespace Go.Proofs.Ytidgfeemjlkdjaa.fnExactJoinStrings
open Go.ChangeShapes Go.WideShapes Go.ChangeAt Go.RowKit
open Go.ChangeMaps (open_string shut_string)
set_option linter.unusedVariables false
set_option linter.unusedSimpArgs false

set_option maxHeartbeats 1000000 in
theorem walk (vaParts : Value) (xaParts : TStringS) (aSep : ByteArray) (w : World) (DaParts : DStringS w vaParts xaParts) (_laSep : aSep.size ≤ maxLen) :
    Calls Try.prog 3 #[vaParts, .string aSep] w fun e w' => e = .returned (.bool true) ∧ Below w.heap.size w w' := by
  obtain ⟨aoaParts, caParts, rfl⟩ := DaParts.shape
  replace DaParts := Lib.hid DaParts
  unfold maxLen at _laSep
  by_cases haSep : aSep.size ≤ 1048576
  · have hdaSep : decide (1048576 < (aSep.size : Int)) = false := by simp; omega
    by_cases haParts : szStringS xaParts ≤ 1048576
    · have hdaParts : True := trivial
      go_enter Try.func3, Try.ntmps3
      have hB := Lib.hid (Below.refl w.heap.size w)
      go_wp2_with fail
      refine (szStringS_yes (DaParts.out.next hB.out) (by omega) (by omega)).mono ?_
      rintro e W1 ⟨rfl, b⟩
      replace hB := Lib.hid (Below.next hB.out b)
      clear b
      go_wp2_with fail
      refine (toStringS_law (DaParts.out.next hB.out) (by first | exact haParts | omega)).mono ?_
      rintro e W3 ⟨vt2, Ft2, rfl, rt2, fr, b⟩
      have ft2 := Lib.hid (Fr.of hB.out fr)
      clear fr
      replace hB := Lib.hid (Below.next hB.out b)
      clear b
      replace rt2 := Lib.hid rt2
      go_wp2_with fail
      refine (spec_JoinStrings_law rt2.out _laSep (by omega)).mono ?_
      rintro e W4 ⟨rfl, b⟩
      replace hB := Lib.hid (Below.next hB.out b)
      replace rt2 := Lib.hid (rt2.out.next b)
      clear b
      clear rt2 ft2
      go_wp2_with fail
      refine (toStringS_law (DaParts.out.next hB.out) (by first | exact haParts | omega)).mono ?_
      rintro e W6 ⟨vx0, Fx0, rfl, rx0, fr, b⟩
      have fx0 := Lib.hid (Fr.of hB.out fr)
      clear fr
      replace hB := Lib.hid (Below.next hB.out b)
      clear b
      replace rx0 := Lib.hid rx0
      go_wp2_with fail
      refine (impl_JoinStrings_law rx0.out _laSep (by omega)).mono ?_
      rintro e W7 ⟨rfl, b⟩
      replace hB := Lib.hid (Below.next hB.out b)
      replace rx0 := Lib.hid (rx0.out.next b)
      clear b
      go_wp2_with fail
      refine (toStringS_law (DaParts.out.next hB.out) (by first | exact haParts | omega)).mono ?_
      rintro e W9 ⟨vt8, Ft8, rfl, rt8, fr, b⟩
      have dx0t8 := Lib.hid (Dj.of (rx0.out.lt) fr)
      have ft8 := Lib.hid (Fr.of hB.out fr)
      clear fr
      replace hB := Lib.hid (Below.next hB.out b)
      replace rx0 := Lib.hid (rx0.out.next b)
      clear b
      replace rt8 := Lib.hid rt8
      go_wp2_with fail
      refine (eqStringS_law rx0.out rt8.out).mono ?_
      rintro e W10 ⟨rfl, b⟩
      replace hB := Lib.hid (Below.next hB.out b)
      replace rx0 := Lib.hid (rx0.out.next b)
      replace rt8 := Lib.hid (rt8.out.next b)
      clear b
      clear rx0 fx0
      clear dx0t8
      clear rt8 ft8
      go_wp2
      go_ret
      exact ⟨rfl, hB.out⟩
    · go_enter Try.func3, Try.ntmps3
      have hB := Lib.hid (Below.refl w.heap.size w)
      go_wp2_with fail
      refine (szStringS_no (DaParts.out.next hB.out) (by omega) (by omega) (by omega)).mono ?_
      rintro e _ ⟨rfl, b⟩
      replace hB := Lib.hid (Below.next hB.out b)
      clear b
      go_wp2
      go_ret
      exact ⟨rfl, hB.out⟩
  · have hdaSep : decide (1048576 < (aSep.size : Int)) = true := by simp; omega
    go_enter Try.func3, Try.ntmps3
    go_wp2
    go_ret
    exact ⟨rfl, Below.refl _ _⟩

set_option maxRecDepth 100000 in
theorem lifted (os : Os) (started : os.Started) (H : Type) (enc : TypeId × Value → H) :
    ReturnsInHanded {} Try.checked os 3 .any (Rows.fnExactJoinStringsSpec.pre6 enc Try.prog Try.f3 Rows.fnExactJoinStringsRow.domain false) (Rows.fnExactJoinStringsSpec.post enc Try.prog Try.f3 false true false false) := by
  refine returnsInHanded_of_change (C := Try.checked) own started (by kernel_rfl) Try.func3
    (ChangeSpec.witness6 (enc := enc) (C := Try.checked) false ⟨#[], #[.slice none 0 0, .string ByteArray.empty], []⟩ 8 (by kernel_rfl) (by kernel_rfl) (by kernel_rfl) (by kernel_rfl)) ?_
  intro W base args ds gs before hval0 hW hcnd _
  have hval : ∀ (j : Nat) t v, Try.f3.params[j]? = some t → args[j]? = some v → Value.okWide Try.prog W .any base t v := hval0
  have hW' := hW
  obtain ⟨p, q, hA0, hV, rfl, hfz, hnd⟩ := hW
  have hA : DataW.TrodAll enc Try.prog W 0 (fun _ => true) true Try.f3.params.toList args.toList ds p := hA0
  rw [Try.params3] at hA hval
  obtain ⟨v0, vs0, d0, ds0, p0, q0, hargs, rfl, rfl, h0, r0⟩ := trodAll_cons hA
  obtain ⟨v1, vs1, d1, ds1, p1, q1, rfl, rfl, rfl, h1, r1⟩ := trodAll_cons r0
  obtain ⟨rfl, rfl, rfl⟩ := trodAll_nil r1
  obtain rfl : args = #[v0, v1] := by cases args; simp_all
  obtain ⟨rfl, rfl⟩ := trodVars_none hV
  have k0 := h0
  have lt0 : ∀ x ∈ p0, x.block < W.heap.size := by obtain ⟨m, hm⟩ := k0; exact DataW.trod_lt m _ _ _ hm
  obtain ⟨x0, D0⟩ := argStringS (hval 0 22 v0 rfl rfl) h0
  obtain ⟨s1, rfl, rfl, rfl, ls1⟩ := open_string Try.underlying9 (hval 1 9 v1 rfl rfl) h1
  clear hA0 hval0
  refine (walk v0 x0 s1 W D0 ls1).mono fun e W' ⟨he, bel⟩ => ?_
  subst he
  exact ⟨_, rfl, _, _, _, [], _, [], hW', trodAll_mk1 (shut_bool Try.underlying4 _), (trodAll_cons_mk (Below.trod laidOut (by kernel_rfl) (of_decide_eq_true (by kernel_rfl)) k0 bel lt0) (trodAll_cons_mk (shut_string Try.underlying9 ls1) trodAll_mk0)), rfl, bel.frame _, fun h => by cases h⟩

theorem over : Rows.fnExactJoinStringsRow.holds Try.pinned (OpenSpec.ofChange Rows.fnExactJoinStringsSpec) :=
  OpenClaim.holds_of_wide 3 Try.f3 rfl rfl rfl rfl rfl rfl rfl ⟨rfl, rfl, rfl, rfl, rfl⟩ rfl rfl rfl rfl rfl (by kernel_rfl) Try.func3 (by kernel_rfl)
    (of_decide_eq_true (by kernel_rfl)) (by unfold Func.isWrapper; first | (rw [if_pos (by decide +kernel)]; kernel_rfl) | (rw [if_neg (by decide +kernel)]; exact ⟨rfl, rfl⟩))
    (fun os started H enc _ => lifted os started H enc)

theorem proved : Rows.FnExactJoinStringsSaid := over
end Go.Proofs.Ytidgfeemjlkdjaa.fnExactJoinStrings
