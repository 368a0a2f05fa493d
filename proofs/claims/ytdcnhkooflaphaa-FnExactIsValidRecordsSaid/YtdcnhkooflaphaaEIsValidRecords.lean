/- laws.FnExactIsValidRecords returns true for every input, and its arguments read behind the call as they read before. No condition. -/
import Derived.Test.YtdcnhkooflaphaaFrame
import Derived.Test.YtdcnhkooflaphaaHRecord
import Derived.Test.YtdcnhkooflaphaaValidR
namespace Go.Proofs.Ytdcnhkooflaphaa.fnExactIsValidRecords
open Go.ChangeShapes Go.WideShapes Go.ChangeAt Go.RowKit
open Go.ChangeMaps (open_string shut_string)
set_option linter.unusedVariables false
set_option linter.unusedSimpArgs false

set_option maxHeartbeats 1000000 in
theorem walk (vaList : Value) (xaList : TRecordS) (w : World) (DaList : DRecordS w vaList xaList) :
    Calls Try.prog 9 #[vaList] w fun e w' => e = .returned (.bool true) ∧ Below w.heap.size w w' := by
  obtain ⟨aoaList, caList, rfl⟩ := DaList.shape
  replace DaList := Lib.hid DaList
  by_cases haList : szRecordS xaList ≤ 1048576
  · have hdaList : True := trivial
    go_enter Try.func9, Try.ntmps9
    have hB := Lib.hid (Below.refl w.heap.size w)
    go_wp2_with fail
    refine (szRecordS_yes (DaList.out.next hB.out) (by omega) (by omega)).mono ?_
    rintro e W1 ⟨rfl, b⟩
    replace hB := Lib.hid (Below.next hB.out b)
    clear b
    go_wp2_with fail
    refine (toRecordS_law (DaList.out.next hB.out) (by first | exact haList | omega)).mono ?_
    rintro e W3 ⟨vt2, Ft2, rfl, rt2, fr, b⟩
    have ft2 := Lib.hid (Fr.of hB.out fr)
    clear fr
    replace hB := Lib.hid (Below.next hB.out b)
    clear b
    replace rt2 := Lib.hid rt2
    go_wp2_with fail
    refine (spec_IsValidRecords_law rt2.out).mono ?_
    rintro e W4 ⟨rfl, b⟩
    replace hB := Lib.hid (Below.next hB.out b)
    replace rt2 := Lib.hid (rt2.out.next b)
    clear b
    clear rt2 ft2
    go_wp2_with fail
    refine (toRecordS_law (DaList.out.next hB.out) (by first | exact haList | omega)).mono ?_
    rintro e W6 ⟨vx0, Fx0, rfl, rx0, fr, b⟩
    have fx0 := Lib.hid (Fr.of hB.out fr)
    clear fr
    replace hB := Lib.hid (Below.next hB.out b)
    clear b
    replace rx0 := Lib.hid rx0
    go_wp2_with fail
    refine (impl_IsValidRecords_law rx0.out).mono ?_
    rintro e W7 ⟨rfl, b⟩
    replace hB := Lib.hid (Below.next hB.out b)
    replace rx0 := Lib.hid (rx0.out.next b)
    clear b
    go_wp2_with fail
    refine (toRecordS_law (DaList.out.next hB.out) (by first | exact haList | omega)).mono ?_
    rintro e W9 ⟨vt8, Ft8, rfl, rt8, fr, b⟩
    have dx0t8 := Lib.hid (Dj.of (rx0.out.lt) fr)
    have ft8 := Lib.hid (Fr.of hB.out fr)
    clear fr
    replace hB := Lib.hid (Below.next hB.out b)
    replace rx0 := Lib.hid (rx0.out.next b)
    clear b
    replace rt8 := Lib.hid rt8
    go_wp2_with fail
    refine (eqRecordS_law rx0.out rt8.out).mono ?_
    rintro e W10 ⟨rfl, b⟩
    replace hB := Lib.hid (Below.next hB.out b)
    replace rx0 := Lib.hid (rx0.out.next b)
    replace rt8 := Lib.hid (rt8.out.next b)
    clear b
    clear rx0 fx0
    clear dx0t8
    clear rt8 ft8
    go_wp2
    go_ret
    exact ⟨rfl, hB.out⟩
  · go_enter Try.func9, Try.ntmps9
    have hB := Lib.hid (Below.refl w.heap.size w)
    go_wp2_with fail
    refine (szRecordS_no (DaList.out.next hB.out) (by omega) (by omega) (by omega)).mono ?_
    rintro e _ ⟨rfl, b⟩
    replace hB := Lib.hid (Below.next hB.out b)
    clear b
    go_wp2
    go_ret
    exact ⟨rfl, hB.out⟩

set_option maxRecDepth 100000 in
theorem lifted (os : Os) (started : os.Started) (H : Type) (enc : TypeId × Value → H) :
    ReturnsInHanded {} Try.checked os 9 .any (Rows.fnExactIsValidRecordsSpec.pre6 enc Try.prog Try.f9 Rows.fnExactIsValidRecordsRow.domain false) (Rows.fnExactIsValidRecordsSpec.post enc Try.prog Try.f9 false true false false) := by
  refine returnsInHanded_of_change (C := Try.checked) own started (by kernel_rfl) Try.func9
    (ChangeSpec.witness6 (enc := enc) (C := Try.checked) false ⟨#[], #[.slice none 0 0], []⟩ 8 (by kernel_rfl) (by kernel_rfl) (by kernel_rfl) (by kernel_rfl)) ?_
  intro W base args ds gs before hval0 hW hcnd _
  have hval : ∀ (j : Nat) t v, Try.f9.params[j]? = some t → args[j]? = some v → Value.okWide Try.prog W .any base t v := hval0
  have hW' := hW
  obtain ⟨p, q, hA0, hV, rfl, hfz, hnd⟩ := hW
  have hA : DataW.TrodAll enc Try.prog W 0 (fun _ => true) true Try.f9.params.toList args.toList ds p := hA0
  rw [Try.params9] at hA hval
  obtain ⟨v0, vs0, d0, ds0, p0, q0, hargs, rfl, rfl, h0, r0⟩ := trodAll_cons hA
  obtain ⟨rfl, rfl, rfl⟩ := trodAll_nil r0
  obtain rfl : args = #[v0] := by cases args; simp_all
  obtain ⟨rfl, rfl⟩ := trodVars_none hV
  have k0 := h0
  have lt0 : ∀ x ∈ p0, x.block < W.heap.size := by obtain ⟨m, hm⟩ := k0; exact DataW.trod_lt m _ _ _ hm
  obtain ⟨x0, D0⟩ := argRecordS (hval 0 33 v0 rfl rfl) h0
  clear hA0 hval0
  refine (walk v0 x0 W D0).mono fun e W' ⟨he, bel⟩ => ?_
  subst he
  exact ⟨_, rfl, _, _, _, [], _, [], hW', trodAll_mk1 (shut_bool Try.underlying4 _), (trodAll_cons_mk (Below.trod laidOut (by kernel_rfl) (of_decide_eq_true (by kernel_rfl)) k0 bel lt0) trodAll_mk0), rfl, bel.frame _, fun h => by cases h⟩

theorem over : Rows.fnExactIsValidRecordsRow.holds Try.pinned (OpenSpec.ofChange Rows.fnExactIsValidRecordsSpec) :=
  OpenClaim.holds_of_wide 9 Try.f9 rfl rfl rfl rfl rfl rfl rfl ⟨rfl, rfl, rfl, rfl, rfl⟩ rfl rfl rfl rfl rfl (by kernel_rfl) Try.func9 (by kernel_rfl)
    (of_decide_eq_true (by kernel_rfl)) (by unfold Func.isWrapper; first | (rw [if_pos (by decide +kernel)]; kernel_rfl) | (rw [if_neg (by decide +kernel)]; exact ⟨rfl, rfl⟩))
    (fun os started H enc _ => lifted os started H enc)

theorem proved : Rows.FnExactIsValidRecordsSaid := over
end Go.Proofs.Ytdcnhkooflaphaa.fnExactIsValidRecords
