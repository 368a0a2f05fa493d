/- laws.FnExactIsValidRow returns true for every input, and its arguments read behind the call as they read before. No condition. -/
import Derived.Test.YtidgfeemjlkdjaaFrame
import Derived.Test.YtidgfeemjlkdjaaRow
import Derived.Test.YtidgfeemjlkdjaaVRow
import Derived.Deep.RegionWith
import Derived.BigRegion
import Derived.RegionTactic
namespace Go.Proofs.Ytidgfeemjlkdjaa.fnExactIsValidRow
open Go.ChangeShapes Go.WideShapes Go.ChangeAt Go.RowKit
open Go.ChangeMaps (open_string shut_string)
set_option linter.unusedVariables false
set_option linter.unusedSimpArgs false

set_option maxHeartbeats 1000000 in
theorem walk (vaR : Value) (xaR : TRow) (w : World) (DaR : DRow w vaR xaR) :
    Calls Try.prog 4 #[vaR] w fun e w' => e = .returned (.bool true) ∧ Below w.heap.size w w' := by
  obtain ⟨uR, rfl, DuR⟩ := DaR
  obtain ⟨aoR, cR, rfl⟩ := DuR.shape
  have DaR : DRow w (.agg #[.slice aoR xaR.length cR]) xaR := ⟨_, rfl, DuR⟩
  clear DuR
  replace DaR := Lib.hid DaR
  by_cases haR : szRow xaR ≤ 1048576
  · have hdaR : True := trivial
    go_enter Try.func4, Try.ntmps4
    have hB := Lib.hid ((Below.refl w.heap.size w).alloc (Nat.le_refl _) (.cells #[.slice aoR xaR.length cR] 30))
    have bx := Lib.hid (Row.one1 w 30 (.slice aoR xaR.length cR))
    have cx := bx.out.cell1
    go_wp2_with fail
    refine (szRow_yes (DaR.out.next hB.out) (by omega) (by omega)).mono ?_
    rintro e W1 ⟨rfl, b⟩
    clear cx
    replace hB := Lib.hid (Below.next hB.out b)
    replace bx := Lib.hid (bx.out.below b bx.out.lt)
    clear b
    have cx := bx.out.cell1
    go_wp2_with fail
    refine (toRow_law (DaR.out.next hB.out) (by first | exact haR | omega)).mono ?_
    rintro e W3 ⟨vt2, Ft2, rfl, rt2, fr, b⟩
    obtain ⟨ut2, rfl, qt2⟩ := rt2
    obtain ⟨at2, ct2, rfl⟩ := qt2.rd.shape
    have rt2 : RRow W3 (.agg #[.slice at2 xaR.length ct2]) xaR Ft2 := ⟨_, rfl, qt2⟩
    clear qt2
    have ft2 := Lib.hid (Fr.of hB.out fr)
    clear fr
    clear cx
    replace hB := Lib.hid (Below.next hB.out b)
    replace bx := Lib.hid (bx.out.below b bx.out.lt)
    clear b
    replace rt2 := Lib.hid rt2
    have cx := bx.out.cell1
    go_wp2_with fail
    refine (spec_IsValidRow_law rt2.out).mono ?_
    rintro e W4 ⟨rfl, b⟩
    clear cx
    replace hB := Lib.hid (Below.next hB.out b)
    replace bx := Lib.hid (bx.out.below b bx.out.lt)
    replace rt2 := Lib.hid (rt2.out.next b)
    clear b
    clear rt2 ft2
    have cx := bx.out.cell1
    go_wp2_with fail
    refine (toRow_law (DaR.out.next hB.out) (by first | exact haR | omega)).mono ?_
    rintro e W6 ⟨vx0, Fx0, rfl, rx0, fr, b⟩
    obtain ⟨ux0, rfl, qx0⟩ := rx0
    obtain ⟨ax0, cx0, rfl⟩ := qx0.rd.shape
    have rx0 : RRow W6 (.agg #[.slice ax0 xaR.length cx0]) xaR Fx0 := ⟨_, rfl, qx0⟩
    clear qx0
    have fx0 := Lib.hid (Fr.of hB.out fr)
    clear fr
    clear cx
    replace hB := Lib.hid (Below.next hB.out b)
    replace bx := Lib.hid (bx.out.below b bx.out.lt)
    clear b
    replace rx0 := Lib.hid rx0
    have ba := (Below.refl W6.heap.size W6).alloc (Nat.le_refl _) (.cells #[.slice ax0 xaR.length cx0] 33)
    have bz := Lib.hid (Row.one1 W6 33 (.slice ax0 xaR.length cx0))
    replace hB := Lib.hid (Below.next hB.out ba)
    replace bx := Lib.hid (bx.out.below ba bx.out.lt)
    replace rx0 := Lib.hid (rx0.out.next ba)
    clear ba
    have cx := bx.out.cell1
    have cz := bz.out.cell1
    go_wp2_with fail
    refine (impl_IsValidRow_law rx0.out).mono ?_
    rintro e W7 ⟨rfl, b⟩
    clear cx
    clear cz
    replace hB := Lib.hid (Below.next hB.out b)
    replace bx := Lib.hid (bx.out.below b bx.out.lt)
    replace bz := Lib.hid (bz.out.below b bz.out.lt)
    replace rx0 := Lib.hid (rx0.out.next b)
    clear b
    have cx := bx.out.cell1
    have cz := bz.out.cell1
    have hBd := Lib.hid (show Below w.heap.size w W7.drew from Below.drewN hB.out 1)
    have rxd := Lib.hid (rx0.out.next (show Below W7.heap.size W7 W7.drew from Below.drewN (Below.refl _ _) 1))
    have bzd := Lib.hid (bz.out.below (show Below W7.heap.size W7 W7.drew from Below.drewN (Below.refl _ _) 1) bz.out.lt)
    go_wp2
    go_region_with (first
      | (go_at_call 12; refine (toRow_law (DaR.out.next hBd.out) haR).mono ?_; rintro e W9 ⟨vt8, Ft8, rfl, rt8, fr, b⟩; obtain ⟨ut8, rfl, qt8⟩ := rt8; obtain ⟨at8, ct8, rfl⟩ := qt8.rd.shape; have cz9 := (bzd.out.below b bzd.out.lt).cell1; replace qt8 := Lib.hid qt8; replace b := Lib.hid b; clear fr)
      | (go_at_call 14; refine (eqRow_law (rxd.out.next b.out) ⟨_, rfl, qt8.out⟩).mono ?_; rintro e WA ⟨rfl, b2⟩; replace b2 := Lib.hid b2))
    all_goals (go_wp2; go_ret; exact ⟨rfl, Below.next (Below.next hBd.out b.out) b2.out⟩)
  · go_enter Try.func4, Try.ntmps4
    have hB := Lib.hid ((Below.refl w.heap.size w).alloc (Nat.le_refl _) (.cells #[.slice aoR xaR.length cR] 30))
    have bx := Lib.hid (Row.one1 w 30 (.slice aoR xaR.length cR))
    have cx := bx.out.cell1
    go_wp2_with fail
    refine (szRow_no (DaR.out.next hB.out) (by omega) (by omega) (by omega)).mono ?_
    rintro e _ ⟨rfl, b⟩
    clear cx
    replace hB := Lib.hid (Below.next hB.out b)
    replace bx := Lib.hid (bx.out.below b bx.out.lt)
    clear b
    have cx := bx.out.cell1
    go_wp2
    go_ret
    exact ⟨rfl, hB.out⟩

set_option maxRecDepth 100000 in
theorem lifted (os : Os) (started : os.Started) (H : Type) (enc : TypeId × Value → H) :
    ReturnsInHanded {} Try.checked os 4 .any (Rows.fnExactIsValidRowSpec.pre6 enc Try.prog Try.f4 Rows.fnExactIsValidRowRow.domain false) (Rows.fnExactIsValidRowSpec.post enc Try.prog Try.f4 false true false false) := by
  refine returnsInHanded_of_change (C := Try.checked) own started (by kernel_rfl) Try.func4
    (ChangeSpec.witness6 (enc := enc) (C := Try.checked) false ⟨#[], #[.agg #[.slice none 0 0]], []⟩ 8 (by kernel_rfl) (by kernel_rfl) (by kernel_rfl) (by kernel_rfl)) ?_
  intro W base args ds gs before hval0 hW hcnd _
  have hval : ∀ (j : Nat) t v, Try.f4.params[j]? = some t → args[j]? = some v → Value.okWide Try.prog W .any base t v := hval0
  have hW' := hW
  obtain ⟨p, q, hA0, hV, rfl, hfz, hnd⟩ := hW
  have hA : DataW.TrodAll enc Try.prog W 0 (fun _ => true) true Try.f4.params.toList args.toList ds p := hA0
  rw [Try.params4] at hA hval
  obtain ⟨v0, vs0, d0, ds0, p0, q0, hargs, rfl, rfl, h0, r0⟩ := trodAll_cons hA
  obtain ⟨rfl, rfl, rfl⟩ := trodAll_nil r0
  obtain rfl : args = #[v0] := by cases args; simp_all
  obtain ⟨rfl, rfl⟩ := trodVars_none hV
  have k0 := h0
  have lt0 : ∀ x ∈ p0, x.block < W.heap.size := by obtain ⟨m, hm⟩ := k0; exact DataW.trod_lt m _ _ _ hm
  obtain ⟨x0, D0⟩ := argRow (hval 0 30 v0 rfl rfl) h0
  clear hA0 hval0
  refine (walk v0 x0 W D0).mono fun e W' ⟨he, bel⟩ => ?_
  subst he
  exact ⟨_, rfl, _, _, _, [], _, [], hW', trodAll_mk1 (shut_bool Try.underlying4 _), (trodAll_cons_mk (Below.trod laidOut (by kernel_rfl) (of_decide_eq_true (by kernel_rfl)) k0 bel lt0) trodAll_mk0), rfl, bel.frame _, fun h => by cases h⟩

theorem over : Rows.fnExactIsValidRowRow.holds Try.pinned (OpenSpec.ofChange Rows.fnExactIsValidRowSpec) :=
  OpenClaim.holds_of_wide 4 Try.f4 rfl rfl rfl rfl rfl rfl rfl ⟨rfl, rfl, rfl, rfl, rfl⟩ rfl rfl rfl rfl rfl (by kernel_rfl) Try.func4 (by kernel_rfl)
    (of_decide_eq_true (by kernel_rfl)) (by unfold Func.isWrapper; first | (rw [if_pos (by decide +kernel)]; kernel_rfl) | (rw [if_neg (by decide +kernel)]; exact ⟨rfl, rfl⟩))
    (fun os started H enc _ => lifted os started H enc)

theorem proved : Rows.FnExactIsValidRowSaid := over
end Go.Proofs.Ytidgfeemjlkdjaa.fnExactIsValidRow
