/- laws.FnExactSplitString returns true for every input, and its arguments read behind the call as they read before. Condition: the listed tables of the library read as its text lays them; the card ties them to the text. -/
import Derived.Test.YtmpgndfnimlgnaaDoorFrame
import Derived.Test.YtmpgndfnimlgnaaDoorRow
import Derived.Test.YtmpgndfnimlgnaaDoorSplit
import Derived.Test.YtmpgndfnimlgnaaDoorHStr
import Derived.Test.YtmpgndfnimlgnaaDoorDoorP
import Derived.Test.YtmpgndfnimlgnaaDoorCards
import Derived.SevenTiedAt
import Derived.OpenShut
import Derived.ShutString
namespace Go.Proofs.YtmpgndfnimlgnaaDoor.fnExactSplitString
open Go.ChangeShapes Go.WideShapes Go.ChangeAt Go.RowKit
open Go.ChangeMaps (open_string shut_string)
set_option linter.unusedVariables false
set_option linter.unusedSimpArgs false

set_option maxHeartbeats 1000000 in
theorem walk (aS : ByteArray) (aSep : ByteArray) (w : World) (_laS : aS.size ≤ maxLen) (_laSep : aSep.size ≤ maxLen) (T : MxS w) :
    Calls Tryd.prog 5 #[.string aS, .string aSep] w fun e w' => e = .returned (.bool true) ∧ Below w.heap.size w w' := by
  have hT := Lib.hid T
  clear T
  unfold maxLen at _laS
  unfold maxLen at _laSep
  by_cases haS : aS.size ≤ 1048576
  · have hdaS : decide (1048576 < (aS.size : Int)) = false := by simp; omega
    by_cases haSep : aSep.size ≤ 1048576
    · have hdaSep : decide (1048576 < (aSep.size : Int)) = false := by simp; omega
      go_enter Tryd.func5, Tryd.ntmps5
      have hB := Lib.hid (Below.refl w.heap.size w)
      go_wp2_with fail
      refine (spec_SplitString_law haS haSep).mono ?_
      rintro e W1 ⟨vw0, Fw0, rfl, rw0, fr, b, lnw0⟩
      have fw0 := Lib.hid (Fr.of hB.out fr)
      clear fr
      replace hB := Lib.hid (Below.next hB.out b)
      clear b
      replace rw0 := Lib.hid rw0
      go_wp2_with fail
      refine (impl_SplitString_law haS haSep (hT.out.next hB.out)).mono ?_
      rintro e W2 ⟨vg0, Fg0, rfl, rg0, fr, b, lng0⟩
      have dw0g0 := Lib.hid (Dj.of (rw0.out.lt) fr)
      have fg0 := Lib.hid (Fr.of hB.out fr)
      clear fr
      replace hB := Lib.hid (Below.next hB.out b)
      replace rw0 := Lib.hid (rw0.out.next b)
      clear b
      replace rg0 := Lib.hid rg0
      go_wp2_with fail
      refine (eqStringS_law rg0.out rw0.out).mono ?_
      rintro e W3 ⟨rfl, b⟩
      replace hB := Lib.hid (Below.next hB.out b)
      replace rw0 := Lib.hid (rw0.out.next b)
      replace rg0 := Lib.hid (rg0.out.next b)
      clear b
      go_wp2_with fail
      refine (markStringS_law rg0.out (by omega) (by omega) (by omega)).mono ?_
      rintro e W4 ⟨yg0, ng0, rfl, rmg0, hmg0, lpg0, lmg0, ex⟩
      replace hB := Lib.hid (Below.ex hB.out ex fg0.out)
      replace rw0 := Lib.hid (rw0.out.ex ex dw0g0.out)
      clear ex rg0
      have rg0 := Lib.hid rmg0
      clear rmg0
      replace hmg0 := Lib.hid hmg0
      go_wp2_with fail
      refine (heldStringS_law rg0.out hmg0.out (by omega) (by omega)).mono ?_
      rintro e W5 ⟨rfl, b⟩
      replace hB := Lib.hid (Below.next hB.out b)
      replace rw0 := Lib.hid (rw0.out.next b)
      replace rg0 := Lib.hid (rg0.out.next b)
      clear b
      go_wp2_with fail
      refine (impl_SplitString_law haS haSep (hT.out.next hB.out)).mono ?_
      rintro e W6 ⟨vh0, Fh0, rfl, rh0, fr, b, lnh0⟩
      have dw0h0 := Lib.hid (Dj.of (rw0.out.lt) fr)
      have dg0h0 := Lib.hid (Dj.of (rg0.out.lt) fr)
      have fh0 := Lib.hid (Fr.of hB.out fr)
      clear fr
      replace hB := Lib.hid (Below.next hB.out b)
      replace rw0 := Lib.hid (rw0.out.next b)
      replace rg0 := Lib.hid (rg0.out.next b)
      clear b
      replace rh0 := Lib.hid rh0
      go_wp2_with fail
      refine (eqStringS_law rh0.out rw0.out).mono ?_
      rintro e W7 ⟨rfl, b⟩
      replace hB := Lib.hid (Below.next hB.out b)
      replace rw0 := Lib.hid (rw0.out.next b)
      replace rg0 := Lib.hid (rg0.out.next b)
      replace rh0 := Lib.hid (rh0.out.next b)
      clear b
      clear rw0 fw0
      clear dw0h0 dw0g0
      clear rh0 fh0
      clear dg0h0
      go_wp2_with fail
      refine (heldStringS_law rg0.out hmg0.out (by omega) (by omega)).mono ?_
      rintro e W8 ⟨rfl, b⟩
      replace hB := Lib.hid (Below.next hB.out b)
      replace rg0 := Lib.hid (rg0.out.next b)
      clear b
      clear rg0 fg0
      go_wp2
      go_ret
      exact ⟨rfl, hB.out⟩
    · have hdaSep : decide (1048576 < (aSep.size : Int)) = true := by simp; omega
      go_enter Tryd.func5, Tryd.ntmps5
      go_wp2
      go_ret
      exact ⟨rfl, Below.refl _ _⟩
  · have hdaS : decide (1048576 < (aS.size : Int)) = true := by simp; omega
    go_enter Tryd.func5, Tryd.ntmps5
    go_wp2
    go_ret
    exact ⟨rfl, Below.refl _ _⟩

set_option maxRecDepth 100000 in
theorem lifted (os : Os) (started : os.Started) (H : Type) (enc : TypeId × Value → H) :
    ReturnsInHanded {} Tryd.checked os 5 .any (fun w args => (Rows.fnExactSplitStringSpec.pre enc Tryd.prog Tryd.f5 [] false w args ∧ laidMetH Tryd.prog laidUtf w) ∧ sizedMet enc Tryd.prog Tryd.f5 (OpenSpec.ofChange Rows.fnExactSplitStringSpec) false w args)
      (Rows.fnExactSplitStringSpec.post enc Tryd.prog Tryd.f5 false true false false) := by
  refine handed_listed (C := Tryd.checked) (L := laidUtf) own started (by kernel_rfl) Tryd.func5
    (ChangeSpec.witness_shaped (enc := enc) (C := Tryd.checked) (os := os) (X := fun w _ => laidMetH Tryd.prog laidUtf w) false (World.laidAll Tryd.prog os laidUtf) #[.string ByteArray.empty, .string ByteArray.empty] 8 (World.laidAll_os _ _ _)
      (World.shaped_of_ZipB (by kernel_rfl) (by kernel_rfl)) (by kernel_rfl) (by kernel_rfl) (by kernel_rfl) (utf_met os _)) ?_
  intro W base args ds gs before hval0 hW hL hSh
  have hval : ∀ (j : Nat) t v, Tryd.f5.params[j]? = some t → args[j]? = some v → Value.okWide Tryd.prog W .any base t v := hval0
  have hW' := hW
  obtain ⟨p, q, hA0, hV, rfl, hfz, hnd⟩ := hW
  have hA : DataW.TrodAll enc Tryd.prog W 0 (fun _ => true) true Tryd.f5.params.toList args.toList ds p := hA0
  rw [Tryd.params5] at hA hval
  obtain ⟨v0, vs0, d0, ds0, p0, q0, hargs, rfl, rfl, h0, r0⟩ := trodAll_cons hA
  obtain ⟨v1, vs1, d1, ds1, p1, q1, rfl, rfl, rfl, h1, r1⟩ := trodAll_cons r0
  obtain ⟨rfl, rfl, rfl⟩ := trodAll_nil r1
  obtain rfl : args = #[v0, v1] := by cases args; simp_all
  obtain ⟨rfl, rfl⟩ := trodVars_none hV
  obtain ⟨s0, rfl, rfl, rfl, ls0⟩ := open_string Tryd.underlying9 (hval 0 9 v0 rfl rfl) h0
  obtain ⟨s1, rfl, rfl, rfl, ls1⟩ := open_string Tryd.underlying9 (hval 1 9 v1 rfl rfl) h1
  clear hA0 hval0
  refine (walk s0 s1 W ls0 ls1 (mxs_of_shape hSh)).mono fun e W' ⟨he, bel⟩ => ?_
  subst he
  exact ⟨_, rfl, _, _, _, [], _, [], hW', trodAll_mk1 (shut_bool Tryd.underlying4 _), (trodAll_cons_mk (shut_string Tryd.underlying9 ls0) (trodAll_cons_mk (shut_string Tryd.underlying9 ls1) trodAll_mk0)), rfl, bel.frame _, fun h => by cases h⟩

theorem over : Rows.FnExactSplitStringSaid :=
  OpenClaim.holds_of_wide 5 Tryd.f5 rfl rfl rfl rfl rfl rfl rfl ⟨rfl, rfl, rfl, rfl, rfl⟩ rfl rfl rfl rfl rfl (by kernel_rfl) Tryd.func5 (by kernel_rfl)
    (of_decide_eq_true (by kernel_rfl)) (by unfold Func.isWrapper; first | (rw [if_pos (by decide +kernel)]; kernel_rfl) | (rw [if_neg (by decide +kernel)]; exact ⟨rfl, rfl⟩))
    (fun os started H enc _ => lifted os started H enc)

theorem proved : Rows.FnExactSplitStringCardSaid :=
  Claim7.holds_tied_plain_at .later [] [.data, .pinned] true (true, "76ec41c741ae129a39e8bf8e16266e8a9000971a8e74476edc76ed766cc0fcb1") true
    over (fun _ h => by cases h) (by kernel_rfl) (fun _ h => by cases h) fnExactSplitString_row_tie rfl ⟨rfl, rfl⟩ (by kernel_rfl) rfl
    (fun f fn hf hfn => by
      obtain rfl : f = 5 := Option.some.inj ((show Tryd.prog.funcNamed "loop.example/g00907/laws.FnExactSplitString" = some 5 by kernel_rfl).symm.trans hf) |>.symm
      obtain rfl : fn = Tryd.f5 := (Option.some.inj (Tryd.func5.symm.trans hfn)).symm
      exact ⟨by kernel_rfl, fun j t ht => by
        rw [Tryd.params5] at ht
        have hm : t ∈ [9, 9] := by simpa using Array.mem_of_getElem? ht
        have hall : ([9, 9].all fun u => !Tryd.prog.wantsStandIn u) = true := by kernel_rfl
        exact (show Tryd.prog.wantsStandIn t = false by simpa using List.all_eq_true.1 hall t hm)⟩)
    (by kernel_rfl)
end Go.Proofs.YtmpgndfnimlgnaaDoor.fnExactSplitString
