/- InsertionSort. -/
import Derived.Test.YtdhcpoeopooejaaGap
namespace Go.Proofs.Ytdhcpoeopooejaa
open Go.RowKit
set_option linter.unusedVariables false
set_option linter.unusedSimpArgs false

/-- The result of InsertionSort. -/
def insR (x : List Int) : List Int × Nat × Nat × Bool := if vlist x then ((gapF 1 x).1, (gapF 1 x).2.1, (gapF 1 x).2.2, true) else ([], 0, 0, false)
theorem insR_len (x : List Int) : (insR x).1.length ≤ 100000000000 := by
  unfold insR
  split
  · rename_i h
    have := (vlist_iff.1 h).1
    dsimp only
    rw [gapF_length]; omega
  · simp

set_option maxHeartbeats 1000000 in
theorem impl_InsertionSort_law {v : Value} {x : List Int} {F : List Nat} {w : World} (r : RIntS w v x F) :
    Calls Try.prog 50 #[v] w fun e w' => ∃ r F, e = .returned (.tuple #[r, .int .i64 (insR x).2.1, .int .i64 (insR x).2.2.1, .bool (insR x).2.2.2]) ∧ RIntS w' r (insR x).1 F ∧ Fr w.heap.size F ∧ Below w.heap.size w w' ∧ (insR x).1.length ≤ 100000000000 := by
  have hv := Lib.hid r.1
  have hlen := Lib.hid (insR_len x)
  clear r
  cases h : vlist x
  · have e0 : insR x = ([], 0, 0, false) := by simp [insR, h]
    rw [e0] at hlen ⊢
    clear e0
    go_enter Try.func50, Try.ntmps50
    go_wp2_with fail
    refine (isValidList_any _ _ _ (Sl.rd hv.out)).mono ?_
    rintro e w1 ⟨rfl, hb⟩
    replace hb := Lib.hid hb
    go_wp2
    refine bodyPost_ret (results_tmp4 rfl _ _ _) rfl ?_
    exact ⟨_, _, rfl, (Fresh.nil hb.out).law.1, (Fresh.nil hb.out).law.2.1, (Fresh.nil hb.out).law.2.2, hlen.out⟩
  · have e0 : insR x = ((gapF 1 x).1, (gapF 1 x).2.1, (gapF 1 x).2.2, true) := by simp [insR, h]
    have hl := (vlist_iff.1 h).1
    rw [e0] at hlen ⊢
    clear e0
    go_enter Try.func50, Try.ntmps50
    go_wp2_with fail
    refine (isValidList_any _ _ _ (Sl.rd hv.out)).mono ?_
    rintro e w1 ⟨rfl, hb⟩
    replace hv := Lib.hid (hv.out.below hb hv.out.lt)
    replace hb := Lib.hid hb
    go_wp2_with fail
    refine (copyInt_any _ _ _ hv.out (by omega)).mono ?_
    rintro e w2 ⟨r, rfl, hf⟩
    obtain ⟨ao, c, rfl, _⟩ := hf.shape
    replace hf := Lib.hid hf
    go_wp2_with fail
    refine (gapped_any ao c x 1 _ hf.out.sl hl (by omega) (by omega)).mono ?_
    rintro e w3 ⟨rfl, hs, hex, _, _⟩
    have hfin := Lib.hid (FreshOwn.wrote hb.out hf.out hs hex)
    clear hs hex
    go_wp2
    refine bodyPost_ret (results_tmp4 rfl _ _ _) rfl ?_
    exact ⟨_, _, rfl, hfin.out.law.1, hfin.out.law.2.1, hfin.out.law.2.2, hlen.out⟩

end Go.Proofs.Ytdhcpoeopooejaa
