/- MergeSorted; cmp.Compare, compareKeys, slices.IsSortedFunc at records, spec.l5Ascending. -/
import Derived.Test.YtdhcpoeopooejaaMerge
import Derived.Test.YtdhcpoeopooejaaValidR
namespace Go.Proofs.Ytdhcpoeopooejaa
open Go.RowKit
set_option linter.unusedVariables false
set_option linter.unusedSimpArgs false

/-- Ascending by key. -/
def ascB (xs : List (Int × Int)) : Bool := (List.range (xs.length - 1)).all fun i => decide ((gr xs i).1 ≤ (gr xs (i + 1)).1)
theorem ascB_true {xs : List (Int × Int)} (h : ∀ i, i + 1 < xs.length → (gr xs i).1 ≤ (gr xs (i + 1)).1) : ascB xs = true := by
  unfold ascB
  rw [List.all_eq_true]
  intro i hi
  exact decide_eq_true (h i (by simp at hi; omega))
theorem ascB_false {xs : List (Int × Int)} {i : Nat} (hi : i + 1 < xs.length) (h : ¬ (gr xs i).1 ≤ (gr xs (i + 1)).1) : ascB xs = false := by
  unfold ascB
  rw [List.all_eq_false]
  exact ⟨i, by simp; omega, by simpa using h⟩
/-- cmp.Compare at ints. -/
def cmpI (a b : Int) : Int := if a < b then -1 else if a > b then 1 else 0

set_option maxHeartbeats 400000 in
theorem isNaN_any (a : Int) (w : World) : Calls Try.prog 122 #[.int .i64 a] w fun e w' => e = .returned (.bool false) ∧ w = w' := by
  go_enter Try.func122, Try.ntmps122
  go_wp2
  go_ret
  exact ⟨rfl, rfl⟩
set_option maxHeartbeats 400000 in
theorem cmpInt_any (a b : Int) (w : World) : Calls Try.prog 105 #[.int .i64 a, .int .i64 b] w fun e w' => e = .returned (.int .i64 (cmpI a b)) ∧ w = w' := by
  have ha : Hid (∀ w, Calls Try.prog 122 #[.int .i64 a] w fun e w' => e = .returned (.bool false) ∧ w = w') := Lib.hid fun w => isNaN_any a w
  have hb : Hid (∀ w, Calls Try.prog 122 #[.int .i64 b] w fun e w' => e = .returned (.bool false) ∧ w = w') := Lib.hid fun w => isNaN_any b w
  by_cases h1 : a < b
  · rw [show cmpI a b = -1 by simp [cmpI, h1]]
    go_enter Try.func105, Try.ntmps105
    go_wp2_with (go_at_call 122; refine (isNaN_any _ _).mono ?_; rintro e w' ⟨rfl, rfl⟩)
    go_ret
    exact ⟨rfl, rfl⟩
  · by_cases h2 : a > b
    · rw [show cmpI a b = 1 by unfold cmpI; rw [if_neg h1, if_pos h2]]
      go_enter Try.func105, Try.ntmps105
      go_wp2_with (go_at_call 122; refine (isNaN_any _ _).mono ?_; rintro e w' ⟨rfl, rfl⟩)
      go_ret
      exact ⟨rfl, rfl⟩
    · rw [show cmpI a b = 0 by unfold cmpI; rw [if_neg h1, if_neg h2]]
      go_enter Try.func105, Try.ntmps105
      go_wp2_with (go_at_call 122; refine (isNaN_any _ _).mono ?_; rintro e w' ⟨rfl, rfl⟩)
      go_ret
      exact ⟨rfl, rfl⟩
set_option maxHeartbeats 400000 in
theorem compareKeys_any (a b c d : Int) (w : World) : Calls Try.prog 109 #[.agg #[.int .i64 a, .int .i64 b], .agg #[.int .i64 c, .int .i64 d]] w fun e w' => e = .returned (.int .i64 (cmpI a c)) ∧ Below w.heap.size w w' := by
  go_enter Try.func109, Try.ntmps109
  go_wp2_with (go_at_call 105; refine (cmpInt_any _ _ _).mono ?_; rintro e w' ⟨rfl, rfl⟩)
  go_ret
  exact ⟨rfl, ((Below.refl _ _).alloc (Nat.le_refl _) _).alloc (by simp) _⟩
theorem compareKeys_lt (a b c d : Int) (w : World) (t : Bool) (h : decide (cmpI a c < 0) = t) : Calls Try.prog 109 #[.agg #[.int .i64 a, .int .i64 b], .agg #[.int .i64 c, .int .i64 d]] w fun e w' => e = .returned (.int .i64 (cmpI a c)) ∧ Below w.heap.size w w' := compareKeys_any a b c d w



/-- The result of MergeSorted. -/
def mgB (x y : List (Int × Int)) : Bool := vrecs x && vrecs y && ascB x && ascB y && decide (x.length + y.length ≤ 64)
def mgR (x y : List (Int × Int)) : List (Int × Int) × Nat × Bool := if mgB x y then ((mergeF x y).1, (mergeF x y).2, true) else ([], 0, false)
theorem mgR_sz (x y : List (Int × Int)) : szRecordS (mgR x y).1 ≤ 100000000000 := by
  unfold mgR
  split
  · rename_i h
    simp [mgB] at h
    have h2 := (mergeF_len _ x y rfl).1
    unfold szRecordS
    dsimp only
    omega
  · simp [szRecordS]
end Go.Proofs.Ytdhcpoeopooejaa
