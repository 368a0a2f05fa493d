/- IsSorted: the first descent. -/
import Derived.Test.YtdhcpoeopooejaaValid
namespace Go.Proofs.Ytdhcpoeopooejaa
open Go.RowKit
set_option linter.unusedVariables false
set_option linter.unusedSimpArgs false

/-- The smallest index of a descent, or -1. -/
def descF (xs : List Int) : Int := ixf (fun (i : Nat) => decide (gi xs i > gi xs (i + 1))) (List.range (xs.length - 1))
theorem descF_at {xs : List Int} {k : Nat} (hk : k + 1 < xs.length) (h : gi xs k > gi xs (k + 1)) (hq : ∀ j, j < k → gi xs j ≤ gi xs (j + 1)) : descF xs = k := by
  unfold descF
  refine ixf_some (by simp; omega) ?_ fun j hj => ?_
  · simpa using h
  · have := hq j hj
    simp; omega
theorem descF_none {xs : List Int} (hq : ∀ j, j + 1 < xs.length → gi xs j ≤ gi xs (j + 1)) : descF xs = -1 := by
  unfold descF
  refine ixf_none fun j hj => ?_
  have := hq j (by simp at hj; omega)
  simp; omega
theorem descF_neg {xs : List Int} : descF xs < 0 ↔ ∀ j, j + 1 < xs.length → gi xs j ≤ gi xs (j + 1) := by
  constructor
  · intro h j hj
    have h2 := ixf_nonneg (fun (i : Nat) => decide (gi xs i > gi xs (i + 1))) (List.range (xs.length - 1))
    rw [decide_eq_false (by unfold descF at h; omega)] at h2
    have h3 := List.any_eq_false.1 h2.symm j (by simp; omega)
    simpa using h3
  · intro h
    rw [descF_none h]; decide
/-- The result of IsSorted. -/
def sortedR (xs : List Int) : Int × Bool := if vlist xs then (descF xs, true) else (0, false)

set_option maxHeartbeats 400000 in
theorem impl_descent_any (v : Value) (xs : List Int) (w : World) (hv : Rd w v xs) :
    Calls Try.prog 94 #[v] w fun e w' => e = .returned (.int .i64 (descF xs)) ∧ ∃ q, w' = w.drewN q := by
  obtain ⟨ao, c, rfl, h1, h2, HA⟩ := hv
  unfold maxLen at h2
  generalize hn : xs.length = n at *
  replace HA := Lib.hid HA
  replace hn := Lib.hid hn
  go_enter Try.func94, Try.ntmps94
  go_wp2
  go_loopw [3] (fun i wr => ∃ k q : Nat, 1 ≤ k ∧ (k ≤ n ∨ k = 1) ∧ i = .int .i64 k ∧ wr = w.drewN q ∧ ∀ j, j + 1 < k → gi xs j ≤ gi xs (j + 1)) (fun i _ => n - (intOf i).toNat)
  case atStart => exact ⟨1, 0, by omega, by omega, rfl, rfl, fun j hj => absurd hj (by omega)⟩
  case round =>
    obtain ⟨k, q, hk1, hk, rfl, rfl, hq⟩ := hrel
    replace hq := Lib.hid hq
    by_cases hlt : k < n
    · obtain ⟨b, off, rfl, hR⟩ := HA.out (by omega)
      obtain ⟨m, rfl⟩ : ∃ m, k = m + 1 := ⟨k - 1, by omega⟩
      have hc1 := hR m (by omega)
      have hc2 := hR (m + 1) hlt
      clear hR
      have hi1 : (0 : Int) ≤ (m : Int) := by omega
      have hi2 : ((m + 1 : Nat) : Int) - 1 = (m : Int) := by omega
      generalize hx : gi xs m = x at *
      generalize hy : gi xs (m + 1) = y at *
      replace hx := Lib.hid hx
      replace hy := Lib.hid hy
      by_cases hxy : x > y
      · go_wp2
        go_quiet (fail)
        go_wp2
        go_ret
        refine ⟨ret_int ?_, by first | exact ⟨_, rfl⟩ | exact ⟨_, World.drewN_drewN ..⟩⟩
        exact (descF_at (by rw [hn.out]; omega) (by rw [hx.out, hy.out]; exact hxy) fun j hj => hq.out j (by omega)).symm
      · go_wp2
        go_quiet (fail)
        go_wp2
        go_roundw
        case rel =>
          refine ⟨m + 1 + 1, _, by omega, by omega, by go_num, rfl, fun j hj => ?_⟩
          by_cases hjk : j = m
          · subst hjk; rw [hx.out, hy.out]; omega
          · exact hq.out j (by omega)
        case measure => simp [intOf]; omega
    · go_wp2
      go_ret
      exact ⟨ret_int (descF_none fun j hj => hq.out j (by rw [hn.out] at hj; omega)).symm, _, rfl⟩


set_option maxHeartbeats 400000 in
theorem impl_IsSorted_law {v : Value} {x : List Int} {F : List Nat} {w : World} (r : RIntS w v x F) :
    Calls Try.prog 51 #[v] w fun e w' => e = .returned (.tuple #[.int .i64 (sortedR x).1, .bool (sortedR x).2]) ∧ Below w.heap.size w w' := by
  have hv := Lib.hid r.rd
  clear r
  cases h : vlist x
  · rw [show sortedR x = (0, false) by simp [sortedR, h]]
    go_enter Try.func51, Try.ntmps51
    go_wp2_with (go_at_call 43; refine (isValidList_any _ _ _ hv.out).mono ?_; rintro e w' ⟨rfl, hb⟩)
    go_ret2
    exact ⟨rfl, by assumption⟩
  · rw [show sortedR x = (descF x, true) by simp [sortedR, h]]
    go_enter Try.func51, Try.ntmps51
    go_wp2_with fail
    refine (isValidList_any _ _ _ hv.out).mono ?_
    rintro e w1 ⟨rfl, hb⟩
    replace hb := Lib.hid hb
    go_wp2_with fail
    refine (impl_descent_any _ _ _ (hv.out.below hb.out)).mono ?_
    rintro e w2 ⟨rfl, b⟩
    replace hb := Lib.hid (Below.next hb.out (Below.quiet b))
    clear b
    go_wp2
    go_ret2
    exact ⟨rfl, hb.out⟩
end Go.Proofs.Ytdhcpoeopooejaa
