/- IsHeap: the first element that is greater than its parent. -/
import Derived.Test.YtkdengglllfcdaaHeapDepth
namespace Go.Proofs.Ytkdengglllfcdaa
open Go.RowKit
set_option linter.unusedVariables false
set_option linter.unusedSimpArgs false

/-- Element i is greater than its parent. -/
def faultAt (d : Nat) (xs : List Int) (i : Nat) : Bool := decide (gi xs (i + 1) > gi xs (i / d))
/-- The smallest index whose element is greater than that of its parent, or -1. -/
def faultF (d : Nat) (xs : List Int) : Int := if ixf (faultAt d xs) (List.range (xs.length - 1)) < 0 then -1 else ixf (faultAt d xs) (List.range (xs.length - 1)) + 1
theorem faultF_at {d : Nat} {xs : List Int} {k : Nat} (hk : k + 1 < xs.length) (h : gi xs (k + 1) > gi xs (k / d)) (hq : ∀ j, j < k → gi xs (j + 1) ≤ gi xs (j / d)) : faultF d xs = (k : Int) + 1 := by
  have : ixf (faultAt d xs) (List.range (xs.length - 1)) = k := by
    refine ixf_some (by simp; omega) ?_ fun j hj => ?_
    · simpa [faultAt] using h
    · have := hq j hj
      simp [faultAt]; omega
  unfold faultF
  rw [this, if_neg (by omega)]
theorem faultF_none {d : Nat} {xs : List Int} (hq : ∀ j, j + 1 < xs.length → gi xs (j + 1) ≤ gi xs (j / d)) : faultF d xs = -1 := by
  have : ixf (faultAt d xs) (List.range (xs.length - 1)) = -1 := by
    refine ixf_none fun j hj => ?_
    have := hq j (by simp at hj; omega)
    simp [faultAt]; omega
  unfold faultF
  rw [this, if_pos (by omega)]
theorem faultF_neg {d : Nat} {xs : List Int} : faultF d xs < 0 ↔ ∀ j, j + 1 < xs.length → gi xs (j + 1) ≤ gi xs (j / d) := by
  constructor
  · intro h j hj
    have h2 := ixf_nonneg (faultAt d xs) (List.range (xs.length - 1))
    unfold faultF at h
    split at h
    · rw [decide_eq_false (by omega)] at h2
      have h3 := List.any_eq_false.1 h2.symm j (by simp; omega)
      simpa [faultAt] using h3
    · omega
  · intro h
    rw [faultF_none h]; decide
/-- The result of IsHeap. -/
def isHeapR (xs : List Int) (d : Int) : Int × Bool := if vlist xs && inB d 2 8 then (faultF d.toNat xs, true) else (0, false)

set_option maxHeartbeats 400000 in
theorem firstFault_any (v : Value) (xs : List Int) (d : Nat) (w : World) (hv : Rd w v xs) (hd : 1 ≤ d) (hd2 : d ≤ 8) :
    Calls Try.prog 76 #[v, .int .i64 d] w fun e w' => e = .returned (.int .i64 (faultF d xs)) ∧ ∃ q, w' = w.drewN q := by
  obtain ⟨ao, c, rfl, h1, h2, HA⟩ := hv
  unfold maxLen at h2
  generalize hn : xs.length = n at *
  replace HA := Lib.hid HA
  replace hn := Lib.hid hn
  go_enter Try.func76, Try.ntmps76
  go_wp2
  go_loopw [5] (fun i wr => ∃ k q : Nat, 1 ≤ k ∧ (k ≤ n ∨ k = 1) ∧ i = .int .i64 k ∧ wr = w.drewN q ∧ ∀ j, j + 1 < k → gi xs (j + 1) ≤ gi xs (j / d)) (fun i _ => n - (intOf i).toNat)
  case atStart => exact ⟨1, 0, by omega, by omega, rfl, rfl, fun j hj => absurd hj (by omega)⟩
  case round =>
    obtain ⟨k, q, hk1, hk, rfl, rfl, hq⟩ := hrel
    replace hq := Lib.hid hq
    by_cases hlt : k < n
    · obtain ⟨b, off, rfl, hR⟩ := HA.out (by omega)
      obtain ⟨m, rfl⟩ : ∃ m, k = m + 1 := ⟨k - 1, by omega⟩
      have hdv := Nat.div_le_self m d
      have hc1 := hR (m + 1) hlt
      have hc2 := hR (m / d) (by omega)
      clear hR
      have hi1 : (0 : Int) ≤ (m : Int) := by omega
      have hi2 : ((m + 1 : Nat) : Int) - 1 = (m : Int) := by omega
      have hi4 : (m : Int) / (d : Int) = ((m / d : Nat) : Int) := (Int.natCast_ediv m d).symm
      generalize hx : gi xs (m / d) = x at *
      generalize hy : gi xs (m + 1) = y at *
      replace hx := Lib.hid hx
      replace hy := Lib.hid hy
      generalize hp : m / d = p at *
      replace hp := Lib.hid hp
      have hi5 : (0 : Int) ≤ (p : Int) := by omega
      have hi6 : (p : Int) < (n : Int) := by omega
      have hi7 : ((p : Int)).toNat = p := by omega
      by_cases hxy : y > x
      · go_wp2
        go_quiet (fail)
        clear hi2 hi4 hi7
        go_wp2
        go_ret
        refine ⟨ret_int ?_, by first | exact ⟨_, rfl⟩ | exact ⟨_, World.drewN_drewN ..⟩⟩
        exact (faultF_at (k := m) (by rw [hn.out]; omega) (by rw [hp.out, hx.out, hy.out]; exact hxy) fun j hj => hq.out j (by omega)).symm
      · go_wp2
        go_quiet (fail)
        clear hi2 hi4 hi7
        go_wp2
        go_roundw
        case rel =>
          refine ⟨m + 1 + 1, _, by omega, by omega, by go_num, rfl, fun j hj => ?_⟩
          by_cases hjk : j = m
          · subst hjk; rw [hp.out, hx.out, hy.out]; omega
          · exact hq.out j (by omega)
        case measure => simp [intOf]; omega
    · go_wp2
      go_ret
      exact ⟨ret_int (faultF_none fun j hj => hq.out j (by rw [hn.out] at hj; omega)).symm, _, rfl⟩
set_option maxHeartbeats 400000 in
theorem l6Defect_any (v : Value) (xs : List Int) (d : Nat) (w : World) (hv : Rd w v xs) (hd : 1 ≤ d) (hd2 : d ≤ 8) :
    Calls Try.prog 75 #[v, .int .i64 d] w fun e w' => e = .returned (.int .i64 (faultF d xs)) ∧ ∃ q, w' = w.drewN q := by
  obtain ⟨ao, c, rfl, h1, h2, HA⟩ := hv
  unfold maxLen at h2
  generalize hn : xs.length = n at *
  replace HA := Lib.hid HA
  replace hn := Lib.hid hn
  go_enter Try.func75, Try.ntmps75
  go_wp2
  go_loopw [5] (fun i wr => ∃ k q : Nat, 1 ≤ k ∧ (k ≤ n ∨ k = 1) ∧ i = .int .i64 k ∧ wr = w.drewN q ∧ ∀ j, j + 1 < k → gi xs (j + 1) ≤ gi xs (j / d)) (fun i _ => n - (intOf i).toNat)
  case atStart => exact ⟨1, 0, by omega, by omega, rfl, rfl, fun j hj => absurd hj (by omega)⟩
  case round =>
    obtain ⟨k, q, hk1, hk, rfl, rfl, hq⟩ := hrel
    replace hq := Lib.hid hq
    by_cases hlt : k < n
    · obtain ⟨b, off, rfl, hR⟩ := HA.out (by omega)
      obtain ⟨m, rfl⟩ : ∃ m, k = m + 1 := ⟨k - 1, by omega⟩
      have hdv := Nat.div_le_self m d
      have hc1 := hR (m + 1) hlt
      have hc2 := hR (m / d) (by omega)
      clear hR
      have hi1 : (0 : Int) ≤ (m : Int) := by omega
      have hi2 : ((m + 1 : Nat) : Int) - 1 = (m : Int) := by omega
      have hi4 : (m : Int) / (d : Int) = ((m / d : Nat) : Int) := (Int.natCast_ediv m d).symm
      generalize hx : gi xs (m / d) = x at *
      generalize hy : gi xs (m + 1) = y at *
      replace hx := Lib.hid hx
      replace hy := Lib.hid hy
      generalize hp : m / d = p at *
      replace hp := Lib.hid hp
      have hi5 : (0 : Int) ≤ (p : Int) := by omega
      have hi6 : (p : Int) < (n : Int) := by omega
      have hi7 : ((p : Int)).toNat = p := by omega
      by_cases hxy : y > x
      · go_wp2
        go_quiet (fail)
        clear hi2 hi4 hi7
        go_wp2
        go_ret
        refine ⟨ret_int ?_, by first | exact ⟨_, rfl⟩ | exact ⟨_, World.drewN_drewN ..⟩⟩
        exact (faultF_at (k := m) (by rw [hn.out]; omega) (by rw [hp.out, hx.out, hy.out]; exact hxy) fun j hj => hq.out j (by omega)).symm
      · go_wp2
        go_quiet (fail)
        clear hi2 hi4 hi7
        go_wp2
        go_roundw
        case rel =>
          refine ⟨m + 1 + 1, _, by omega, by omega, by go_num, rfl, fun j hj => ?_⟩
          by_cases hjk : j = m
          · subst hjk; rw [hp.out, hx.out, hy.out]; omega
          · exact hq.out j (by omega)
        case measure => simp [intOf]; omega
    · go_wp2
      go_ret
      exact ⟨ret_int (faultF_none fun j hj => hq.out j (by rw [hn.out] at hj; omega)).symm, _, rfl⟩

set_option maxHeartbeats 400000 in
theorem l6Valid_any (v : Value) (x : List Int) (d : Int) (w : World) (hv : Rd w v x) :
    Calls Try.prog 66 #[v, .int .i64 d] w fun e w' => e = .returned (.bool (vlist x && inB d 2 8)) ∧ w = w' := by
  replace hv := Lib.hid hv
  cases h : vlist x
  · go_enter Try.func66, Try.ntmps66
    go_wp2_with (go_at_call 53; refine (l2List_any _ _ _ hv.out).mono ?_; rintro e w' ⟨rfl, rfl⟩)
    go_ret
    exact ⟨rfl, rfl⟩
  · go_enter Try.func66, Try.ntmps66
    go_wp2_with (first | (go_at_call 53; refine (l2List_any _ _ _ hv.out).mono ?_; rintro e w' ⟨rfl, rfl⟩) | (go_at_call 46; refine (l1In_any _ _ _ _).mono ?_; rintro e w' ⟨rfl, rfl⟩))
    go_ret
    exact ⟨rfl, rfl⟩
end Go.Proofs.Ytkdengglllfcdaa
