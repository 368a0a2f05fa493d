/- ShellSort. -/
import Derived.Test.YtdhcpoeopooejaaGap
namespace Go.Proofs.Ytdhcpoeopooejaa
open Go.RowKit
set_option linter.unusedVariables false
set_option linter.unusedSimpArgs false

/-- Gap k is in range and less than the one before. -/
def gapAt (gs : List Int) (k : Nat) : Bool := inB (gi gs k) 1 64 && (decide (k = 0) || decide (gi gs (k - 1) > gi gs k))
/-- Valid gaps. -/
def gapsB (gs : List Int) : Bool := (List.range gs.length).all (gapAt gs) && (inB gs.length 1 10 && decide (gi gs (gs.length - 1) = 1))
theorem gapsB_bad {gs : List Int} {k : Nat} (hk : k < gs.length) (h : gapAt gs k = false) : gapsB gs = false := by
  have : (List.range gs.length).all (gapAt gs) = false := by
    rw [List.all_eq_false]
    exact ⟨k, by simpa using hk, by simp [h]⟩
  simp [gapsB, this]
theorem gapsB_all {gs : List Int} (h : ∀ j, j < gs.length → gapAt gs j = true) : gapsB gs = (inB gs.length 1 10 && decide (gi gs (gs.length - 1) = 1)) := by
  have : (List.range gs.length).all (gapAt gs) = true := by
    rw [List.all_eq_true]
    intro j hj
    exact h j (by simpa using hj)
  simp [gapsB, this]
theorem gapsB_at {gs : List Int} (h : gapsB gs = true) : gs.length ≤ 10 ∧ ∀ j, j < gs.length → 1 ≤ gi gs j ∧ gi gs j ≤ 64 := by
  simp [gapsB] at h
  obtain ⟨h1, h2, _⟩ := h
  have := inB_iff.1 h2
  refine ⟨by omega, fun j hj => ?_⟩
  have := h1 j hj
  simp [gapAt] at this
  exact inB_iff.1 this.1
/-- The list and the comparisons behind the first k gaps. -/
def shellK (gs x : List Int) : Nat → List Int × Nat
  | 0 => (x, 0)
  | k + 1 => ((gapF (gi gs k).toNat (shellK gs x k).1).1, (shellK gs x k).2 + (gapF (gi gs k).toNat (shellK gs x k).1).2.1)
theorem shellK_length (gs x : List Int) (k : Nat) : (shellK gs x k).1.length = x.length := by
  induction k with
  | zero => rfl
  | succ k ih => rw [shellK, gapF_length, ih]
/-- The result of ShellSort. -/
def shellR (x gs : List Int) : List Int × Nat × Bool := if vlist x && gapsB gs then ((shellK gs x gs.length).1, (shellK gs x gs.length).2, true) else ([], 0, false)
theorem shellR_len (x gs : List Int) : (shellR x gs).1.length ≤ 100000000000 := by
  unfold shellR
  split
  · rename_i h
    simp at h
    have := (vlist_iff.1 h.1).1
    dsimp only
    rw [shellK_length]; omega
  · simp




end Go.Proofs.Ytdhcpoeopooejaa
