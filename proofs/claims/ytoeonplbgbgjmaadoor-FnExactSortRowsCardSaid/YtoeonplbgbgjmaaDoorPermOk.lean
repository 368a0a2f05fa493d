/- Valid permutations: l3Good, IsValidPermutation. -/
import Derived.Test.YtoeonplbgbgjmaaDoorValid
namespace Go.Proofs.YtoeonplbgbgjmaaDoor
open Go.RowKit
set_option linter.unusedVariables false
set_option linter.unusedSimpArgs false

/-- Element k of the list may stand in a permutation: in range, and not met before. -/
def permAt (xs : List Int) (k : Nat) : Bool := inB (gi xs k) 0 ((xs.length : Int) - 1) && !(xs.take k).contains (gi xs k)
/-- A valid permutation. -/
def goodP (xs : List Int) : Bool := decide (xs.length ≤ 64) && (List.range xs.length).all (permAt xs)
/-- Which of 0 .. n - 1 are among the first k. -/
def seenL (n : Nat) (xs : List Int) (k : Nat) : List Bool := (List.range n).map fun (j : Nat) => (xs.take k).contains (j : Int)
@[simp] theorem seenL_length (n : Nat) (xs : List Int) (k : Nat) : (seenL n xs k).length = n := by simp [seenL]
theorem seenL_zero (n : Nat) (xs : List Int) : seenL n xs 0 = List.replicate n false := by
  apply List.ext_getElem (by simp)
  intro i h1 h2
  simp [seenL]
theorem seenL_at (n : Nat) (xs : List Int) (k j : Nat) (hj : j < n) : gb (seenL n xs k) j = (xs.take k).contains (j : Int) := by
  rw [gb_eq (by simpa using hj)]; simp [seenL]
theorem seenL_step (n : Nat) (xs : List Int) (k j : Nat) (hk : k < xs.length) (hx : gi xs k = j) : (seenL n xs k).set j true = seenL n xs (k + 1) := by
  apply List.ext_getElem (by simp)
  intro i h1 h2
  have ht : xs.take (k + 1) = xs.take k ++ [(j : Int)] := by
    rw [List.take_succ_eq_append_getElem hk, ← hx, gi_eq hk]
  rw [List.getElem_set]
  simp only [seenL, List.getElem_map, List.getElem_range, ht]
  by_cases h : j = i
  · subst h; simp
  · rw [if_neg h, Bool.eq_iff_iff]
    simp
    intro h'; omega
theorem goodP_long {xs : List Int} (h : 64 < xs.length) : goodP xs = false := by
  have : decide (xs.length ≤ 64) = false := decide_eq_false (by omega)
  simp [goodP, this]
theorem goodP_bad {xs : List Int} {k : Nat} (hk : k < xs.length) (h : permAt xs k = false) : goodP xs = false := by
  have : (List.range xs.length).all (permAt xs) = false := by
    rw [List.all_eq_false]
    exact ⟨k, by simpa using hk, by simp [h]⟩
  simp [goodP, this]
theorem goodP_good {xs : List Int} (hl : xs.length ≤ 64) (h : ∀ j, j < xs.length → permAt xs j = true) : goodP xs = true := by
  have : (List.range xs.length).all (permAt xs) = true := by
    rw [List.all_eq_true]
    intro j hj
    exact h j (by simpa using hj)
  simp [goodP, this, hl]
theorem permAt_iff {xs : List Int} {k : Nat} : permAt xs k = true ↔ (0 ≤ gi xs k ∧ gi xs k ≤ (xs.length : Int) - 1) ∧ ¬ gi xs k ∈ xs.take k := by
  simp [permAt, inB_iff]
theorem goodP_iff {xs : List Int} : goodP xs = true ↔ xs.length ≤ 64 ∧ ∀ k, k < xs.length → permAt xs k = true := by
  constructor
  · intro h
    simp [goodP] at h
    exact ⟨h.1, h.2⟩
  · intro h
    exact goodP_good h.1 h.2



end Go.Proofs.YtoeonplbgbgjmaaDoor
