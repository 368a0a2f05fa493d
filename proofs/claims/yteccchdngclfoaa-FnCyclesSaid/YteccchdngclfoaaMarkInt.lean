/- The law's own helpers markIntS and heldIntS: marks written into a slice, and read back. -/
import Derived.Test.YteccchdngclfoaaBase
namespace Go.Proofs.Yteccchdngclfoaa
open Go.RowKit
set_option linter.unusedVariables false
set_option linter.unusedSimpArgs false

/-- What markIntS leaves in a slice of n ints from mark k on. -/
def marks (k : Int) (n : Nat) : List Int := (List.range n).map fun (j : Nat) => k + (j : Int)
@[simp] theorem marks_length (k : Int) (n : Nat) : (marks k n).length = n := by simp [marks]
theorem marks_gi (k : Int) (n j : Nat) (h : j < n) : gi (marks k n) j = k + (j : Int) := by
  rw [gi_eq (by simpa using h)]; simp [marks]
theorem marks_step (xs : List Int) (k : Int) (i n : Nat) (hn : xs.length = n) (hi : i < n) : (marks k i ++ xs.drop i).set i (k + (i : Int)) = marks k (i + 1) ++ xs.drop (i + 1) := by
  apply List.ext_getElem?
  intro j
  rw [List.getElem?_set]
  simp only [List.length_append, marks_length, List.length_drop]
  by_cases h : i = j
  · subst h
    rw [if_pos rfl, if_pos (by omega), List.getElem?_append_left (by simp)]
    simp [marks]
  · rw [if_neg h]
    by_cases h2 : j < i
    · rw [List.getElem?_append_left (by simp; omega), List.getElem?_append_left (by simp; omega)]
      simp [marks, h2, Nat.lt_succ_of_lt h2]
    · rw [List.getElem?_append_right (by simp; omega), List.getElem?_append_right (by simp; omega)]
      simp only [marks_length, List.getElem?_drop]
      congr 1
      omega


end Go.Proofs.Yteccchdngclfoaa
