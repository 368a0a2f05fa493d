/- The law's helpers on slices of slices of ints: eqIntSS, markIntSS, heldIntSS. -/
import Derived.Test.YteccchdngclfoaaIntSS
import Derived.Test.YteccchdngclfoaaHInt
namespace Go.Proofs.Yteccchdngclfoaa
open Go.RowKit
set_option linter.unusedVariables false
set_option linter.unusedSimpArgs false



/-- The slices bear the marks from k to k', one after the other. -/
def MkIntSS (k k' : Int) (y : List (List Int)) : Prop := ∃ K : Nat → Int, K 0 = k ∧ K y.length = k' ∧ k' ≤ 1000000000000 ∧ (∀ i j, i ≤ j → j ≤ y.length → K i ≤ K j) ∧ ∀ i, i < y.length → ∃ n : Nat, gl y i = marks (K i) n ∧ K (i + 1) = K i + n ∧ n ≤ 100000000000
/-- The marks behind i slices. -/
def mkTo (k : Int) (x : List (List Int)) (i : Nat) : Int := k + (szTo x i : Nat)
def mkSS (k : Int) (x : List (List Int)) (i : Nat) : List (List Int) := (List.range x.length).map fun j => if j < i then marks (mkTo k x j) (gl x j).length else gl x j
@[simp] theorem mkSS_length (k : Int) (x : List (List Int)) (i : Nat) : (mkSS k x i).length = x.length := by simp [mkSS]
theorem gl_mkSS {k : Int} {x : List (List Int)} {i j : Nat} (h : j < x.length) : gl (mkSS k x i) j = if j < i then marks (mkTo k x j) (gl x j).length else gl x j := by
  rw [gl_eq (by simpa using h)]; simp [mkSS]
theorem mkSS_zero (k : Int) (x : List (List Int)) : mkSS k x 0 = x := gl_ext (by simp) fun j hj => by rw [gl_mkSS (by simpa using hj)]; simp


end Go.Proofs.Yteccchdngclfoaa
