/- Records in stable order, in plain lists. No program. -/
import Derived.Test.YtdhcpoeopooejaaSrtM
import Derived.Test.YtdhcpoeopooejaaStrJ
import Derived.Test.YtdhcpoeopooejaaValidR
namespace Go.Proofs.Ytdhcpoeopooejaa
open Go.RowKit
set_option linter.unusedVariables false
set_option linter.unusedSimpArgs false

theorem gi_fst (X : List (Int × Int)) (i : Nat) : gi (X.map Prod.fst) i = (gr X i).1 := by
  unfold gi gr
  rw [List.getD_eq_getElem?_getD, List.getD_eq_getElem?_getD, List.getElem?_map]
  cases X[i]? <;> rfl
theorem cvR_eq (X : List (Int × Int)) : cvR X = cvL (X.map Prod.fst) := by
  funext a b
  unfold cvR cvL
  rw [gi_fst, gi_fst]
theorem cvR_pre (X : List (Int × Int)) : Pre (cvR X) := by rw [cvR_eq]; exact cvL_pre _
/-- The records in stable order. -/
def stF (X : List (Int × Int)) : List (Int × Int) := (srtK (X.map Prod.fst) X.length).map fun i => gr X i.toNat
theorem stF_len (X : List (Int × Int)) : (stF X).length = X.length := by unfold stF; rw [List.length_map, srtK_length]
theorem pl_map (X : List (Int × Int)) : ((pl X.length).map fun i => gr X i.toNat) = X := by
  apply List.ext_getElem (by simp)
  intro i h1 h2
  rw [List.getElem_map, ← gi_eq (by simpa using h2), gi_pl h2, Int.toNat_natCast, gr_eq h2]
theorem stF_of {X : List (Int × Int)} {D : List Int} (hp : D.Perm (pl X.length)) (hs : Srt (cvR X) D 0 X.length) : (D.map fun i => gr X i.toNat) = stF X := by
  rw [cvR_eq] at hs
  rw [stF, ← srtK_unique hp hs]
/-- The result of StableSort. -/
def stR (X : List (Int × Int)) : List (Int × Int) × Bool := if vrecs X then (stF X, true) else ([], false)
theorem stR_sz (x : List (Int × Int)) : szRecordS (stR x).1 ≤ 100000000000 := by
  unfold stR
  split
  · rename_i h
    have h1 := (vrecs_iff.1 h).1
    have h2 := stF_len x
    unfold szRecordS
    dsimp only
    omega
  · simp [szRecordS]
end Go.Proofs.Ytdhcpoeopooejaa
