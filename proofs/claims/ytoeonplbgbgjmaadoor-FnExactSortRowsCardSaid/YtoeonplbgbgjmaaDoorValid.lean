/- Bounds and valid lists: l1In, in, isKey, l2List, all[int], IsValidList. -/
import Derived.Test.YtoeonplbgbgjmaaDoorFrame
namespace Go.Proofs.YtoeonplbgbgjmaaDoor
open Go.RowKit
set_option linter.unusedVariables false
set_option linter.unusedSimpArgs false

/-- a ≤ x ≤ b. -/
def inB (x a b : Int) : Bool := decide (a ≤ x) && decide (x ≤ b)
def keyB (x : Int) : Bool := inB x (-100000) 100000
/-- A valid list. -/
def vlist (xs : List Int) : Bool := decide (xs.length ≤ 64) && xs.all keyB
theorem inB_iff {x a b : Int} : inB x a b = true ↔ a ≤ x ∧ x ≤ b := by simp [inB]
theorem keyB_iff {x : Int} : keyB x = true ↔ -100000 ≤ x ∧ x ≤ 100000 := inB_iff
theorem vlist_bad {xs : List Int} {k : Nat} (hk : k < xs.length) (h : keyB (gi xs k) = false) : vlist xs = false := by
  rw [gi_eq hk] at h
  have : xs.all keyB = false := by
    rw [List.all_eq_false]
    exact ⟨_, List.getElem_mem hk, by simp [h]⟩
  simp [vlist, this]
theorem vlist_good {xs : List Int} (hl : xs.length ≤ 64) (h : ∀ j, j < xs.length → keyB (gi xs j) = true) : vlist xs = true := by
  have : xs.all keyB = true := by
    rw [List.all_eq_true]
    intro x hx
    obtain ⟨j, hj, rfl⟩ := List.getElem_of_mem hx
    have := h j hj
    rwa [gi_eq hj] at this
  simp [vlist, this, hl]
theorem vlist_long {xs : List Int} (hl : 64 < xs.length) : vlist xs = false := by
  have : decide (xs.length ≤ 64) = false := decide_eq_false (by omega)
  simp [vlist, this]
theorem vlist_iff {xs : List Int} : vlist xs = true ↔ xs.length ≤ 64 ∧ ∀ j, j < xs.length → -100000 ≤ gi xs j ∧ gi xs j ≤ 100000 := by
  constructor
  · intro h
    simp [vlist] at h
    refine ⟨h.1, fun j hj => ?_⟩
    rw [gi_eq hj]
    exact keyB_iff.1 (h.2 _ (List.getElem_mem hj))
  · intro h
    exact vlist_good h.1 fun j hj => keyB_iff.2 (h.2 j hj)

set_option maxHeartbeats 400000 in
theorem l1In_any (x a b : Int) (w : World) :
    Calls Tryd.prog 89 #[.int .i64 x, .int .i64 a, .int .i64 b] w fun e w' => e = .returned (.bool (inB x a b)) ∧ w = w' := by
  by_cases h : a ≤ x
  · go_enter Tryd.func89, Tryd.ntmps89
    go_wp2
    go_ret
    exact ⟨ret_bool (by simp [inB, h]), rfl⟩
  · go_enter Tryd.func89, Tryd.ntmps89
    go_wp2
    go_ret
    have h2 : ¬ a ≤ x := by omega
    exact ⟨ret_bool (by simp [inB, h2]), rfl⟩

set_option maxHeartbeats 400000 in
theorem in_any (x a b : Int) (w : World) :
    Calls Tryd.prog 88 #[.int .i64 x, .int .i64 a, .int .i64 b] w fun e w' => e = .returned (.bool (inB x a b)) ∧ w = w' := by
  by_cases h : a ≤ x
  · go_enter Tryd.func88, Tryd.ntmps88
    go_wp2
    go_ret
    exact ⟨ret_bool (by simp [inB, h]), rfl⟩
  · go_enter Tryd.func88, Tryd.ntmps88
    go_wp2
    go_ret
    have h2 : ¬ a ≤ x := by omega
    exact ⟨ret_bool (by simp [inB, h2]), rfl⟩









end Go.Proofs.YtoeonplbgbgjmaaDoor
