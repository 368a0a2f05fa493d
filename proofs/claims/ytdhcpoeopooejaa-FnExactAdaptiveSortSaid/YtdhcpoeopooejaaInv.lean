/- Inversions of a list of ints; an exchange of neighbours; exchanges. No program. -/
import Derived.Test.YtdhcpoeopooejaaBase
namespace Go.Proofs.Ytdhcpoeopooejaa
open Go.RowKit
set_option linter.unusedVariables false
set_option linter.unusedSimpArgs false

/-- Elements i and j exchanged. -/
def swp (l : List Int) (i j : Nat) : List Int := (l.set i (gi l j)).set j (gi l i)
@[simp] theorem swp_length (l : List Int) (i j : Nat) : (swp l i j).length = l.length := by simp [swp]
/-- How many elements of l are less than x. -/
def lessC (x : Int) (l : List Int) : Nat := l.countP fun y => decide (y < x)
/-- The number of inversions. -/
def invs : List Int → Nat
  | [] => 0
  | x :: l => lessC x l + invs l
theorem lessC_perm {x : Int} {l l' : List Int} (h : l.Perm l') : lessC x l = lessC x l' := h.countP_eq _
theorem lessC_le (x : Int) (l : List Int) : lessC x l ≤ l.length := List.countP_le_length
theorem invs_le (l : List Int) : invs l ≤ l.length * l.length := by
  induction l with
  | nil => simp [invs]
  | cons x l ih =>
    have := lessC_le x l
    simp only [invs, List.length_cons]
    have h2 : (l.length + 1) * (l.length + 1) = l.length * l.length + 2 * l.length + 1 := by
      rw [Nat.add_mul, Nat.mul_add]; omega
    omega
theorem invs_swap (A B : List Int) (x y : Int) : invs (A ++ y :: x :: B) + (if y < x then 1 else 0) = invs (A ++ x :: y :: B) + (if x < y then 1 else 0) := by
  induction A with
  | nil =>
    simp only [List.nil_append, invs, lessC, List.countP_cons]
    by_cases h1 : y < x <;> by_cases h2 : x < y <;> simp [h1, h2] <;> omega
  | cons a A ih =>
    have hp : lessC a (A ++ y :: x :: B) = lessC a (A ++ x :: y :: B) := lessC_perm (List.Perm.append_left A (List.Perm.swap x y B))
    simp only [List.cons_append, invs, hp]
    omega
theorem split_at (l : List Int) (k : Nat) (h : k + 1 < l.length) : l = l.take k ++ gi l k :: gi l (k + 1) :: l.drop (k + 2) := by
  rw [gi_eq (by omega), gi_eq h]
  conv => lhs; rw [← List.take_append_drop k l, List.drop_eq_getElem_cons (by omega), List.drop_eq_getElem_cons h]
theorem swp_adj (l : List Int) (k : Nat) (h : k + 1 < l.length) : swp l k (k + 1) = l.take k ++ gi l (k + 1) :: gi l k :: l.drop (k + 2) := by
  apply List.ext_getElem?
  intro i
  unfold swp
  rw [List.getElem?_set, List.getElem?_set]
  simp only [List.length_set]
  by_cases h1 : k + 1 = i
  · subst h1
    rw [if_pos rfl, if_pos h, List.getElem?_append_right (by simp; omega)]
    simp only [List.length_take]
    rw [show k + 1 - min k l.length = 1 by omega]
    rfl
  · rw [if_neg h1]
    by_cases h2 : k = i
    · subst h2
      rw [if_pos rfl, if_pos (by omega), List.getElem?_append_right (by simp; omega)]
      simp only [List.length_take]
      rw [show k - min k l.length = 0 by omega]
      rfl
    · rw [if_neg h2]
      by_cases h3 : i < k
      · rw [List.getElem?_append_left (by simp; omega), List.getElem?_take, if_pos h3]
      · rw [List.getElem?_append_right (by simp; omega)]
        simp only [List.length_take]
        rw [show i - min k l.length = (i - k - 2) + 1 + 1 by omega]
        simp only [List.getElem?_cons_succ, List.getElem?_drop]
        congr 1
        omega
/-- An exchange of neighbours that descend takes one inversion away. -/
theorem invs_adj (l : List Int) (k : Nat) (h : k + 1 < l.length) (hd : gi l k > gi l (k + 1)) : invs (swp l k (k + 1)) + 1 = invs l := by
  have h1 := invs_swap (l.take k) (l.drop (k + 2)) (gi l k) (gi l (k + 1))
  rw [← split_at l k h, ← swp_adj l k h, if_pos (by omega), if_neg (by omega)] at h1
  omega
theorem swp_adj_perm (l : List Int) (k : Nat) (h : k + 1 < l.length) : (swp l k (k + 1)).Perm l := by
  rw [swp_adj l k h]
  conv => rhs; rw [split_at l k h]
  exact List.Perm.append_left _ (List.Perm.swap _ _ _)
end Go.Proofs.Ytdhcpoeopooejaa
