/- The sign of a permutation: by inversions, and by cycles. No program. -/
import Derived.Test.YtdhcpoeopooejaaPermOk
import Derived.Test.YtdhcpoeopooejaaInv
namespace Go.Proofs.Ytdhcpoeopooejaa
open Go.RowKit
set_option linter.unusedVariables false
set_option linter.unusedSimpArgs false

/-- The parity of the number of inversions. -/
def par (l : List Int) : Nat := invs l % 2
theorem par_lt (l : List Int) : par l < 2 := Nat.mod_lt _ (by omega)
/-- An exchange of neighbours that differ turns the parity. -/
theorem par_adj (A B : List Int) (x y : Int) (h : x ≠ y) : par (A ++ y :: x :: B) = (par (A ++ x :: y :: B) + 1) % 2 := by
  have h1 := invs_swap A B x y
  unfold par
  by_cases h2 : x < y
  · rw [if_neg (by omega), if_pos h2] at h1; omega
  · rw [if_pos (by omega), if_neg h2] at h1; omega
/-- x moved over B. -/
theorem par_move (A B C : List Int) (x : Int) (h : ¬ x ∈ B) : par (A ++ B ++ x :: C) = (par (A ++ x :: B ++ C) + B.length) % 2 := by
  induction B generalizing A with
  | nil => simp [par]
  | cons b B ih =>
    have h1 : x ≠ b := fun e => h (by simp [e])
    have h2 : ¬ x ∈ B := fun e => h (by simp [e])
    have e1 := ih (A ++ [b]) h2
    have e2 := par_adj A (B ++ C) x b h1
    simp only [List.append_assoc, List.cons_append, List.nil_append, List.length_cons] at e1 e2 ⊢
    rw [e1, e2]
    omega
/-- An exchange of two elements that differ, wherever they stand. -/
theorem par_swap (A B C : List Int) (x y : Int) (hx : ¬ x ∈ B) (hy : ¬ y ∈ B) (h : x ≠ y) : par (A ++ y :: B ++ x :: C) = (par (A ++ x :: B ++ y :: C) + 1) % 2 := by
  have e1 := par_move A B (y :: C) x hx
  have e2 := par_move A B (x :: C) y hy
  have e3 := par_adj (A ++ B) C x y h
  simp only [List.append_assoc, List.cons_append, List.nil_append] at e1 e2 e3 ⊢
  have := par_lt (A ++ (x :: (B ++ y :: C)))
  have := par_lt (A ++ (y :: (B ++ x :: C)))
  omega
theorem split2 (l : List Int) (i j : Nat) (hij : i < j) (hj : j < l.length) :
    l = l.take i ++ gi l i :: (l.drop (i + 1)).take (j - i - 1) ++ gi l j :: l.drop (j + 1) ∧
    swp l i j = l.take i ++ gi l j :: (l.drop (i + 1)).take (j - i - 1) ++ gi l i :: l.drop (j + 1) := by
  have key : ∀ (a b : Int), (l.set i a).set j b = l.take i ++ a :: (l.drop (i + 1)).take (j - i - 1) ++ b :: l.drop (j + 1) := by
    intro a b
    apply List.ext_getElem?
    intro k
    rw [List.getElem?_set, List.getElem?_set]
    simp only [List.length_set]
    have hl1 : (l.take i).length = i := by simp; omega
    have hl2 : ((l.drop (i + 1)).take (j - i - 1)).length = j - i - 1 := by simp; omega
    by_cases h1 : j = k
    · subst h1
      rw [if_pos rfl, if_pos hj, List.getElem?_append_right (by simp; omega)]
      simp only [List.length_append, List.length_cons, hl1, hl2]
      rw [show j - (i + (j - i - 1 + 1)) = 0 by omega]; rfl
    · rw [if_neg h1]
      by_cases h2 : i = k
      · subst h2
        rw [if_pos rfl, if_pos (by omega), List.getElem?_append_left (by simp; omega), List.getElem?_append_right (by omega), hl1, Nat.sub_self]; rfl
      · rw [if_neg h2]
        by_cases h3 : k < i
        · rw [List.getElem?_append_left (by simp; omega), List.getElem?_append_left (by omega), List.getElem?_take, if_pos h3]
        · by_cases h4 : k < j
          · rw [List.getElem?_append_left (by simp; omega), List.getElem?_append_right (by omega), hl1, show k - i = (k - i - 1) + 1 by omega, List.getElem?_cons_succ, List.getElem?_take, if_pos (by omega), List.getElem?_drop]
            congr 1; omega
          · rw [List.getElem?_append_right (by simp; omega)]
            simp only [List.length_append, List.length_cons, hl1, hl2]
            rw [show k - (i + (j - i - 1 + 1)) = (k - j - 1) + 1 by omega, List.getElem?_cons_succ, List.getElem?_drop]
            congr 1; omega
  refine ⟨?_, key _ _⟩
  have := key (gi l i) (gi l j)
  rw [← this]
  rw [gi_eq (by omega), gi_eq hj]
  simp
/-- Distinct elements. -/
def Dist (l : List Int) : Prop := ∀ i j, i < j → j < l.length → gi l i ≠ gi l j
theorem par_swp {l : List Int} (hd : Dist l) {i j : Nat} (hij : i < j) (hj : j < l.length) : par (swp l i j) = (par l + 1) % 2 := by
  obtain ⟨h1, h2⟩ := split2 l i j hij hj
  have hmem : ∀ x, x ∈ (l.drop (i + 1)).take (j - i - 1) → ∃ k, i < k ∧ k < j ∧ gi l k = x := by
    intro x hx
    obtain ⟨k, hk, rfl⟩ := List.getElem_of_mem hx
    simp at hk
    refine ⟨i + 1 + k, by omega, by omega, ?_⟩
    rw [gi_eq (by omega)]
    simp
  have e := par_swap (l.take i) ((l.drop (i + 1)).take (j - i - 1)) (l.drop (j + 1)) (gi l i) (gi l j)
    (fun h => by obtain ⟨k, k1, k2, k3⟩ := hmem _ h; exact hd i k k1 (by omega) k3.symm)
    (fun h => by obtain ⟨k, k1, k2, k3⟩ := hmem _ h; exact hd k j k2 hj k3)
    (hd i j hij hj)
  rw [h2]
  conv => rhs; rw [h1]
  exact e
theorem gi_set {l : List Int} {i k : Nat} {x : Int} (hi : i < l.length) : gi (l.set i x) k = if i = k then x else gi l k := by
  unfold gi
  rw [List.getD_eq_getElem?_getD, List.getD_eq_getElem?_getD, List.getElem?_set]
  by_cases h : i = k
  · subst h; simp [hi]
  · simp [h]
theorem gi_swp {l : List Int} {i j k : Nat} (hi : i < l.length) (hj : j < l.length) : gi (swp l i j) k = if k = j then gi l i else if k = i then gi l j else gi l k := by
  unfold swp
  rw [gi_set (by simpa using hj), gi_set hi]
  by_cases h1 : j = k
  · subst h1; simp
  · rw [if_neg h1, if_neg (show ¬ k = j from fun h => h1 h.symm)]
    by_cases h2 : i = k
    · subst h2; simp
    · rw [if_neg h2, if_neg (show ¬ k = i from fun h => h2 h.symm)]
theorem swp_comm {l : List Int} {i j : Nat} (hi : i < l.length) (hj : j < l.length) : swp l i j = swp l j i := by
  apply List.ext_getElem (by simp)
  intro k h1 h2
  rw [← gi_eq h1, ← gi_eq h2, gi_swp hi hj, gi_swp hj hi]
  by_cases a : k = j
  · by_cases b : k = i
    · rw [if_pos a, if_pos b, ← a, ← b]
    · rw [if_pos a, if_neg b, if_pos a]
  · by_cases b : k = i
    · rw [if_neg a, if_pos b, if_pos b]
    · rw [if_neg a, if_neg b, if_neg b, if_neg a]
/-- Where the element at place k of the turned list stood. -/
def swi (i j k : Nat) : Nat := if k = j then i else if k = i then j else k
theorem gi_swi {l : List Int} {i j k : Nat} (hi : i < l.length) (hj : j < l.length) : gi (swp l i j) k = gi l (swi i j k) := by
  rw [gi_swp hi hj]
  unfold swi
  split
  · rfl
  · split <;> rfl
theorem Dist.swp {l : List Int} (hd : Dist l) {i j : Nat} (hi : i < l.length) (hj : j < l.length) : Dist (swp l i j) := by
  intro a b hab hb he
  rw [swp_length] at hb
  rw [gi_swi hi hj, gi_swi hi hj] at he
  have h1 : swi i j a ≠ swi i j b := by
    unfold swi
    split <;> split <;> (try split) <;> (try split) <;> omega
  have h2 : swi i j a < l.length := by unfold swi; split <;> (try split) <;> omega
  have h3 : swi i j b < l.length := by unfold swi; split <;> (try split) <;> omega
  rcases Nat.lt_or_gt_of_ne h1 with h | h
  · exact hd _ _ h h3 he
  · exact hd _ _ h h2 he.symm
theorem par_swp' {l : List Int} (hd : Dist l) {i j : Nat} (hij : i ≠ j) (hi : i < l.length) (hj : j < l.length) : par (swp l i j) = (par l + 1) % 2 := by
  rcases Nat.lt_or_gt_of_ne hij with h | h
  · exact par_swp hd h hj
  · rw [swp_comm hi hj]; exact par_swp hd h hi
theorem goodP_dist {p : List Int} (h : goodP p = true) : Dist p := by
  intro i j hij hj he
  have := (permAt_iff.1 ((goodP_iff.1 h).2 j hj)).2
  apply this
  rw [← he, gi_eq (by omega)]
  rw [List.mem_take_iff_getElem]
  exact ⟨i, by omega, rfl⟩
end Go.Proofs.Ytdhcpoeopooejaa
