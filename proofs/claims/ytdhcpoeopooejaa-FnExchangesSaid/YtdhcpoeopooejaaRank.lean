/- Factorials, RankPermutation. -/
import Derived.Test.YtdhcpoeopooejaaPermOk
namespace Go.Proofs.Ytdhcpoeopooejaa
open Go.RowKit
set_option linter.unusedVariables false
set_option linter.unusedSimpArgs false

def fct : Nat → Nat
  | 0 => 1
  | n + 1 => (n + 1) * fct n
theorem fct_pos (n : Nat) : 1 ≤ fct n := by
  induction n with
  | zero => simp [fct]
  | succ n ih => rw [fct]; exact Nat.le_trans ih (Nat.le_mul_of_pos_left _ (by omega))
theorem fct_bd : ∀ n, n ≤ 10 → fct n ≤ 3628800 := by decide
theorem fct_next (k : Nat) (hk : 1 ≤ k) : fct (k - 1) * k = fct k := by
  obtain ⟨m, rfl⟩ : ∃ m, k = m + 1 := ⟨k - 1, by omega⟩
  rw [fct, Nat.mul_comm]; rfl



/-- How many of the m elements behind place i are less. -/
def lessK (p : List Int) (i : Nat) : Nat → Nat
  | 0 => 0
  | m + 1 => lessK p i m + if gi p (i + 1 + m) < gi p i then 1 else 0
theorem lessK_le (p : List Int) (i m : Nat) : lessK p i m ≤ m := by
  induction m with
  | zero => simp [lessK]
  | succ m ih => rw [lessK]; split <;> omega
/-- The rank, summed over the first k places. -/
def rankK (p : List Int) : Nat → Nat
  | 0 => 0
  | i + 1 => rankK p i + lessK p i (p.length - 1 - i) * fct (p.length - 1 - i)
theorem rank_term (p : List Int) (i : Nat) (hl : p.length ≤ 10) : lessK p i (p.length - 1 - i) * fct (p.length - 1 - i) ≤ 36288000 := by
  have h1 := lessK_le p i (p.length - 1 - i)
  have h2 := fct_bd (p.length - 1 - i) (by omega)
  have := Nat.mul_le_mul (show lessK p i (p.length - 1 - i) ≤ 10 by omega) h2
  omega
theorem rankK_bd (p : List Int) (k : Nat) (hl : p.length ≤ 10) : rankK p k ≤ k * 36288000 := by
  induction k with
  | zero => simp [rankK]
  | succ k ih =>
    have := rank_term p k hl
    rw [rankK]
    omega
/-- The result of RankPermutation. -/
def rankR (p : List Int) : Int × Bool := if goodP p && decide (p.length ≤ 10) then (((rankK p p.length : Nat) : Int), true) else (0, false)
theorem rankR_no {p : List Int} (h : ¬ (goodP p = true ∧ p.length ≤ 10)) : rankR p = (0, false) := by
  unfold rankR
  rw [if_neg]
  simp
  intro h1
  by_cases h2 : p.length ≤ 10
  · exact absurd ⟨h1, h2⟩ h
  · omega


end Go.Proofs.Ytdhcpoeopooejaa
