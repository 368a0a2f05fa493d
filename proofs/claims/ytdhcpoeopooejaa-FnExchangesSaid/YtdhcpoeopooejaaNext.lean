/- The next permutation, in plain lists. -/
import Derived.Test.YtdhcpoeopooejaaPermOk
import Derived.Test.YtdhcpoeopooejaaInv
namespace Go.Proofs.Ytdhcpoeopooejaa
open Go.RowKit
set_option linter.unusedVariables false
set_option linter.unusedSimpArgs false

/-- The largest i ≤ m with l[i] < l[i+1], from m downwards; none. -/
def ascF (l : List Int) : Nat → Option Nat
  | 0 => none
  | m + 1 => if gi l m < gi l (m + 1) then some m else ascF l m
/-- The largest k ≤ m with l[k] > x, from m downwards. -/
def bigF (l : List Int) (x : Int) : Nat → Nat
  | 0 => 0
  | m + 1 => if x < gi l (m + 1) then m + 1 else bigF l x m
/-- Elements a .. b reversed by exchanges. -/
def revF : Nat → List Int → Nat → Nat → List Int
  | 0, l, _, _ => l
  | f + 1, l, a, b => if a < b then revF f (swp l a b) (a + 1) (b - 1) else l
theorem revF_length (f : Nat) : ∀ (l : List Int) (a b : Nat), (revF f l a b).length = l.length := by
  induction f with
  | zero => intros; rfl
  | succ f ih =>
    intro l a b
    rw [revF]
    split
    · rw [ih]; simp
    · rfl
theorem revF_stop {f a b : Nat} {l : List Int} (h : ¬ a < b) : revF f l a b = l := by
  cases f with
  | zero => rfl
  | succ f => rw [revF, if_neg h]
/-- The next permutation of a list, if there is one. -/
def nextF (l : List Int) : Option (List Int) :=
  match ascF l (l.length - 1) with
  | none => none
  | some i => some (revF l.length (swp l i (bigF l (gi l i) (l.length - 1))) (i + 1) (l.length - 1))
/-- The result of NextPermutation. -/
def nextR (p : List Int) : List Int × Bool := if goodP p then (match nextF p with | some q => (q, true) | none => ([], false)) else ([], false)
theorem nextF_length {l q : List Int} (h : nextF l = some q) : q.length = l.length := by
  unfold nextF at h
  split at h
  · cases h
  · cases h
    rw [revF_length]; simp
theorem nextR_len (p : List Int) : (nextR p).1.length ≤ 100000000000 := by
  unfold nextR
  split
  · rename_i h
    have := (goodP_iff.1 h).1
    split
    · rename_i q hq
      have := nextF_length hq
      dsimp only
      omega
    · simp
  · simp
theorem ascF_some {l : List Int} {m i : Nat} (h : ascF l m = some i) : i < m ∧ gi l i < gi l (i + 1) ∧ ∀ j, i < j → j < m → ¬ gi l j < gi l (j + 1) := by
  induction m with
  | zero => cases h
  | succ m ih =>
    rw [ascF] at h
    split at h
    · rename_i hlt
      cases h
      exact ⟨by omega, hlt, fun j h1 h2 => absurd h2 (by omega)⟩
    · rename_i hn
      obtain ⟨h1, h2, h3⟩ := ih h
      refine ⟨by omega, h2, fun j h4 h5 => ?_⟩
      by_cases hj : j = m
      · rw [hj]; exact hn
      · exact h3 j h4 (by omega)
theorem ascF_at {l : List Int} {m i : Nat} (hi : i < m) (h : gi l i < gi l (i + 1)) (hn : ∀ j, i < j → j < m → ¬ gi l j < gi l (j + 1)) : ascF l m = some i := by
  induction m with
  | zero => omega
  | succ m ih =>
    rw [ascF]
    by_cases hm : i = m
    · subst hm; rw [if_pos h]
    · rw [if_neg (hn m (by omega) (by omega))]
      exact ih (by omega) fun j h1 h2 => hn j h1 (by omega)
theorem ascF_none {l : List Int} {m : Nat} (hn : ∀ j, j < m → ¬ gi l j < gi l (j + 1)) : ascF l m = none := by
  induction m with
  | zero => rfl
  | succ m ih =>
    rw [ascF, if_neg (hn m (by omega))]
    exact ih fun j hj => hn j (by omega)
theorem bigF_at {l : List Int} {x : Int} {m k : Nat} (hk : k ≤ m) (h : k = 0 ∨ x < gi l k) (hn : ∀ j, k < j → j ≤ m → ¬ x < gi l j) : bigF l x m = k := by
  induction m with
  | zero => simp [bigF]; omega
  | succ m ih =>
    rw [bigF]
    by_cases hm : k = m + 1
    · subst hm
      rw [if_pos (by rcases h with h | h; · omega
                     · exact h)]
    · rw [if_neg (hn (m + 1) (by omega) (by omega))]
      exact ih (by omega) fun j h1 h2 => hn j h1 (by omega)
end Go.Proofs.Ytdhcpoeopooejaa
