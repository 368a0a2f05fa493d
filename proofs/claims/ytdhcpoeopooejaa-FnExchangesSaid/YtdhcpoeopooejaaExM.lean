/- Exchanges and stores of the elementary sorts, in plain lists. -/
import Derived.Test.YtdhcpoeopooejaaInsM
import Derived.Test.YtdhcpoeopooejaaCwM
import Derived.Test.YtdhcpoeopooejaaSelect
import Derived.Test.YtdhcpoeopooejaaBubble
import Derived.Test.YtdhcpoeopooejaaSorted
namespace Go.Proofs.Ytdhcpoeopooejaa
open Go.RowKit
set_option linter.unusedVariables false
set_option linter.unusedSimpArgs false

/-- An exchange of two that stand in the wrong order takes inversions away. -/
theorem invs_far (x y : Int) (h : y < x) (M C : List Int) : invs (y :: M ++ x :: C) + 1 ≤ invs (x :: M ++ y :: C) := by
  have key : ∀ M : List Int, invs (M ++ x :: C) + lessC y C + M.countP (fun m => decide (x < m)) ≤ invs (M ++ y :: C) + lessC x C + M.countP (fun m => decide (y < m)) + (M.countP (fun m => decide (x < m)) - M.countP (fun m => decide (x < m))) ∧
      invs (M ++ x :: C) + lessC y C + M.countP (fun m => decide (y < m)) = invs (M ++ y :: C) + lessC x C + M.countP (fun m => decide (x < m)) := by
    intro M
    induction M with
    | nil => simp only [List.nil_append, invs, List.countP_nil]; omega
    | cons m M ih =>
      have e1 : lessC m (M ++ x :: C) = lessC m M + lessC m C + if x < m then 1 else 0 := by rw [lessC_app, lessC_cons]; omega
      have e2 : lessC m (M ++ y :: C) = lessC m M + lessC m C + if y < m then 1 else 0 := by rw [lessC_app, lessC_cons]; omega
      simp only [List.cons_append, invs, e1, e2, List.countP_cons, decide_eq_true_eq]
      obtain ⟨_, i2⟩ := ih
      by_cases a : x < m
      · have b : y < m := by omega
        simp only [a, b, if_true]; omega
      · by_cases b : y < m
        · simp only [a, b, if_true, if_false]; omega
        · simp only [a, b, if_false]; omega
  have k := (key M).2
  have l1 : lessC y M ≤ lessC x M := by
    unfold lessC
    exact List.countP_mono_left (fun a _ ha => by simp at *; omega)
  have l2 : M.countP (fun m => decide (x < m)) ≤ M.countP (fun m => decide (y < m)) := List.countP_mono_left (fun a _ ha => by simp at *; omega)
  have l3 : lessC y C ≤ lessC x C := by
    unfold lessC
    exact List.countP_mono_left (fun a _ ha => by simp at *; omega)
  have e1 : lessC y (M ++ x :: C) = lessC y M + lessC y C := by rw [lessC_app, lessC_cons, if_neg (by omega)]; omega
  have e2 : lessC x (M ++ y :: C) = lessC x M + lessC x C + 1 := by rw [lessC_app, lessC_cons, if_pos h]; omega
  simp only [List.cons_append, invs, e1, e2]
  omega
theorem invs_app (A : List Int) : ∀ S S' : List Int, S.Perm S' → invs S + 1 ≤ invs S' → invs (A ++ S) + 1 ≤ invs (A ++ S') := by
  induction A with
  | nil => intro S S' _ h; exact h
  | cons a A ih =>
    intro S S' hp h
    have := ih S S' hp h
    have e : lessC a (A ++ S) = lessC a (A ++ S') := lessC_perm (List.Perm.append_left A hp)
    simp only [List.cons_append, invs, e]
    omega
theorem invs_swp {l : List Int} {i j : Nat} (hij : i < j) (hj : j < l.length) (h : gi l j < gi l i) : invs (swp l i j) + 1 ≤ invs l := by
  obtain ⟨h1, h2⟩ := split2 l i j hij hj
  rw [h2]
  conv => rhs; rw [h1]
  simp only [List.append_assoc]
  refine invs_app _ _ _ ?_ (invs_far _ _ h _ _)
  simp only [List.cons_append]
  exact (List.Perm.cons _ List.perm_middle).trans ((List.Perm.swap _ _ _).trans (List.Perm.cons _ List.perm_middle.symm))
/-- How many places hold different elements. -/
def ham (a b : List Int) : Nat := cwK a b a.length
theorem cwK_congr {x s t : List Int} : ∀ k, (∀ i, i < k → gi s i = gi t i) → cwK x s k = cwK x t k := by
  intro k
  induction k with
  | zero => intro _; rfl
  | succ k ih => intro h; rw [cwK, cwK, ih (fun i hi => h i (by omega)), h k (by omega)]
theorem cwK_self (x : List Int) (k : Nat) : cwK x x k = 0 := by
  induction k with
  | zero => rfl
  | succ k ih => rw [cwK, ih, if_pos rfl]
theorem cwK_set (x s : List Int) (p : Nat) (v : Int) (k : Nat) : cwK x (s.set p v) k ≤ cwK x s k + 1 ∧ (k ≤ p → cwK x (s.set p v) k = cwK x s k) := by
  induction k with
  | zero => exact ⟨Nat.zero_le _, fun _ => rfl⟩
  | succ k ih =>
    rw [cwK, cwK]
    by_cases e : p = k
    · subst e
      have := ih.2 (Nat.le_refl _)
      refine ⟨?_, fun h => by omega⟩
      rw [this]
      split <;> split <;> omega
    · have hg : gi (s.set p v) k = gi s k := by
        by_cases hp : p < s.length
        · rw [gi_set hp, if_neg e]
        · rw [List.set_eq_of_length_le (by omega)]
      rw [hg]
      exact ⟨by omega, fun h => by rw [ih.2 (by omega)]⟩
theorem cwK_swp (x s : List Int) (i j k : Nat) : cwK x (swp s i j) k ≤ cwK x s k + 2 := by
  unfold swp
  have h1 := (cwK_set x (s.set i (gi s j)) j (gi s i) k).1
  have h2 := (cwK_set x s i (gi s j) k).1
  omega
/-- Selection: swaps, inversions, order. -/
theorem selL_least (l : List Int) (i : Nat) : ∀ j t, i ≤ t → t ≤ i + j → gi l (selL l i j) ≤ gi l t := by
  intro j
  induction j with
  | zero =>
    intro t h1 h2
    have e : t = i := by omega
    rw [e]; exact Int.le_refl _
  | succ j ih =>
    intro t h1 h2
    rw [selL]
    by_cases e : t = i + 1 + j
    · split
      · rw [e]; exact Int.le_refl _
      · rw [e]; omega
    · have := ih t h1 (by omega)
      split <;> omega
theorem selL_strict (l : List Int) (i : Nat) : ∀ j, selL l i j ≠ i → gi l (selL l i j) < gi l i := by
  intro j
  induction j with
  | zero => intro h; exact absurd rfl h
  | succ j ih =>
    intro h
    rw [selL] at h ⊢
    split
    · rename_i hlt
      have := selL_least l i j i (Nat.le_refl _) (by omega)
      omega
    · rename_i hlt
      rw [if_neg hlt] at h
      exact ih h
theorem selK_facts (l : List Int) : ∀ k, k ≤ l.length → (selK l k).1.Perm l ∧ (selK l k).2 + invs (selK l k).1 ≤ invs l ∧ cwK l (selK l k).1 l.length ≤ 2 * (selK l k).2 ∧ (∀ a b, a < k → a < b → b < l.length → gi (selK l k).1 a ≤ gi (selK l k).1 b) ∧ (selK l k).2 ≤ k ∧ (k = l.length → 1 ≤ k → (selK l k).2 + 1 ≤ k) := by
  intro k
  induction k with
  | zero => intro _; exact ⟨List.Perm.refl _, by simp [selK], by simp [selK, cwK_self], fun a b h => by omega, Nat.le_refl _, fun _ h => by omega⟩
  | succ k ih =>
    intro hk
    obtain ⟨h1, h2, h3, h4, h5, _⟩ := ih (by omega)
    have hl := selK_length l k
    rw [selK]
    generalize hS : selK l k = S at *
    obtain ⟨s, c⟩ := S
    dsimp only at *
    obtain ⟨b1, b2⟩ := selL_bd s k (s.length - 1 - k)
    have hle := selL_least s k (s.length - 1 - k)
    have hst := selL_strict s k (s.length - 1 - k)
    have hlast : k + 1 = l.length → selL s k (s.length - 1 - k) = k := fun e => by omega
    generalize hm : selL s k (s.length - 1 - k) = m at *
    by_cases e : m = k
    · subst e
      unfold selEnd
      rw [if_pos rfl]
      refine ⟨h1, h2, h3, fun a b ha hab hb => ?_, by dsimp only; omega, fun e1 _ => by dsimp only; omega⟩
      by_cases ea : a = m
      · rw [ea]; exact hle b (by omega) (by omega)
      · exact h4 a b (by omega) hab hb
    · have hkm : k < m := by omega
      have hml : m < s.length := by omega
      unfold selEnd
      rw [if_neg e]
      have hi := invs_swp hkm hml (hst e)
      have hc := cwK_swp l s k m l.length
      refine ⟨(swp_perm hkm hml).trans h1, by dsimp only; omega, by dsimp only; omega, fun a b ha hab hb => ?_, by dsimp only; omega, fun e1 _ => absurd (hlast e1) e⟩
      dsimp only
      rw [gi_swp (by omega) hml, gi_swp (by omega) hml]
      by_cases ea : a = k
      · rw [ea, if_neg (by omega), if_pos rfl]
        by_cases eb : b = m
        · rw [if_pos eb]; have := hst e; omega
        · rw [if_neg eb, if_neg (by omega)]; exact hle b (by omega) (by omega)
      · rw [if_neg (show ¬ a = m by omega), if_neg ea]
        by_cases eb : b = m
        · rw [if_pos eb]; exact h4 a k (by omega) (by omega) (by omega)
        · rw [if_neg eb]
          by_cases eb2 : b = k
          · rw [if_pos eb2]; exact h4 a m (by omega) (by omega) (by omega)
          · rw [if_neg eb2]; exact h4 a b (by omega) hab hb
/-- Bubble: exchanges are inversions. -/
theorem bubK_perm (l : List Int) (c : Nat) : ∀ k, k + 1 ≤ l.length ∨ k = 0 → (bubK l c k).1.Perm l ∧ ((bubK l c k).2 = c → (bubK l c k).1 = l ∧ ∀ j, j < k → gi l j ≤ gi l (j + 1)) := by
  intro k
  induction k with
  | zero => intro _; exact ⟨List.Perm.refl _, fun _ => ⟨rfl, fun j h => by omega⟩⟩
  | succ k ih =>
    intro hk
    obtain ⟨h1, h2⟩ := ih (by omega)
    have hi := (bubK_inv l c k (by omega)).2
    have hl := bubK_length l c k
    rw [bubK, bubStep]
    split
    · rename_i hgt
      refine ⟨(swp_adj_perm _ k (by omega)).trans h1, fun e => ?_⟩
      dsimp only at e
      omega
    · rename_i hgt
      refine ⟨h1, fun e => ?_⟩
      obtain ⟨e1, e2⟩ := h2 e
      refine ⟨e1, fun j hj => ?_⟩
      by_cases ej : j = k
      · rw [e1] at hgt; rw [ej]; omega
      · exact e2 j (by omega)
theorem bubF_facts : ∀ f l p c, invs l < f → (bubF f l p c).1.Perm l ∧ Asc (bubF f l p c).1 ∧ (bubF f l p c).2.2 = c + invs l ∧ p + 1 ≤ (bubF f l p c).2.1 := by
  intro f
  induction f with
  | zero => intro l p c h; omega
  | succ f ih =>
    intro l p c h
    obtain ⟨q1, q2⟩ := bubK_perm l c (l.length - 1) (by omega)
    obtain ⟨i1, i2⟩ := bubK_inv l c (l.length - 1) (by omega)
    rw [bubF]
    split
    · rename_i e
      obtain ⟨e1, e2⟩ := q2 e
      have ha : Asc l := asc_of_adj fun k hk => e2 k (by omega)
      rw [e1, e]
      exact ⟨List.Perm.refl _, ha, by rw [asc_invs ha]; rfl, Nat.le_refl _⟩
    · rename_i e
      obtain ⟨r1, r2, r3, r4⟩ := ih (bubK l c (l.length - 1)).1 (p + 1) (bubK l c (l.length - 1)).2 (by omega)
      exact ⟨r1.trans q1, r2, by rw [r3]; omega, by omega⟩
/-- Insertion: no place changes without a store. -/
theorem insW_ham (X : Int) (g : Nat) (x0 : List Int) (N : Nat) : ∀ f l k c m, cwK x0 (insW X g f l k c m).1 N + m ≤ cwK x0 l N + (insW X g f l k c m).2.2.2 := by
  intro f
  induction f with
  | zero => intro l k c m; exact Nat.le_refl _
  | succ f ih =>
    intro l k c m
    rw [insW]
    split
    · split
      · exact Nat.le_refl _
      · have h1 := ih (l.set k (gi l (k - g))) (k - g) (c + 1) (m + 1)
        have h2 := (cwK_set x0 l k (gi l (k - g)) N).1
        omega
    · exact Nat.le_refl _
theorem gapK_ham (g : Nat) (l : List Int) (N : Nat) : ∀ j, cwK l (gapK g l j).1 N ≤ (gapK g l j).2.2 := by
  intro j
  induction j with
  | zero => rw [gapK, cwK_self]; exact Nat.zero_le _
  | succ j ih =>
    rw [gapK, gapStep, insEnd]
    have h1 := insW_ham (gi (gapK g l j).1 (g + j)) g l N (g + j + 1) (gapK g l j).1 (g + j) (gapK g l j).2.1 (gapK g l j).2.2
    split
    · have h2 := (cwK_set l (insW (gi (gapK g l j).1 (g + j)) g (g + j + 1) (gapK g l j).1 (g + j) (gapK g l j).2.1 (gapK g l j).2.2).1 (insW (gi (gapK g l j).1 (g + j)) g (g + j + 1) (gapK g l j).1 (g + j) (gapK g l j).2.1 (gapK g l j).2.2).2.1 (gi (gapK g l j).1 (g + j)) N).1
      dsimp only
      omega
    · dsimp only
      omega
/-- What FnExchanges asks. -/
theorem exch_facts {x : List Int} (hv : vlist x = true) : x.length ≤ 64 ∧ (selR x).1 = sortL x ∧ (bubR x).1 = sortL x ∧ ((selR x).2.1 < x.length ∨ x.length = 0) ∧ (selR x).2.1 ≤ (bubR x).2.2.1 ∧ (cwR x).1 ≤ 2 * (selR x).2.1 ∧ (cwR x).1 ≤ (insR x).2.2.1 ∧
    sortedR (sortL x) = (-1, true) ∧ (sortedR x).2 = true ∧ ((sortedR x).1 = -1 ↔ (bubR x).2.2.1 = 0) ∧ 1 ≤ (bubR x).2.1 ∧ (selR x).2.2 = true ∧ (bubR x).2.2.2 = true ∧ (cwR x).2 = true ∧ (insR x).2.2.2 = true ∧ (bubR x).2.2.1 ≤ 4096 := by
  have hl := (vlist_iff.1 hv).1
  obtain ⟨s1, s2, s3, s4, s5, s6⟩ := selK_facts x x.length (Nat.le_refl _)
  obtain ⟨b1, b2, b3, b4⟩ := bubF_facts (invs x + 1) x 0 0 (by omega)
  have hsa : Asc (selK x x.length).1 := fun a b h1 h2 => s4 a b (by rw [selK_length] at h2; omega) h1 (by rw [selK_length] at h2; exact h2)
  have es := sortL_unique s1 hsa
  have eb := sortL_unique b1 b2
  have eg := sortL_unique (gapF_perm 1 (Nat.le_refl _) x) (gapF_asc x)
  have hg := gapK_ham 1 x x.length (x.length - 1)
  have hg2 : cwK x (sortL x) x.length ≤ (gapF 1 x).2.2 := by rw [← eg]; exact hg
  have hvs : vlist (sortL x) = true := by
    rw [vlist_iff]
    refine ⟨by rw [sortL_length]; exact hl, fun j hj => ?_⟩
    obtain ⟨i, hi, he⟩ := mem_gi ((sortL_perm x).subset (by rw [gi_eq hj]; exact List.getElem_mem _) : gi (sortL x) j ∈ x)
    rw [← he]; exact (vlist_iff.1 hv).2 i hi
  have e1 : selR x = ((selK x x.length).1, (selK x x.length).2, true) := by simp [selR, hv]
  have e2 : bubR x = ((bubF (invs x + 1) x 0 0).1, (bubF (invs x + 1) x 0 0).2.1, (bubF (invs x + 1) x 0 0).2.2, true) := by simp [bubR, hv]
  have e3 : cwR x = (cwK x (sortL x) x.length, true) := by simp [cwR, hv]
  have e4 : insR x = ((gapF 1 x).1, (gapF 1 x).2.1, (gapF 1 x).2.2, true) := by simp [insR, hv]
  have e5 : sortedR x = (descF x, true) := by simp [sortedR, hv]
  have e6 : sortedR (sortL x) = (descF (sortL x), true) := by simp [sortedR, hvs]
  have h64 := invs_64 hl
  have hdn : descF x = -1 ↔ invs x = 0 := by
    constructor
    · intro h
      exact asc_invs (asc_of_adj (descF_neg.1 (by omega)))
    · intro h
      refine descF_none fun j hj => ?_
      by_cases hgt : gi x j ≤ gi x (j + 1)
      · exact hgt
      · have := invs_adj x j hj (by omega)
        omega
  rw [e1, e2, e3, e4, e5, e6]
  rw [es] at s3
  refine ⟨hl, es, eb, ?_, ?_, s3, hg2, ?_, rfl, ?_, by (try dsimp only); omega, rfl, rfl, rfl, rfl, by (try dsimp only); omega⟩
  · dsimp only
    by_cases h0 : x.length = 0
    · exact .inr h0
    · have := s6 rfl (by omega); exact .inl (by omega)
  · try dsimp only
    omega
  · rw [descF_none (fun j hj => sortL_asc x j (j + 1) (by omega) hj)]
  · dsimp only
    rw [b3, hdn]; omega
theorem exch_none {x : List Int} (hv : vlist x = false) : (selR x).1 = [] ∧ (selR x).2.2 = false := by
  simp [selR, hv]
end Go.Proofs.Ytdhcpoeopooejaa
