/- What OrderDefect and OrderClasses tell of a relation (without a program). -/
import Derived.Test.YtdhcpoeopooejaaOcM
import Derived.Test.YtdhcpoeopooejaaIntSS
namespace Go.Proofs.Ytdhcpoeopooejaa
open Go.RowKit
set_option linter.unusedVariables false
set_option linter.unusedSimpArgs false

theorem fs_found {n : Nat} {p : Nat → Option (List Int)} {v : List Int} (h : fs n p = some v) : ∃ k, k < n ∧ p k = some v := by
  unfold fs at h
  obtain ⟨a, h1, h2⟩ := List.exists_of_findSome?_eq_some h
  exact ⟨a, by simpa using h1, h2⟩
theorem tr1_found {n : Nat} {h : Nat → Nat → Bool} {v : List Int} (e : tr1 n h = some v) : ∃ i k m : Nat, i < n ∧ k < n ∧ m < n ∧ v = [(i : Int), (k : Int), (m : Int)] ∧ h i k = true ∧ h k m = true ∧ h i m = false := by
  obtain ⟨i, hi, e1⟩ := fs_found e
  obtain ⟨k, hk, e2⟩ := fs_found e1
  obtain ⟨m, hm, e3⟩ := fs_found e2
  split at e3
  · rename_i hc
    simp at hc
    injection e3 with e3
    exact ⟨i, k, m, hi, hk, hm, e3.symm, hc.1.1, hc.1.2, hc.2⟩
  · cases e3
/-- The ways of a triple that is a defect. -/
def Bad3 (x : List (List Bool)) (i k m : Nat) : Prop :=
  (lsB x i k = true ∧ lsB x k m = true ∧ lsB x i m = false) ∨
  (lsB x i k = false ∧ lsB x k i = false ∧ lsB x k m = false ∧ lsB x m k = false ∧ lsB x i m = true) ∨
  (lsB x i k = false ∧ lsB x k i = false ∧ lsB x k m = false ∧ lsB x m k = false ∧ lsB x i m = false ∧ lsB x m i = true)
/-- What a defect looks like. -/
def DefQ (x : List (List Bool)) (D : List Int) : Prop :=
  (∃ i : Nat, i < x.length ∧ D = [(i : Int)]) ∨ (∃ i k : Nat, i < x.length ∧ k < x.length ∧ D = [(i : Int), (k : Int)] ∧ lsB x i k = true ∧ lsB x k i = true) ∨
  (∃ i k m : Nat, i < x.length ∧ k < x.length ∧ m < x.length ∧ D = [(i : Int), (k : Int), (m : Int)] ∧ Bad3 x i k m)
theorem defO_q {x : List (List Bool)} {v : List Int} (e : defO x = some v) : DefQ x v := by
  unfold defO at e
  split at e
  · rename_i u h1
    injection e with e
    subst e
    obtain ⟨i, hi, h2⟩ := fs_found h1
    split at h2
    · injection h2 with h2; exact .inl ⟨i, hi, h2.symm⟩
    · cases h2
  · split at e
    · rename_i u h1
      injection e with e
      subst e
      obtain ⟨i, hi, h2⟩ := fs_found h1
      obtain ⟨k, hk, h3⟩ := fs_found h2
      split at h3
      · rename_i hc
        simp at hc
        injection h3 with h3; exact .inr (.inl ⟨i, k, hi, hk, h3.symm, hc.1, hc.2⟩)
      · cases h3
    · split at e
      · rename_i u h1
        injection e with e
        subst e
        obtain ⟨i, k, m, hi, hk, hm, h2, h3, h4, h5⟩ := tr1_found h1
        exact .inr (.inr ⟨i, k, m, hi, hk, hm, h2, .inl ⟨h3, h4, h5⟩⟩)
      · obtain ⟨i, k, m, hi, hk, hm, h2, h3, h4, h5⟩ := tr1_found e
        simp [tieB] at h3 h4 h5
        refine .inr (.inr ⟨i, k, m, hi, hk, hm, h2, .inr ?_⟩)
        by_cases h6 : lsB x i m = true
        · exact .inl ⟨h3.1, h3.2, h4.1, h4.2, h6⟩
        · have h7 : lsB x i m = false := by simpa using h6
          exact .inr ⟨h3.1, h3.2, h4.1, h4.2, h7, h5 h7⟩

/-! The classes of a relation without a defect. -/
theorem clO_num (x : List (List Bool)) (m c : Nat) : (clO x m c).length = (List.range m).countP fun j => decide (bfO x j = c) := by
  unfold clO
  rw [List.length_map, List.countP_eq_length_filter]
theorem szIntSS_app (a b : List (List Int)) : szIntSS (a ++ b) = szIntSS a + szIntSS b := by
  induction a with
  | nil => simp [szIntSS]
  | cons c a ih => rw [List.cons_append, szIntSS, szIntSS, ih]; omega
theorem szNe (l : List Int) : szIntSS (neO l) = l.length := by
  unfold neO
  split
  · simp [szIntSS]; omega
  · simp [szIntSS]
theorem clsO_sum (x : List (List Bool)) (m : Nat) : ∀ k, szIntSS (clsO x m 0 k) = (List.range m).countP fun j => decide (bfO x j < k)
  | 0 => by simp [clsO, szIntSS]
  | k + 1 => by
    rw [clsO, szIntSS_app, szNe, clsO_sum x m k, clO_num, Nat.zero_add]
    induction m with
    | zero => rfl
    | succ m ih =>
      rw [List.range_succ]
      simp only [List.countP_append, List.countP_singleton, decide_eq_true_eq]
      have : (if bfO x m < k then 1 else 0) + (if bfO x m = k then 1 else 0) = if bfO x m < k + 1 then 1 else 0 := by
        split <;> split <;> split <;> omega
      omega
theorem clF_sum {x : List (List Bool)} (s : Swo x) : szIntSS (clF x) = x.length := by
  unfold clF
  rw [clsO_sum]
  have : (List.range x.length).countP (fun j => decide (bfO x j < x.length)) = (List.range x.length).length := by
    rw [List.countP_eq_length]
    intro j hj
    simp at hj
    simpa using bfO_lt s hj
  rw [this, List.length_range]
theorem clsO_pw (x : List (List Bool)) (m lo : Nat) : ∀ k, (clsO x m lo k).Pairwise fun l l' => ∃ c c', c < c' ∧ l = clO x m c ∧ l' = clO x m c'
  | 0 => by simp [clsO]
  | k + 1 => by
    rw [clsO, List.pairwise_append]
    refine ⟨clsO_pw x m lo k, ?_, ?_⟩
    · unfold neO; split <;> simp
    · intro l hl l' hl'
      obtain ⟨c, h1, h2, h3, h4⟩ := clsO_mem hl
      unfold neO at hl'
      split at hl'
      · simp at hl'
      · simp at hl'
        exact ⟨c, lo + k, by omega, h3, hl'⟩
theorem clF_pos {x : List (List Bool)} {i : Nat} (hi : i < (clF x).length) : 0 < (gl (clF x) i).length := by
  obtain ⟨c, _, _, _, h⟩ := clsO_mem (show gl (clF x) i ∈ clsO x x.length 0 x.length by rw [gl_eq hi]; exact List.getElem_mem hi)
  exact h
theorem clF_less {x : List (List Bool)} (s : Swo x) {i k : Nat} (hik : i < k) (hk : k < (clF x).length) {p q : Nat} (hp : p < (gl (clF x) i).length) (hq : q < (gl (clF x) k).length) :
    ∃ a b : Nat, gi (gl (clF x) i) p = (a : Int) ∧ gi (gl (clF x) k) q = (b : Int) ∧ a < x.length ∧ b < x.length ∧ lsB x a b = true := by
  have h := List.pairwise_iff_getElem.1 (clsO_pw x x.length 0 x.length) i k (by show i < (clF x).length; omega) hk hik
  obtain ⟨c, c', h1, h2, h3⟩ := h
  have e1 : gl (clF x) i = clO x x.length c := by rw [gl_eq (by omega)]; exact h2
  have e2 : gl (clF x) k = clO x x.length c' := by rw [gl_eq hk]; exact h3
  obtain ⟨a, a1, a2, a3⟩ := clO_mem (x := x) (m := x.length) (c := c) (q := gi (gl (clF x) i) p) (by rw [← e1, gi_eq hp]; exact List.getElem_mem hp)
  obtain ⟨b, b1, b2, b3⟩ := clO_mem (x := x) (m := x.length) (c := c') (q := gi (gl (clF x) k) q) (by rw [← e2, gi_eq hq]; exact List.getElem_mem hq)
  exact ⟨a, b, a1, b1, a2, b2, by rw [lsB_bf s a2 b2]; simp; omega⟩
theorem clF_in {x : List (List Bool)} {i p : Nat} (hi : i < (clF x).length) (hp : p < (gl (clF x) i).length) : ∃ a : Nat, gi (gl (clF x) i) p = (a : Int) ∧ a < x.length := by
  obtain ⟨c, _, _, e, _⟩ := clsO_mem (show gl (clF x) i ∈ clsO x x.length 0 x.length by rw [gl_eq hi]; exact List.getElem_mem hi)
  obtain ⟨a, a1, a2, _⟩ := clO_mem (x := x) (m := x.length) (c := c) (q := gi (gl (clF x) i) p) (by rw [← e, gi_eq hp]; exact List.getElem_mem hp)
  exact ⟨a, a1, a2⟩
/-- What the two functions give, in five cases (a relation that is none; no defect; a defect). -/
theorem ord_cases (x : List (List Bool)) :
    (odR x = ([], false) ∧ ocR x = ([], false)) ∨ (relB x = true ∧ odR x = ([], true) ∧ ocR x = (clF x, true) ∧ Swo x) ∨
    (relB x = true ∧ ∃ D, odR x = (D, true) ∧ ocR x = ([], false) ∧ DefQ x D) := by
  cases hr : relB x
  · exact .inl ⟨by simp [odR, hr], by simp [ocR, hr]⟩
  · by_cases hD : defF x = []
    · exact .inr (.inl ⟨rfl, by simp [odR, hr, hD], by simp [ocR, hr, hD], swo_of hD⟩)
    · refine .inr (.inr ⟨rfl, defF x, by simp [odR, hr], by simp [ocR, hr, hD], ?_⟩)
      cases e : defO x with
      | none => exact absurd (by simp [defF, e]) hD
      | some v => have : defF x = v := by simp [defF, e]
                  rw [this]; exact defO_q e
end Go.Proofs.Ytdhcpoeopooejaa
