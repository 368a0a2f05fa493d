/- OrderClasses: what it computes, by the numbers of predecessors and by insertion (without a program). -/
import Derived.Test.YtdhcpoeopooejaaOrd
namespace Go.Proofs.Ytdhcpoeopooejaa
open Go.RowKit
set_option linter.unusedVariables false
set_option linter.unusedSimpArgs false

/-- How many elements precede i. -/
def bfK (x : List (List Bool)) (i k : Nat) : Nat := (List.range k).countP fun j => lsB x j i
def bfO (x : List (List Bool)) (i : Nat) : Nat := bfK x i x.length
theorem bfK_zero (x : List (List Bool)) (i : Nat) : bfK x i 0 = 0 := by simp [bfK]
theorem bfK_succ (x : List (List Bool)) (i k : Nat) : bfK x i (k + 1) = bfK x i k + (if lsB x k i then 1 else 0) := by
  unfold bfK
  rw [List.range_succ, List.countP_append]
  simp [List.countP_singleton]
theorem bfK_le (x : List (List Bool)) (i k : Nat) : bfK x i k ≤ k := by
  have := List.countP_le_length (p := fun j => lsB x j i) (l := List.range k)
  simpa [bfK] using this
/-- The class of count c among the elements less than m. -/
def clO (x : List (List Bool)) (m c : Nat) : List Int := ((List.range m).filter fun j => decide (bfO x j = c)).map Int.ofNat
def neO (l : List Int) : List (List Int) := if l.length = 0 then [] else [l]
/-- The classes of the counts lo .. lo+k-1. -/
def clsO (x : List (List Bool)) (m lo : Nat) : Nat → List (List Int)
  | 0 => []
  | k + 1 => clsO x m lo k ++ neO (clO x m (lo + k))
theorem clO_zero (x : List (List Bool)) (c : Nat) : clO x 0 c = [] := by simp [clO]
theorem clO_succ (x : List (List Bool)) (m c : Nat) : clO x (m + 1) c = clO x m c ++ (if bfO x m = c then [(m : Int)] else []) := by
  unfold clO
  rw [List.range_succ, List.filter_append, List.map_append]
  by_cases h : bfO x m = c <;> simp [h]
theorem clO_len (x : List (List Bool)) (m c : Nat) : (clO x m c).length ≤ m := by
  have := List.length_filter_le (fun j => decide (bfO x j = c)) (List.range m)
  simpa [clO] using this
theorem clO_mem {x : List (List Bool)} {m c : Nat} {q : Int} (h : q ∈ clO x m c) : ∃ j : Nat, q = (j : Int) ∧ j < m ∧ bfO x j = c := by
  unfold clO at h
  rw [List.mem_map] at h
  obtain ⟨j, hj, rfl⟩ := h
  rw [List.mem_filter] at hj
  exact ⟨j, rfl, by simpa using hj.1, of_decide_eq_true hj.2⟩
theorem neO_len (l : List Int) : (neO l).length ≤ 1 := by unfold neO; split <;> simp
theorem clsO_len (x : List (List Bool)) (m lo k : Nat) : (clsO x m lo k).length ≤ k := by
  induction k with
  | zero => simp [clsO]
  | succ k ih => have := neO_len (clO x m (lo + k)); rw [clsO, List.length_append]; omega
theorem clsO_mem {x : List (List Bool)} {m lo k : Nat} {l : List Int} (h : l ∈ clsO x m lo k) : ∃ c, lo ≤ c ∧ c < lo + k ∧ l = clO x m c ∧ 0 < l.length := by
  induction k with
  | zero => simp [clsO] at h
  | succ k ih =>
    rw [clsO, List.mem_append] at h
    rcases h with h | h
    · obtain ⟨c, h1, h2, h3⟩ := ih h
      exact ⟨c, h1, by omega, h3⟩
    · unfold neO at h
      split at h
      · simp at h
      · simp at h
        exact ⟨lo + k, by omega, by omega, h, by rw [h]; omega⟩
theorem clsO_split (x : List (List Bool)) (m lo a b : Nat) : clsO x m lo (a + b) = clsO x m lo a ++ clsO x m (lo + a) b := by
  induction b with
  | zero => simp [clsO]
  | succ b ih => rw [← Nat.add_assoc, clsO, ih, clsO, List.append_assoc, Nat.add_assoc]
theorem clsO_other {x : List (List Bool)} {m lo k : Nat} (h : bfO x m < lo ∨ lo + k ≤ bfO x m) : clsO x (m + 1) lo k = clsO x m lo k := by
  induction k with
  | zero => rfl
  | succ k ih =>
    rw [clsO, clsO, ih (by omega), clO_succ, if_neg (by omega), List.append_nil]
def clF (x : List (List Bool)) : List (List Int) := clsO x x.length 0 x.length
def ocR (x : List (List Bool)) : List (List Int) × Bool := if relB x && decide (defF x = []) then (clF x, true) else ([], false)

/-! A relation without a defect. -/
theorem fs_all {n : Nat} {p : Nat → Option (List Int)} (h : fs n p = none) {j : Nat} (hj : j < n) : p j = none := by
  unfold fs at h
  rw [List.findSome?_eq_none_iff] at h
  exact h j (by simpa using hj)
theorem tr1_all {n : Nat} {h : Nat → Nat → Bool} (e : tr1 n h = none) {i k m : Nat} (hi : i < n) (hk : k < n) (hm : m < n) (h1 : h i k = true) (h2 : h k m = true) : h i m = true := by
  have := fs_all (fs_all (fs_all e hi) hk) hm
  simp [h1, h2] at this
  exact this
structure Swo (x : List (List Bool)) : Prop where
  irr : ∀ i, i < x.length → lsB x i i = false
  tr : ∀ i k m, i < x.length → k < x.length → m < x.length → lsB x i k = true → lsB x k m = true → lsB x i m = true
  tt : ∀ i k m, i < x.length → k < x.length → m < x.length → tieB x i k = true → tieB x k m = true → tieB x i m = true
theorem defO_none {x : List (List Bool)} (h : defF x = []) : defO x = none := by
  unfold defF at h
  cases e : defO x with
  | none => rfl
  | some v =>
    rw [e] at h
    simp at h
    have := (defO_len e).1
    rw [h] at this
    simp at this
theorem swo_of {x : List (List Bool)} (h : defF x = []) : Swo x := by
  have h := defO_none h
  unfold defO at h
  split at h
  · cases h
  · rename_i h1
    split at h
    · cases h
    · rename_i h2
      split at h
      · cases h
      · rename_i h3
        refine ⟨fun i hi => ?_, fun i k m hi hk hm a b => tr1_all h3 hi hk hm a b, fun i k m hi hk hm a b => tr1_all h hi hk hm a b⟩
        have := fs_all h1 hi
        simp at this
        exact this
theorem countP_lt {p q : Nat → Bool} {n a : Nat} (h : ∀ k, k < n → p k = true → q k = true) (ha : a < n) (hp : p a = false) (hq : q a = true) : (List.range n).countP p < (List.range n).countP q := by
  induction n with
  | zero => omega
  | succ n ih =>
    rw [List.range_succ, List.countP_append, List.countP_append, List.countP_singleton, List.countP_singleton]
    have hle : (List.range n).countP p ≤ (List.range n).countP q := List.countP_mono_left fun k hk hk2 => h k (by have := List.mem_range.1 hk; omega) hk2
    by_cases e : a = n
    · subst e
      simp [hp, hq]; omega
    · have h1 := ih (fun k hk => h k (by omega)) (by omega)
      have h2 := h n (by omega)
      cases hpn : p n
      · simp; split <;> omega
      · simp [h2 hpn]; omega
theorem bfO_mono {x : List (List Bool)} (s : Swo x) {a b : Nat} (ha : a < x.length) (hb : b < x.length) (h : lsB x a b = true) : bfO x a < bfO x b :=
  countP_lt (fun k hk h1 => s.tr k a b hk ha hb h1 h) ha (s.irr a ha) h
theorem bfO_tie {x : List (List Bool)} (s : Swo x) {a b : Nat} (ha : a < x.length) (hb : b < x.length) (h : tieB x a b = true) : bfO x a = bfO x b := by
  have key : ∀ a b, a < x.length → b < x.length → tieB x a b = true → ∀ k, k < x.length → lsB x k a = true → lsB x k b = true := by
    intro a b ha hb h k hk h1
    have hab : lsB x a b = false ∧ lsB x b a = false := by simpa [tieB] using h
    cases e1 : lsB x k b
    · exfalso
      cases e2 : lsB x b k
      · have t1 : tieB x k b = true := by simp [tieB, e1, e2]
        have t2 : tieB x b a = true := by simp [tieB, hab]
        have := s.tt k b a hk hb ha t1 t2
        simp [tieB, h1] at this
      · have := s.tr b k a hb hk ha e2 h1
        rw [hab.2] at this; cases this
    · rfl
  have h' : tieB x b a = true := by simpa [tieB, and_comm] using h
  unfold bfO bfK
  apply List.countP_congr
  intro k hk
  have hk := List.mem_range.1 hk
  exact ⟨key a b ha hb h k hk, key b a hb ha h' k hk⟩
theorem lsB_bf {x : List (List Bool)} (s : Swo x) {a b : Nat} (ha : a < x.length) (hb : b < x.length) : lsB x a b = decide (bfO x a < bfO x b) := by
  cases h : lsB x a b
  · cases h2 : lsB x b a
    · have := bfO_tie s ha hb (by simp [tieB, h, h2])
      simp; omega
    · have := bfO_mono s hb ha h2
      simp; omega
  · have := bfO_mono s ha hb h
    simp; omega
theorem tieB_bf {x : List (List Bool)} (s : Swo x) {a b : Nat} (ha : a < x.length) (hb : b < x.length) : tieB x a b = decide (bfO x a = bfO x b) := by
  unfold tieB
  rw [lsB_bf s ha hb, lsB_bf s hb ha]
  by_cases e : bfO x a = bfO x b
  · simp [e]
  · by_cases l : bfO x a < bfO x b
    · simp [l, e]
    · have : bfO x b < bfO x a := by omega
      simp [this, e]

/-! One step of the insertion. -/
/-- The first element of class q. -/
def hdO (out : List (List Int)) (q : Nat) : Nat := (gi (out.getD q []) 0).toNat
/-- What is true of the classes so far: not empty, few, of elements less than n. -/
structure OkO (n : Nat) (out : List (List Int)) : Prop where
  len : out.length ≤ n
  pos : ∀ q, q < out.length → 0 < (out.getD q []).length ∧ (out.getD q []).length ≤ n
  mem : ∀ q, q < out.length → ∃ j : Nat, j < n ∧ gi (out.getD q []) 0 = (j : Int)
structure StepO (x : List (List Bool)) (i : Nat) (out out' : List (List Int)) (at_ : Nat) : Prop where
  le : at_ ≤ out.length
  lt : ∀ q, q < at_ → lsB x (hdO out q) i = true
  stop : at_ < out.length → lsB x (hdO out at_) i = false
  res : (at_ < out.length ∧ tieB x (hdO out at_) i = true ∧ out' = out.set at_ (out.getD at_ [] ++ [(i : Int)])) ∨ ((at_ < out.length → tieB x (hdO out at_) i = false) ∧ out' = (out.take at_ ++ [[(i : Int)]]) ++ out.drop at_)
def stO (x : List (List Bool)) (i : Nat) : List (List Int) := clsO x i 0 x.length
theorem bfO_lt {x : List (List Bool)} (s : Swo x) {i : Nat} (hi : i < x.length) : bfO x i < x.length := by
  have h := countP_lt (p := fun j => lsB x j i) (q := fun _ => true) (n := x.length) (a := i) (fun _ _ _ => rfl) hi (s.irr i hi) rfl
  have h2 := List.countP_le_length (p := fun _ : Nat => true) (l := List.range x.length)
  rw [List.length_range] at h2
  exact Nat.lt_of_lt_of_le h h2
theorem stO_ok (x : List (List Bool)) {i : Nat} (hi : i ≤ x.length) : OkO x.length (stO x i) := by
  have key : ∀ q, q < (stO x i).length → ∃ c, (stO x i).getD q [] = clO x i c ∧ 0 < (clO x i c).length := by
    intro q hq
    have hm : (stO x i)[q] ∈ stO x i := List.getElem_mem hq
    obtain ⟨c, _, _, h3, h4⟩ := clsO_mem hm
    refine ⟨c, ?_, by rw [← h3]; exact h4⟩
    rw [← h3]; simp [hq]
  refine ⟨clsO_len _ _ _ _, fun q hq => ?_, fun q hq => ?_⟩
  · obtain ⟨c, e, h⟩ := key q hq
    have := clO_len x i c
    rw [e]; omega
  · obtain ⟨c, e, h⟩ := key q hq
    rw [e, gi_eq h]
    obtain ⟨j, e1, h1, _⟩ := clO_mem (List.getElem_mem h)
    exact ⟨j, by omega, e1⟩
theorem stO_hd {x : List (List Bool)} {i lo k : Nat} {q : Nat} (hq : q < (clsO x i lo k).length) : ∃ j, hdO (clsO x i lo k) q = j ∧ j < i ∧ lo ≤ bfO x j ∧ bfO x j < lo + k := by
  have hm : (clsO x i lo k)[q] ∈ clsO x i lo k := List.getElem_mem hq
  obtain ⟨c, h1, h2, h3, h4⟩ := clsO_mem hm
  have e : (clsO x i lo k).getD q [] = clO x i c := by rw [← h3]; simp [hq]
  unfold hdO
  rw [e]
  rw [h3] at h4
  rw [gi_eq h4]
  obtain ⟨j, e1, h5, h6⟩ := clO_mem (List.getElem_mem h4)
  exact ⟨j, by rw [e1]; simp, h5, by omega, by omega⟩
theorem hdO_left {A B : List (List Int)} {q : Nat} (h : q < A.length) : hdO (A ++ B) q = hdO A q := by
  simp [hdO, List.getD_eq_getElem?_getD, List.getElem?_append_left h]
theorem hdO_right {A B : List (List Int)} {q : Nat} : hdO (A ++ B) (A.length + q) = hdO B q := by
  unfold hdO
  rw [List.getD_eq_getElem?_getD, List.getD_eq_getElem?_getD, List.getElem?_append_right (by omega), Nat.add_sub_cancel_left]
theorem stO_step {x : List (List Bool)} (s : Swo x) {i : Nat} (hi : i < x.length) : ∃ at_, StepO x i (stO x i) (stO x (i + 1)) at_ := by
  obtain ⟨b, hb⟩ : ∃ b, bfO x i = b := ⟨_, rfl⟩
  have hbl := bfO_lt s hi
  rw [hb] at hbl
  obtain ⟨t, ht⟩ : ∃ t, x.length = b + (1 + t) := ⟨x.length - b - 1, by omega⟩
  have e0 : ∀ m, stO x m = clsO x m 0 b ++ (neO (clO x m b) ++ clsO x m (b + 1) t) := by
    intro m
    unfold stO
    rw [ht, clsO_split, clsO_split, Nat.zero_add]
    rfl
  have e1 := e0 i
  have e2 := e0 (i + 1)
  rw [clsO_other (by omega), clsO_other (by omega), clO_succ, if_pos hb] at e2
  have hA : ∀ q, q < (clsO x i 0 b).length → lsB x (hdO (clsO x i 0 b) q) i = true := by
    intro q hq
    obtain ⟨j, ej, h1, _, h3⟩ := stO_hd hq
    rw [ej, lsB_bf s (by omega) hi, hb]
    simp; omega
  have hT : ∀ q, q < (clsO x i (b + 1) t).length → lsB x (hdO (clsO x i (b + 1) t) q) i = false ∧ tieB x (hdO (clsO x i (b + 1) t) q) i = false := by
    intro q hq
    obtain ⟨j, ej, h1, h2, _⟩ := stO_hd hq
    rw [ej, lsB_bf s (by omega) hi, tieB_bf s (by omega) hi, hb]
    constructor <;> simp <;> omega
  generalize clsO x i 0 b = A at *
  generalize clsO x i (b + 1) t = T at *
  rw [e1, e2]
  refine ⟨A.length, by simp, fun q hq => by rw [hdO_left hq]; exact hA q hq, fun hq => ?_, ?_⟩
  · have e3 : A.length = A.length + 0 := rfl
    by_cases hC : (clO x i b).length = 0
    · rw [neO, if_pos hC, List.nil_append] at hq ⊢
      rw [e3, hdO_right]
      exact (hT 0 (by simpa using hq)).1
    · rw [neO, if_neg hC]
      rw [e3, hdO_right]
      have h0 : 0 < (clO x i b).length := by omega
      obtain ⟨j, e4, h5, h6⟩ := clO_mem (List.getElem_mem h0)
      have : hdO ([clO x i b] ++ T) 0 = j := by simp [hdO, gi_eq h0, e4]
      rw [this, lsB_bf s (by omega) hi, hb, h6]
      simp
  · by_cases hC : (clO x i b).length = 0
    · refine .inr ⟨fun hq => ?_, ?_⟩
      · rw [neO, if_pos hC, List.nil_append] at hq ⊢
        have e3 : A.length = A.length + 0 := rfl
        rw [e3, hdO_right]
        exact (hT 0 (by simpa using hq)).2
      · have : clO x i b = [] := List.eq_nil_of_length_eq_zero hC
        rw [this]
        simp [neO]
    · refine .inl ⟨?_, ?_, ?_⟩
      · simp [neO, hC]
      · rw [neO, if_neg hC]
        have e3 : A.length = A.length + 0 := rfl
        rw [e3, hdO_right]
        have h0 : 0 < (clO x i b).length := by omega
        obtain ⟨j, e4, h5, h6⟩ := clO_mem (List.getElem_mem h0)
        have : hdO ([clO x i b] ++ T) 0 = j := by simp [hdO, gi_eq h0, e4]
        rw [this, tieB_bf s (by omega) hi, hb, h6]
        simp
      · have k1 : neO (clO x i b) = [clO x i b] := by rw [neO, if_neg hC]
        have k2 : neO (clO x i b ++ [(i : Int)]) = [clO x i b ++ [(i : Int)]] := by rw [neO, if_neg (by simp)]
        rw [k1, k2]
        simp [List.getD_eq_getElem?_getD]
theorem stO_zero (x : List (List Bool)) : stO x 0 = [] := by
  unfold stO
  generalize x.length = n
  induction n with
  | zero => rfl
  | succ n ih => rw [clsO, ih, clO_zero]; rfl
theorem ocR_len (x : List (List Bool)) : (ocR x).1.length ≤ 100000000000 := by
  unfold ocR
  split
  · rename_i h
    simp only [Bool.and_eq_true] at h
    have := clsO_len x x.length 0 x.length
    have := (relB_len h.1).2
    simp only [clF]; omega
  · simp
end Go.Proofs.Ytdhcpoeopooejaa
