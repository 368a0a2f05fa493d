/- Slices of structs of two ints: marks, elements. -/
import Derived.Test.YtdhcpoeopooejaaHRecord
namespace Go.Proofs.Ytdhcpoeopooejaa
open Go.RowKit Go.Deep

/-- What a mark function leaves in a slice of n pairs from mark k on. -/
def marks2 (k : Int) (n : Nat) : List (Int × Int) := (List.range n).map fun (j : Nat) => (k + 2 * (j : Int), k + 2 * (j : Int) + 1)
@[simp] theorem marks2_length (k : Int) (n : Nat) : (marks2 k n).length = n := by simp [marks2]
theorem marks2_gr (k : Int) (n j : Nat) (h : j < n) : gr (marks2 k n) j = (k + 2 * (j : Int), k + 2 * (j : Int) + 1) := by
  rw [gr_eq (by simpa using h)]; simp [marks2]
theorem marks2_step (xs : List (Int × Int)) (k : Int) (i n : Nat) (hn : xs.length = n) (hi : i < n) : (marks2 k i ++ xs.drop i).set i (k + 2 * (i : Int), k + 2 * (i : Int) + 1) = marks2 k (i + 1) ++ xs.drop (i + 1) := by
  apply List.ext_getElem?
  intro j
  rw [List.getElem?_set]
  simp only [List.length_append, marks2_length, List.length_drop]
  by_cases h : i = j
  · subst h
    rw [if_pos rfl, if_pos (by omega), List.getElem?_append_left (by simp)]
    simp [marks2]
  · rw [if_neg h]
    by_cases h2 : j < i
    · rw [List.getElem?_append_left (by simp; omega), List.getElem?_append_left (by simp; omega)]
      simp [marks2, h2, Nat.lt_succ_of_lt h2]
    · rw [List.getElem?_append_right (by simp; omega), List.getElem?_append_right (by simp; omega)]
      simp only [marks2_length, List.getElem?_drop]
      congr 1
      omega
/-- A slice of pairs of ints, elements of type e. -/
def SlQ (e : Nat) (w : World) (v : Value) (xs : List (Int × Int)) : Prop :=
  ∃ ao c, v = .slice ao xs.length c ∧ ((ao = none ∧ xs = [] ∧ c = 0) ∨ ∃ b off, ao = some ⟨b, off, none⟩ ∧ (xs.length ≤ c ∧ c ≤ maxLen) ∧ Row w e b off (2 * xs.length) (recs xs))
theorem SlQ.nil (w : World) (e : Nat) : SlQ e w (.slice none 0 0) [] := ⟨none, 0, rfl, .inl ⟨rfl, rfl, rfl⟩⟩
theorem SlQ.row {e : Nat} {w : World} {n c : Nat} {ao : Option Addr} {xs : List (Int × Int)} (h : SlQ e w (.slice ao n c) xs) (hp : 0 < n) :
    ∃ b off, ao = some ⟨b, off, none⟩ ∧ xs.length = n ∧ (xs.length ≤ c ∧ c ≤ maxLen) ∧ Row w e b off (2 * xs.length) (recs xs) := by
  obtain ⟨ao', c', hv, h⟩ := h
  simp at hv
  obtain ⟨rfl, rfl, rfl⟩ := hv
  rcases h with ⟨_, h, _⟩ | ⟨b, off, rfl, hc, hr⟩
  · rw [h] at hp
    simp at hp
  · exact ⟨b, off, rfl, rfl, hc, hr⟩
theorem SlQ.shape {e : Nat} {w : World} {v : Value} {xs : List (Int × Int)} (h : SlQ e w v xs) : ∃ ao c, v = .slice ao xs.length c ∧ xs.length ≤ c ∧ c ≤ maxLen := by
  obtain ⟨ao, c, rfl, h⟩ := h
  refine ⟨ao, c, rfl, ?_⟩
  rcases h with ⟨_, rfl, rfl⟩ | ⟨b, off, _, hc, hr⟩
  · exact ⟨Nat.le_refl _, Nat.zero_le _⟩
  · exact hc
theorem SlQ.rd {e : Nat} {w : World} {v : Value} {xs : List (Int × Int)} (h : SlQ e w v xs) : RdR w v xs := by
  obtain ⟨ao, c, rfl, h⟩ := h
  rcases h with ⟨rfl, rfl, rfl⟩ | ⟨b, off, rfl, hc, hr⟩
  · exact ⟨_, _, rfl, Nat.le_refl _, Nat.zero_le _, fun h => absurd h (by simp)⟩
  · have hl := hr.le
    rw [recs_length] at hl
    refine ⟨_, _, rfl, hc.1, hc.2, fun _ => ⟨b, off, rfl, fun i hi => ?_⟩⟩
    have hk := recs_key xs i hi
    have h1 := hr.cell (i := 2 * i) (by rw [recs_length]; omega)
    have h2 := hr.cell (i := 2 * i + 1) (by rw [recs_length]; omega)
    rw [List.getElem?_eq_getElem (by rw [recs_length]; omega), Option.some.injEq] at hk
    rw [List.getElem?_eq_getElem (by rw [recs_length]; omega), Option.some.injEq] at hk
    rw [hk.1] at h1
    rw [hk.2] at h2
    rw [show off + i * 2 = off + 2 * i by omega, show off + 2 * i + 1 = off + (2 * i + 1) by omega]
    exact ⟨h1, h2⟩
theorem SlQ.of_block {e : Nat} {w w' : World} {v : Value} {x : List (Int × Int)} (h : SlQ e w v x) (hb : ∀ k, v.ownBlock = some k → w'.heap[k]? = w.heap[k]?) : SlQ e w' v x := by
  obtain ⟨ao, c, rfl, h⟩ := h
  refine ⟨ao, c, rfl, ?_⟩
  rcases h with h | ⟨b, off, rfl, hc, hr⟩
  · exact .inl h
  · exact .inr ⟨b, off, rfl, hc, hr.of_block (hb b rfl)⟩
theorem SlQ.lt {e : Nat} {w : World} {v : Value} {x : List (Int × Int)} (h : SlQ e w v x) : ∀ k, v.ownBlock = some k → k < w.heap.size := by
  obtain ⟨ao, c, rfl, h⟩ := h
  intro k hk
  rcases h with ⟨rfl, _⟩ | ⟨b, off, rfl, hc, hr⟩
  · simp [Value.ownBlock] at hk
  · simp [Value.ownBlock] at hk
    subst hk
    exact hr.lt
theorem SlQ.set {e : Nat} {w : World} {n c b off : Nat} {xs : List (Int × Int)} (h : SlQ e w (.slice (some ⟨b, off, none⟩) n c) xs) {i : Nat} (hi : i < n) (x y : Int) :
    SlQ e ((w.setCell ⟨b, off + i * 2, none⟩ (.int .i64 x)).setCell ⟨b, off + i * 2 + 1, none⟩ (.int .i64 y)) (.slice (some ⟨b, off, none⟩) n c) (xs.set i (x, y)) := by
  obtain ⟨b', off', hb, hn, hc, hr⟩ := h.row (by omega)
  simp at hb
  obtain ⟨rfl, rfl⟩ := hb
  have h1 := (hr.set (i := i * 2) (by rw [recs_length]; omega) (.int .i64 x)).set (i := i * 2 + 1) (by rw [List.length_set, recs_length]; omega) (.int .i64 y)
  rw [← recs_set, ← Nat.add_assoc] at h1
  exact ⟨_, _, by rw [List.length_set, hn], .inr ⟨_, _, rfl, by rw [List.length_set]; exact hc, by rw [List.length_set]; exact h1⟩⟩
/-- The cells of element i, and that they can be written. -/
theorem SlQ.cells {e : Nat} {w : World} {n c b off : Nat} {xs : List (Int × Int)} (h : SlQ e w (.slice (some ⟨b, off, none⟩) n c) xs) {i : Nat} (hi : i < n) :
    w.cell? ⟨b, off + i * 2, none⟩ = some (.int .i64 (gr xs i).1) ∧ w.cell? ⟨b, off + i * 2 + 1, none⟩ = some (.int .i64 (gr xs i).2) ∧ ∀ j, w.frozen? ⟨b, j, none⟩ = false := by
  obtain ⟨b', off', hb, hn, hc, hr⟩ := h.row (by omega)
  simp at hb
  obtain ⟨rfl, rfl⟩ := hb
  obtain ⟨ao, c', hv, _, _, hcc⟩ := h.rd
  simp at hv
  obtain ⟨b2, off2, hb2, hcell⟩ := hcc (by omega)
  obtain ⟨hv1, _⟩ := hv
  subst hv1
  simp at hb2
  obtain ⟨rfl, rfl⟩ := hb2
  exact ⟨(hcell i (by omega)).1, (hcell i (by omega)).2, fun j => hr.frozen j⟩
end Go.Proofs.Ytdhcpoeopooejaa
