/- BinaryInsertionSort. -/
import Derived.Test.YtdhcpoeopooejaaStep
import Derived.Test.YtdhcpoeopooejaaCopy
namespace Go.Proofs.Ytdhcpoeopooejaa
open Go.RowKit
set_option linter.unusedVariables false
set_option linter.unusedSimpArgs false

/-- The inner loop: the place of x among l's cells lo .. hi. -/
def binW (x : Int) (l : List Int) : Nat → Nat → Nat → Nat → Nat × Nat
  | 0, lo, _, c => (lo, c)
  | f + 1, lo, hi, c => if lo < hi then (if x < gi l ((lo + hi) / 2) then binW x l f lo ((lo + hi) / 2) (c + 1) else binW x l f ((lo + hi) / 2 + 1) hi (c + 1)) else (lo, c)
/-- Element x laid into l at place p. -/
def insAt (l : List Int) (p : Nat) (x : Int) : List Int := l.take p ++ (x :: l.drop p)
def binK (l : List Int) : Nat → List Int × Nat
  | 0 => ([], 0)
  | j + 1 => (insAt (binK l j).1 (binW (gi l j) (binK l j).1 (j + 1) 0 j (binK l j).2).1 (gi l j), (binW (gi l j) (binK l j).1 (j + 1) 0 j (binK l j).2).2)
theorem binW_stop {x : Int} {l : List Int} {f lo hi c : Nat} (h : ¬ lo < hi) : binW x l f lo hi c = (lo, c) := by
  cases f with
  | zero => rfl
  | succ f => rw [binW, if_neg h]
theorem binW_low {x : Int} {l : List Int} {f lo hi c : Nat} (h : lo < hi) (h2 : x < gi l ((lo + hi) / 2)) : binW x l (f + 1) lo hi c = binW x l f lo ((lo + hi) / 2) (c + 1) := by
  rw [binW, if_pos h, if_pos h2]
theorem binW_high {x : Int} {l : List Int} {f lo hi c : Nat} (h : lo < hi) (h2 : ¬ x < gi l ((lo + hi) / 2)) : binW x l (f + 1) lo hi c = binW x l f ((lo + hi) / 2 + 1) hi (c + 1) := by
  rw [binW, if_pos h, if_neg h2]
theorem binW_bound (x : Int) (l : List Int) : ∀ (f lo hi c : Nat), lo ≤ hi → (binW x l f lo hi c).1 ≤ hi ∧ (binW x l f lo hi c).2 ≤ c + (hi - lo) := by
  intro f
  induction f with
  | zero => intro lo hi c h; exact ⟨h, by simp [binW]⟩
  | succ f ih =>
    intro lo hi c h
    rw [binW]
    split
    · split
      · have := ih lo ((lo + hi) / 2) (c + 1) (by omega); omega
      · have := ih ((lo + hi) / 2 + 1) hi (c + 1) (by omega); omega
    · exact ⟨h, by omega⟩
theorem binK_length (l : List Int) (j : Nat) : (binK l j).1.length = j := by
  induction j with
  | zero => rfl
  | succ j ih =>
    have := (binW_bound (gi l j) (binK l j).1 (j + 1) 0 j (binK l j).2 (by omega)).1
    rw [binK, insAt]
    simp [ih]; omega
theorem binK_count (l : List Int) (j : Nat) : (binK l j).2 ≤ j * j := by
  induction j with
  | zero => exact Nat.le_refl _
  | succ j ih =>
    have := (binW_bound (gi l j) (binK l j).1 (j + 1) 0 j (binK l j).2 (by omega)).2
    rw [binK]
    have e : (j + 1) * (j + 1) = j * j + j + j + 1 := by rw [Nat.add_mul, Nat.mul_add]; omega
    dsimp only
    omega
theorem insAt_splice (S R : List Int) (j p : Nat) (x : Int) (hS : S.length = j) (hp : p ≤ j) :
    (splice (S ++ (x :: R)) (p + 1) (((S ++ (x :: R)).drop p).take (j - p))).set p x = insAt S p x ++ R := by
  subst hS
  apply List.ext_getElem?
  intro i
  simp only [splice, insAt, List.getElem?_set, List.getElem?_append, List.getElem?_take, List.getElem?_drop, List.length_take, List.length_drop, List.length_append, List.length_cons, List.getElem?_cons]
  have m1 : min (p + 1) (S.length + (R.length + 1)) = p + 1 := by omega
  have m2 : min (S.length - p) (S.length + (R.length + 1) - p) = S.length - p := by omega
  have m3 : min p S.length = p := by omega
  simp only [m1, m2, m3]
  rcases Nat.lt_trichotomy i p with h | h | h
  · simp [show ¬ p = i by omega, show i < p + 1 by omega, show i < S.length by omega, h, show i < p + (S.length - p + 1) by omega]
  · subst h
    simp [show i < i + 1 + (S.length - i + (S.length + (R.length + 1) - (i + 1 + (S.length - i)))) by omega, show i < i + (S.length - i + 1) by omega]
  · by_cases h2 : i ≤ S.length
    · have e1 : i - (p + 1) < S.length - p := by omega
      have e2 : p + (i - (p + 1)) < S.length := by omega
      simp [show ¬ p = i by omega, show ¬ i < p + 1 by omega, e1, e2, show ¬ i < p by omega, show i < p + (S.length - p + 1) by omega, show ¬ i - p = 0 by omega]
      rw [← List.getElem?_eq_getElem]
      congr 1
    · have e1 : ¬ i - (p + 1) < S.length - p := by omega
      have e4 : p + 1 + (S.length - p) + (i - (p + 1) - (S.length - p)) = i := by omega
      simp [show ¬ p = i by omega, show ¬ i < p + 1 by omega, e1, e4, show ¬ i < S.length by omega, show ¬ i < p + (S.length - p + 1) by omega, show ¬ i - S.length = 0 by omega]
      congr 1
      omega
theorem gi_app {S R : List Int} {k : Nat} (h : k < S.length) : gi (S ++ R) k = gi S k := by
  simp [gi, List.getD, List.getElem?_append, h]
theorem drop_gi {l : List Int} {j : Nat} (h : j < l.length) : l.drop j = gi l j :: l.drop (j + 1) := by
  rw [gi_eq h]; exact List.drop_eq_getElem_cons h
theorem drop_end {l : List Int} {j : Nat} (h : l.length ≤ j) : l.drop j = [] := List.drop_eq_nil_of_le h

theorem Sl.set_splice {w : World} {e b off c i n : Nat} {x : Int} {M L : List Int} (h : Row w e b off c (ints M)) (hi : i < M.length) (hM : M.set i x = L) (hn : L.length = n) :
    Sl (w.setCell ⟨b, off + i, none⟩ (.int .i64 x)) e (.slice (some ⟨b, off, none⟩) n c) (ints L) := by
  have h1 := Sl.of_row (h.setInt hi x)
  rw [hM, ints_length, hn] at h1
  exact h1
theorem length_splice_i (L : List Int) (p q m : Nat) (h : p + m ≤ L.length) : (splice L p ((L.drop q).take m)).length = L.length := by
  refine length_splice _ _ _ ?_
  simp; omega

/-- The result of BinaryInsertionSort. -/
def binR (x : List Int) : List Int × Nat × Bool := if vlist x then ((binK x x.length).1, (binK x x.length).2, true) else ([], 0, false)
theorem binR_len (x : List Int) : (binR x).1.length ≤ 100000000000 := by
  unfold binR
  split
  · rename_i h
    have := (vlist_iff.1 h).1
    dsimp only
    rw [binK_length]; omega
  · simp


theorem Row.rdTake {w : World} {e b off c lo : Nat} {S : List Int} (h : Row w e b off c (ints S)) (hl : lo ≤ S.length) : RdV w (.slice (some ⟨b, off, none⟩) lo c) (ints (S.take lo)) := by
  have := RdV.of_sl (Sl.of_row (h.take lo))
  simp only [List.length_take, ints_length, Nat.min_eq_left hl] at this
  simpa [ints, List.map_take] using this
theorem Row.rdDrop {w : World} {e b off c lo n : Nat} {S : List Int} (h : Row w e b off c (ints S)) (hl : lo ≤ S.length) (hn : S.length - lo = n) : RdV w (.slice (some ⟨b, off + lo, none⟩) n (c - lo)) (ints (S.drop lo)) := by
  have hc := h.le
  rw [ints_length] at hc
  have := RdV.of_sl (Sl.of_row (h.drop (k := lo) (by omega)))
  simp only [List.length_drop, ints_length, hn] at this
  simpa [ints, List.map_drop] using this
theorem RdV.none0 {w : World} {ad : Addr} {c : Nat} : RdV w (.slice (some ad) 0 c) (ints []) := ⟨some ad, c, rfl, fun h => by simp at h, fun _ _ j hj => absurd hj (by simp [ints])⟩

theorem RdV.new {w : World} {e : Nat} {y : Value} : RdV (w.alloc (.cells #[y] e)) (.slice (some ⟨w.heap.size, 0, none⟩) 1 1) [y] := by
  refine ⟨_, _, rfl, fun h => by simp at h, fun ad ha j hj => ?_⟩
  simp only [Option.some.injEq] at ha
  subst ha
  have : j = 0 := by simp at hj; omega
  subst this
  rw [Addr.add_lit]
  simp [go_sem]
theorem RdV.kept {w w' : World} {b o n c : Nat} {ys : List Value} (h : RdV w (.slice (some ⟨b, o, none⟩) n c) ys) (hb : w'.heap[b]? = w.heap[b]?) : RdV w' (.slice (some ⟨b, o, none⟩) n c) ys := by
  obtain ⟨ao, c', he, hn, hc⟩ := h
  refine ⟨ao, c', he, hn, fun ad ha j hj => ?_⟩
  rw [← hc ad ha j hj]
  simp only [Value.slice.injEq] at he
  obtain ⟨rfl, _⟩ := he
  simp only [Option.some.injEq] at ha
  subst ha
  have hadd : (⟨b, o, none⟩ : Addr).add j = ⟨b, o + j, none⟩ := by unfold Addr.add; split <;> simp_all
  rw [hadd]
  simp only [World.cell?, hb]
theorem Own.base {w : World} {e B B' : Nat} {v : Value} {xs : List Value} (h : Own w e B v xs) (hB : B' ≤ B) : Own w e B' v xs := by
  obtain ⟨h1, h2⟩ := h
  refine ⟨h1, ?_⟩
  rcases h2 with h2 | ⟨g, cap, cur, a, b, c⟩
  · exact .inl h2
  · exact .inr ⟨g, cap, cur, a, Nat.le_trans hB b, c⟩
theorem Own_insAt {w : World} {B j lo : Nat} {v : Value} {S : List Int} {X : Int} (h : Own w 3 B v ((([] ++ ints (S.take lo)) ++ [.int .i64 X]) ++ ints (S.drop lo))) (hS : S.length = j) (hl : lo ≤ j) :
    ∃ g cap, v = .slice (some ⟨g, 0, none⟩) (j + 1) cap ∧ Hid (Row w 3 g 0 cap (ints (insAt S lo X))) ∧ Hid (B ≤ g) := by
  have he : ((([] ++ ints (S.take lo)) ++ [.int .i64 X]) ++ ints (S.drop lo)) = ints (insAt S lo X) := by simp [ints, insAt]
  rw [he] at h
  have hn : (ints (insAt S lo X)).length = j + 1 := by simp [insAt]; omega
  unfold Own at h
  rw [hn] at h
  obtain ⟨g, cap, rfl, hg, _⟩ := World.ownsRow.form h (by omega)
  exact ⟨g, cap, rfl, Lib.hid (Row.of_owns h), Lib.hid hg⟩
theorem grownBy.rdNew {w w' : World} {k : Option Nat} {b o n c : Nat} {ys : List Value} (h : w.grownBy w' k) (hb : b < w.heap.size) (hk : k ≠ some b) (hr : RdV w (.slice (some ⟨b, o, none⟩) n c) ys) : RdV w' (.slice (some ⟨b, o, none⟩) n c) ys :=
  hr.kept (h.block b hb hk.symm)

end Go.Proofs.Ytdhcpoeopooejaa
