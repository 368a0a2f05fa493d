/- A list at some indices: apply, ComposePermutations, ApplyPermutation. -/
import Derived.Test.YtoeonplbgbgjmaaDoorPermOk
namespace Go.Proofs.YtoeonplbgbgjmaaDoor
open Go.RowKit
set_option linter.unusedVariables false
set_option linter.unusedSimpArgs false

/-- list at p. -/
def apF (p list : List Int) : List Int := p.map fun x => gi list x.toNat
theorem apF_snoc (p list : List Int) (k : Nat) (h : k < p.length) : apF (p.take (k + 1)) list = apF (p.take k) list ++ [gi list (gi p k).toNat] := by
  unfold apF; rw [List.take_succ_eq_append_getElem h, gi_eq h, List.map_append]; rfl
theorem apF_take_length (p list : List Int) (k : Nat) : (apF (p.take k) list).length ≤ k := by simp [apF]; omega
/-- All of p lies in 0 .. n - 1. -/
def inR (p : List Int) (n : Nat) : Prop := ∀ i, i < p.length → 0 ≤ gi p i ∧ gi p i < n
theorem inR_good {p : List Int} (h : goodP p = true) : inR p p.length := fun i hi => by
  have := permAt_iff.1 ((goodP_iff.1 h).2 i hi)
  omega
/-- A slice that a call made for itself: it reads as xs, in new memory. -/
def Fresh (w w' : World) (r : Value) (xs : List Int) : Prop := Sl w' 3 r (ints xs) ∧ (∀ k, r.ownBlock = some k → w.heap.size ≤ k) ∧ Below w.heap.size w w'
theorem Fresh.law {w w' : World} {r : Value} {xs : List Int} (h : Fresh w w' r xs) : RIntS w' r xs r.ownBlock.toList ∧ Fr w.heap.size r.ownBlock.toList ∧ Below w.heap.size w w' :=
  ⟨⟨h.1, rfl⟩, fun b hb => h.2.1 b (by simpa using hb), h.2.2⟩
theorem Fresh.of_own {w w' : World} {r : Value} {xs : List Int} (h : Own w' 3 w.heap.size r (ints xs)) (hb : Below w.heap.size w w') : Fresh w w' r xs :=
  ⟨h.sl, fun k hk => (h.lt k hk).1, hb⟩
theorem Fresh.nil {w w' : World} (hb : Below w.heap.size w w') : Fresh w w' (.slice none 0 0) [] := ⟨Sl.nil _ _, fun k hk => by simp [Value.ownBlock] at hk, hb⟩
theorem Fresh.empty {w w1 : World} (hb : Below w.heap.size w w1) : Fresh w (w1.alloc (.cells #[] 3)) (.slice (some ⟨w1.heap.size, 0, none⟩) 0 0) [] :=
  ⟨(Own.empty w1 _).sl, fun k hk => by simp [Value.ownBlock] at hk; have := hb.size; omega, hb.alloc hb.size _⟩
/-- Behind an append to a slice that the call owns. -/
theorem Below.appended {B : Nat} {a w w' : World} {v : Value} {e : Nat} {xs : List Value} (h : Below B a w) (ho : Own w e B v xs) (hg : w.grownBy w' v.ownBlock) (hB : B ≤ w.heap.size) : Below B a w' :=
  h.grown hg hB fun k hk => (ho.lt k hk).1

end Go.Proofs.YtoeonplbgbgjmaaDoor
