/- Two small steps of a list of places. -/
import Derived.Test.YtoeonplbgbgjmaaDoorStbM
namespace Go.Proofs.YtoeonplbgbgjmaaDoor
open Go.RowKit
set_option linter.unusedVariables false
set_option linter.unusedSimpArgs false

theorem up_step {D D' : List Int} {a k : Nat} (ha : a ≤ k) (hl : k + 1 < D'.length) (h : ∀ t, gi D' t = if a ≤ t ∧ t < k then gi D (t + 1) else if t = k then gi D a else gi D t) :
    ∀ t, gi (swp D' k (k + 1)) t = if a ≤ t ∧ t < k + 1 then gi D (t + 1) else if t = k + 1 then gi D a else gi D t := by
  intro t
  rw [gi_swp (by omega) hl, h, h, h]
  by_cases e1 : t = k + 1
  · subst e1
    rw [if_pos rfl, if_neg (by omega), if_pos rfl, if_neg (by omega), if_pos rfl]
  · rw [if_neg e1]
    by_cases e2 : t = k
    · subst e2
      rw [if_pos rfl, if_neg (by omega), if_neg (by omega), if_pos (by omega)]
    · rw [if_neg e2]
      by_cases e3 : a ≤ t ∧ t < k
      · rw [if_pos e3, if_pos (by omega)]
      · rw [if_neg e3, if_neg e2, if_neg (by omega), if_neg e1]
theorem down_step {D D' : List Int} {m k : Nat} (hk : k + 1 ≤ m) (hl : k + 1 < D'.length) (h : ∀ t, gi D' t = if k + 1 < t ∧ t ≤ m then gi D (t - 1) else if t = k + 1 then gi D m else gi D t) :
    ∀ t, gi (swp D' k (k + 1)) t = if k < t ∧ t ≤ m then gi D (t - 1) else if t = k then gi D m else gi D t := by
  intro t
  rw [gi_swp (by omega) hl, h, h, h]
  by_cases e1 : t = k + 1
  · subst e1
    rw [if_pos rfl, if_neg (by omega), if_neg (by omega), if_pos (by omega)]
    congr 1
  · rw [if_neg e1]
    by_cases e2 : t = k
    · subst e2
      rw [if_pos rfl, if_neg (by omega), if_pos rfl, if_neg (by omega), if_pos rfl]
    · rw [if_neg e2]
      by_cases e3 : k + 1 < t ∧ t ≤ m
      · rw [if_pos e3, if_pos (by omega)]
      · rw [if_neg e3, if_neg e1, if_neg (by omega), if_neg e2]
/-- A call that only reads, in a quiet region, where the world has been drawn from before. -/
theorem quietC {P : Program} {f : FuncId} {args : Array Value} {w : World} {a n : Nat} {v : Value} (h : Calls P f args (w.drewN (a + n)) fun e w' => e = .returned v ∧ ∃ m, w' = (w.drewN (a + n)).drewN m) :
    Calls P f args (w.drewN (a + n)) fun e w'' => e = .returned v ∧ ∃ m, w'' = w.drewN (a + m) := h.mono fun _ _ ⟨he, m, hm⟩ => ⟨he, n + m, by rw [hm, World.drewN_drewN, Nat.add_assoc]⟩
theorem Rt.idl (D : List Int) (m q : Nat) : Rt D D m m q := fun t => by
  split
  · congr 1; omega
  · split
    · omega
    · rfl
theorem Rt.idr (D : List Int) (p m : Nat) : Rt D D p m m := fun t => by
  split
  · omega
  · split
    · congr 1; omega
    · rfl

end Go.Proofs.YtoeonplbgbgjmaaDoor
