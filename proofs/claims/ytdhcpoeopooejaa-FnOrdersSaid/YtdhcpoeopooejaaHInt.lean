/- The law's helpers on slices of ints, as the laws use them. -/
import Derived.Test.YtdhcpoeopooejaaFrame
import Derived.Test.YtdhcpoeopooejaaToInt
import Derived.Test.YtdhcpoeopooejaaEqInt
import Derived.Test.YtdhcpoeopooejaaMarkInt
namespace Go.Proofs.Ytdhcpoeopooejaa
open Go.RowKit
set_option linter.unusedVariables false
set_option linter.unusedSimpArgs false

theorem toIntS_law {v : Value} {x : List Int} {w : World} (h : DIntS w v x) (hl : x.length ≤ 1048576) :
    Calls Try.prog 12 #[v] w fun e w' => ∃ u F, e = .returned u ∧ RIntS w' u x F ∧ Fr w.heap.size F ∧ Below w.heap.size w w' :=
  (toIntS_any v x w h.1 hl).mono fun _ _ ⟨he, hs, hb⟩ => ⟨_, _, he, ⟨hs, rfl⟩, by intro b hb; simp [Value.ownBlock] at hb; omega, hb⟩
theorem eqIntS_law {v u : Value} {x y : List Int} {F G : List Nat} {w : World} (h : RIntS w v x F) (k : RIntS w u y G) :
    Calls Try.prog 14 #[v, u] w fun e w' => e = .returned (.bool (decide (x = y))) ∧ Below w.heap.size w w' :=
  (eqIntS_any v u x y w h.1 k.1).mono fun _ _ ⟨he, hb⟩ => ⟨he, Below.quiet hb⟩
/-- The slice y bears the marks from k to k'. -/
def MkIntS (k k' : Int) (y : List Int) : Prop := ∃ n : Nat, y = marks k n ∧ k' = k + n ∧ n ≤ 100000000000
theorem markIntS_law {v : Value} {x : List Int} {F : List Nat} {w : World} {k : Int} (h : RIntS w v x F) (hl : x.length ≤ 100000000000) (h0 : 0 ≤ k) (hk : k ≤ 1000000000000) :
    Calls Try.prog 26 #[v, .int .i64 k] w fun e w' => ∃ y k', e = .returned (.int .i64 k') ∧ RIntS w' v y F ∧ MkIntS k k' y ∧ k ≤ k' ∧ k' ≤ k + x.length ∧ Ex F w w' :=
  (markIntS_any v x k w h.1 (by omega) h0 hk).mono fun _ _ ⟨he, hs, hg⟩ => ⟨_, _, he, ⟨hs, h.2⟩, ⟨_, rfl, rfl, hl⟩, by omega, by omega, by rw [h.2]; exact Ex.of_grown hg⟩
theorem heldIntS_law {v : Value} {y : List Int} {F : List Nat} {w : World} {k k' : Int} (h : RIntS w v y F) (m : MkIntS k k' y) (h0 : 0 ≤ k) (hk : k ≤ 1000000000000) :
    Calls Try.prog 27 #[v, .int .i64 k] w fun e w' => e = .returned (.int .i64 k') ∧ Below w.heap.size w w' := by
  obtain ⟨n, rfl, rfl, hn⟩ := m
  exact (heldIntS_any v n k w h.1 (by omega) h0 hk).mono fun _ _ ⟨he, hb⟩ => ⟨he, Below.quiet hb⟩
end Go.Proofs.Ytdhcpoeopooejaa
