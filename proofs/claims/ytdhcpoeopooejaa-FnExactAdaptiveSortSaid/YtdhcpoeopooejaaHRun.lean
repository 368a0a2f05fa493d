/- Slices of runs as the laws see them. -/
import Derived.Test.YtdhcpoeopooejaaPairs
namespace Go.Proofs.Ytdhcpoeopooejaa
open Go.RowKit Go.Deep


abbrev TRunS := List (Int × Int)
def szRunS (x : List (Int × Int)) : Nat := x.length
def RRunS (w : World) (v : Value) (x : List (Int × Int)) (F : List Nat) : Prop := SlQ 80 w v x ∧ F = v.ownBlock.toList
theorem RRunS.of_block {w w' : World} {v : Value} {x : List (Int × Int)} {F : List Nat} (h : RRunS w v x F) (hb : ∀ b ∈ F, w'.heap[b]? = w.heap[b]?) : RRunS w' v x F := by
  obtain ⟨h, rfl⟩ := h
  exact ⟨h.of_block fun k hk => hb k (by simp [hk]), rfl⟩
theorem RRunS.lt {w : World} {v : Value} {x : List (Int × Int)} {F : List Nat} (h : RRunS w v x F) : Lt w F := by
  obtain ⟨h, rfl⟩ := h
  intro b hb
  exact h.lt b (by simpa using hb)
theorem RRunS.next {w w' : World} {v : Value} {x : List (Int × Int)} {F : List Nat} (h : RRunS w v x F) (hb : Below w.heap.size w w') : RRunS w' v x F :=
  h.of_block fun b hf => hb.block b (h.lt b hf)
theorem RRunS.ex {w w' : World} {v : Value} {x : List (Int × Int)} {F G : List Nat} (h : RRunS w v x F) (k : Ex G w w') (d : Dj F G) : RRunS w' v x F :=
  h.of_block fun b hf => k.block b (h.lt b hf) (d b hf)
theorem RRunS.rd {w : World} {v : Value} {x : List (Int × Int)} {F : List Nat} (h : RRunS w v x F) : RdR w v x := h.1.rd



/-- The slice y bears the marks from k to k'. -/
def MkRunS (k k' : Int) (y : List (Int × Int)) : Prop := ∃ n : Nat, y = marks2 k n ∧ k' = k + 2 * (n : Int) ∧ n ≤ 100000000000
end Go.Proofs.Ytdhcpoeopooejaa
