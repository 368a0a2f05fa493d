/- HeapDepth: the depth of the last element of a heap. -/
import Derived.Test.YtkdengglllfcdaaValid
namespace Go.Proofs.Ytkdengglllfcdaa
open Go.RowKit
set_option linter.unusedVariables false
set_option linter.unusedSimpArgs false

/-- The depth of element i, by fuel. -/
def hdF (d : Nat) : Nat → Nat → Nat
  | 0, _ => 0
  | f + 1, i => if i = 0 then 0 else 1 + hdF d f ((i - 1) / d)
/-- The result of HeapDepth. -/
def hdR (n d : Int) : Int × Bool := if inB n 1 64 && inB d 2 8 then (((hdF d.toNat 64 (n.toNat - 1) : Nat) : Int), true) else (0, false)
theorem cdiv (i d : Nat) (h : 1 ≤ i) : ((i : Int) - 1) / (d : Int) = (((i - 1) / d : Nat) : Int) := by
  rw [Int.natCast_ediv, Int.natCast_sub h]; rfl
theorem div_lt1 (i d : Nat) (h : 1 ≤ i) : (i - 1) / d ≤ i - 1 := Nat.div_le_self _ _

set_option maxHeartbeats 400000 in
theorem isArity_any (d : Int) (w : World) :
    Calls Try.prog 68 #[.int .i64 d] w fun e w' => e = .returned (.bool (inB d 2 8)) ∧ w = w' := by
  go_enter Try.func68, Try.ntmps68
  go_wp2_with (go_at_call 48; refine (in_any _ _ _ _).mono ?_; rintro e w' ⟨rfl, rfl⟩)
  go_ret
  exact ⟨rfl, rfl⟩

end Go.Proofs.Ytkdengglllfcdaa
