/- The draw of a permutation, from the code. -/
import Derived.Test.YtdhcpoeopooejaaDrawQ
namespace Go.Proofs.Ytdhcpoeopooejaa
open Go.RowKit
set_option linter.unusedVariables false
set_option linter.unusedSimpArgs false

/-- A new cursor over the code. -/
theorem Cur.start {w : World} {d : Value} (h : RdBy w d) (hd : ∀ b, d.ownBlock = some b → b < w.heap.size) : Cur (w.alloc (.cells #[d, .int .i64 0, .int .u64 0] 95)) w.heap.size d 0 := by
  have hB : Below w.heap.size w (w.alloc (.cells #[d, .int .i64 0, .int .u64 0] 95)) := (Below.refl _ _).alloc (Nat.le_refl _) _
  refine ⟨⟨0, 0, Nat.le_refl _, ?_⟩, h.ex (Ex.of_below (F := []) hB) (fun _ _ => by simp), fun b hb => by have := hd b hb; omega⟩
  refine ⟨#[d, .int .i64 0, .int .u64 0], by show (w.heap.push _)[w.heap.size]? = _; simp, by simp, by simp, by unfold maxLen; omega, fun i hi => ?_⟩
  match i, hi with
  | 0, _ => rfl
  | 1, _ => rfl
  | 2, _ => rfl

end Go.Proofs.Ytdhcpoeopooejaa
