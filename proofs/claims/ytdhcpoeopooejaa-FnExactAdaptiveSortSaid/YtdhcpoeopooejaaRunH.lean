/- RunMerges: the run stack when it is new. -/
import Derived.Test.YtdhcpoeopooejaaRunE
namespace Go.Proofs.Ytdhcpoeopooejaa
open Go.RowKit
set_option linter.unusedVariables false
set_option linter.unusedSimpArgs false

theorem Row.three (w : World) (e : Nat) (a b c : Value) : Row (w.alloc (.cells #[a, b, c] e)) e w.heap.size 0 3 [a, b, c] := by
  refine ⟨#[a, b, c], by show (w.heap.push _)[w.heap.size]? = _; simp, by simp, by simp, by unfold maxLen; omega, fun i hi => ?_⟩
  match i, hi with
  | 0, _ => rfl
  | 1, _ => rfl
  | 2, _ => rfl
theorem RS.init (w : World) : RS w (w.heap.size + 1) (.slice none 0 0) (.slice (some ⟨w.heap.size, 0, none⟩) 0 0) [] [] 0 ((w.alloc (.cells #[] 3)).alloc (.cells #[.slice none 0 0, .slice (some ⟨w.heap.size, 0, none⟩) 0 0, .int .i64 0] 87)) := by
  have h3 := Row.three (w.alloc (.cells #[] 3)) 87 (.slice none 0 0) (.slice (some ⟨w.heap.size, 0, none⟩) 0 0) (.int .i64 0)
  have hs : (w.alloc (.cells #[] 3)).heap.size = w.heap.size + 1 := by show (w.heap.push _).size = _; simp
  rw [hs] at h3
  refine ⟨h3, Own.nil _ _ _, (Own.empty w _).alloc _, ?_, ?_, ?_, by omega, ((Below.refl w.heap.size w).alloc (Nat.le_refl _) _).alloc (by rw [hs]; omega) _⟩
  · intro h; exact absurd h (by simp [Value.ownBlock])
  · intro h; simp [Value.ownBlock] at h
  · intro b h; exact absurd h (by simp [Value.ownBlock])

end Go.Proofs.Ytdhcpoeopooejaa
