/- The draws: anyPermutation, DrawIsValidPermutation. -/
import Derived.Test.YtdhcpoeopooejaaDrawP
import Derived.Test.YtdhcpoeopooejaaIntSS
namespace Go.Proofs.Ytdhcpoeopooejaa
open Go.RowKit
set_option linter.unusedVariables false
set_option linter.unusedSimpArgs false

/-- New memory that reads as a list of ints. -/
theorem Rd.lits (w : World) (xs : List Int) (hl : xs.length ≤ 1000) : Rd (w.alloc (.cells (ints xs).toArray 3)) (.slice (some ⟨w.heap.size, 0, none⟩) xs.length xs.length) xs := by
  refine ⟨_, xs.length, rfl, Nat.le_refl _, by unfold maxLen; omega, fun _ => ⟨w.heap.size, 0, rfl, fun i hi => ?_⟩⟩
  have hr : Row (w.alloc (.cells (ints xs).toArray 3)) 3 w.heap.size 0 xs.length (ints xs) := by
    refine ⟨(ints xs).toArray, by show (w.heap.push _)[w.heap.size]? = _; simp, by simp, by simp, by unfold maxLen; omega, fun i hi => ?_⟩
    rw [Nat.zero_add, List.getElem?_toArray, List.getElem?_eq_getElem]
  exact hr.cellInt hi

/-- A row of one's own grown: what lay there before stands. -/
theorem Ex.grown {F : List Nat} {w0 w w' : World} {r : Option Nat} {b : Nat} (h : Ex F w0 w) (hg : w.grownBy w' r) (hb : r = some b) (hlt : w0.heap.size ≤ b) : Ex F w0 w' :=
  ⟨hg.os.trans h.os, hg.tape.trans h.tape, hg.output.trans h.output, Nat.le_trans h.size hg.size, fun k hk hr => (hg.block k (Nat.lt_of_lt_of_le hk h.size) (by subst hb; intro e; injection e; omega)).trans (h.block k hk hr)⟩

/-- The cursor stands while a row of one's own grows. -/
theorem Cur.grown {w w' : World} {cb K b B : Nat} {v : Value} {r : Option Nat} (h : Cur w cb v K) (hg : w.grownBy w' r) (hr : r = some b) (hcb : cb < B) (hvb : ∀ b, v.ownBlock = some b → b < B) (hB : B ≤ b) : Cur w' cb v K :=
  h.ex (F := [b]) ⟨hg.os, hg.tape, hg.output, hg.size, fun k hk hr2 => hg.block k hk (by subst hr; intro e; injection e with e; exact hr2 (by simp [e]))⟩ (by simp; omega) (fun b9 h9 => by have := hvb b9 h9; simp; omega)

end Go.Proofs.Ytdhcpoeopooejaa
