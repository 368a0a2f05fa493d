/- strconv.Itoa. -/
import Derived.Test.YtoeonplbgbgjmaaDoorNumL
import Derived.Test.YtoeonplbgbgjmaaDoorDoor
import Derived.Test.YtoeonplbgbgjmaaDoorLay
import Derived.Sort.Grow
namespace Go.Proofs.YtoeonplbgbgjmaaDoor
open Go.RowKit
set_option linter.unusedVariables false
set_option linter.unusedSimpArgs false

theorem below_grow (w : World) (k : Nat) (os : Array Obj) : Below w.heap.size w (Sort.grow (w.drewN k) os) :=
  ⟨rfl, rfl, rfl, by show w.heap.size ≤ (w.heap ++ os).size; simp, fun i hi => by show (w.heap ++ os)[i]? = _; rw [Array.getElem?_append_left hi]⟩
theorem itoa_any (n : Int) (w : World) (hn : -9223372036854775808 ≤ n ∧ n ≤ 9223372036854775807) (hT : Tab w) :
    Calls Tryd.prog 64 #[.int .i64 n] w fun e w' => e = .returned (.string (strB (Lib.itoa n))) ∧ Below w.heap.size w w' := by
  have := Any.strconv_Itoa lays171 n hn.1 hn.2 w hT
  refine this.mono ?_
  rintro e w' ⟨he, k, os, rfl⟩
  exact ⟨he, below_grow w k os⟩
end Go.Proofs.YtoeonplbgbgjmaaDoor
