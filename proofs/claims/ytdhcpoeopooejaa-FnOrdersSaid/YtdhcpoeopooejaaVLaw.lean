/- What the walks of the property laws share. -/
import Derived.Test.YtdhcpoeopooejaaVHelp
import Derived.Test.YtdhcpoeopooejaaVInts
namespace Go.Proofs.Ytdhcpoeopooejaa
open Go.RowKit
set_option linter.unusedVariables false
set_option linter.unusedSimpArgs false

theorem RdBy.next {w w' : World} {v : Value} (h : RdBy w v) (hb : Below w.heap.size w w') : RdBy w' v := by
  obtain ⟨ao, n, c, rfl, h1, h2, h3⟩ := h
  refine ⟨ao, n, c, rfl, h1, h2, fun hp => ?_⟩
  obtain ⟨b, off, rfl, hr⟩ := h3 hp
  refine ⟨b, off, rfl, fun i hi => ?_⟩
  obtain ⟨x, hx, hc⟩ := hr i hi
  refine ⟨x, hx, ?_⟩
  rw [World.cell?_of_block (w := w) (hb.block b (block_lt_of_cell hc))]
  exact hc
/-- The bytes lie in a block that is there. -/
theorem lt_next {w w' : World} {d : Value} (hd : ∀ b, d.ownBlock = some b → b < w.heap.size) (hb : Below w.heap.size w w') : ∀ b, d.ownBlock = some b → b < w'.heap.size :=
  fun b h => Nat.lt_of_lt_of_le (hd b h) hb.size
theorem vInts_law {v u : Value} {xs ys : List Int} {F G : List Nat} {w : World} (r : RIntS w v xs F) (s : RIntS w u ys G) :
    Calls Try.prog 41 #[v, u] w fun e w' => e = .returned (.bool (decide (xs = ys))) ∧ Below w.heap.size w w' :=
  (vInts_any v u xs ys w r.1 s.1).mono fun _ _ ⟨he, hq⟩ => ⟨he, Below.quiet hq⟩
theorem vInts_same {v u : Value} {xs : List Int} {F G : List Nat} {w : World} (r : RIntS w v xs F) (s : RIntS w u xs G) :
    Calls Try.prog 41 #[v, u] w fun e w' => e = .returned (.bool true) ∧ Below w.heap.size w w' :=
  (vInts_law r s).mono fun _ _ ⟨he, hq⟩ => ⟨by rw [he]; simp, hq⟩
/-- A slice of ints that was made, opened: its value, its length, and its cells where there are some. -/
theorem RIntS.opened {w : World} {v : Value} {xs : List Int} {F : List Nat} (r : RIntS w v xs F) :
    ∃ ao c, v = .slice ao xs.length c ∧ xs.length ≤ 9223372036854775807 ∧ (0 < xs.length → ∃ b off, ao = some ⟨b, off, none⟩ ∧ ∀ i, i < xs.length → w.cell? ⟨b, off + i, none⟩ = some (.int .i64 (gi xs i))) := by
  obtain ⟨ao, c, rfl, h1, _, _, h4⟩ := r.1.openInts
  unfold maxLen at h1
  exact ⟨ao, c, rfl, by omega, fun hp => by obtain ⟨b, off, rfl, hr⟩ := h4 hp; exact ⟨b, off, rfl, fun i hi => hr.cellInt hi⟩⟩
end Go.Proofs.Ytdhcpoeopooejaa
