/- The draw of a permutation, from the code. -/
import Derived.Test.YtbfffpdcpoejnaaDrawQ
namespace Go.Proofs.Ytbfffpdcpoejnaa
open Go.RowKit
set_option linter.unusedVariables false
set_option linter.unusedSimpArgs false

/-- A new cursor over the code. -/
theorem Cur.start {w : World} {d : Value} (h : RdBy w d) (hd : ∀ b, d.ownBlock = some b → b < w.heap.size) : Cur (w.alloc (.cells #[d, .int .i64 0, .int .u64 0] 60)) w.heap.size d 0 := by
  have hB : Below w.heap.size w (w.alloc (.cells #[d, .int .i64 0, .int .u64 0] 60)) := (Below.refl _ _).alloc (Nat.le_refl _) _
  refine ⟨⟨0, 0, Nat.le_refl _, ?_⟩, h.ex (Ex.of_below (F := []) hB) (fun _ _ => by simp), fun b hb => by have := hd b hb; omega⟩
  refine ⟨#[d, .int .i64 0, .int .u64 0], by show (w.heap.push _)[w.heap.size]? = _; simp, by simp, by simp, by unfold maxLen; omega, fun i hi => ?_⟩
  match i, hi with
  | 0, _ => rfl
  | 1, _ => rfl
  | 2, _ => rfl

set_option maxRecDepth 10000 in
set_option maxHeartbeats 4000000 in
theorem DrawIsValidPermutation_law {d : Value} {w : World} (h : RdBy w d) (hd : ∀ b, d.ownBlock = some b → b < w.heap.size) :
    Calls Try.prog 57 #[d] w fun e w' => ∃ (r : Value) (L : List Int) (F : List Nat), e = .returned r ∧ RIntS w' r L F ∧ Fr w.heap.size F ∧ Below w.heap.size w w' ∧ L.length ≤ 100 := by
  have hc := Lib.hid (Cur.start h hd)
  obtain ⟨ao, n, c, rfl, h1, h2, _⟩ := h
  have hal := Lib.hid (anyPermutation_any w.heap.size _ 0 _ hc.out (by simp) (fun b hb => by have := hd b hb; simp; omega) (by omega))
  go_enter Try.func57, Try.ntmps57
  go_wp2_with fail
  refine hal.out.mono ?_
  rintro e w1 ⟨r, L, rfl, hO, hL, _, hx⟩
  have hO1 := Lib.hid (hO.base (show w.heap.size ≤ _ by simp))
  have hB : Hid (Below w.heap.size w w1) := Lib.hid (by
    have hB0 : Below w.heap.size w (w.alloc (.cells #[.slice ao n c, .int .i64 0, .int .u64 0] 60)) := (Below.refl _ _).alloc (Nat.le_refl _) _
    exact Below.ex hB0 hx (fun x hx => by simp at hx; omega))
  clear hO hx hal
  go_wp2
  go_ret
  obtain ⟨q1, q2, q3⟩ := (Fresh.of_own hO1.out hB.out).law
  exact ⟨_, L, _, rfl, q1, q2, q3, hL⟩
end Go.Proofs.Ytbfffpdcpoejnaa
