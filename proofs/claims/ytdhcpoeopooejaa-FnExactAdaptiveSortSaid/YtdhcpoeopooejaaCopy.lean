/- A copy of a list of ints: copyOf, l1Own. -/
import Derived.Test.YtdhcpoeopooejaaApply
namespace Go.Proofs.Ytdhcpoeopooejaa
open Go.RowKit
set_option linter.unusedVariables false
set_option linter.unusedSimpArgs false

/-- A slice that the call may append to and write: it owns xs, in new memory. -/
def FreshOwn (w w' : World) (r : Value) (xs : List Int) : Prop := Own w' 3 w.heap.size r (ints xs) ∧ Below w.heap.size w w'
theorem FreshOwn.fresh {w w' : World} {r : Value} {xs : List Int} (h : FreshOwn w w' r xs) : Fresh w w' r xs := Fresh.of_own h.1 h.2
theorem FreshOwn.shape {w w' : World} {r : Value} {xs : List Int} (h : FreshOwn w w' r xs) : ∃ ao c, r = .slice ao xs.length c ∧ xs.length ≤ c ∧ c ≤ maxLen ∧
    (0 < xs.length → ∃ g, ao = some ⟨g, 0, none⟩ ∧ w.heap.size ≤ g ∧ Row w' 3 g 0 c (ints xs)) := by
  obtain ⟨h1, h2⟩ := h
  have h1' := h1
  obtain ⟨hl, hh⟩ := h1
  rcases hh with ⟨rfl, hn⟩ | ⟨g, cap, cur, rfl, hg, _, h3, h4, _⟩
  · rw [ints_length] at hn
    exact ⟨none, 0, by rw [hn], by omega, Nat.zero_le _, fun h => by omega⟩
  · rw [ints_length] at *
    refine ⟨_, _, rfl, h3, h4, fun _ => ⟨g, rfl, hg, Row.of_owns (base := w.heap.size) (n := xs.length) ?_⟩⟩
    unfold Own at h1'
    rw [ints_length] at h1'
    exact h1'

theorem Own.below {w w' : World} {e B : Nat} {v : Value} {xs : List Value} (h : Own w e B v xs) (hb : Below w.heap.size w w') : Own w' e B v xs :=
  h.kept (r := none) (grownBy.of_below hb none) (by cases h : v.ownBlock <;> simp)
/-- A copy that has been written in place. -/
theorem FreshOwn.wrote {w w1 w2 w3 : World} {r : Value} {xs L : List Int} (hb : Below w.heap.size w w1) (hf : FreshOwn w1 w2 r xs) (hs : Sl w3 3 r (ints L)) (hex : Ex r.ownBlock.toList w2 w3) : Fresh w w3 r L :=
  ⟨hs, fun k hk => Nat.le_trans hb.size (hf.1.lt k hk).1, Below.ex (Below.next hb hf.2) hex fun b h => Nat.le_trans hb.size (hf.1.lt b (by simpa using h)).1⟩
/-- An older slice reads on while new memory is made and written. -/
theorem Rd.ex {w2 w3 wr : World} {v : Value} {gs : List Int} {F : List Nat} (hu : Rd w2 v gs) (hb : Below w2.heap.size w2 w3) (hex : Ex F w3 wr) (hF : ∀ b ∈ F, w2.heap.size ≤ b) : Rd wr v gs := by
  obtain ⟨ao, c, rfl, h1, h2, h3⟩ := hu
  refine ⟨ao, c, rfl, h1, h2, fun hp => ?_⟩
  obtain ⟨b, off, rfl, hr⟩ := h3 hp
  refine ⟨b, off, rfl, fun i hi => ?_⟩
  have h0 := hr i hi
  have hlt : b < w2.heap.size := block_lt_of_cell h0
  rw [World.cell?_of_block (w := w3) (hex.block b (Nat.lt_of_lt_of_le hlt hb.size) (fun hm => by have := hF b hm; omega)), World.cell?_of_block (w := w2) (hb.block b hlt)]
  exact h0
theorem FreshOwn.sl {w w' : World} {r : Value} {xs : List Int} (h : FreshOwn w w' r xs) : Sl w' 3 r (ints xs) := h.1.sl
set_option maxHeartbeats 400000 in
theorem copyInt_any (v : Value) (xs : List Int) (w : World) (hv : Sl w 3 v (ints xs)) (hl : xs.length ≤ 1000000000) :
    Calls Try.prog 91 #[v] w fun e w' => ∃ r, e = .returned r ∧ FreshOwn w w' r xs := by
  have hr := Lib.hid (RdV.of_sl (hv.below (w' := w.alloc (.cells #[] 3)) ((Below.refl _ _).alloc (Nat.le_refl _) _) hv.lt))
  have ho := Lib.hid (Own.empty w 3)
  clear hv
  go_enter Try.func91, Try.ntmps91
  go_wp2_with (at_builtin; refine wpList_append_all eltInt rfl _ _ rfl w.heap.size _ _ rfl ho.out _ _ rfl hr.out (ints_one _) (by simp; omega) (by simp) ?_)
  intro v' w1 ho1 hg
  have hb := Lib.hid (Below.appended ((Below.refl w.heap.size w).alloc (Nat.le_refl _) (.cells #[] 3)) ho.out hg (by simp))
  replace ho1 := Lib.hid ho1
  clear hg
  go_wp2
  go_ret
  exact ⟨_, rfl, ho1.out, hb.out⟩
set_option maxHeartbeats 400000 in
theorem l1Own_any (v : Value) (xs : List Int) (w : World) (hv : Sl w 3 v (ints xs)) (hl : xs.length ≤ 1000000000) :
    Calls Try.prog 92 #[v] w fun e w' => ∃ r, e = .returned r ∧ FreshOwn w w' r xs := by
  have hr := Lib.hid (RdV.of_sl (hv.below (w' := w.alloc (.cells #[] 3)) ((Below.refl _ _).alloc (Nat.le_refl _) _) hv.lt))
  have ho := Lib.hid (Own.empty w 3)
  clear hv
  go_enter Try.func92, Try.ntmps92
  go_wp2_with (at_builtin; refine wpList_append_all eltInt rfl _ _ rfl w.heap.size _ _ rfl ho.out _ _ rfl hr.out (ints_one _) (by simp; omega) (by simp) ?_)
  intro v' w1 ho1 hg
  have hb := Lib.hid (Below.appended ((Below.refl w.heap.size w).alloc (Nat.le_refl _) (.cells #[] 3)) ho.out hg (by simp))
  replace ho1 := Lib.hid ho1
  clear hg
  go_wp2
  go_ret
  exact ⟨_, rfl, ho1.out, hb.out⟩
end Go.Proofs.Ytdhcpoeopooejaa
