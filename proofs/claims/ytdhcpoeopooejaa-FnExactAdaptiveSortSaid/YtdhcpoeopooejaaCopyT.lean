/- impl.copyOf at records. -/
import Derived.Test.YtdhcpoeopooejaaRecOwn
namespace Go.Proofs.Ytdhcpoeopooejaa
open Go.RowKit
set_option linter.unusedVariables false
set_option linter.unusedSimpArgs false

set_option maxHeartbeats 400000 in
theorem copyRecT_any (v : Value) (xs : List (Int × Int)) (w : World) (hv : RdP w v xs) (hl : xs.length ≤ 1000000000) :
    Calls Try.prog 77 #[v] w fun e w' => ∃ r, e = .returned r ∧ OwnQ 72 w' w.heap.size r xs ∧ Below w.heap.size w w' := by
  have hr := Lib.hid (hv.below (w' := w.alloc (.cells #[] 72)) ((Below.refl _ _).alloc (Nat.le_refl _) _))
  have ho := Lib.hid (OwnQ.empty 72 w)
  clear hv
  go_enter Try.func77, Try.ntmps77
  go_wp2_with (at_builtin; refine append_recs eltRec rfl _ _ rfl w.heap.size _ _ rfl ho.out _ _ rfl hr.out (by simp; omega) (by simp) ?_)
  intro v' w1 ho1 hg
  have hb := Lib.hid (Below.appendedQ ((Below.refl w.heap.size w).alloc (Nat.le_refl _) (.cells #[] 72)) ho.out hg (by simp))
  replace ho1 := Lib.hid ho1
  clear hg
  go_wp2
  go_ret
  exact ⟨_, rfl, by have := ho1.out; simpa using this, hb.out⟩
theorem OwnQ.open {e : TypeId} {w : World} {B : Nat} {v : Value} {xs : List (Int × Int)} (h : OwnQ e w B v xs) (hx : xs.length ≤ 1000000000) (hp : 0 < xs.length) : ∃ g c, v = .slice (some ⟨g, 0, none⟩) xs.length c ∧ B ≤ g ∧ SlQ e w (.slice (some ⟨g, 0, none⟩) xs.length c) xs := by
  have hs := h.sl hx
  have hl := h.lt
  obtain ⟨hl', hh⟩ := h
  rcases hh with ⟨rfl, hn⟩ | ⟨g, cap, cur, rfl, hB, hg, hn, hm, hs2, ht⟩
  · omega
  · exact ⟨g, cap, rfl, hB, hs⟩
end Go.Proofs.Ytdhcpoeopooejaa
