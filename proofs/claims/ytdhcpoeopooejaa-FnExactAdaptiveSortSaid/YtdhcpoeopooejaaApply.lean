/- A list at some indices: apply, ComposePermutations, ApplyPermutation. -/
import Derived.Test.YtdhcpoeopooejaaPermOk
namespace Go.Proofs.Ytdhcpoeopooejaa
open Go.RowKit
set_option linter.unusedVariables false
set_option linter.unusedSimpArgs false

/-- list at p. -/
def apF (p list : List Int) : List Int := p.map fun x => gi list x.toNat
theorem apF_snoc (p list : List Int) (k : Nat) (h : k < p.length) : apF (p.take (k + 1)) list = apF (p.take k) list ++ [gi list (gi p k).toNat] := by
  unfold apF; rw [List.take_succ_eq_append_getElem h, gi_eq h, List.map_append]; rfl
theorem apF_take_length (p list : List Int) (k : Nat) : (apF (p.take k) list).length ≤ k := by simp [apF]; omega
/-- All of p lies in 0 .. n - 1. -/
def inR (p : List Int) (n : Nat) : Prop := ∀ i, i < p.length → 0 ≤ gi p i ∧ gi p i < n
theorem inR_good {p : List Int} (h : goodP p = true) : inR p p.length := fun i hi => by
  have := permAt_iff.1 ((goodP_iff.1 h).2 i hi)
  omega
/-- A slice that a call made for itself: it reads as xs, in new memory. -/
def Fresh (w w' : World) (r : Value) (xs : List Int) : Prop := Sl w' 3 r (ints xs) ∧ (∀ k, r.ownBlock = some k → w.heap.size ≤ k) ∧ Below w.heap.size w w'
theorem Fresh.law {w w' : World} {r : Value} {xs : List Int} (h : Fresh w w' r xs) : RIntS w' r xs r.ownBlock.toList ∧ Fr w.heap.size r.ownBlock.toList ∧ Below w.heap.size w w' :=
  ⟨⟨h.1, rfl⟩, fun b hb => h.2.1 b (by simpa using hb), h.2.2⟩
theorem Fresh.of_own {w w' : World} {r : Value} {xs : List Int} (h : Own w' 3 w.heap.size r (ints xs)) (hb : Below w.heap.size w w') : Fresh w w' r xs :=
  ⟨h.sl, fun k hk => (h.lt k hk).1, hb⟩
theorem Fresh.nil {w w' : World} (hb : Below w.heap.size w w') : Fresh w w' (.slice none 0 0) [] := ⟨Sl.nil _ _, fun k hk => by simp [Value.ownBlock] at hk, hb⟩
theorem Fresh.empty {w w1 : World} (hb : Below w.heap.size w w1) : Fresh w (w1.alloc (.cells #[] 3)) (.slice (some ⟨w1.heap.size, 0, none⟩) 0 0) [] :=
  ⟨(Own.empty w1 _).sl, fun k hk => by simp [Value.ownBlock] at hk; have := hb.size; omega, hb.alloc hb.size _⟩
/-- Behind an append to a slice that the call owns. -/
theorem Below.appended {B : Nat} {a w w' : World} {v : Value} {e : Nat} {xs : List Value} (h : Below B a w) (ho : Own w e B v xs) (hg : w.grownBy w' v.ownBlock) (hB : B ≤ w.heap.size) : Below B a w' :=
  h.grown hg hB fun k hk => (ho.lt k hk).1

set_option maxHeartbeats 400000 in
theorem apply_any (v u : Value) (p list : List Int) (w : World) (hv : Rd w v p) (hu : Rd w u list) (hr : inR p list.length) (hl : p.length ≤ 1000) :
    Calls Try.prog 89 #[v, u] w fun e w' => ∃ r, e = .returned r ∧ Fresh w w' r (apF p list) := by
  obtain ⟨ao, c, rfl, h1, h2, HA⟩ := hv
  obtain ⟨bo, d, rfl, h3, h4, HB⟩ := hu
  unfold maxLen at h2 h4
  have hemp := Lib.hid (Own.empty w 3)
  generalize hn : p.length = n at *
  generalize hm : list.length = m at *
  replace HA := Lib.hid HA
  replace HB := Lib.hid HB
  replace hn := Lib.hid hn
  replace hm := Lib.hid hm
  replace hr := Lib.hid hr
  go_enter Try.func89, Try.ntmps89
  go_wp2
  go_loopw [5, 11] (fun out i wr => ∃ k : Nat, k ≤ n ∧ i = .int .i64 k ∧ Own wr 3 w.heap.size out (ints (apF (p.take k) list)) ∧ Below w.heap.size w wr) (fun _ i _ => n - (intOf i).toNat)
  case atStart => exact ⟨0, Nat.zero_le _, rfl, hemp.out, (Below.refl _ _).alloc (Nat.le_refl _) _⟩
  case round =>
    obtain ⟨k, hk, rfl, hown, hb⟩ := hrel
    by_cases hlt : k < n
    · obtain ⟨b, off, rfl, hR⟩ := HA.out (by omega)
      have hx0 := hr.out k (by rw [hn.out]; omega)
      have hc1 : wr.cell? ⟨b, off + k, none⟩ = some (.int .i64 (gi p k)) := by
        have h0 := hR k hlt
        rw [hb.cell (p := ⟨b, off + k, none⟩) (block_lt_of_cell h0)]
        exact h0
      clear hR
      have hsnoc := Lib.hid (apF_snoc p list k (by rw [hn.out]; omega))
      generalize hx : gi p k = x at *
      replace hx := Lib.hid hx
      obtain ⟨X, rfl⟩ := Int.eq_ofNat_of_zero_le hx0.1
      have hX : X < m := by omega
      obtain ⟨b2, off2, rfl, hR2⟩ := HB.out (by omega)
      have hc2 : wr.cell? ⟨b2, off2 + X, none⟩ = some (.int .i64 (gi list X)) := by
        have h0 := hR2 X hX
        rw [hb.cell (p := ⟨b2, off2 + X, none⟩) (block_lt_of_cell h0)]
        exact h0
      clear hR2
      have hsz := hb.size
      replace hb := Lib.hid hb
      replace hown := Lib.hid hown
      generalize hy : gi list X = y at *
      replace hy := Lib.hid hy
      have hln := apF_take_length p list k
      go_wp2_with (at_builtin; refine wpList_append_one eltInt rfl _ _ rfl w.heap.size _ _ rfl hown.out rfl rfl (by rw [ints_length]; omega) hsz ?_)
      intro v' w1 ho hg
      replace ho := Lib.hid ho
      replace hg := Lib.hid hg
      go_wp2
      go_roundw
      case rel =>
        refine ⟨k + 1, by omega, by go_num, ?_, Below.appended hb.out hown.out hg.out hsz⟩
        have := ho.out
        rw [hsnoc.out, Int.toNat_natCast, hy.out]
        simpa [ints] using this
      case measure => simp [intOf]; omega
    · obtain rfl : k = n := by omega
      replace hb := Lib.hid hb
      replace hown := Lib.hid hown
      go_wp2
      go_ret
      refine ⟨_, rfl, Fresh.of_own ?_ hb.out⟩
      have := hown.out
      rwa [List.take_of_length_le (by rw [hn.out]; omega)] at this
end Go.Proofs.Ytdhcpoeopooejaa
