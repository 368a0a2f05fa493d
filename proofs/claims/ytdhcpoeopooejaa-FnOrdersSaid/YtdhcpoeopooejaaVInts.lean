/- The property laws' helper vInts: do two slices of ints read alike. -/
import Derived.Test.YtdhcpoeopooejaaBase
namespace Go.Proofs.Ytdhcpoeopooejaa
open Go.RowKit
set_option linter.unusedVariables false
set_option linter.unusedSimpArgs false

private theorem eq_upto {xs ys : List Int} {n : Nat} (hx : xs.length = n) (hy : ys.length = n) (h : ∀ j, j < n → gi xs j = gi ys j) : xs = ys := by
  apply List.ext_getElem (by omega)
  intro i h1 h2
  have := h i (by omega)
  rw [gi_eq h1, gi_eq h2] at this
  exact this
private theorem ne_at {xs ys : List Int} {k : Nat} (h : ¬ gi xs k = gi ys k) : ¬ xs = ys := fun e => h (by rw [e])

set_option maxHeartbeats 400000 in
theorem vInts_any (v u : Value) (xs ys : List Int) (w : World) (hv : Sl w 3 v (ints xs)) (hu : Sl w 3 u (ints ys)) :
    Calls Try.prog 41 #[v, u] w fun e w' => e = .returned (.bool (decide (xs = ys))) ∧ ∃ q, w' = w.drewN q := by
  obtain ⟨ao, c, rfl, h1, _, _, HA⟩ := hv.openInts
  obtain ⟨bo, d, rfl, h2, _, _, HB⟩ := hu.openInts
  replace HA := Lib.hid HA
  replace HB := Lib.hid HB
  clear hv hu
  unfold maxLen at h1 h2
  by_cases hne : xs.length = ys.length
  · generalize hn : xs.length = n at *
    generalize hm : ys.length = m at *
    subst hne
    replace hn := Lib.hid hn
    replace hm := Lib.hid hm
    go_enter Try.func41, Try.ntmps41
    go_wp2
    go_loopw [5] (fun i wr => ∃ k q : Nat, k ≤ n ∧ i = .int .i64 k ∧ wr = w.drewN q ∧ ∀ j, j < k → gi xs j = gi ys j) (fun i _ => n - (intOf i).toNat)
    case atStart => exact ⟨0, 0, Nat.zero_le _, rfl, rfl, fun j hj => absurd hj (by omega)⟩
    case round =>
      obtain ⟨k, q, hk, rfl, rfl, heq⟩ := hrel
      replace heq := Lib.hid heq
      by_cases hlt : k < n
      · obtain ⟨b, off, rfl, hR⟩ := HA.out (by omega)
        obtain ⟨b2, off2, rfl, hR2⟩ := HB.out (by omega)
        have hc1 : w.cell? ⟨b, off + k, none⟩ = some (.int .i64 (gi xs k)) := hR.cellInt (by rw [hn.out]; omega)
        have hc2 : w.cell? ⟨b2, off2 + k, none⟩ = some (.int .i64 (gi ys k)) := hR2.cellInt (by rw [hm.out]; omega)
        clear hR hR2
        generalize hx : gi xs k = x at *
        generalize hy : gi ys k = y at *
        replace hx := Lib.hid hx
        replace hy := Lib.hid hy
        by_cases hxy : x = y
        · subst hxy
          go_wp2
          go_quiet (fail)
          go_wp2
          go_roundw
          case rel =>
            refine ⟨k + 1, _, by omega, by go_num, rfl, fun j hj => ?_⟩
            by_cases hjk : j = k
            · subst hjk; rw [hx.out, hy.out]
            · exact heq.out j (by omega)
          case measure => simp [intOf]; omega
        · go_wp2
          go_quiet (fail)
          go_wp2
          go_ret
          refine ⟨ret_bool ?_, _, World.drewN_drewN ..⟩
          exact (decide_eq_false (ne_at (k := k) (by rw [hx.out, hy.out]; exact hxy))).symm
      · go_wp2
        go_ret
        refine ⟨ret_bool ?_, _, rfl⟩
        obtain rfl : k = n := by omega
        exact (decide_eq_true (eq_upto hn.out hm.out heq.out)).symm
  · have hd : decide (xs = ys) = false := decide_eq_false (fun e => hne (by rw [e]))
    rw [hd]
    generalize hn : xs.length = n at *
    generalize hm : ys.length = m at *
    replace hn := Lib.hid hn
    replace hm := Lib.hid hm
    clear hd
    go_enter Try.func41, Try.ntmps41
    go_wp2
    all_goals go_ret
    all_goals exact ⟨rfl, 0, rfl⟩
end Go.Proofs.Ytdhcpoeopooejaa
