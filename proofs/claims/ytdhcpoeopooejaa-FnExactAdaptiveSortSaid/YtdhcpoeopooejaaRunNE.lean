/- RunMerges: spec.l5Next, a case. -/
import Derived.Test.YtdhcpoeopooejaaRunM
namespace Go.Proofs.Ytdhcpoeopooejaa
open Go.RowKit
set_option linter.unusedVariables false
set_option linter.unusedSimpArgs false


set_option maxRecDepth 10000 in
set_option maxHeartbeats 4000000 in
theorem l5Next_e (v : Value) (st : List Int) (w : World) (hv : Rd w v st) (hl : st.length ≤ 1000) (hg : ∀ i, i < st.length → 0 ≤ gi st i ∧ gi st i ≤ 100000000) (hn3 : 3 ≤ st.length) (hn4 : ¬ 4 ≤ st.length) (hA : ¬ fromT st 3 ≤ fromT st 1 + fromT st 2) :
    Calls Try.prog 74 #[v, .bool false] w fun e2 w' => e2 = .returned (.int .i64 (nextF st false)) ∧ ∃ q, w' = w.drewN q := by
  obtain ⟨ao, c, rfl, h1, h2, HA⟩ := hv
  unfold maxLen at h2
  have h3 : st.length = 3 := by omega
  obtain ⟨b, off, rfl, hR⟩ := HA (by omega)
  have c1 := hR 2 (by omega)
  have c2 := hR 1 (by omega)
  have c3 := hR 0 (by omega)
  have g1 := hg 2 (by omega)
  have g2 := hg 1 (by omega)
  have g3 := hg 0 (by omega)
  have f1 : fromT st 1 = gi st 2 := by unfold fromT; rw [h3]
  have f2 : fromT st 2 = gi st 1 := by unfold fromT; rw [h3]
  have f3 : fromT st 3 = gi st 0 := by unfold fromT; rw [h3]
  rw [f1, f2, f3] at hA
  have hv0 : nextF st false = if fromT st 2 ≤ fromT st 1 then (1 : Int) else -1 := by
    unfold nextF
    rw [if_neg (by omega), if_neg (by simp), if_neg (by rw [f1, f2, f3]; omega), h3]
    rfl
  rw [f1, f2] at hv0
  rw [Nat.add_zero] at c3
  rw [h3] at h1 ⊢
  generalize gi st 2 = x at *
  generalize gi st 1 = y at *
  generalize gi st 0 = u at *
  have wxy : IntKind.i64.wrap (x + y) = x + y := IntWalk.i64_in _ (by omega)
  have wz0 : IntKind.i64.wrap 0 = 0 := by decide
  have hA2 : decide (u ≤ x + y) = false := by simp; omega
  clear hA
  replace hv0 := Lib.hid hv0
  clear hR HA hg f1 f2 f3 h3 hn3 hn4 hl
  by_cases ht : y ≤ x
  · have hval : Hid (nextF st false = 1) := Lib.hid (by rw [hv0.out, if_pos ht])
    go_enter Try.func74, Try.ntmps74
    go_wp2
    go_quiet (fail)
    go_wp2
    go_quiet (fail)
    go_wp2
    go_ret
    exact ⟨ret_int (by rw [hval.out]), by first | exact ⟨_, rfl⟩ | exact ⟨_, World.drewN_drewN ..⟩⟩
  · have hval : Hid (nextF st false = -1) := Lib.hid (by rw [hv0.out, if_neg ht])
    go_enter Try.func74, Try.ntmps74
    go_wp2
    go_quiet (fail)
    go_wp2
    go_quiet (fail)
    go_wp2
    go_ret
    exact ⟨ret_int (by rw [hval.out]), by first | exact ⟨_, rfl⟩ | exact ⟨_, World.drewN_drewN ..⟩⟩
end Go.Proofs.Ytdhcpoeopooejaa
