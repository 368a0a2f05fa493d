/- RunMerges: spec.l5Next, a case. -/
import Derived.Test.YtdhcpoeopooejaaRunM
namespace Go.Proofs.Ytdhcpoeopooejaa
open Go.RowKit
set_option linter.unusedVariables false
set_option linter.unusedSimpArgs false


set_option maxRecDepth 10000 in
set_option maxHeartbeats 4000000 in
theorem l5Next_a (v : Value) (st : List Int) (e : Bool) (w : World) (hv : Rd w v st) (hl : st.length ≤ 1000) (hg : ∀ i, i < st.length → 0 ≤ gi st i ∧ gi st i ≤ 100000000) (hn3 : ¬ 3 ≤ st.length) :
    Calls Try.prog 74 #[v, .bool e] w fun e2 w' => e2 = .returned (.int .i64 (nextF st e)) ∧ ∃ q, w' = w.drewN q := by
  obtain ⟨ao, c, rfl, h1, h2, HA⟩ := hv
  unfold maxLen at h2
  generalize hn : st.length = n at *
  replace hn := Lib.hid hn
  by_cases hn2 : n < 2
  · have hval : Hid (nextF st e = -1) := Lib.hid (by unfold nextF; rw [hn.out, if_pos hn2])
    have hz : (n : Int) < 2 := by omega
    clear HA hg
    go_enter Try.func74, Try.ntmps74
    go_wp2
    go_ret
    exact ⟨ret_int (by rw [hval.out]), 0, rfl⟩
  obtain ⟨p1, hp1⟩ : ∃ p, p = n - 1 := ⟨_, rfl⟩
  obtain ⟨p2, hp2⟩ : ∃ p, p = n - 2 := ⟨_, rfl⟩
  obtain ⟨b, off, rfl, hR⟩ := HA (by omega)
  have c1 := hR p1 (by omega)
  have c2 := hR p2 (by omega)
  have g1 := hg p1 (by omega)
  have g2 := hg p2 (by omega)
  have i1 : (n : Int) - 1 = (p1 : Int) := by omega
  have i2 : (n : Int) - 2 = (p2 : Int) := by omega
  have j1 : (p1 : Int) < (n : Int) := by omega
  have j2 : (p2 : Int) < (n : Int) := by omega
  have k1 : (0 : Int) ≤ (p1 : Int) := by omega
  have w1 : IntKind.i64.wrap (p1 : Int) = (p1 : Int) := IntWalk.i64_in _ (by omega)
  have k2 : (0 : Int) ≤ (p2 : Int) := by omega
  have w2 : IntKind.i64.wrap (p2 : Int) = (p2 : Int) := IntWalk.i64_in _ (by omega)
  have hz : ¬ (n : Int) < 2 := by omega
  have hf1 : Hid (fromT st 1 = gi st p1) := Lib.hid (by unfold fromT; rw [hn.out, ← hp1])
  have hf2 : Hid (fromT st 2 = gi st p2) := Lib.hid (by unfold fromT; rw [hn.out, ← hp2])
  generalize hx : gi st p1 = x at *
  generalize hy : gi st p2 = y at *
  have wxy : IntKind.i64.wrap (x + y) = x + y := IntWalk.i64_in _ (by omega)
  replace hx := Lib.hid hx
  replace hy := Lib.hid hy
  replace hp1 := Lib.hid hp1
  replace hp2 := Lib.hid hp2
  replace hg := Lib.hid hg
  have hv0 : Hid (∀ e, nextF st e = if e = true then (if 3 ≤ n ∧ fromT st 3 < x then (n : Int) - 3 else (n : Int) - 2) else if (3 ≤ n ∧ fromT st 3 ≤ x + y) ∨ (4 ≤ n ∧ fromT st 4 ≤ fromT st 3 + y) then (if fromT st 3 < x then (n : Int) - 3 else (n : Int) - 2) else if y ≤ x then (n : Int) - 2 else -1) := Lib.hid (fun e => by
    unfold nextF
    rw [hn.out, if_neg hn2, hf1.out, hf2.out])
  have hn3 : ¬ 3 ≤ n := hn3
  have hz3 : ¬ (3 : Int) ≤ (n : Int) := by omega
  have hz3b : decide ((3 : Int) ≤ (n : Int)) = false := by simp; omega
  have hz4b : decide ((4 : Int) ≤ (n : Int)) = false := by simp; omega
  cases e
  · by_cases ht : y ≤ x
    · have hval : Hid (nextF st false = (p2 : Int)) := Lib.hid (by rw [hv0.out, if_neg (by simp), if_neg (by omega), if_pos ht, i2])
      clear hR
      go_enter Try.func74, Try.ntmps74
      go_wp2
      go_quiet (fail)
      go_wp2
      go_quiet (fail)
      go_wp2
      go_ret
      exact ⟨ret_int (by rw [hval.out]), by first | exact ⟨_, rfl⟩ | exact ⟨_, World.drewN_drewN ..⟩⟩
    · have hval : Hid (nextF st false = -1) := Lib.hid (by rw [hv0.out, if_neg (by simp), if_neg (by omega), if_neg ht])
      clear hR
      go_enter Try.func74, Try.ntmps74
      go_wp2
      go_quiet (fail)
      go_wp2
      go_quiet (fail)
      go_wp2
      go_ret
      exact ⟨ret_int (by rw [hval.out]), by first | exact ⟨_, rfl⟩ | exact ⟨_, World.drewN_drewN ..⟩⟩
  · have hval : Hid (nextF st true = (p2 : Int)) := Lib.hid (by rw [hv0.out, if_pos rfl, if_neg (fun h => hn3 h.1), i2])
    clear hR
    go_enter Try.func74, Try.ntmps74
    go_wp2
    go_quiet (fail)
    go_wp2
    go_ret
    exact ⟨ret_int (by rw [hval.out]), by first | exact ⟨_, rfl⟩ | exact ⟨_, World.drewN_drewN ..⟩⟩

end Go.Proofs.Ytdhcpoeopooejaa
