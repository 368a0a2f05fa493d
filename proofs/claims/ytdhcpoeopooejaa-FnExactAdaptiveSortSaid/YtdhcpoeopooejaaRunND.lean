/- RunMerges: spec.l5Next, a case. -/
import Derived.Test.YtdhcpoeopooejaaRunM
namespace Go.Proofs.Ytdhcpoeopooejaa
open Go.RowKit
set_option linter.unusedVariables false
set_option linter.unusedSimpArgs false


set_option maxRecDepth 10000 in
set_option maxHeartbeats 4000000 in
theorem l5Next_d (v : Value) (st : List Int) (w : World) (hv : Rd w v st) (hl : st.length ≤ 1000) (hg : ∀ i, i < st.length → 0 ≤ gi st i ∧ gi st i ≤ 100000000) (hn4 : 4 ≤ st.length) (hA : ¬ fromT st 3 ≤ fromT st 1 + fromT st 2) :
    Calls Try.prog 74 #[v, .bool false] w fun e2 w' => e2 = .returned (.int .i64 (nextF st false)) ∧ ∃ q, w' = w.drewN q := by
  obtain ⟨ao, c, rfl, h1, h2, HA⟩ := hv
  unfold maxLen at h2
  generalize hn : st.length = n at *
  replace hn := Lib.hid hn
  have hn2 : ¬ n < 2 := by omega
  obtain ⟨p1, hp1⟩ : ∃ p, p = n - 1 := ⟨_, rfl⟩
  obtain ⟨p2, hp2⟩ : ∃ p, p = n - 2 := ⟨_, rfl⟩
  obtain ⟨b, off, rfl, hR⟩ := HA (by omega)
  have c1 := hR p1 (by omega)
  have c2 := hR p2 (by omega)
  have g1 := hg p1 (by omega)
  have g2 := hg p2 (by omega)
  have i1 : (n : Int) - 1 = (p1 : Int) := by omega
  have i2 : (n : Int) - 2 = (p2 : Int) := by omega
  have j1 : (p1 : Int) < (n : Int) := by omega
  have j2 : (p2 : Int) < (n : Int) := by omega
  have k1 : (0 : Int) ≤ (p1 : Int) := by omega
  have w1 : IntKind.i64.wrap (p1 : Int) = (p1 : Int) := IntWalk.i64_in _ (by omega)
  have k2 : (0 : Int) ≤ (p2 : Int) := by omega
  have w2 : IntKind.i64.wrap (p2 : Int) = (p2 : Int) := IntWalk.i64_in _ (by omega)
  have hz : ¬ (n : Int) < 2 := by omega
  have hf1 : Hid (fromT st 1 = gi st p1) := Lib.hid (by unfold fromT; rw [hn.out, ← hp1])
  have hf2 : Hid (fromT st 2 = gi st p2) := Lib.hid (by unfold fromT; rw [hn.out, ← hp2])
  generalize hx : gi st p1 = x at *
  generalize hy : gi st p2 = y at *
  have wxy : IntKind.i64.wrap (x + y) = x + y := IntWalk.i64_in _ (by omega)
  replace hx := Lib.hid hx
  replace hy := Lib.hid hy
  replace hp1 := Lib.hid hp1
  replace hp2 := Lib.hid hp2
  replace hg := Lib.hid hg
  have hv0 : Hid (∀ e, nextF st e = if e = true then (if 3 ≤ n ∧ fromT st 3 < x then (n : Int) - 3 else (n : Int) - 2) else if (3 ≤ n ∧ fromT st 3 ≤ x + y) ∨ (4 ≤ n ∧ fromT st 4 ≤ fromT st 3 + y) then (if fromT st 3 < x then (n : Int) - 3 else (n : Int) - 2) else if y ≤ x then (n : Int) - 2 else -1) := Lib.hid (fun e => by
    unfold nextF
    rw [hn.out, if_neg hn2, hf1.out, hf2.out])
  have hn3 : 3 ≤ n := by omega
  obtain ⟨p3, hp3⟩ : ∃ p, p = n - 3 := ⟨_, rfl⟩
  have c3 := hR p3 (by omega)
  have g3 := hg.out p3 (by omega)
  have i3 : (n : Int) - 3 = (p3 : Int) := by omega
  have j3 : (p3 : Int) < (n : Int) := by omega
  have k3 : (0 : Int) ≤ (p3 : Int) := by omega
  have w3 : IntKind.i64.wrap (p3 : Int) = (p3 : Int) := IntWalk.i64_in _ (by omega)
  have hz3 : (3 : Int) ≤ (n : Int) := by omega
  have hf3 : Hid (fromT st 3 = gi st p3) := Lib.hid (by unfold fromT; rw [hn.out, ← hp3])
  generalize hu : gi st p3 = u at *
  have wuy : IntKind.i64.wrap (u + y) = u + y := IntWalk.i64_in _ (by omega)
  replace hu := Lib.hid hu
  replace hp3 := Lib.hid hp3
  rw [hf1.out, hf2.out, hf3.out] at hA
  obtain ⟨p4, hp4⟩ : ∃ p, p = n - 4 := ⟨_, rfl⟩
  have c4 := hR p4 (by omega)
  have g4 := hg.out p4 (by omega)
  have i4 : (n : Int) - 4 = (p4 : Int) := by omega
  have j4 : (p4 : Int) < (n : Int) := by omega
  have k4 : (0 : Int) ≤ (p4 : Int) := by omega
  have w4 : IntKind.i64.wrap (p4 : Int) = (p4 : Int) := IntWalk.i64_in _ (by omega)
  have hz4 : (4 : Int) ≤ (n : Int) := by omega
  have hf4 : Hid (fromT st 4 = gi st p4) := Lib.hid (by unfold fromT; rw [hn.out, ← hp4])
  generalize hu4 : gi st p4 = t at *
  replace hu4 := Lib.hid hu4
  replace hp4 := Lib.hid hp4
  clear hR
  by_cases hB : t ≤ u + y
  · by_cases ht : u < x
    · have hval : Hid (nextF st false = (p3 : Int)) := Lib.hid (by rw [hv0.out, hf3.out, hf4.out, if_neg (by simp), if_pos (.inr ⟨hn4, hB⟩), if_pos ht, i3])
      go_enter Try.func74, Try.ntmps74
      go_wp2
      go_quiet (fail)
      go_wp2
      go_quiet (fail)
      go_wp2
      go_ret
      exact ⟨ret_int (by rw [hval.out]), by first | exact ⟨_, rfl⟩ | exact ⟨_, World.drewN_drewN ..⟩⟩
    · have hval : Hid (nextF st false = (p2 : Int)) := Lib.hid (by rw [hv0.out, hf3.out, hf4.out, if_neg (by simp), if_pos (.inr ⟨hn4, hB⟩), if_neg ht, i2])
      go_enter Try.func74, Try.ntmps74
      go_wp2
      go_quiet (fail)
      go_wp2
      go_quiet (fail)
      go_wp2
      go_ret
      exact ⟨ret_int (by rw [hval.out]), by first | exact ⟨_, rfl⟩ | exact ⟨_, World.drewN_drewN ..⟩⟩
  · by_cases ht : y ≤ x
    · have hval : Hid (nextF st false = (p2 : Int)) := Lib.hid (by rw [hv0.out, hf3.out, hf4.out, if_neg (by simp), if_neg (by omega), if_pos ht, i2])
      go_enter Try.func74, Try.ntmps74
      go_wp2
      go_quiet (fail)
      go_wp2
      go_quiet (fail)
      go_wp2
      go_ret
      exact ⟨ret_int (by rw [hval.out]), by first | exact ⟨_, rfl⟩ | exact ⟨_, World.drewN_drewN ..⟩⟩
    · have hval : Hid (nextF st false = -1) := Lib.hid (by rw [hv0.out, hf3.out, hf4.out, if_neg (by simp), if_neg (by omega), if_neg ht])
      go_enter Try.func74, Try.ntmps74
      go_wp2
      go_quiet (fail)
      go_wp2
      go_quiet (fail)
      go_wp2
      go_ret
      exact ⟨ret_int (by rw [hval.out]), by first | exact ⟨_, rfl⟩ | exact ⟨_, World.drewN_drewN ..⟩⟩

end Go.Proofs.Ytdhcpoeopooejaa
