/- RunMerges, impl: runMerges. -/
import Derived.Test.YtdhcpoeopooejaaRunF
import Derived.Test.YtdhcpoeopooejaaRunG
import Derived.Test.YtdhcpoeopooejaaRunH
namespace Go.Proofs.Ytdhcpoeopooejaa
open Go.RowKit
set_option linter.unusedVariables false
set_option linter.unusedSimpArgs false

set_option maxRecDepth 10000 in
set_option maxHeartbeats 8000000 in
theorem runMerges_any (w : World) (v : Value) (cs : List Int) (hv : Rd w v cs) (hl : cs.length ≤ 40) (hc : ∀ c ∈ cs, 1 ≤ c ∧ c ≤ 100000) :
    Calls Try.prog 83 #[v] w fun e w' => ∃ mv, e = .returned (.tuple #[mv, .int .i64 ((rmF cs).2 : Nat)]) ∧ Own w' 3 w.heap.size mv (ints (rmF cs).1) ∧ Below w.heap.size w w' := by
  have hP := planK_facts hc
  generalize hR0 : rmF cs = R at *
  replace hR0 := Lib.hid hR0
  replace hP := Lib.hid hP
  replace hc := Lib.hid hc
  have hv0 := hv
  obtain ⟨a0, c0, rfl, q1, q2, _⟩ := hv
  replace hv0 := Lib.hid hv0
  have hI := Lib.hid (RS.init w)
  generalize hn : cs.length = n at *
  replace hn := Lib.hid hn
  go_enter Try.func83, Try.ntmps83
  go_wp2
  go_loopg [13] n (fun g s13 wq => ∃ (k : Nat) (sv mv : Value), s13 = .int .i64 k ∧ k + g = n ∧ RS w (w.heap.size + 1) sv mv (planK cs k).1 (planK cs k).2.1 ((planK cs k).2.2 : Nat) wq)
  case atStart => exact ⟨0, _, _, rfl, by omega, hI.out⟩
  case round =>
    obtain ⟨k, sv, mv, rfl, hk, hS⟩ := hrel
    clear hI
    by_cases hlt : k < n
    · obtain ⟨g, rfl⟩ : ∃ z, gk = z + 1 := ⟨gk - 1, by omega⟩
      obtain ⟨a9, c9, he, z1, z2, HA⟩ := hv0.out.below hS.bel
      simp only [Value.slice.injEq] at he
      obtain ⟨rfl, z3, rfl⟩ := he
      obtain ⟨b, off, rfl, hR⟩ := HA (by rw [hn.out]; omega)
      have hc1 := hR k (by rw [hn.out]; exact hlt)
      clear hR HA z1 z2 z3
      have hcg : 1 ≤ gi cs k ∧ gi cs k ≤ 100000 := by rw [gi_eq (by rw [hn.out]; omega)]; exact hc.out _ (List.getElem_mem _)
      obtain ⟨p1, p2, p3⟩ := hP.out k (by omega)
      have hg0 := p1.push (x := gi cs k) (y := 100000) (by omega) hcg.2
      have hg1 : Gd 100000000 ((planK cs k).1 ++ [gi cs k]) := ⟨hg0.pos, Int.le_trans hg0.sum (by omega)⟩
      clear hg0
      have hfu := settle_fuel false ((planK cs k).1.length + 1) (k + 1) ((planK cs k).1 ++ [gi cs k]) (planK cs k).2.1 (by simp) (by simp; omega)
      have hN : planK cs (k + 1) = ((settle false (k + 1) ((planK cs k).1 ++ [gi cs k]) (planK cs k).2.1).1, (settle false (k + 1) ((planK cs k).1 ++ [gi cs k]) (planK cs k).2.1).2, max (planK cs k).2.2 ((planK cs k).1.length + 1)) := rfl
      rw [← hfu] at hN
      generalize hx : gi cs k = x at *
      replace hN := Lib.hid hN
      replace hg1 := Lib.hid hg1
      replace hS := Lib.hid hS
      replace hx := Lib.hid hx
      clear hfu p1
      have p2 := Lib.hid p2
      have p3 := Lib.hid p3
      go_wp2_with fail
      refine (push_any w (w.heap.size + 1) ((planK cs k).1.length + 1) _ _ _ _ (planK cs k).2.2 x _ hS.out (by rw [p2.out]; omega) (by have := p3.out; omega) hg1.out rfl).mono ?_
      rintro e w9 ⟨rfl, sv9, mv9, hS9⟩
      replace hS9 := Lib.hid hS9
      clear hS
      go_wp2
      go_roundg g
      case measure => omega
      case rel => exact ⟨k + 1, sv9, mv9, by go_num, by omega, by rw [hN.out]; exact hS9.out⟩
    · obtain rfl : k = n := by omega
      obtain ⟨p1, p2, p3⟩ := hP.out k (Nat.le_refl _)
      have hR1 : R = ((settle true k (planK cs k).1 (planK cs k).2.1).2, (planK cs k).2.2) := by rw [← hR0.out, rmF, hn.out]
      generalize hst0 : settle true k (planK cs k).1 (planK cs k).2.1 = R2 at *
      have hg0 : Gd 100000000 (planK cs k).1 := ⟨p1.pos, Int.le_trans p1.sum (by omega)⟩
      obtain ⟨M, hM⟩ : ∃ M : Int, M = ((planK cs k).2.2 : Nat) := ⟨_, rfl⟩
      rw [← hM] at hS
      replace hst0 := Lib.hid hst0
      replace hM := Lib.hid hM
      replace hg0 := Lib.hid hg0
      replace hR1 := Lib.hid hR1
      replace hS := Lib.hid hS
      have p2 := Lib.hid p2
      clear p1 p3
      go_wp2
      go_loopg [] k (fun g wq => ∃ (sv mv : Value) (st' mg' : List Int), RS w (w.heap.size + 1) sv mv st' mg' M wq ∧ Hid (settle true g st' mg' = R2) ∧ st'.length ≤ g ∧ st'.length + mg'.length ≤ 100 ∧ Hid (Gd 100000000 st'))
      case atStart => exact ⟨_, _, _, _, hS.out, hst0, by have := p2.out; omega, by have := p2.out; omega, hg0⟩
      case round =>
        clear hS
        obtain ⟨sv, mv, st', mg', hS, hR, b1, b3, hGd⟩ := hrel
        obtain ⟨a8, c8, rfl, q1, q2, q3, _⟩ := hS.so.sl.openInts
        obtain ⟨d0, d1, d2, dz⟩ := hS.cells
        have dz1 := dz 1
        have dz2 := dz 2
        generalize hm : st'.length = m at *
        replace hm := Lib.hid hm
        replace hS := Lib.hid hS
        clear q1 q2 q3 dz
        by_cases hn2 : 2 ≤ m
        · obtain ⟨g, rfl⟩ : ∃ z, gk = z + 1 := ⟨gk - 1, by omega⟩
          obtain ⟨p2, hp2⟩ : ∃ p, p + 2 = m := ⟨m - 2, by omega⟩
          have i2 : (m : Int) - 2 = (p2 : Int) := by omega
          obtain ⟨z1, hz1⟩ : ∃ z, fromT st' 1 = z := ⟨_, rfl⟩
          obtain ⟨z3, hz3⟩ : ∃ z, fromT st' 3 = z := ⟨_, rfl⟩
          replace hz1 := Lib.hid hz1
          replace hz3 := Lib.hid hz3
          replace hp2 := Lib.hid hp2
          have k2 : (2 : Int) ≤ (m : Int) := by omega
          by_cases hn3 : 3 ≤ m
          · obtain ⟨p3, hp3⟩ : ∃ p, p + 3 = m := ⟨m - 3, by omega⟩
            have i3 : (m : Int) - 3 = (p3 : Int) := by omega
            replace hp3 := Lib.hid hp3
            have k3 : (3 : Int) ≤ (m : Int) := by omega
            by_cases ht : z3 < z1
            · have hnx : Hid (nextF st' true = (p3 : Int)) := Lib.hid (by rw [nextF_end hm.out hn2 hz1.out hz3.out, if_pos ⟨hn3, ht⟩, i3])
              go_wp2_with fail
              refine (hS.out.from_ 3 _ rfl (by omega) (by rw [hm.out]; omega) (by rw [hm.out]; omega)).mono ?_
              rintro e w3 ⟨rfl, hS'⟩
              rw [hz3.out]
              replace hS := Lib.hid hS'
              clear hS'
              go_wp2_with fail
              refine (hS.out.from_ 1 _ rfl (by omega) (by rw [hm.out]; omega) (by rw [hm.out]; omega)).mono ?_
              rintro e w1 ⟨rfl, hS'⟩
              rw [hz1.out]
              replace hS := Lib.hid hS'
              clear hS'
              go_wp2_with fail
              refine (mergeAt_any w (w.heap.size + 1) p3 _ (by first | rfl | omega) _ _ st' mg' M _ hS.out (by rw [hm.out]; omega) (by rw [hm.out]; omega) (by omega) hGd.out).mono ?_
              rintro e w9 ⟨rfl, sv9, mv9, hS9⟩
              replace hS9 := Lib.hid hS9
              have hst := settle_next (e := true) (m := g) (st := st') (out := mg') (by rw [hnx.out]; omega)
              rw [hnx.out, Int.toNat_natCast, hR.out] at hst
              have hml := mgAt_length (st := st') (k := p3) (by rw [hm.out]; omega)
              have hg9 := hGd.out.mg (k := p3) (by rw [hm.out]; omega)
              have hln := hm.out
              replace hst := Lib.hid hst
              replace hg9 := Lib.hid hg9
              clear hS
              go_wp2
              go_roundg g
              case measure => omega
              case rel => exact ⟨_, _, _, _, hS9.out, Lib.hid hst.out.symm, by omega, by simp; omega, hg9⟩
            · have hnx : Hid (nextF st' true = (p2 : Int)) := Lib.hid (by rw [nextF_end hm.out hn2 hz1.out hz3.out, if_neg (by omega), i2])
              go_wp2_with fail
              refine (hS.out.from_ 3 _ rfl (by omega) (by rw [hm.out]; omega) (by rw [hm.out]; omega)).mono ?_
              rintro e w3 ⟨rfl, hS'⟩
              rw [hz3.out]
              replace hS := Lib.hid hS'
              clear hS'
              go_wp2_with fail
              refine (hS.out.from_ 1 _ rfl (by omega) (by rw [hm.out]; omega) (by rw [hm.out]; omega)).mono ?_
              rintro e w1 ⟨rfl, hS'⟩
              rw [hz1.out]
              replace hS := Lib.hid hS'
              clear hS'
              go_wp2_with fail
              refine (mergeAt_any w (w.heap.size + 1) p2 _ (by first | rfl | omega) _ _ st' mg' M _ hS.out (by rw [hm.out]; omega) (by rw [hm.out]; omega) (by omega) hGd.out).mono ?_
              rintro e w9 ⟨rfl, sv9, mv9, hS9⟩
              replace hS9 := Lib.hid hS9
              have hst := settle_next (e := true) (m := g) (st := st') (out := mg') (by rw [hnx.out]; omega)
              rw [hnx.out, Int.toNat_natCast, hR.out] at hst
              have hml := mgAt_length (st := st') (k := p2) (by rw [hm.out]; omega)
              have hg9 := hGd.out.mg (k := p2) (by rw [hm.out]; omega)
              have hln := hm.out
              replace hst := Lib.hid hst
              replace hg9 := Lib.hid hg9
              clear hS
              go_wp2
              go_roundg g
              case measure => omega
              case rel => exact ⟨_, _, _, _, hS9.out, Lib.hid hst.out.symm, by omega, by simp; omega, hg9⟩
          · have k3 : ¬ (3 : Int) ≤ (m : Int) := by omega
            have hnx : Hid (nextF st' true = (p2 : Int)) := Lib.hid (by rw [nextF_end hm.out hn2 hz1.out hz3.out, if_neg (by omega), i2])
            go_wp2_with fail
            refine (mergeAt_any w (w.heap.size + 1) p2 _ (by first | rfl | omega) _ _ st' mg' M _ hS.out (by rw [hm.out]; omega) (by rw [hm.out]; omega) (by omega) hGd.out).mono ?_
            rintro e w9 ⟨rfl, sv9, mv9, hS9⟩
            replace hS9 := Lib.hid hS9
            have hst := settle_next (e := true) (m := g) (st := st') (out := mg') (by rw [hnx.out]; omega)
            rw [hnx.out, Int.toNat_natCast, hR.out] at hst
            have hml := mgAt_length (st := st') (k := p2) (by rw [hm.out]; omega)
            have hg9 := hGd.out.mg (k := p2) (by rw [hm.out]; omega)
            have hln := hm.out
            replace hst := Lib.hid hst
            replace hg9 := Lib.hid hg9
            clear hS
            go_wp2
            go_roundg g
            case measure => omega
            case rel => exact ⟨_, _, _, _, hS9.out, Lib.hid hst.out.symm, by omega, by simp; omega, hg9⟩
        · have k2 : ¬ (2 : Int) ≤ (m : Int) := by omega
          have hst := settle_stop (e := true) (m := gk) (st := st') (out := mg') (nextF_small (by rw [hm.out]; omega))
          rw [hR.out] at hst
          replace hst := Lib.hid hst
          go_wp2
          go_quiet (fail)
          go_wp2
          go_ret2
          refine ⟨mv, by rw [hR1.out]; show _ = Ending.returned (Value.tuple #[mv, .int .i64 ((planK cs k).2.2 : Nat)]); rw [← hM.out]; rfl, ?_⟩
          exact ⟨by rw [hR1.out, hst.out]; exact hS.out.mo.drewN _, Below.drewN hS.out.bel _⟩

end Go.Proofs.Ytdhcpoeopooejaa
