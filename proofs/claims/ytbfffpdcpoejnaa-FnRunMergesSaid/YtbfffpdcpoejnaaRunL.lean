/- RunMerges, spec: the whole. -/
import Derived.Test.YtbfffpdcpoejnaaRunK
import Derived.Test.YtbfffpdcpoejnaaRunJ
namespace Go.Proofs.Ytbfffpdcpoejnaa
open Go.RowKit
set_option linter.unusedVariables false
set_option linter.unusedSimpArgs false

set_option maxHeartbeats 4000000 in
theorem spec_RunMerges_law {v : Value} {x : List Int} {F : List Nat} {w : World} (r : RIntS w v x F) :
    Calls Try.prog 51 #[v] w fun e w' => ∃ r F, e = .returned (.tuple #[r, .int .i64 (rmR x).2.1, .bool (rmR x).2.2]) ∧ RIntS w' r (rmR x).1 F ∧ Fr w.heap.size F ∧ Below w.heap.size w w' ∧ (rmR x).1.length ≤ 100000000000 := by
  have hv := Lib.hid (Sl.rd r.1)
  have hlen := Lib.hid (rmR_len x)
  clear r
  obtain ⟨R, hR⟩ : ∃ R, rmR x = R := ⟨_, rfl⟩
  rw [hR] at hlen ⊢
  have hfe := Lib.hid (Fresh.empty (Below.refl w.heap.size w))
  obtain ⟨a0, c0, rfl, q1, q2, HA⟩ := id hv.out
  unfold maxLen at q2
  have hno := fun h => (hR.symm.trans (rmR_no (cs := x) h))
  have hyes := fun h1 h2 => (hR.symm.trans (rmR_yes (cs := x) h1 h2).1)
  have hyes2 := fun h1 h2 => (rmR_yes (cs := x) h1 h2).2
  generalize hn : x.length = n at *
  replace hn := Lib.hid hn
  replace HA := Lib.hid HA
  replace hR := Lib.hid hR
  replace hno := Lib.hid hno
  replace hyes := Lib.hid hyes
  replace hyes2 := Lib.hid hyes2
  go_enter Try.func51, Try.ntmps51
  go_wp2
  go_loop [5] (fun i => ∃ k : Nat, k ≤ n ∧ i = .int .i64 k ∧ ∀ j, j < k → cntB (gi x j) = true) (fun i => n - (intOf i).toNat)
  case atStart => exact ⟨0, Nat.zero_le _, rfl, fun j hj => absurd hj (by omega)⟩
  case round =>
    obtain ⟨k, hk, rfl, hq⟩ := hrel
    replace hq := Lib.hid hq
    by_cases hlt : k < n
    · obtain ⟨b, off, rfl, hRd⟩ := HA.out (by omega)
      have hc1 := hRd k hlt
      clear hRd
      generalize hx : gi x k = c at *
      replace hx := Lib.hid hx
      cases hb : inB c 1 100000
      · have he : Hid (R = ([], 0, false)) := Lib.hid (hno.out (fun h => by
          have h2 := h.2
          rw [List.all_eq_true] at h2
          have h3 := h2 (x[k]'(by rw [hn.out]; exact hlt)) (List.getElem_mem _)
          rw [← gi_eq, hx.out] at h3
          unfold cntB at h3
          rw [hb] at h3
          cases h3))
        go_wp2_with (go_at_call 80; refine (l1In_any _ _ _ _).mono ?_; rintro e w' ⟨rfl, rfl⟩)
        go_ret3
        rw [he.out] at hlen ⊢
        exact ⟨_, _, rfl, hfe.out.law.1, hfe.out.law.2.1, hfe.out.law.2.2, hlen.out⟩
      · go_wp2_with (go_at_call 80; refine (l1In_any _ _ _ _).mono ?_; rintro e w' ⟨rfl, rfl⟩)
        go_round
        case rel =>
          refine ⟨k + 1, by omega, by go_num, fun j hj => ?_⟩
          by_cases hjk : j = k
          · subst hjk; rw [hx.out]; exact hb
          · exact hq.out j (by omega)
        case measure => simp [intOf]; omega
    · obtain rfl : k = n := by omega
      have hall : Hid (x.all cntB = true) := Lib.hid (by
        rw [List.all_eq_true]
        intro c hc
        obtain ⟨j, hj, rfl⟩ := List.getElem_of_mem hc
        rw [← gi_eq hj]
        exact hq.out j (by rw [hn.out] at hj; exact hj))
      by_cases h40 : k ≤ 40
      · have hlt2 : ¬ (40 : Int) < (k : Int) := by omega
        have he := Lib.hid (hyes.out h40 hall.out)
        have h3 := Lib.hid (hyes2.out h40 hall.out)
        replace h40 := Lib.hid h40
        go_wp2_with fail
        refine (l5Plan_any _ _ _ hv.out (by rw [hn.out]; exact h40.out) h3.out).mono ?_
        rintro e w2 ⟨o, rfl, ho, hb2⟩
        have hf := (Fresh.of_own ho hb2).law
        have f1 := Lib.hid hf.1
        have f2 := Lib.hid hf.2.1
        have f3 := Lib.hid hf.2.2
        clear hf ho hb2
        go_wp2
        go_ret3
        rw [he.out] at hlen ⊢
        exact ⟨_, _, rfl, f1.out, f2.out, f3.out, hlen.out⟩
      · have hlt2 : (40 : Int) < (k : Int) := by omega
        have he : Hid (R = ([], 0, false)) := Lib.hid (hno.out (fun h => h40 h.1))
        go_wp2
        go_ret3
        rw [he.out] at hlen ⊢
        first
        | exact ⟨_, _, rfl, hfe.out.law.1, hfe.out.law.2.1, hfe.out.law.2.2, hlen.out⟩
        | exact ⟨_, rfl, _, hfe.out.law.1, hfe.out.law.2.1, hfe.out.law.2.2, hlen.out⟩
        | exact ⟨_, rfl, _, hfe.out.law.1, hfe.out.law.2.1, hfe.out.law.2.2⟩

end Go.Proofs.Ytbfffpdcpoejnaa
