/- RunMerges, impl: the whole. -/
import Derived.Test.YtbfffpdcpoejnaaRunI
import Derived.Test.YtbfffpdcpoejnaaRunA
import Derived.Test.YtbfffpdcpoejnaaApply
namespace Go.Proofs.Ytbfffpdcpoejnaa
open Go.RowKit
set_option linter.unusedVariables false
set_option linter.unusedSimpArgs false

theorem rmR_no {cs : List Int} (h : ¬ (cs.length ≤ 40 ∧ cs.all cntB = true)) : rmR cs = ([], 0, false) := by
  have : ¬ okC cs = true := fun e => h (by
    obtain ⟨h1, h2⟩ := okC_iff.1 e
    exact ⟨h1, by simpa [cntB, inB] using h2⟩)
  rw [rmR, if_neg this]
theorem rmR_yes {cs : List Int} (h1 : cs.length ≤ 40) (h2 : cs.all cntB = true) : rmR cs = ((rmF cs).1, (rmF cs).2, true) ∧ ∀ c ∈ cs, 1 ≤ c ∧ c ≤ 100000 := by
  have h3 : ∀ c ∈ cs, 1 ≤ c ∧ c ≤ 100000 := by simpa [cntB, inB] using h2
  exact ⟨by rw [rmR, if_pos (okC_iff.2 ⟨h1, h3⟩)], h3⟩

set_option maxHeartbeats 4000000 in
theorem impl_RunMerges_law {v : Value} {x : List Int} {F : List Nat} {w : World} (r : RIntS w v x F) :
    Calls Try.prog 50 #[v] w fun e w' => ∃ r F, e = .returned (.tuple #[r, .int .i64 (rmR x).2.1, .bool (rmR x).2.2]) ∧ RIntS w' r (rmR x).1 F ∧ Fr w.heap.size F ∧ Below w.heap.size w w' ∧ (rmR x).1.length ≤ 100000000000 := by
  have hv := Lib.hid (Sl.rd r.1)
  have hlen := Lib.hid (rmR_len x)
  clear r
  by_cases h1 : x.length ≤ 40
  · cases h2 : x.all cntB
    · have e0 := rmR_no (cs := x) (by simp [h2])
      rw [e0] at hlen ⊢
      clear e0
      obtain ⟨a0, c0, rfl, q1, q2, _⟩ := id hv.out
      have hlt : ¬ (40 : Int) < (x.length : Int) := by omega
      go_enter Try.func50, Try.ntmps50
      go_wp2_with fail
      refine (allCnt_any _ _ _ hv.out).mono ?_
      rintro e w1 ⟨rfl, hb⟩
      rw [h2]
      replace hb := Lib.hid hb
      go_wp2
      go_ret3
      exact ⟨_, _, rfl, (Fresh.nil hb.out).law.1, (Fresh.nil hb.out).law.2.1, (Fresh.nil hb.out).law.2.2, hlen.out⟩
    · obtain ⟨e0, h3⟩ := rmR_yes h1 h2
      rw [e0] at hlen ⊢
      clear e0
      obtain ⟨a0, c0, rfl, q1, q2, _⟩ := id hv.out
      have hlt : ¬ (40 : Int) < (x.length : Int) := by omega
      go_enter Try.func50, Try.ntmps50
      go_wp2_with fail
      refine (allCnt_any _ _ _ hv.out).mono ?_
      rintro e w1 ⟨rfl, hb⟩
      rw [h2]
      replace hb := Lib.hid hb
      go_wp2_with fail
      refine (runMerges_any _ _ _ (hv.out.below hb.out) h1 h3).mono ?_
      rintro e w2 ⟨o, rfl, ho, hb2⟩
      have hf := (Fresh.of_own ho hb2).law
      have f1 := Lib.hid hf.1
      have f2 := Lib.hid (Fr.of hb.out hf.2.1)
      have f3 := Lib.hid (Below.next hb.out hb2)
      clear hf ho hb2
      go_wp2
      go_ret3
      exact ⟨_, _, rfl, f1.out, f2.out, f3.out, hlen.out⟩
  · have e0 := rmR_no (cs := x) (by simp [h1])
    rw [e0] at hlen ⊢
    clear e0
    obtain ⟨a0, c0, rfl, q1, q2, _⟩ := id hv.out
    have hlt : (40 : Int) < (x.length : Int) := by omega
    have hF := (Fresh.nil (Below.refl w.heap.size w)).law
    go_enter Try.func50, Try.ntmps50
    go_wp2
    go_ret3
    exact ⟨_, rfl, _, hF.1, hF.2.1, hF.2.2⟩

end Go.Proofs.Ytbfffpdcpoejnaa
