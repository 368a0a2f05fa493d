/- Draws of key specs: spoilt. -/
import Derived.Test.YtoeonplbgbgjmaaDoorDrawX
import Derived.Test.YtoeonplbgbgjmaaDoorFSpS
namespace Go.Proofs.YtoeonplbgbgjmaaDoor
open Go.RowKit
set_option linter.unusedVariables false
set_option linter.unusedSimpArgs false

set_option maxRecDepth 10000 in
set_option maxHeartbeats 4000000 in
theorem spoilt_any (cb : Nat) (v : Value) (K : Nat) (t u : ByteArray) (w : World) (h : Cur w cb v K) (hK : K ≤ 10000000) (ht : t.size ≤ 1000) (hu : 1 ≤ u.size ∧ u.size ≤ 100) :
    Calls Tryd.prog 98 #[.pointer (some ⟨cb, 0, none⟩), .string t, .string u] w fun e w' => (∃ r : ByteArray, e = .returned (.string r) ∧ r.size ≤ 1002) ∧ Cur w' cb v (K + 10) ∧ Ex [cb] w w' := by
  have hc := Lib.hid h
  clear h
  by_cases h0 : t.size = 0
  · have : t = ⟨#[]⟩ := by
      apply ByteArray.ext
      exact Array.eq_empty_of_size_eq_zero h0
    subst this
    go_enter Tryd.func98, Tryd.ntmps98
    go_wp2
    go_ret
    exact ⟨⟨_, rfl, by simp; omega⟩, hc.out.le (by omega), Ex.refl _ _⟩
  · have hne0 : (t.toList == (⟨#[]⟩ : ByteArray).toList) = false := ne_toList (fun e => h0 (by rw [e]; rfl))
    have hie : t.toList.isEmpty = false := by simpa using hne0
    go_enter Tryd.func98, Tryd.ntmps98
    go_wp2_with fail
    refine (pick_any _ _ K _ _ hc.out (by omega) (by omega)).mono ?_
    rintro e w1 ⟨⟨i, rfl, hi, _⟩, hc1, hx1⟩
    have hi2 := hi (by omega)
    replace hc1 := Lib.hid hc1
    clear hi
    go_wp2_with fail
    refine (pick_any _ _ _ _ _ hc1.out (by omega) (by omega)).mono ?_
    rintro e w2 ⟨⟨j, rfl, hj, _⟩, hc2, hx2⟩
    have hj2 := hj (by omega)
    have hX2 := Lib.hid (hx1.trans hx2)
    replace hc2 := Lib.hid hc2
    clear hj hx1 hx2
    go_wp2_with fail
    refine (pick_any _ _ _ 3 _ hc2.out (by omega) (by omega)).mono ?_
    rintro e w3 ⟨⟨x, rfl, _, _⟩, hc3, hx3⟩
    have hX3 := Lib.hid (hX2.out.trans hx3)
    replace hc3 := Lib.hid hc3
    clear hx3
    have hil : i < t.size := by omega
    have hjl : j < u.size := by omega
    have hi1 : (i : Int) + 1 ≤ (t.size : Int) := by omega
    have hwi : IntKind.i64.wrap ((i : Int) + 1) = ((i + 1 : Nat) : Int) := by rw [IntWalk.i64_in _ (by omega)]; simp
    by_cases hx0 : x = 0
    · subst hx0
      go_wp2
      have z1 : (t.extract 0 i).size ≤ 1000 := by simp; omega
      have z2 : (t.extract i t.size).size ≤ 1000 := by simp; omega
      have z3 : ((u.extract j u.size).extract 0 1).size ≤ 1 := by simp; omega
      generalize (u.extract j u.size).extract 0 1 = W at *
      have hz : i ≤ t.size := by omega
      go_region
      all_goals go_simp
      all_goals go_wp2
      all_goals go_ret
      all_goals exact ⟨⟨_, rfl, by simp; omega⟩, (hc3.out.drewN 1).le (by omega), hX3.out.drewN 1⟩
    · have g0 : ((x : Int) == 0) = false := by simp; omega
      have z1 : (t.extract 0 i).size ≤ 1000 := by simp; omega
      have z2 : (t.extract (i + 1) t.size).size ≤ 1000 := by simp; omega
      have z3 : ((u.extract j u.size).extract 0 1).size ≤ 1 := by simp; omega
      generalize (u.extract j u.size).extract 0 1 = W at *
      have hz : i ≤ t.size := by omega
      have hz1 : i + 1 ≤ t.size := by omega
      by_cases hx1 : x = 1
      · subst hx1
        go_wp2
        go_region
        all_goals go_simp
        all_goals go_wp2
        all_goals go_ret
        all_goals exact ⟨⟨_, rfl, by simp; omega⟩, (hc3.out.drewN 1).le (by omega), hX3.out.drewN 1⟩
      · have g1 : ((x : Int) == 1) = false := by simp; omega
        go_wp2
        go_region
        all_goals go_simp
        all_goals go_wp2
        all_goals go_ret
        all_goals exact ⟨⟨_, rfl, by simp; omega⟩, (hc3.out.drewN 1).le (by omega), hX3.out.drewN 1⟩
end Go.Proofs.YtoeonplbgbgjmaaDoor
