/- slices.Reverse at records. -/
import Derived.Test.YtdhcpoeopooejaaStrI
namespace Go.Proofs.Ytdhcpoeopooejaa
open Go.RowKit
set_option linter.unusedVariables false
set_option linter.unusedSimpArgs false

def Rv (D D' : List Int) (n k : Nat) : Prop := ∀ t, t < n → gi D' t = if t < k ∨ n < t + k + 1 then gi D (n - 1 - t) else gi D t
theorem Rv.step {D D' : List Int} {n k m : Nat} (h : Rv D D' n k) (hm : k + m + 1 = n) (hk : k < m) (hl : D'.length = n) : Rv D (swp D' k m) n (k + 1) := by
  intro t ht
  rw [gi_swp (by omega) (by omega)]
  by_cases e1 : t = m
  · subst e1
    rw [if_pos rfl, if_pos (by omega), h k (by omega), if_neg (by omega)]
    congr 1; omega
  · rw [if_neg e1]
    by_cases e2 : t = k
    · subst e2
      rw [if_pos rfl, if_pos (by omega), h m (by omega), if_neg (by omega)]
      congr 1; omega
    · rw [if_neg e2, h t ht]
      by_cases e3 : t < k ∨ n < t + k + 1
      · rw [if_pos e3, if_pos (by omega)]
      · rw [if_neg e3, if_neg (by omega)]
theorem Rv.done {D D' : List Int} {n k : Nat} (h : Rv D D' n k) (hk : n ≤ 2 * k + 1) : ∀ t, t < n → gi D' t = gi D (n - 1 - t) := by
  intro t ht
  rw [h t ht]
  split
  · rfl
  · congr 1; omega
set_option maxRecDepth 10000 in
set_option maxHeartbeats 4000000 in
theorem reverse_any (b off c n : Nat) (X : List (Int × Int)) (D : List Int) (w : World) (hR : RQ w b off c n X D) (hn : D.length = n) (hc1 : n ≤ 1000000000) :
    Calls Try.prog 78 #[.slice (some ⟨b, off, none⟩) n c] w fun e w' => e = .returned (.tuple #[]) ∧ ∃ D', RQ w' b off c n X D' ∧ Ex [b] w w' ∧ D'.length = n ∧ ∀ t, t < n → gi D' t = gi D (n - 1 - t) := by
  replace hR := Lib.hid hR
  replace hn := Lib.hid hn
  go_enter Try.func78, Try.ntmps78
  go_wp2
  go_loopw [2, 3] (fun iv jv wr => ∃ (k : Nat) (J : Int) (D' : List Int), (2 * k ≤ n) ∧ iv = .int .i64 (k : Nat) ∧ jv = .int .i64 J ∧ J = (n : Int) - 1 - (k : Int) ∧ RQ wr b off c n X D' ∧ Ex [b] w wr ∧ D'.length = n ∧ Rv D D' n k) (fun iv _ _ => n - (intOf iv).toNat)
  case atStart => exact ⟨0, (n : Int) - 1, D, by omega, rfl, by first | rfl | go_num, by omega, hR.out, Ex.refl _ _, hn.out, fun t ht => by rw [if_neg (by omega)]⟩
  case round =>
    clear hR
    obtain ⟨k, J, D', hk, rfl, rfl, hJ, hR, hx, hl, hv⟩ := hrel
    replace hl := Lib.hid hl
    by_cases hlt : (k : Int) < J
    · obtain ⟨m, rfl⟩ : ∃ m : Nat, J = (m : Int) := ⟨J.toNat, by omega⟩
      have hkm : k < m := by omega
      have hmn : k + m + 1 = n := by omega
      obtain ⟨hc1', hc1b, hfz⟩ := hR.cells (i := k) (by omega) hl.out
      obtain ⟨hc2', hc2b, _⟩ := hR.cells (i := m) (by omega) hl.out
      have hf1 := hfz (off + k * 2)
      have hf1b := hfz (off + k * 2 + 1)
      have hf2 := hfz (off + m * 2)
      have hf2b := hfz (off + m * 2 + 1)
      have hv2 := Lib.hid (hv.step hmn hkm hl.out)
      have hset := Lib.hid (hR.swap (i := k) (j := m) (by omega) (by omega) hl.out)
      have hl2 : Hid ((swp D' k m).length = n) := Lib.hid (by simpa [swp] using hl.out)
      have hn1 : ¬ k = m := by omega
      have hn2 : ¬ m = k := by omega
      have hi1 : (k : Int) < (n : Int) := by omega
      have hi2 : (m : Int) < (n : Int) := by omega
      have hi3 : (0 : Int) ≤ (k : Int) := by omega
      have hi4 : (0 : Int) ≤ (m : Int) := by omega
      have ha1 : ¬ off + m * 2 = off + k * 2 := by omega
      have ha2 : ¬ off + m * 2 = off + k * 2 + 1 := by omega
      have ha3 : ¬ off + m * 2 + 1 = off + k * 2 := by omega
      have ha4 : ¬ off + m * 2 + 1 = off + k * 2 + 1 := by omega
      have ha5 : ¬ off + k * 2 = off + m * 2 := by omega
      have ha6 : ¬ off + k * 2 + 1 = off + m * 2 := by omega
      replace hx := Lib.hid hx
      replace hmn := Lib.hid hmn
      clear hv hR hfz hJ
      generalize gr X (gi D' k).toNat = U at *
      generalize gr X (gi D' m).toNat = V at *
      obtain ⟨u1, u2⟩ := U
      obtain ⟨v1, v2⟩ := V
      dsimp only at hc1' hc1b hc2' hc2b hset
      go_wp2
      go_region
      go_wp2
      go_roundw
      case rel => exact ⟨k + 1, (m : Int) - 1, _, by have := hmn.out; omega, by go_num, by first | rfl | go_num, by have := hmn.out; omega, hset.out, Ex.set4 (hx.out.drewN _) (by simp), hl2.out, hv2.out⟩
      case measure => have := hmn.out; simp [intOf]; omega
    · have hfin := Lib.hid (hv.done (by omega))
      replace hR := Lib.hid hR
      replace hx := Lib.hid hx
      clear hv
      go_wp2
      go_end0
      exact ⟨rfl, D', hR.out, hx.out, hl.out, hfin.out⟩
end Go.Proofs.Ytdhcpoeopooejaa
