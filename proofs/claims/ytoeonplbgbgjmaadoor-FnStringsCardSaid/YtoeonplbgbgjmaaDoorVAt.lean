/- The property laws' helper vAt: a byte of the code, or a number made of its place. -/
import Derived.Test.YtoeonplbgbgjmaaDoorVLaw
namespace Go.Proofs.YtoeonplbgbgjmaaDoor
open Go.RowKit
set_option linter.unusedVariables false
set_option linter.unusedSimpArgs false

set_option maxHeartbeats 1000000 in
theorem vAt_any (ao : Option Addr) (n c i : Nat) (w : World) (h : RdBy w (.slice ao n c)) (hn : n ≤ 65536) (hi : i ≤ 1000) :
    Calls Tryd.prog 51 #[.slice ao n c, .int .i64 (i : Int)] w fun e w' => (∃ x : Nat, e = .returned (.int .i64 (x : Int)) ∧ x ≤ 255) ∧ ∃ q, w' = w.drewN q := by
  obtain ⟨a9, n9, c9, e9, q1, q2, HA⟩ := h
  simp at e9
  obtain ⟨rfl, rfl, rfl⟩ := e9
  unfold maxLen at q2
  by_cases hlt : i < n
  · obtain ⟨b, off, rfl, hR⟩ := HA (by omega)
    obtain ⟨x, hx, hcx⟩ := hR i hlt
    have hlti : (i : Int) < (n : Int) := by omega
    have hwx : IntKind.i64.wrap (x : Int) = (x : Int) := IntWalk.i64_in _ (by omega)
    clear hR HA
    go_enter Tryd.func51, Tryd.ntmps51
    go_wp2
    first | go_quiet (fail) | skip
    try go_wp2
    go_ret
    exact ⟨⟨x, by first | rfl | (rw [hwx]; rfl), hx⟩, by first | exact ⟨_, rfl⟩ | exact ⟨0, rfl⟩⟩
  · have hlti : ¬ (i : Int) < (n : Int) := by omega
    have hm : ((i : Int) * 7 + (n : Int)).tmod 256 = (((i * 7 + n) % 256 : Nat) : Int) := by rw [Int.tmod_eq_emod_of_nonneg (by omega)]; omega
    have hm2 : ((i : Int) * 7 + (n : Int)) % 256 = (((i * 7 + n) % 256 : Nat) : Int) := by omega
    have hlt2 : (i * 7 + n) % 256 ≤ 255 := by have := Nat.mod_lt (i * 7 + n) (show 256 > 0 by omega); omega
    clear HA
    generalize (i * 7 + n) % 256 = r at *
    go_enter Tryd.func51, Tryd.ntmps51
    go_wp2
    go_ret
    exact ⟨⟨r, by first | rfl | (rw [← hm]; rfl) | (rw [← hm2]; rfl), hlt2⟩, by first | exact ⟨_, rfl⟩ | exact ⟨0, rfl⟩⟩
end Go.Proofs.YtoeonplbgbgjmaaDoor
