/- slices.SortStableFunc at no records. -/
import Derived.Test.YtdhcpoeopooejaaStrS
import Derived.Test.YtdhcpoeopooejaaStrJ
namespace Go.Proofs.Ytdhcpoeopooejaa
open Go.RowKit
set_option linter.unusedVariables false
set_option linter.unusedSimpArgs false

set_option maxHeartbeats 2000000 in
theorem insCmpR_zero (ao : Option Addr) (c : Nat) (w : World) :
    Calls Try.prog 146 #[.slice ao 0 c, .int .i64 0, .int .i64 0, .func (.func 109) #[] #[]] w fun e w' => e = .returned (.tuple #[]) ∧ w' = w := by
  go_enter Try.func146, Try.ntmps146
  go_wp2
  go_loopw [8] (fun iv wr => iv = .int .i64 1 ∧ wr = w) (fun _ _ => 0)
  case atStart => exact ⟨rfl, rfl⟩
  case round =>
    obtain ⟨rfl, rfl⟩ := hrel
    go_wp2
    go_end0
    exact ⟨rfl, rfl⟩
set_option maxHeartbeats 2000000 in
theorem stableR_zero (ao : Option Addr) (c : Nat) (w : World) :
    Calls Try.prog 125 #[.slice ao 0 c, .int .i64 0, .func (.func 109) #[] #[]] w fun e w' => e = .returned (.tuple #[]) ∧ w' = w := by
  go_enter Try.func125, Try.ntmps125
  go_wp2
  go_loopw [7, 8] (fun av bv wr => av = .int .i64 0 ∧ bv = .int .i64 20 ∧ wr = w) (fun _ _ _ => 0)
  case atStart => exact ⟨rfl, rfl, rfl⟩
  case round =>
    obtain ⟨rfl, rfl, rfl⟩ := hrel
    go_wp2_with fail
    refine (insCmpR_zero ao c _).mono ?_
    rintro e w1 ⟨rfl, rfl⟩
    go_wp2
    go_loopw [6] (fun av wr => av = .int .i64 20 ∧ wr = w1) (fun _ _ => 0)
    case atStart => exact ⟨rfl, rfl⟩
    case round =>
      obtain ⟨rfl, rfl⟩ := hrel
      go_wp2
      go_end0
      exact ⟨rfl, rfl⟩
set_option maxHeartbeats 2000000 in
theorem sortStableR_zero (ao : Option Addr) (c : Nat) (w : World) :
    Calls Try.prog 108 #[.slice ao 0 c, .func (.func 109) #[] #[]] w fun e w' => e = .returned (.tuple #[]) ∧ w' = w := by
  go_enter Try.func108, Try.ntmps108
  go_wp2_with fail
  refine (stableR_zero ao c _).mono ?_
  rintro e w1 ⟨rfl, rfl⟩
  go_wp2
  go_end0
  exact ⟨rfl, rfl⟩
end Go.Proofs.Ytdhcpoeopooejaa
