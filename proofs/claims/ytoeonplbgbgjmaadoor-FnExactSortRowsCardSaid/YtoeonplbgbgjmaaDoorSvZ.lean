/- slices.SortStableFunc at no rows. -/
import Derived.Test.YtoeonplbgbgjmaaDoorSvJ
namespace Go.Proofs.YtoeonplbgbgjmaaDoor
open Go.RowKit
set_option linter.unusedVariables false
set_option linter.unusedSimpArgs false

set_option maxHeartbeats 2000000 in
theorem insCmpV_zero (ao : Option Addr) (c sp : Nat) (w : World) :
    Calls Tryd.prog 139 #[.slice ao 0 c, .int .i64 0, .int .i64 0, .func (.func 79) #[] #[.pointer (some ⟨sp, 0, none⟩)]] w fun e w' => e = .returned (.tuple #[]) ∧ w' = w := by
  go_enter Tryd.func139, Tryd.ntmps139
  go_wp2
  go_loopw [8] (fun iv wr => iv = .int .i64 1 ∧ wr = w) (fun _ _ => 0)
  case atStart => exact ⟨rfl, rfl⟩
  case round =>
    obtain ⟨rfl, rfl⟩ := hrel
    go_wp2
    go_end0
    exact ⟨rfl, rfl⟩
set_option maxHeartbeats 2000000 in
theorem stableV_zero (ao : Option Addr) (c sp : Nat) (w : World) :
    Calls Tryd.prog 117 #[.slice ao 0 c, .int .i64 0, .func (.func 79) #[] #[.pointer (some ⟨sp, 0, none⟩)]] w fun e w' => e = .returned (.tuple #[]) ∧ w' = w := by
  go_enter Tryd.func117, Tryd.ntmps117
  go_wp2
  go_loopw [7, 8] (fun av bv wr => av = .int .i64 0 ∧ bv = .int .i64 20 ∧ wr = w) (fun _ _ _ => 0)
  case atStart => exact ⟨rfl, rfl, rfl⟩
  case round =>
    obtain ⟨rfl, rfl, rfl⟩ := hrel
    go_wp2_with fail
    refine (insCmpV_zero ao c sp _).mono ?_
    rintro e w1 ⟨rfl, rfl⟩
    go_wp2
    go_loopw [6] (fun av wr => av = .int .i64 20 ∧ wr = w1) (fun _ _ => 0)
    case atStart => exact ⟨rfl, rfl⟩
    case round =>
      obtain ⟨rfl, rfl⟩ := hrel
      go_wp2
      go_end0
      exact ⟨rfl, rfl⟩
set_option maxHeartbeats 2000000 in
theorem sortStableV_zero (ao : Option Addr) (c sp : Nat) (w : World) :
    Calls Tryd.prog 78 #[.slice ao 0 c, .func (.func 79) #[] #[.pointer (some ⟨sp, 0, none⟩)]] w fun e w' => e = .returned (.tuple #[]) ∧ w' = w := by
  go_enter Tryd.func78, Tryd.ntmps78
  go_wp2_with fail
  refine (stableV_zero ao c sp _).mono ?_
  rintro e w1 ⟨rfl, rfl⟩
  go_wp2
  go_end0
  exact ⟨rfl, rfl⟩
end Go.Proofs.YtoeonplbgbgjmaaDoor
