/- FormatInt: both sides. -/
import Derived.Test.YtoeonplbgbgjmaaDoorNum
import Derived.Test.YtoeonplbgbgjmaaDoorDoor
import Derived.Test.YtoeonplbgbgjmaaDoorItoa
namespace Go.Proofs.YtoeonplbgbgjmaaDoor
open Go.RowKit
set_option linter.unusedVariables false
set_option linter.unusedSimpArgs false

theorem decB_inB (n : Int) : inB n (-999999) 999999 = decB n := by simp [inB, decB]

set_option maxHeartbeats 1000000 in
theorem spec_FormatInt_law {n : Int} {w : World} (hn : -9223372036854775808 ≤ n ∧ n ≤ 9223372036854775807) :
    Calls Tryd.prog 43 #[.int .i64 n] w fun e w' => e = .returned (.tuple #[.string (fiR n).1, .bool (fiR n).2]) ∧ Below w.heap.size w w' := by
  cases h : decB n
  · have e0 : fiR n = (ByteArray.empty, false) := by simp [fiR, h]
    rw [e0]
    have h2 := h
    rw [← decB_inB] at h2
    go_enter Tryd.func43, Tryd.ntmps43
    go_wp2_with (go_at_call 89; refine (l1In_any _ _ _ _).mono ?_; rintro e w' ⟨rfl, rfl⟩)
    go_ret2
    exact ⟨rfl, Below.refl _ _⟩
  · have e0 : fiR n = (strB (Lib.itoa n), true) := by simp [fiR, h]
    rw [e0]
    have h2 := h
    rw [← decB_inB] at h2
    have h3 := decB_iff.1 h
    obtain ⟨T, hT⟩ : ∃ T, strB (Lib.itoa n) = T := ⟨_, rfl⟩
    have hc := l1Num_any n w h3
    rw [hT] at hc ⊢
    replace hc := Lib.hid hc
    go_enter Tryd.func43, Tryd.ntmps43
    go_wp2_with fail
    refine (l1In_any _ _ _ _).mono ?_
    rintro e w' ⟨rfl, rfl⟩
    rw [h2]
    go_wp2_with fail
    refine hc.out.mono ?_
    rintro e w' ⟨rfl, q, rfl⟩
    go_wp2
    go_ret2
    exact ⟨rfl, Below.quiet ⟨_, rfl⟩⟩

set_option maxHeartbeats 1000000 in
theorem impl_FormatInt_law {n : Int} {w : World} (hn : -9223372036854775808 ≤ n ∧ n ≤ 9223372036854775807) (hT : Tab w) :
    Calls Tryd.prog 42 #[.int .i64 n] w fun e w' => e = .returned (.tuple #[.string (fiR n).1, .bool (fiR n).2]) ∧ Below w.heap.size w w' := by
  cases h : decB n
  · have e0 : fiR n = (ByteArray.empty, false) := by simp [fiR, h]
    rw [e0]
    have h2 := h
    rw [← decB_inB] at h2
    clear hT
    go_enter Tryd.func42, Tryd.ntmps42
    go_wp2_with (go_at_call 88; refine (in_any _ _ _ _).mono ?_; rintro e w' ⟨rfl, rfl⟩)
    go_ret2
    exact ⟨rfl, Below.refl _ _⟩
  · have e0 : fiR n = (strB (Lib.itoa n), true) := by simp [fiR, h]
    rw [e0]
    have h2 := h
    rw [← decB_inB] at h2
    have hc := itoa_any n w hn hT
    obtain ⟨T, hT2⟩ : ∃ T, strB (Lib.itoa n) = T := ⟨_, rfl⟩
    rw [hT2] at hc ⊢
    replace hc := Lib.hid hc
    replace hT := Lib.hid hT
    go_enter Tryd.func42, Tryd.ntmps42
    go_wp2_with fail
    refine (in_any _ _ _ _).mono ?_
    rintro e w' ⟨rfl, rfl⟩
    rw [h2]
    go_wp2_with fail
    refine hc.out.mono ?_
    rintro e w' ⟨rfl, hb⟩
    replace hb := Lib.hid hb
    go_wp2
    go_ret2
    exact ⟨rfl, hb.out⟩
end Go.Proofs.YtoeonplbgbgjmaaDoor
