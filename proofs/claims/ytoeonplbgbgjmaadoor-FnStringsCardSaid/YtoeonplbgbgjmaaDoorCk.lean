/- The checksum of a string. -/
import Derived.Test.YtoeonplbgbgjmaaDoorFrame
namespace Go.Proofs.YtoeonplbgbgjmaaDoor
open Go.RowKit
set_option linter.unusedVariables false
set_option linter.unusedSimpArgs false

/-- One step of the checksum. -/
def ckStep (h : Int) (c : UInt8) : Int := (41 * h + (c.toNat : Int) + 1) % 999979
/-- The checksum. -/
def ckSum (l : List UInt8) : Int := l.foldl ckStep 7
theorem ckStep_bd (h : Int) (c : UInt8) : 0 ≤ ckStep h c ∧ ckStep h c < 999979 := by unfold ckStep; omega
theorem ckSum_snoc (l : List UInt8) (c : UInt8) : ckSum (l ++ [c]) = ckStep (ckSum l) c := by simp [ckSum]
theorem ckSum_bd (l : List UInt8) : 0 ≤ ckSum l ∧ ckSum l < 999979 := by
  rcases List.eq_nil_or_concat l with rfl | ⟨l', c, rfl⟩
  · simp [ckSum]
  · rw [List.concat_eq_append, ckSum_snoc]; exact ckStep_bd _ _
theorem take_snoc (s : ByteArray) (k : Nat) (h : k < s.size) : s.data.toList.take (k + 1) = s.data.toList.take k ++ [s[k]] := by
  rw [List.take_succ_eq_append_getElem (by simpa using h)]; rfl
theorem ckSum_next (s : ByteArray) (k : Nat) (h : k < s.size) : (41 * ckSum (s.data.toList.take k) + (s[k].toNat : Int) + 1) % 999979 = ckSum (s.data.toList.take (k + 1)) := by
  rw [take_snoc s k h, ckSum_snoc]; rfl
theorem ckSum_all (s : ByteArray) : ckSum (s.data.toList.take s.size) = ckSum s.data.toList := by
  rw [List.take_of_length_le (by simp)]

set_option maxHeartbeats 400000 in
theorem l1Sum_any (s : ByteArray) (w : World) (hs : s.size ≤ maxLen) :
    Calls Tryd.prog 122 #[.string s] w fun e w' => e = .returned (.int .i64 (ckSum s.data.toList)) ∧ w = w' := by
  unfold maxLen at hs
  go_enter Tryd.func122, Tryd.ntmps122
  go_wp2
  go_loop [3, 4] (fun h i => ∃ k : Nat, k ≤ s.size ∧ i = .int .i64 k ∧ h = .int .i64 (ckSum (s.data.toList.take k))) (fun _ i => s.size - (intOf i).toNat)
  case atStart => exact ⟨0, Nat.zero_le _, rfl, rfl⟩
  case round =>
    obtain ⟨k, hk, rfl, rfl⟩ := hrel
    have hd := ckSum_bd (s.data.toList.take k)
    by_cases hlt : k < s.size
    · have hn := Lib.hid (ckSum_next s k hlt)
      have hc : (s[k].toNat : Int) < 256 := by have := s[k].toNat_lt; omega
      generalize ckSum (s.data.toList.take k) = h at *
      go_wp2
      go_round
      case rel => exact ⟨k + 1, by omega, by go_num, by rw [← hn.out]⟩
      case measure => simp [intOf]; omega
    · obtain rfl : k = s.size := by omega
      have ha := Lib.hid (ckSum_all s)
      go_wp2
      go_ret
      exact ⟨by rw [ha.out]; rfl, rfl⟩

/-- The result of Checksum. -/
def ckR (s : ByteArray) : Int × Bool := if s.size ≤ 4000 then (ckSum s.data.toList, true) else (0, false)


set_option maxHeartbeats 400000 in
theorem impl_Checksum_any (s : ByteArray) (w : World) :
    Calls Tryd.prog 93 #[.string s] w fun e w' => e = .returned (.tuple #[.int .i64 (ckR s).1, .bool (ckR s).2]) ∧ w = w' := by
  by_cases h : s.size ≤ 4000
  · rw [show ckR s = (ckSum s.data.toList, true) by simp [ckR, h]]
    have hd : decide (4000 < (s.size : Int)) = false := by simp; omega
    go_enter Tryd.func93, Tryd.ntmps93
    go_wp2
    go_loop [4, 11] (fun h i => ∃ k : Nat, k ≤ s.size ∧ i = .int .i64 k ∧ h = .int .i64 (ckSum (s.data.toList.take k))) (fun _ i => s.size - (intOf i).toNat)
    case atStart => exact ⟨0, Nat.zero_le _, rfl, rfl⟩
    case round =>
      obtain ⟨k, hk, rfl, rfl⟩ := hrel
      have hd := ckSum_bd (s.data.toList.take k)
      by_cases hlt : k < s.size
      · have hn := Lib.hid (ckSum_next s k hlt)
        have hc : (s[k].toNat : Int) < 256 := by have := s[k].toNat_lt; omega
        generalize ckSum (s.data.toList.take k) = h at *
        go_wp2
        go_round
        case rel => exact ⟨k + 1, by omega, by go_num, by rw [← hn.out]⟩
        case measure => simp [intOf]; omega
      · obtain rfl : k = s.size := by omega
        have ha := Lib.hid (ckSum_all s)
        go_wp2
        go_ret2
        exact ⟨by rw [ha.out]; rfl, rfl⟩
  · rw [show ckR s = (0, false) by simp [ckR, h]]
    have hd : decide (4000 < (s.size : Int)) = true := by simp; omega
    go_enter Tryd.func93, Tryd.ntmps93
    go_wp2
    go_ret2
    exact ⟨rfl, rfl⟩
theorem impl_Checksum_law {s : ByteArray} {w : World} (_ : s.size ≤ maxLen) :
    Calls Tryd.prog 93 #[.string s] w fun e w' => e = .returned (.tuple #[.int .i64 (ckR s).1, .bool (ckR s).2]) ∧ Below w.heap.size w w' :=
  (impl_Checksum_any s w).mono fun _ _ ⟨he, hb⟩ => ⟨he, hb ▸ Below.refl _ _⟩
end Go.Proofs.YtoeonplbgbgjmaaDoor
