/- Whether a byte stands in a string; spec.l1Stands; strings.Contains at one byte. -/
import Derived.Test.YtoeonplbgbgjmaaDoorItoa
namespace Go.Proofs.YtoeonplbgbgjmaaDoor
open Go.RowKit
set_option linter.unusedVariables false
set_option linter.unusedSimpArgs false

/-- Whether byte c stands in s. -/
def hasC (s : ByteArray) (c : UInt8) : Bool := decide (0 ≤ Lib.indexByte s.data.toList c)
theorem hasC_true {s : ByteArray} {c : UInt8} {k : Nat} (hk : k < s.size) (h : s[k] = c) : hasC s c = true := by
  unfold hasC
  refine decide_eq_true ?_
  have h1 := Lib.indexByte_ge s.data.toList c
  rcases Int.lt_or_le (Lib.indexByte s.data.toList c) 0 with h2 | h2
  · have h3 : Lib.indexByte s.data.toList c = -1 := by omega
    have h4 := Lib.indexByte_none h3 k
    exact absurd (by rw [← h]; show s.data.toList[k]? = some s.data[k]; simp) h4
  · exact h2
theorem hasC_false {s : ByteArray} {c : UInt8} (h : ∀ k, (hk : k < s.size) → s[k] ≠ c) : hasC s c = false := by
  unfold hasC
  refine decide_eq_false fun h0 => ?_
  obtain ⟨o, ho⟩ := Int.eq_ofNat_of_zero_le h0
  have h1 := (Lib.indexByte_some ho).1
  obtain ⟨h2, h3⟩ := List.getElem?_eq_some_iff.1 h1
  exact h o (by simpa using h2) (by rw [← h3]; rfl)
theorem contains1_any (s : ByteArray) (c : UInt8) (w : World) :
    Calls Tryd.prog 69 #[.string s, .string ⟨#[c]⟩] w fun e w' => e = .returned (.bool (hasC s c)) ∧ w = w' :=
  (Any.strings_Contains_one lays144 s c w).mono fun _ _ ⟨he, hw⟩ => ⟨he, hw.symm⟩
set_option maxHeartbeats 1000000 in
theorem l1Stands_any (s : ByteArray) (c : UInt8) (w : World) (hs : s.size ≤ 1048576) :
    Calls Tryd.prog 86 #[.string s, .int .u8 (c.toNat : Int)] w fun e w' => e = .returned (.bool (hasC s c)) ∧ w = w' := by
  have hyes := Lib.hid (fun k (hk : k < s.size) (h : s[k] = c) => hasC_true hk h)
  have hno := Lib.hid (fun h => hasC_false (s := s) (c := c) h)
  generalize hasC s c = R at *
  have hcn := Lib.hid (fun (a : UInt8) (h : ¬ a = c) => fun (e : (a.toNat : Int) = (c.toNat : Int)) => h (UInt8.toNat_inj.1 (by omega)))
  go_enter Tryd.func86, Tryd.ntmps86
  go_wp2
  go_loop [5] (fun i => ∃ k : Nat, k ≤ s.size ∧ i = .int .i64 k ∧ ∀ j, (hj : j < s.size) → j < k → s[j] ≠ c) (fun i => s.size - (intOf i).toNat)
  case atStart => exact ⟨0, Nat.zero_le _, rfl, fun j _ hj => absurd hj (by omega)⟩
  case round =>
    obtain ⟨k, hk, rfl, hq⟩ := hrel
    replace hq := Lib.hid hq
    by_cases hlt : k < s.size
    · by_cases hb : s[k] = c
      · have hr := Lib.hid (hyes.out k hlt hb)
        have hbe : ((s[k].toNat : Int) == (c.toNat : Int)) = true := by rw [hb]; simp
        replace hb := Lib.hid hb
        go_wp2
        go_ret
        exact ⟨by rw [hr.out]; rfl, rfl⟩
      · have hbe : ((s[k].toNat : Int) == (c.toNat : Int)) = false := by rw [beq_eq_false_iff_ne]; exact hcn.out _ hb
        replace hb := Lib.hid hb
        go_wp2
        go_round
        case rel =>
          refine ⟨k + 1, by omega, by go_num, fun j hj hjk => ?_⟩
          by_cases e : j = k
          · subst e; exact hb.out
          · exact hq.out j hj (by omega)
        case measure => simp [intOf]; omega
    · obtain rfl : k = s.size := by omega
      have hr := Lib.hid (hno.out (fun j hj => hq.out j hj hj))
      go_wp2
      go_ret
      exact ⟨by rw [hr.out]; rfl, rfl⟩
end Go.Proofs.YtoeonplbgbgjmaaDoor
