/- HeapDepth: the depth of the last element of a heap. -/
import Derived.Test.YtdcnhkooflaphaaValid
namespace Go.Proofs.Ytdcnhkooflaphaa
open Go.RowKit
set_option linter.unusedVariables false
set_option linter.unusedSimpArgs false

/-- The depth of element i, by fuel. -/
def hdF (d : Nat) : Nat → Nat → Nat
  | 0, _ => 0
  | f + 1, i => if i = 0 then 0 else 1 + hdF d f ((i - 1) / d)
/-- The result of HeapDepth. -/
def hdR (n d : Int) : Int × Bool := if inB n 1 64 && inB d 2 8 then (((hdF d.toNat 64 (n.toNat - 1) : Nat) : Int), true) else (0, false)
theorem cdiv (i d : Nat) (h : 1 ≤ i) : ((i : Int) - 1) / (d : Int) = (((i - 1) / d : Nat) : Int) := by
  rw [Int.natCast_ediv, Int.natCast_sub h]; rfl
theorem div_lt1 (i d : Nat) (h : 1 ≤ i) : (i - 1) / d ≤ i - 1 := Nat.div_le_self _ _

set_option maxHeartbeats 400000 in
theorem isArity_any (d : Int) (w : World) :
    Calls Try.prog 47 #[.int .i64 d] w fun e w' => e = .returned (.bool (inB d 2 8)) ∧ w = w' := by
  go_enter Try.func47, Try.ntmps47
  go_wp2_with (go_at_call 46; refine (in_any _ _ _ _).mono ?_; rintro e w' ⟨rfl, rfl⟩)
  go_ret
  exact ⟨rfl, rfl⟩

set_option maxHeartbeats 1000000 in
theorem spec_HeapDepth_any (n d : Int) (w : World) :
    Calls Try.prog 19 #[.int .i64 n, .int .i64 d] w fun e w' => e = .returned (.tuple #[.int .i64 (hdR n d).1, .bool (hdR n d).2]) ∧ w = w' := by
  cases hn : inB n 1 64
  · rw [show hdR n d = (0, false) by simp [hdR, hn]]
    go_enter Try.func19, Try.ntmps19
    go_wp2_with (go_at_call 45; refine (l1In_any _ _ _ _).mono ?_; rintro e w' ⟨rfl, rfl⟩)
    go_ret2
    exact ⟨rfl, rfl⟩
  cases hd : inB d 2 8
  · rw [show hdR n d = (0, false) by simp [hdR, hd]]
    go_enter Try.func19, Try.ntmps19
    go_wp2_with (go_at_call 45; refine (l1In_any _ _ _ _).mono ?_; rintro e w' ⟨rfl, rfl⟩)
    go_ret2
    exact ⟨rfl, rfl⟩
  have hR : hdR n d = (((hdF d.toNat 64 (n.toNat - 1) : Nat) : Int), true) := by simp [hdR, hn, hd]
  rw [hR]
  clear hR
  have hn' := inB_iff.1 hn
  have hd' := inB_iff.1 hd
  obtain ⟨N, rfl⟩ := Int.eq_ofNat_of_zero_le (show 0 ≤ n by omega)
  obtain ⟨D, rfl⟩ := Int.eq_ofNat_of_zero_le (show 0 ≤ d by omega)
  have h1 : 1 ≤ N := by omega
  have h2 : N ≤ 64 := by omega
  have h3 : 2 ≤ D := by omega
  have h4 : D ≤ 8 := by omega
  rw [Int.toNat_natCast, Int.toNat_natCast]
  replace hn' := True.intro
  replace hd' := True.intro
  generalize hr : hdF D 64 (N - 1) = r
  replace hr := Lib.hid hr
  go_enter Try.func19, Try.ntmps19
  go_wp2_with (go_at_call 45; refine (l1In_any _ _ _ _).mono ?_; rintro e w' ⟨rfl, rfl⟩)
  go_loop [6, 7] (fun dep i => ∃ k f j : Nat, i = .int .i64 j ∧ dep = .int .i64 k ∧ k + f = 64 ∧ j ≤ f ∧ j ≤ 63 ∧ k + hdF D f j = r) (fun _ i => (intOf i).toNat)
  case atStart => exact ⟨0, 64, N - 1, by go_num, rfl, by omega, by omega, by omega, by rw [hr.out]; omega⟩
  case round =>
    obtain ⟨k, f, j, rfl, rfl, hkf, hjf, hj, he⟩ := hrel
    replace he := Lib.hid he
    by_cases hj0 : j = 0
    · subst hj0
      go_wp2
      go_ret2
      refine ⟨?_, rfl⟩
      have := he.out
      cases f <;> simp [hdF] at this <;> subst this <;> rfl
    · have hq := div_lt1 j D (by omega)
      have hc := Lib.hid (cdiv j D (by omega))
      cases f with
      | zero => omega
      | succ f =>
        have he2 := Lib.hid (show k + (1 + hdF D f ((j - 1) / D)) = r by have := he.out; rw [hdF, if_neg hj0] at this; exact this)
        clear he
        generalize (j - 1) / D = q at *
        go_wp2
        go_round
        case rel => exact ⟨k + 1, f, q, by rw [← hc.out], by go_num, by omega, by omega, by omega, by have := he2.out; omega⟩
        case measure => simp only [intOf]; rw [hc.out]; omega
set_option maxHeartbeats 1000000 in
theorem impl_HeapDepth_any (n d : Int) (w : World) :
    Calls Try.prog 20 #[.int .i64 n, .int .i64 d] w fun e w' => e = .returned (.tuple #[.int .i64 (hdR n d).1, .bool (hdR n d).2]) ∧ w = w' := by
  cases hn : inB n 1 64
  · rw [show hdR n d = (0, false) by simp [hdR, hn]]
    go_enter Try.func20, Try.ntmps20
    go_wp2_with (first | (go_at_call 46; refine (in_any _ _ _ _).mono ?_; rintro e w' ⟨rfl, rfl⟩) | (go_at_call 47; refine (isArity_any _ _).mono ?_; rintro e w' ⟨rfl, rfl⟩))
    go_ret2
    exact ⟨rfl, rfl⟩
  cases hd : inB d 2 8
  · rw [show hdR n d = (0, false) by simp [hdR, hd]]
    go_enter Try.func20, Try.ntmps20
    go_wp2_with (first | (go_at_call 46; refine (in_any _ _ _ _).mono ?_; rintro e w' ⟨rfl, rfl⟩) | (go_at_call 47; refine (isArity_any _ _).mono ?_; rintro e w' ⟨rfl, rfl⟩))
    go_ret2
    exact ⟨rfl, rfl⟩
  have hR : hdR n d = (((hdF d.toNat 64 (n.toNat - 1) : Nat) : Int), true) := by simp [hdR, hn, hd]
  rw [hR]
  clear hR
  have hn' := inB_iff.1 hn
  have hd' := inB_iff.1 hd
  obtain ⟨N, rfl⟩ := Int.eq_ofNat_of_zero_le (show 0 ≤ n by omega)
  obtain ⟨D, rfl⟩ := Int.eq_ofNat_of_zero_le (show 0 ≤ d by omega)
  have h1 : 1 ≤ N := by omega
  have h2 : N ≤ 64 := by omega
  have h3 : 2 ≤ D := by omega
  have h4 : D ≤ 8 := by omega
  rw [Int.toNat_natCast, Int.toNat_natCast]
  replace hn' := True.intro
  replace hd' := True.intro
  generalize hr : hdF D 64 (N - 1) = r
  replace hr := Lib.hid hr
  go_enter Try.func20, Try.ntmps20
  go_wp2_with (first | (go_at_call 46; refine (in_any _ _ _ _).mono ?_; rintro e w' ⟨rfl, rfl⟩) | (go_at_call 47; refine (isArity_any _ _).mono ?_; rintro e w' ⟨rfl, rfl⟩))
  go_loop [6, 7] (fun dep i => ∃ k f j : Nat, i = .int .i64 j ∧ dep = .int .i64 k ∧ k + f = 64 ∧ j ≤ f ∧ j ≤ 63 ∧ k + hdF D f j = r) (fun _ i => (intOf i).toNat)
  case atStart => exact ⟨0, 64, N - 1, by go_num, rfl, by omega, by omega, by omega, by rw [hr.out]; omega⟩
  case round =>
    obtain ⟨k, f, j, rfl, rfl, hkf, hjf, hj, he⟩ := hrel
    replace he := Lib.hid he
    by_cases hj0 : j = 0
    · subst hj0
      go_wp2
      go_ret2
      refine ⟨?_, rfl⟩
      have := he.out
      cases f <;> simp [hdF] at this <;> subst this <;> rfl
    · have hq := div_lt1 j D (by omega)
      have hc := Lib.hid (cdiv j D (by omega))
      cases f with
      | zero => omega
      | succ f =>
        have he2 := Lib.hid (show k + (1 + hdF D f ((j - 1) / D)) = r by have := he.out; rw [hdF, if_neg hj0] at this; exact this)
        clear he
        generalize (j - 1) / D = q at *
        go_wp2
        go_round
        case rel => exact ⟨k + 1, f, q, by rw [← hc.out], by go_num, by omega, by omega, by omega, by have := he2.out; omega⟩
        case measure => simp only [intOf]; rw [hc.out]; omega
theorem spec_HeapDepth_law {n d : Int} {w : World} (_ : -9223372036854775808 ≤ n ∧ n ≤ 9223372036854775807) (_ : -9223372036854775808 ≤ d ∧ d ≤ 9223372036854775807) :
    Calls Try.prog 19 #[.int .i64 n, .int .i64 d] w fun e w' => e = .returned (.tuple #[.int .i64 (hdR n d).1, .bool (hdR n d).2]) ∧ Below w.heap.size w w' :=
  (spec_HeapDepth_any n d w).mono fun _ _ ⟨he, hb⟩ => ⟨he, hb ▸ Below.refl _ _⟩
theorem impl_HeapDepth_law {n d : Int} {w : World} (_ : -9223372036854775808 ≤ n ∧ n ≤ 9223372036854775807) (_ : -9223372036854775808 ≤ d ∧ d ≤ 9223372036854775807) :
    Calls Try.prog 20 #[.int .i64 n, .int .i64 d] w fun e w' => e = .returned (.tuple #[.int .i64 (hdR n d).1, .bool (hdR n d).2]) ∧ Below w.heap.size w w' :=
  (impl_HeapDepth_any n d w).mono fun _ _ ⟨he, hb⟩ => ⟨he, hb ▸ Below.refl _ _⟩
end Go.Proofs.Ytdcnhkooflaphaa
