/- RunMerges: the counts' check by all. -/
import Derived.Test.YtbfffpdcpoejnaaRunM
namespace Go.Proofs.Ytbfffpdcpoejnaa
open Go.RowKit
set_option linter.unusedVariables false
set_option linter.unusedSimpArgs false

def cntB (c : Int) : Bool := inB c 1 100000
set_option maxHeartbeats 400000 in
theorem cntFn_any (x : Int) (w : World) :
    Calls Try.prog 91 #[.int .i64 x] w fun e w' => e = .returned (.bool (cntB x)) ∧ w = w' := by
  go_enter Try.func91, Try.ntmps91
  go_wp2_with (go_at_call 61; refine (in_any _ _ _ _).mono ?_; rintro e w' ⟨rfl, rfl⟩)
  go_ret
  exact ⟨rfl, rfl⟩

set_option maxHeartbeats 400000 in
theorem allCntFn_any (x : Int) (bp : Nat) (w : World) (hc : w.cell? ⟨bp, 0, none⟩ = some (.func (.func 91) #[] #[])) :
    Calls Try.prog 105 #[.int .i64 x, .pointer (some ⟨bp, 0, none⟩)] w fun e w' => e = .returned (.bool (!cntB x)) ∧ w = w' := by
  go_enter Try.func105, Try.ntmps105
  go_wp2_with (go_at_call 91; refine (cntFn_any _ _).mono ?_; rintro e w' ⟨rfl, rfl⟩)
  go_ret
  exact ⟨rfl, rfl⟩

set_option maxHeartbeats 400000 in
theorem indexCnt_any (v : Value) (xs : List Int) (bp : Nat) (w : World) (hv : Rd w v xs) (hc : w.cell? ⟨bp, 0, none⟩ = some (.func (.func 91) #[] #[])) :
    Calls Try.prog 116 #[v, .func (.func 105) #[] #[.pointer (some ⟨bp, 0, none⟩)]] w fun e w' => e = .returned (.int .i64 (ixf (fun x => !cntB x) xs)) ∧ w = w' := by
  obtain ⟨ao, c, rfl, h1, h2, HA⟩ := hv
  unfold maxLen at h2
  generalize hn : xs.length = n at *
  replace HA := Lib.hid HA
  replace hn := Lib.hid hn
  go_enter Try.func116, Try.ntmps116
  go_wp2
  go_loop [8] (fun i => ∃ k : Nat, k ≤ n ∧ i = .int .i64 k ∧ ∀ j, j < k → cntB (gi xs j) = true) (fun i => n - (intOf i).toNat)
  case atStart => exact ⟨0, Nat.zero_le _, rfl, fun j hj => absurd hj (by omega)⟩
  case round =>
    obtain ⟨k, hk, rfl, hq⟩ := hrel
    replace hq := Lib.hid hq
    by_cases hlt : k < n
    · obtain ⟨b, off, rfl, hR⟩ := HA.out (by omega)
      have hc1 := hR k hlt
      clear hR
      generalize hx : gi xs k = x at *
      replace hx := Lib.hid hx
      by_cases hb : cntB x = true
      · go_wp2_with (go_at_call 105; refine (allCntFn_any _ _ _ hc).mono ?_; rintro e w' ⟨rfl, rfl⟩)
        go_round
        case rel =>
          refine ⟨k + 1, by omega, by go_num, fun j hj => ?_⟩
          by_cases hjk : j = k
          · subst hjk; rw [hx.out]; exact hb
          · exact hq.out j (by omega)
        case measure => simp [intOf]; omega
      · replace hb : cntB x = false := by simpa using hb
        go_wp2_with (go_at_call 105; refine (allCntFn_any _ _ _ hc).mono ?_; rintro e w' ⟨rfl, rfl⟩)
        go_ret
        refine ⟨ret_int (ixf_some (by rw [hn.out]; omega) ?_ fun j hj => ?_).symm, rfl⟩
        · rw [← gi_eq, hx.out, hb]; rfl
        · have := hq.out j hj
          rw [← gi_eq, this]; rfl
    · obtain rfl : k = n := by omega
      go_wp2
      go_ret
      refine ⟨ret_int (ixf_none fun j hj => ?_).symm, rfl⟩
      have := hq.out j (by rw [← hn.out]; exact hj)
      rw [← gi_eq, this]; rfl

set_option maxHeartbeats 400000 in
theorem containsCnt_any (v : Value) (xs : List Int) (bp : Nat) (w : World) (hv : Rd w v xs) (hc : w.cell? ⟨bp, 0, none⟩ = some (.func (.func 91) #[] #[])) :
    Calls Try.prog 104 #[v, .func (.func 105) #[] #[.pointer (some ⟨bp, 0, none⟩)]] w fun e w' => e = .returned (.bool (xs.any fun x => !cntB x)) ∧ w = w' := by
  rw [← ixf_nonneg]
  go_enter Try.func104, Try.ntmps104
  go_wp2_with (go_at_call 116; refine (indexCnt_any _ _ _ _ hv hc).mono ?_; rintro e w' ⟨rfl, rfl⟩)
  go_ret
  exact ⟨rfl, rfl⟩

set_option maxHeartbeats 400000 in
theorem allCnt_any (v : Value) (xs : List Int) (w : World) (hv : Rd w v xs) :
    Calls Try.prog 90 #[v, .func (.func 91) #[] #[]] w fun e w' => e = .returned (.bool (xs.all cntB)) ∧ Below w.heap.size w w' := by
  have hv2 := hv.below (w' := w.alloc (.cells #[.func (.func 91) #[] #[]] 62)) ((Below.refl _ _).alloc (Nat.le_refl _) _)
  replace hv := Lib.hid hv
  replace hv2 := Lib.hid hv2
  go_enter Try.func90, Try.ntmps90
  go_wp2_with fail
  refine (containsCnt_any _ _ _ _ hv2.out (by simp [go_sem])).mono ?_
  rintro e w' ⟨rfl, rfl⟩
  go_wp2
  go_ret
  exact ⟨ret_bool (any_not cntB xs), (Below.refl _ _).alloc (Nat.le_refl _) _⟩

end Go.Proofs.Ytbfffpdcpoejnaa
