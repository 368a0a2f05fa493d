/- FormatSpecs, spec. -/
import Derived.Test.YtoeonplbgbgjmaaDoorFSpM
import Derived.Test.YtoeonplbgbgjmaaDoorNum
namespace Go.Proofs.YtoeonplbgbgjmaaDoor
open Go.RowKit
set_option linter.unusedVariables false
set_option linter.unusedSimpArgs false

set_option maxRecDepth 10000 in
set_option maxHeartbeats 8000000 in
theorem l2Text_any (v : Value) (xs : List KS) (w : World) (hv : RdK w v xs) (hk : okK xs = true) :
    Calls Tryd.prog 61 #[v] w fun e w' => e = .returned (.string (tK xs xs.length)) ∧ ∃ q, w' = w.drewN q := by
  have hsz := Lib.hid (tK_size hk)
  have hfl := Lib.hid (fun i (hi : i < xs.length) => okK_fld hk hi)
  have hst := Lib.hid (fun i (hi : i < xs.length) => tK_succ hi)
  have hln := okK_len hk
  obtain ⟨ao, c, rfl, h1, h2, HA⟩ := hv
  unfold maxLen at h2
  generalize hn : xs.length = n at *
  replace HA := Lib.hid HA
  replace hn := Lib.hid hn
  replace hk := Lib.hid hk
  go_enter Tryd.func61, Tryd.ntmps61
  go_wp2
  go_loopw [3, 4] (fun o iv wr => ∃ i q : Nat, i ≤ n ∧ iv = .int .i64 (i : Nat) ∧ o = .string (tK xs i) ∧ wr = w.drewN q) (fun _ iv _ => n - (intOf iv).toNat)
  case atStart => exact ⟨0, 0, Nat.zero_le _, rfl, rfl, rfl⟩
  case round =>
    obtain ⟨i, q, hi, rfl, rfl, rfl⟩ := hrel
    have hs := hsz.out i hi
    by_cases hlt : i < n
    · have hT := hst.out i hlt
      have hs1 := hsz.out (i + 1) hlt
      obtain ⟨hf0, hf5⟩ := hfl.out i hlt
      obtain ⟨b, off, rfl, hR⟩ := HA.out (by omega)
      obtain ⟨hc1, hc2, hc3, hc4⟩ := hR i hlt
      clear hR
      generalize hT0 : tK xs i = T0 at *
      generalize hT1 : tK xs (i + 1) = T1 at *
      generalize hx : gk xs i = x at *
      obtain ⟨x1, x2, x3, x4⟩ := x
      dsimp only at hc1 hc2 hc3 hc4 hT hf0 hf5
      have hl7 := itoa_len7 (n := x1) (by rw [decB_iff]; omega)
      rw [← strB_size] at hl7
      replace hx := Lib.hid hx
      replace hT0 := Lib.hid hT0
      replace hT1 := Lib.hid hT1
      replace hT := Lib.hid hT
      have hnum := Lib.hid (fun w => l1Num_any x1 w (by omega))
      have hcs : comma.size = 1 := rfl
      have hT0s : T0.size ≤ 100 := by omega
      clear hs hs1
      generalize hIt : strB (Lib.itoa x1) = It at *
      replace hIt := Lib.hid hIt
      by_cases hi0 : 0 < i
      · have hi0i : (0 : Int) < (i : Int) := by omega
        rw [if_pos hi0] at hT
        cases x2 <;> cases x3 <;> cases x4
        all_goals
          go_wp2_with fail
          refine (hnum.out _).mono ?_
          rintro e w' ⟨rfl, q2, rfl⟩
          go_wp2
          go_roundw
          case rel => exact ⟨i + 1, _, by omega, by go_num, by rw [hT1.out, hT.out]; rfl, by first | rfl | exact World.drewN_drewN ..⟩
          case measure => simp [intOf]; omega
      · have hi0i : ¬ (0 : Int) < (i : Int) := by omega
        rw [if_neg hi0] at hT
        cases x2 <;> cases x3 <;> cases x4
        all_goals
          go_wp2_with fail
          refine (hnum.out _).mono ?_
          rintro e w' ⟨rfl, q2, rfl⟩
          go_wp2
          go_roundw
          case rel => exact ⟨i + 1, _, by omega, by go_num, by rw [hT1.out, hT.out]; rfl, by first | rfl | exact World.drewN_drewN ..⟩
          case measure => simp [intOf]; omega
    · obtain rfl : i = n := by omega
      go_wp2
      go_ret
      exact ⟨rfl, q, rfl⟩

set_option maxHeartbeats 1000000 in
theorem spec_FormatSpecs_law {v : Value} {x : List KS} {F : List Nat} {w : World} (r : RKeySpecS w v x F) :
    Calls Tryd.prog 12 #[v] w fun e w' => e = .returned (.tuple #[.string (fsR x).1, .bool (fsR x).2]) ∧ Below w.heap.size w w' := by
  have hv := Lib.hid r.rd
  clear r
  cases h : okK x
  · have e0 : fsR x = (ByteArray.empty, false) := by simp [fsR, h]
    rw [e0]
    replace h := Lib.hid h
    clear e0
    go_enter Tryd.func12, Tryd.ntmps12
    go_wp2_with fail
    refine (l2Specs_any _ _ _ hv.out).mono ?_
    rintro e w1 ⟨rfl, rfl⟩
    rw [h.out]
    go_wp2
    go_ret2
    exact ⟨rfl, Below.refl _ _⟩
  · have e0 : fsR x = (tK x x.length, true) := by simp [fsR, h]
    rw [e0]
    have ht := Lib.hid (l2Text_any _ x w hv.out h)
    replace h := Lib.hid h
    clear e0
    go_enter Tryd.func12, Tryd.ntmps12
    go_wp2_with fail
    refine (l2Specs_any _ _ _ hv.out).mono ?_
    rintro e w1 ⟨rfl, rfl⟩
    rw [h.out]
    go_wp2_with fail
    refine ht.out.mono ?_
    rintro e w2 ⟨rfl, hq⟩
    have hb := Lib.hid (Below.quiet hq)
    clear hq
    go_wp2
    go_ret2
    exact ⟨rfl, hb.out⟩
end Go.Proofs.YtoeonplbgbgjmaaDoor
