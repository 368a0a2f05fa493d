/- SelectionSort. -/
import Derived.Test.YtdhcpoeopooejaaCopy
import Derived.Test.YtdhcpoeopooejaaInv
import Derived.BigRegion
import Derived.RegionTactic
namespace Go.Proofs.Ytdhcpoeopooejaa
open Go.RowKit
set_option linter.unusedVariables false
set_option linter.unusedSimpArgs false

/-- The place of the least of elements i .. i + j. -/
def selL (l : List Int) (i : Nat) : Nat → Nat
  | 0 => i
  | j + 1 => if gi l (i + 1 + j) < gi l (selL l i j) then i + 1 + j else selL l i j
theorem selL_bd (l : List Int) (i j : Nat) : i ≤ selL l i j ∧ selL l i j ≤ i + j := by
  induction j with
  | zero => simp [selL]
  | succ j ih => rw [selL]; split <;> omega
def selEnd (s : List Int × Nat) (i m : Nat) : List Int × Nat := if m = i then s else (swp s.1 i m, s.2 + 1)
def selK (l : List Int) : Nat → List Int × Nat
  | 0 => (l, 0)
  | k + 1 => selEnd (selK l k) k (selL (selK l k).1 k ((selK l k).1.length - 1 - k))
theorem selEnd_length (s : List Int × Nat) (i m : Nat) : (selEnd s i m).1.length = s.1.length := by unfold selEnd; split <;> simp
theorem selK_length (l : List Int) (k : Nat) : (selK l k).1.length = l.length := by
  induction k with
  | zero => rfl
  | succ k ih => rw [selK, selEnd_length, ih]
/-- The result of SelectionSort. -/
def selR (x : List Int) : List Int × Nat × Bool := if vlist x then ((selK x x.length).1, (selK x x.length).2, true) else ([], 0, false)
theorem selR_len (x : List Int) : (selR x).1.length ≤ 100000000000 := by
  unfold selR
  split
  · rename_i h
    have := (vlist_iff.1 h).1
    dsimp only
    rw [selK_length]; omega
  · simp

set_option maxHeartbeats 4000000 in
theorem impl_SelectionSort_law {v : Value} {x : List Int} {F : List Nat} {w : World} (r : RIntS w v x F) :
    Calls Try.prog 46 #[v] w fun e w' => ∃ r F, e = .returned (.tuple #[r, .int .i64 (selR x).2.1, .bool (selR x).2.2]) ∧ RIntS w' r (selR x).1 F ∧ Fr w.heap.size F ∧ Below w.heap.size w w' ∧ (selR x).1.length ≤ 100000000000 := by
  have hv := Lib.hid r.1
  have hlen := Lib.hid (selR_len x)
  clear r
  cases h : vlist x
  · have e0 : selR x = ([], 0, false) := by simp [selR, h]
    rw [e0] at hlen ⊢
    clear e0
    go_enter Try.func46, Try.ntmps46
    go_wp2_with fail
    refine (isValidList_any _ _ _ (Sl.rd hv.out)).mono ?_
    rintro e w1 ⟨rfl, hb⟩
    replace hb := Lib.hid hb
    go_wp2
    go_ret3
    exact ⟨_, _, rfl, (Fresh.nil hb.out).law.1, (Fresh.nil hb.out).law.2.1, (Fresh.nil hb.out).law.2.2, hlen.out⟩
  · have e0 : selR x = ((selK x x.length).1, (selK x x.length).2, true) := by simp [selR, h]
    have hl := (vlist_iff.1 h).1
    rw [e0] at hlen ⊢
    clear e0
    go_enter Try.func46, Try.ntmps46
    go_wp2_with fail
    refine (isValidList_any _ _ _ (Sl.rd hv.out)).mono ?_
    rintro e w1 ⟨rfl, hb⟩
    replace hv := Lib.hid (hv.out.below hb hv.out.lt)
    replace hb := Lib.hid hb
    go_wp2_with fail
    refine (copyInt_any _ _ _ hv.out (by omega)).mono ?_
    rintro e w2 ⟨r, rfl, hf⟩
    obtain ⟨ao, c, rfl, _⟩ := hf.shape
    have hsl0 := Lib.hid hf.sl
    replace hf := Lib.hid hf
    have hkl := Lib.hid (selK_length x)
    have hst : ∀ k, selK x (k + 1) = selEnd (selK x k) k (selL (selK x k).1 k ((selK x k).1.length - 1 - k)) := fun k => rfl
    replace hst := Lib.hid hst
    generalize hn : x.length = n at *
    replace hn := Lib.hid hn
    go_wp2
    go_loopw [6, 17] (fun s i wr => ∃ k : Nat, k ≤ n ∧ i = .int .i64 k ∧ s = .int .i64 (selK x k).2 ∧ (selK x k).2 ≤ k ∧ Sl wr 3 (.slice ao n c) (ints (selK x k).1) ∧ Ex (Value.slice ao n c).ownBlock.toList w2 wr) (fun _ i _ => n - (intOf i).toNat)
    case atStart => exact ⟨0, Nat.zero_le _, rfl, rfl, Nat.le_refl _, hsl0.out, Ex.refl _ _⟩
    case round =>
      obtain ⟨wo, rfl⟩ : ∃ wo : World, wo = wr := ⟨_, rfl⟩
      obtain ⟨k, hk, rfl, rfl, hsk, hsl, hex⟩ := hrel
      have hsk1 := hst.out k
      have hll := hkl.out k
      generalize hK1 : selK x (k + 1) = K1 at *
      generalize hK : selK x k = K at *
      obtain ⟨l, s⟩ := K
      dsimp only at hsk hsl hsk1 hll ⊢
      rw [hll] at hsk1
      replace hK1 := Lib.hid hK1
      replace hK := Lib.hid hK
      replace hsk1 := Lib.hid hsk1
      replace hll := Lib.hid hll
      by_cases hlt : k < n
      · obtain ⟨b, off, rfl, _, hR⟩ := hsl.rowInts (by omega)
        have hcell : ∀ i, i < n → wo.cell? ⟨b, off + i, none⟩ = some (.int .i64 (gi l i)) := fun i hi => hR.cellInt (by rw [hll.out]; omega)
        have hfr := Lib.hid hR.frozen
        clear hR
        replace hcell := Lib.hid hcell
        replace hsl := Lib.hid hsl
        replace hex := Lib.hid hex
        go_wp2
        go_loopw [8, 9] (fun m kk wr => ∃ j q : Nat, j ≤ n - 1 - k ∧ kk = .int .i64 (k + 1 + j : Nat) ∧ m = .int .i64 (selL l k j) ∧ wr = wo.drewN q) (fun _ kk _ => n - (intOf kk).toNat)
        case atStart => exact ⟨0, 0, Nat.zero_le _, by go_num, rfl, rfl⟩
        case round =>
          obtain ⟨j, q, hj, rfl, rfl, rfl⟩ := hrel
          have hbd := selL_bd l k j
          have hs1 : selL l k (j + 1) = if gi l (k + 1 + j) < gi l (selL l k j) then k + 1 + j else selL l k j := rfl
          by_cases hlt2 : j < n - 1 - k
          · obtain ⟨i, hi⟩ : ∃ i, i = k + 1 + j := ⟨_, rfl⟩
            rw [← hi] at hs1 ⊢
            have hi1 : i < n := by omega
            have hi2 : k + 1 + j ≤ i := by omega
            generalize hM : selL l k j = M at *
            generalize hM1 : selL l k (j + 1) = M1 at *
            have hc1 := hcell.out i hi1
            have hc2 := hcell.out M (by omega)
            generalize hx : gi l i = X at *
            generalize hy : gi l M = Y at *
            replace hi := Lib.hid hi
            replace hM := Lib.hid hM
            replace hM1 := Lib.hid hM1
            replace hx := Lib.hid hx
            replace hy := Lib.hid hy
            have hp1 : (0 : Int) ≤ (i : Int) := by omega
            have hp2 : (0 : Int) ≤ (M : Int) := by omega
            by_cases hxy : X < Y
            · rw [if_pos hxy] at hs1
              replace hs1 := Lib.hid hs1
              go_wp2
              go_quiet (fail)
              go_wp2
              go_roundw
              case rel => exact ⟨j + 1, _, by omega, by have := hi.out; go_num, by rw [hM1.out, hs1.out], rfl⟩
              case measure => simp [intOf]; omega
            · rw [if_neg hxy] at hs1
              replace hs1 := Lib.hid hs1
              go_wp2
              go_quiet (fail)
              go_wp2
              go_roundw
              case rel => exact ⟨j + 1, _, by omega, by have := hi.out; go_num, by rw [hM1.out, hs1.out], rfl⟩
              case measure => simp [intOf]; omega
          · have hj2 : j = n - 1 - k := by omega
            have hkn : ((k + 1 + j : Nat) : Int) = (n : Int) := by omega
            have hsk2 := hsk1.out
            rw [← hj2] at hsk2
            rw [hkn]
            clear hs1 hkn hj2
            generalize hM : selL l k j = M at *
            replace hM := Lib.hid hM
            by_cases hMk : M = k
            · have hE := Lib.hid (show K1 = (l, s) by rw [hsk2, selEnd, if_pos hMk])
              clear hsk2
              subst hMk
              go_wp2
              go_roundw
              case rel => exact ⟨M + 1, by omega, by go_num, by rw [hK1.out, hE.out], by rw [hK1.out, hE.out]; dsimp only; omega, by rw [hK1.out, hE.out]; exact hsl.out, Ex.drewN hex.out _⟩
              case measure => simp [intOf]; omega
            · have hE := Lib.hid (show K1 = (swp l k M, s + 1) by rw [hsk2, selEnd, if_neg hMk])
              clear hsk2
              have hc1 := hcell.out k (by omega)
              have hc2 := hcell.out M (by omega)
              have hset := Lib.hid ((hsl.out.setInt (i := k) (by omega) (gi l M)).setInt (i := M) (by omega) (gi l k))
              have hf1 := hfr.out (off + k)
              have hf2 := hfr.out (off + M)
              generalize hx : gi l k = X at *
              generalize hy : gi l M = Y at *
              replace hx := Lib.hid hx
              replace hy := Lib.hid hy
              have hne : ((M : Int) != (k : Int)) = true := by rw [bne_iff_ne]; omega
              have hp1 : (0 : Int) ≤ (k : Int) := by omega
              have hp2 : (0 : Int) ≤ (M : Int) := by omega
              go_wp2
              go_region
              go_wp2
              go_roundw
              case rel => exact ⟨k + 1, by omega, by go_num, by rw [hK1.out, hE.out]; go_num, by rw [hK1.out, hE.out]; dsimp only; omega, by rw [hK1.out, hE.out]; unfold swp; rw [hx.out, hy.out]; exact hset.out, Ex.setIn (p := ⟨b, off + M, none⟩) (Ex.setIn (p := ⟨b, off + k, none⟩) (Ex.drewN hex.out _) (by simp [Value.ownBlock])) (by simp [Value.ownBlock])⟩
              case measure => simp [intOf]; omega
      · obtain rfl : k = n := by omega
        replace hsl := Lib.hid hsl
        replace hex := Lib.hid hex
        go_wp2
        go_ret3
        have hfin := FreshOwn.wrote hb.out hf.out hsl.out hex.out
        have hlen2 := hlen.out
        rw [hK.out] at hlen2
        rw [hn.out, hK.out]
        exact ⟨_, _, rfl, hfin.law.1, hfin.law.2.1, hfin.law.2.2, hlen2⟩

set_option maxHeartbeats 4000000 in
theorem spec_SelectionSort_law {v : Value} {x : List Int} {F : List Nat} {w : World} (r : RIntS w v x F) :
    Calls Try.prog 47 #[v] w fun e w' => ∃ r F, e = .returned (.tuple #[r, .int .i64 (selR x).2.1, .bool (selR x).2.2]) ∧ RIntS w' r (selR x).1 F ∧ Fr w.heap.size F ∧ Below w.heap.size w w' ∧ (selR x).1.length ≤ 100000000000 := by
  have hv := Lib.hid r.1
  have hlen := Lib.hid (selR_len x)
  clear r
  cases h : vlist x
  · have e0 : selR x = ([], 0, false) := by simp [selR, h]
    rw [e0] at hlen ⊢
    clear e0
    go_enter Try.func47, Try.ntmps47
    go_wp2_with fail
    refine (l2List_any _ _ _ (Sl.rd hv.out)).mono ?_
    rintro e w1 ⟨rfl, hb0⟩
    obtain hb : Below w.heap.size w w1 := hb0 ▸ Below.refl _ _
    replace hb := Lib.hid hb
    go_wp2
    go_ret3
    exact ⟨_, _, rfl, (Fresh.empty hb.out).law.1, (Fresh.empty hb.out).law.2.1, (Fresh.empty hb.out).law.2.2, hlen.out⟩
  · have e0 : selR x = ((selK x x.length).1, (selK x x.length).2, true) := by simp [selR, h]
    have hl := (vlist_iff.1 h).1
    rw [e0] at hlen ⊢
    clear e0
    go_enter Try.func47, Try.ntmps47
    go_wp2_with fail
    refine (l2List_any _ _ _ (Sl.rd hv.out)).mono ?_
    rintro e w1 ⟨rfl, hb0⟩
    obtain hb : Below w.heap.size w w1 := hb0 ▸ Below.refl _ _
    replace hv := Lib.hid (hv.out.below hb hv.out.lt)
    replace hb := Lib.hid hb
    go_wp2_with fail
    refine (l1Own_any _ _ _ hv.out (by omega)).mono ?_
    rintro e w2 ⟨r, rfl, hf⟩
    obtain ⟨ao, c, rfl, _⟩ := hf.shape
    have hsl0 := Lib.hid hf.sl
    replace hf := Lib.hid hf
    have hkl := Lib.hid (selK_length x)
    have hst : ∀ k, selK x (k + 1) = selEnd (selK x k) k (selL (selK x k).1 k ((selK x k).1.length - 1 - k)) := fun k => rfl
    replace hst := Lib.hid hst
    generalize hn : x.length = n at *
    replace hn := Lib.hid hn
    go_wp2
    go_loopw [6, 7] (fun s i wr => ∃ k : Nat, k ≤ n ∧ i = .int .i64 k ∧ s = .int .i64 (selK x k).2 ∧ (selK x k).2 ≤ k ∧ Sl wr 3 (.slice ao n c) (ints (selK x k).1) ∧ Ex (Value.slice ao n c).ownBlock.toList w2 wr) (fun _ i _ => n - (intOf i).toNat)
    case atStart => exact ⟨0, Nat.zero_le _, rfl, rfl, Nat.le_refl _, hsl0.out, Ex.refl _ _⟩
    case round =>
      obtain ⟨wo, rfl⟩ : ∃ wo : World, wo = wr := ⟨_, rfl⟩
      obtain ⟨k, hk, rfl, rfl, hsk, hsl, hex⟩ := hrel
      have hsk1 := hst.out k
      have hll := hkl.out k
      generalize hK1 : selK x (k + 1) = K1 at *
      generalize hK : selK x k = K at *
      obtain ⟨l, s⟩ := K
      dsimp only at hsk hsl hsk1 hll ⊢
      rw [hll] at hsk1
      replace hK1 := Lib.hid hK1
      replace hK := Lib.hid hK
      replace hsk1 := Lib.hid hsk1
      replace hll := Lib.hid hll
      by_cases hlt : k < n
      · obtain ⟨b, off, rfl, _, hR⟩ := hsl.rowInts (by omega)
        have hcell : ∀ i, i < n → wo.cell? ⟨b, off + i, none⟩ = some (.int .i64 (gi l i)) := fun i hi => hR.cellInt (by rw [hll.out]; omega)
        have hfr := Lib.hid hR.frozen
        clear hR
        replace hcell := Lib.hid hcell
        replace hsl := Lib.hid hsl
        replace hex := Lib.hid hex
        go_wp2
        go_loopw [8, 9] (fun m kk wr => ∃ j q : Nat, j ≤ n - 1 - k ∧ kk = .int .i64 (k + 1 + j : Nat) ∧ m = .int .i64 (selL l k j) ∧ wr = wo.drewN q) (fun _ kk _ => n - (intOf kk).toNat)
        case atStart => exact ⟨0, 0, Nat.zero_le _, by go_num, rfl, rfl⟩
        case round =>
          obtain ⟨j, q, hj, rfl, rfl, rfl⟩ := hrel
          have hbd := selL_bd l k j
          have hs1 : selL l k (j + 1) = if gi l (k + 1 + j) < gi l (selL l k j) then k + 1 + j else selL l k j := rfl
          by_cases hlt2 : j < n - 1 - k
          · obtain ⟨i, hi⟩ : ∃ i, i = k + 1 + j := ⟨_, rfl⟩
            rw [← hi] at hs1 ⊢
            have hi1 : i < n := by omega
            have hi2 : k + 1 + j ≤ i := by omega
            generalize hM : selL l k j = M at *
            generalize hM1 : selL l k (j + 1) = M1 at *
            have hc1 := hcell.out i hi1
            have hc2 := hcell.out M (by omega)
            generalize hx : gi l i = X at *
            generalize hy : gi l M = Y at *
            replace hi := Lib.hid hi
            replace hM := Lib.hid hM
            replace hM1 := Lib.hid hM1
            replace hx := Lib.hid hx
            replace hy := Lib.hid hy
            have hp1 : (0 : Int) ≤ (i : Int) := by omega
            have hp2 : (0 : Int) ≤ (M : Int) := by omega
            by_cases hxy : X < Y
            · rw [if_pos hxy] at hs1
              replace hs1 := Lib.hid hs1
              go_wp2
              go_quiet (fail)
              go_wp2
              go_roundw
              case rel => exact ⟨j + 1, _, by omega, by have := hi.out; go_num, by rw [hM1.out, hs1.out], rfl⟩
              case measure => simp [intOf]; omega
            · rw [if_neg hxy] at hs1
              replace hs1 := Lib.hid hs1
              go_wp2
              go_quiet (fail)
              go_wp2
              go_roundw
              case rel => exact ⟨j + 1, _, by omega, by have := hi.out; go_num, by rw [hM1.out, hs1.out], rfl⟩
              case measure => simp [intOf]; omega
          · have hj2 : j = n - 1 - k := by omega
            have hkn : ((k + 1 + j : Nat) : Int) = (n : Int) := by omega
            have hsk2 := hsk1.out
            rw [← hj2] at hsk2
            rw [hkn]
            clear hs1 hkn hj2
            generalize hM : selL l k j = M at *
            replace hM := Lib.hid hM
            by_cases hMk : M = k
            · have hE := Lib.hid (show K1 = (l, s) by rw [hsk2, selEnd, if_pos hMk])
              clear hsk2
              subst hMk
              go_wp2
              go_roundw
              case rel => exact ⟨M + 1, by omega, by go_num, by rw [hK1.out, hE.out], by rw [hK1.out, hE.out]; dsimp only; omega, by rw [hK1.out, hE.out]; exact hsl.out, Ex.drewN hex.out _⟩
              case measure => simp [intOf]; omega
            · have hE := Lib.hid (show K1 = (swp l k M, s + 1) by rw [hsk2, selEnd, if_neg hMk])
              clear hsk2
              have hc1 := hcell.out k (by omega)
              have hc2 := hcell.out M (by omega)
              have hset := Lib.hid ((hsl.out.setInt (i := k) (by omega) (gi l M)).setInt (i := M) (by omega) (gi l k))
              have hf1 := hfr.out (off + k)
              have hf2 := hfr.out (off + M)
              generalize hx : gi l k = X at *
              generalize hy : gi l M = Y at *
              replace hx := Lib.hid hx
              replace hy := Lib.hid hy
              have hne : ((M : Int) != (k : Int)) = true := by rw [bne_iff_ne]; omega
              have hp1 : (0 : Int) ≤ (k : Int) := by omega
              have hp2 : (0 : Int) ≤ (M : Int) := by omega
              go_wp2
              go_roundw
              case rel => exact ⟨k + 1, by omega, by go_num, by rw [hK1.out, hE.out]; go_num, by rw [hK1.out, hE.out]; dsimp only; omega, by rw [hK1.out, hE.out]; unfold swp; rw [hx.out, hy.out]; exact hset.out, Ex.setIn (p := ⟨b, off + M, none⟩) (Ex.setIn (p := ⟨b, off + k, none⟩) (Ex.drewN hex.out _) (by simp [Value.ownBlock])) (by simp [Value.ownBlock])⟩
              case measure => simp [intOf]; omega
      · obtain rfl : k = n := by omega
        replace hsl := Lib.hid hsl
        replace hex := Lib.hid hex
        go_wp2
        go_ret3
        have hfin := FreshOwn.wrote hb.out hf.out hsl.out hex.out
        have hlen2 := hlen.out
        rw [hK.out] at hlen2
        rw [hn.out, hK.out]
        exact ⟨_, _, rfl, hfin.law.1, hfin.law.2.1, hfin.law.2.2, hlen2⟩
end Go.Proofs.Ytdhcpoeopooejaa
