/- BubblePasses. -/
import Derived.Test.YtdhcpoeopooejaaCopy
import Derived.Test.YtdhcpoeopooejaaInv
import Derived.BigRegion
import Derived.RegionTactic
namespace Go.Proofs.Ytdhcpoeopooejaa
open Go.RowKit
set_option linter.unusedVariables false
set_option linter.unusedSimpArgs false

/-- One comparison of neighbours. -/
def bubStep (s : List Int × Nat) (k : Nat) : List Int × Nat := if gi s.1 k > gi s.1 (k + 1) then (swp s.1 k (k + 1), s.2 + 1) else s
/-- The first k comparisons of a pass. -/
def bubK (l : List Int) (c : Nat) : Nat → List Int × Nat
  | 0 => (l, c)
  | k + 1 => bubStep (bubK l c k) k
/-- Passes until nothing changes. -/
def bubF : Nat → List Int → Nat → Nat → List Int × Nat × Nat
  | 0, l, p, c => (l, p, c)
  | f + 1, l, p, c => if (bubK l c (l.length - 1)).2 = c then ((bubK l c (l.length - 1)).1, p + 1, (bubK l c (l.length - 1)).2) else bubF f (bubK l c (l.length - 1)).1 (p + 1) (bubK l c (l.length - 1)).2
theorem bubStep_length (s : List Int × Nat) (k : Nat) : (bubStep s k).1.length = s.1.length := by unfold bubStep; split <;> simp
theorem bubK_length (l : List Int) (c k : Nat) : (bubK l c k).1.length = l.length := by
  induction k with
  | zero => rfl
  | succ k ih => rw [bubK, bubStep_length, ih]
theorem bubF_length (f : Nat) : ∀ (l : List Int) (p c : Nat), (bubF f l p c).1.length = l.length := by
  induction f with
  | zero => intros; rfl
  | succ f ih =>
    intro l p c
    rw [bubF]
    split
    · rw [bubK_length]
    · rw [ih, bubK_length]
/-- The exchanges so far and the inversions left are as many as before. -/
theorem bubK_inv (l : List Int) (c k : Nat) (hk : k + 1 ≤ l.length ∨ k = 0) : (bubK l c k).2 + invs (bubK l c k).1 = c + invs l ∧ c ≤ (bubK l c k).2 := by
  induction k with
  | zero => simp [bubK]
  | succ k ih =>
    have ih := ih (by omega)
    have hl := bubK_length l c k
    rw [bubK, bubStep]
    split
    · rename_i hgt
      have := invs_adj (bubK l c k).1 k (by omega) hgt
      dsimp only
      omega
    · exact ih
/-- The result of BubblePasses. -/
def bubR (x : List Int) : List Int × Nat × Nat × Bool := if vlist x then ((bubF (invs x + 1) x 0 0).1, (bubF (invs x + 1) x 0 0).2.1, (bubF (invs x + 1) x 0 0).2.2, true) else ([], 0, 0, false)
theorem bubR_len (x : List Int) : (bubR x).1.length ≤ 100000000000 := by
  unfold bubR
  split
  · rename_i h
    have := (vlist_iff.1 h).1
    dsimp only
    rw [bubF_length]; omega
  · simp
def boolOf : Value → Nat | .bool true => 1 | _ => 0
theorem invs_64 {x : List Int} (h : x.length ≤ 64) : invs x ≤ 4096 := by
  have h1 := invs_le x
  have := Nat.mul_le_mul h h
  omega

set_option maxHeartbeats 4000000 in
theorem impl_BubblePasses_law {v : Value} {x : List Int} {F : List Nat} {w : World} (r : RIntS w v x F) :
    Calls Try.prog 48 #[v] w fun e w' => ∃ r F, e = .returned (.tuple #[r, .int .i64 (bubR x).2.1, .int .i64 (bubR x).2.2.1, .bool (bubR x).2.2.2]) ∧ RIntS w' r (bubR x).1 F ∧ Fr w.heap.size F ∧ Below w.heap.size w w' ∧ (bubR x).1.length ≤ 100000000000 := by
  have hv := Lib.hid r.1
  have hlen := Lib.hid (bubR_len x)
  clear r
  cases h : vlist x
  · have e0 : bubR x = ([], 0, 0, false) := by simp [bubR, h]
    rw [e0] at hlen ⊢
    clear e0
    go_enter Try.func48, Try.ntmps48
    go_wp2_with fail
    refine (isValidList_any _ _ _ (Sl.rd hv.out)).mono ?_
    rintro e w1 ⟨rfl, hb⟩
    replace hb := Lib.hid hb
    go_wp2
    refine bodyPost_ret (results_tmp4 rfl _ _ _) rfl ?_
    exact ⟨_, _, rfl, (Fresh.nil hb.out).law.1, (Fresh.nil hb.out).law.2.1, (Fresh.nil hb.out).law.2.2, hlen.out⟩
  · have e0 : bubR x = ((bubF (invs x + 1) x 0 0).1, (bubF (invs x + 1) x 0 0).2.1, (bubF (invs x + 1) x 0 0).2.2, true) := by simp [bubR, h]
    have hl := (vlist_iff.1 h).1
    have hN := invs_64 hl
    rw [e0] at hlen ⊢
    clear e0
    have hrefl := Lib.hid (rfl : bubF (invs x + 1) x 0 0 = bubF (invs x + 1) x 0 0)
    generalize hR : bubF (invs x + 1) x 0 0 = R at hlen ⊢
    replace hR := Lib.hid hR
    clear hrefl
    go_enter Try.func48, Try.ntmps48
    go_wp2_with fail
    refine (isValidList_any _ _ _ (Sl.rd hv.out)).mono ?_
    rintro e w1 ⟨rfl, hb⟩
    replace hv := Lib.hid (hv.out.below hb hv.out.lt)
    replace hb := Lib.hid hb
    go_wp2_with fail
    refine (copyInt_any _ _ _ hv.out (by omega)).mono ?_
    rintro e w2 ⟨r, rfl, hf⟩
    obtain ⟨ao, cap, rfl, _⟩ := hf.shape
    have hsl0 := Lib.hid hf.sl
    replace hf := Lib.hid hf
    generalize hNN : invs x = N at *
    replace hNN := Lib.hid hNN
    generalize hn : x.length = n at *
    replace hn := Lib.hid hn
    go_wp2
    go_loopw [7, 8, 9] (fun p cc ch wr => ∃ (f pp c : Nat) (l : List Int), p = .int .i64 pp ∧ cc = .int .i64 c ∧ l.length = n ∧ pp ≤ 5000 ∧ c ≤ 5000 ∧ Sl wr 3 (.slice ao n cap) (ints l) ∧ Ex (Value.slice ao n cap).ownBlock.toList w2 wr ∧
        ((ch = .bool true ∧ bubF f l pp c = R ∧ invs l < f ∧ c + invs l = N ∧ pp ≤ c) ∨ (ch = .bool false ∧ (l, pp, c) = R))) (fun _ cc ch _ => 2 * (N - (intOf cc).toNat) + boolOf ch)
    case atStart => exact ⟨N + 1, 0, 0, x, rfl, rfl, hn.out, by omega, by omega, hsl0.out, Ex.refl _ _, .inl ⟨rfl, hR.out, by rw [hNN.out]; omega, by rw [hNN.out]; omega, Nat.le_refl _⟩⟩
    case round =>
      obtain ⟨wo, rfl⟩ : ∃ wo : World, wo = wr := ⟨_, rfl⟩
      obtain ⟨f, pp, c, l, rfl, rfl, hll, hp5, hc5, hsl, hex, hor⟩ := hrel
      replace hll := Lib.hid hll
      replace hsl := Lib.hid hsl
      replace hex := Lib.hid hex
      rcases hor with ⟨rfl, hF, hfu, hcN, hpc⟩ | ⟨rfl, hF⟩
      rotate_left
      · replace hF := Lib.hid hF
        go_wp2
        refine bodyPost_ret (results_tmp4 rfl _ _ _) rfl ?_
        have hfin := FreshOwn.wrote hb.out hf.out hsl.out hex.out
        rw [← hF.out] at hlen ⊢
        exact ⟨_, _, rfl, hfin.law.1, hfin.law.2.1, hfin.law.2.2, hlen.out⟩
      cases f with
      | zero => omega
      | succ f =>
      replace hF := Lib.hid hF
      replace hcN := Lib.hid hcN
      have hcN2 : c + invs l ≤ N := by rw [hcN.out]; exact Nat.le_refl _
      go_wp2
      go_loopw [8, 9, 10] (fun cc ch ii wr => ∃ k : Nat, (k + 1 ≤ n ∨ k = 0) ∧ ii = .int .i64 (k + 1 : Nat) ∧ cc = .int .i64 (bubK l c k).2 ∧ ch = .bool (decide ((bubK l c k).2 ≠ c)) ∧ Sl wr 3 (.slice ao n cap) (ints (bubK l c k).1) ∧ Ex (Value.slice ao n cap).ownBlock.toList w2 wr) (fun _ _ ii _ => n + 1 - (intOf ii).toNat)
      case atStart => exact ⟨0, .inr rfl, rfl, rfl, by simp [bubK], hsl.out, hex.out⟩
      case round =>
        clear hsl hex
        obtain ⟨wi, rfl⟩ : ∃ wi : World, wi = wr := ⟨_, rfl⟩
        obtain ⟨k, hk, rfl, rfl, rfl, hs2, hx2⟩ := hrel
        have hki := (bubK_inv l c k (by rw [hll.out]; omega)).1
        have hkc := (bubK_inv l c k (by rw [hll.out]; omega)).2
        have hkl := bubK_length l c k
        have hks : bubK l c (k + 1) = bubStep (bubK l c k) k := rfl
        generalize hb1 : bubK l c (k + 1) = B1 at *
        generalize hbk : bubK l c k = Bk at *
        obtain ⟨l', c'⟩ := Bk
        dsimp only at hki hkc hkl hs2 ⊢
        replace hb1 := Lib.hid hb1
        replace hbk := Lib.hid hbk
        replace hks := Lib.hid hks
        rw [hll.out] at hkl
        by_cases hlt : k + 1 < n
        · obtain ⟨b, off, rfl, _, hR⟩ := hs2.rowInts (by omega)
          have hc1 : wi.cell? ⟨b, off + k, none⟩ = some (.int .i64 (gi l' k)) := hR.cellInt (by omega)
          have hc2 : wi.cell? ⟨b, off + (k + 1), none⟩ = some (.int .i64 (gi l' (k + 1))) := hR.cellInt (by omega)
          have hf1 := hR.frozen (off + k)
          have hf2 := hR.frozen (off + (k + 1))
          clear hR
          have hset := Lib.hid ((hs2.setInt (i := k) (by omega) (gi l' (k + 1))).setInt (i := k + 1) (by omega) (gi l' k))
          have hi2 : ((k + 1 : Nat) : Int) - 1 = (k : Int) := by omega
          have hi4 : (0 : Int) ≤ (k : Int) := by omega
          replace hkl := Lib.hid hkl
          replace hs2 := Lib.hid hs2
          replace hx2 := Lib.hid hx2
          replace hki := Lib.hid hki
          have hcb : c' ≤ 5000 := by have := hki.out; omega
          have hE1 : gi l' k > gi l' (k + 1) → B1 = (swp l' k (k + 1), c' + 1) := fun hh => by rw [hks.out, bubStep, if_pos hh]
          have hE0 : ¬ gi l' k > gi l' (k + 1) → B1 = (l', c') := fun hh => by rw [hks.out, bubStep, if_neg hh]
          have hch : decide (c' + 1 ≠ c) = true := by simp; omega
          replace hch := Lib.hid hch
          generalize hx : gi l' k = X at *
          generalize hy : gi l' (k + 1) = Y at *
          replace hx := Lib.hid hx
          replace hy := Lib.hid hy
          by_cases hxy : X > Y
          · have hE := Lib.hid (hE1 hxy)
            clear hE1 hE0
            go_wp2
            go_quiet (fail)
            go_wp2
            go_region
            go_wp2
            clear hi2
            go_roundw
            case rel => exact ⟨k + 1, by omega, by go_num, by rw [hb1.out, hE.out]; go_num, by rw [hb1.out, hE.out]; dsimp only; rw [hch.out], by rw [hb1.out, hE.out]; unfold swp; rw [hx.out, hy.out]; exact hset.out, Ex.setIn (p := ⟨b, off + (k + 1), none⟩) (Ex.setIn (p := ⟨b, off + k, none⟩) (Ex.drewN hx2.out _) (by simp [Value.ownBlock])) (by simp [Value.ownBlock])⟩
            case measure => simp [intOf]; omega
          · have hE := Lib.hid (hE0 hxy)
            clear hE1 hE0
            go_wp2
            go_quiet (fail)
            clear hi2
            go_wp2
            go_roundw
            case rel => exact ⟨k + 1, by omega, by go_num, by rw [hb1.out, hE.out], by rw [hb1.out, hE.out]; simp, by rw [hb1.out, hE.out]; exact hs2.out, Ex.drewN hx2.out _⟩
            case measure => simp [intOf]; omega
        · have hkn : k = n - 1 := by omega
          have hbn : bubK l c (l.length - 1) = (l', c') := by rw [hll.out, ← hkn, hbk.out]
          have hF2 := hF.out
          rw [bubF, hbn] at hF2
          dsimp only at hF2
          have hcN3 := hcN.out
          replace hbn := True.intro
          replace hs2 := Lib.hid hs2
          replace hx2 := Lib.hid hx2
          replace hkl := Lib.hid hkl
          by_cases hcc : c' = c
          · rw [if_pos hcc] at hF2
            have hch : decide (c' ≠ c) = false := by simp [hcc]
            replace hF2 := Lib.hid hF2
            rw [hch]
            clear hki hcN3 hch
            go_wp2
            go_roundw
            case rel => exact ⟨f, pp + 1, c', l', by go_num, rfl, hkl.out, by omega, by omega, hs2.out, hx2.out, .inr ⟨rfl, hF2.out⟩⟩
            case measure => simp [intOf, boolOf]; omega
          · rw [if_neg hcc] at hF2
            have hch : decide (c' ≠ c) = true := by simp [hcc]
            replace hF2 := Lib.hid hF2
            have hlt2 : c < c' := by omega
            have hcN4 : c' + invs l' = N := by omega
            have hfu2 : invs l' < f := by omega
            have hc'N : c' ≤ N := by omega
            replace hcN4 := Lib.hid hcN4
            rw [hch]
            clear hki hcN3 hch
            go_wp2
            go_roundw
            case rel => exact ⟨f, pp + 1, c', l', by go_num, rfl, hkl.out, by omega, by omega, hs2.out, hx2.out, .inl ⟨rfl, hF2.out, hfu2, hcN4.out, by omega⟩⟩
            case measure => simp [intOf, boolOf]; omega

set_option maxHeartbeats 4000000 in
theorem spec_BubblePasses_law {v : Value} {x : List Int} {F : List Nat} {w : World} (r : RIntS w v x F) :
    Calls Try.prog 49 #[v] w fun e w' => ∃ r F, e = .returned (.tuple #[r, .int .i64 (bubR x).2.1, .int .i64 (bubR x).2.2.1, .bool (bubR x).2.2.2]) ∧ RIntS w' r (bubR x).1 F ∧ Fr w.heap.size F ∧ Below w.heap.size w w' ∧ (bubR x).1.length ≤ 100000000000 := by
  have hv := Lib.hid r.1
  have hlen := Lib.hid (bubR_len x)
  clear r
  cases h : vlist x
  · have e0 : bubR x = ([], 0, 0, false) := by simp [bubR, h]
    rw [e0] at hlen ⊢
    clear e0
    go_enter Try.func49, Try.ntmps49
    go_wp2_with fail
    refine (l2List_any _ _ _ (Sl.rd hv.out)).mono ?_
    rintro e w1 ⟨rfl, hb0⟩
    obtain hb : Below w.heap.size w w1 := hb0 ▸ Below.refl _ _
    replace hb := Lib.hid hb
    go_wp2
    refine bodyPost_ret (results_tmp4 rfl _ _ _) rfl ?_
    exact ⟨_, _, rfl, (Fresh.empty hb.out).law.1, (Fresh.empty hb.out).law.2.1, (Fresh.empty hb.out).law.2.2, hlen.out⟩
  · have e0 : bubR x = ((bubF (invs x + 1) x 0 0).1, (bubF (invs x + 1) x 0 0).2.1, (bubF (invs x + 1) x 0 0).2.2, true) := by simp [bubR, h]
    have hl := (vlist_iff.1 h).1
    have hN := invs_64 hl
    rw [e0] at hlen ⊢
    clear e0
    have hrefl := Lib.hid (rfl : bubF (invs x + 1) x 0 0 = bubF (invs x + 1) x 0 0)
    generalize hR : bubF (invs x + 1) x 0 0 = R at hlen ⊢
    replace hR := Lib.hid hR
    clear hrefl
    go_enter Try.func49, Try.ntmps49
    go_wp2_with fail
    refine (l2List_any _ _ _ (Sl.rd hv.out)).mono ?_
    rintro e w1 ⟨rfl, hb0⟩
    obtain hb : Below w.heap.size w w1 := hb0 ▸ Below.refl _ _
    replace hv := Lib.hid (hv.out.below hb hv.out.lt)
    replace hb := Lib.hid hb
    go_wp2_with fail
    refine (l1Own_any _ _ _ hv.out (by omega)).mono ?_
    rintro e w2 ⟨r, rfl, hf⟩
    obtain ⟨ao, cap, rfl, _⟩ := hf.shape
    have hsl0 := Lib.hid hf.sl
    replace hf := Lib.hid hf
    generalize hNN : invs x = N at *
    replace hNN := Lib.hid hNN
    generalize hn : x.length = n at *
    replace hn := Lib.hid hn
    go_wp2
    go_loopw [7, 8] (fun p cc wr => ∃ (f pp c : Nat) (l : List Int), p = .int .i64 pp ∧ cc = .int .i64 c ∧ l.length = n ∧ pp ≤ 5000 ∧ c ≤ 5000 ∧ Sl wr 3 (.slice ao n cap) (ints l) ∧ Ex (Value.slice ao n cap).ownBlock.toList w2 wr ∧
        bubF f l pp c = R ∧ invs l < f ∧ c + invs l = N ∧ pp ≤ c) (fun _ cc _ => N - (intOf cc).toNat)
    case atStart => exact ⟨N + 1, 0, 0, x, rfl, rfl, hn.out, by omega, by omega, hsl0.out, Ex.refl _ _, hR.out, by rw [hNN.out]; omega, by rw [hNN.out]; omega, Nat.le_refl _⟩
    case round =>
      obtain ⟨wo, rfl⟩ : ∃ wo : World, wo = wr := ⟨_, rfl⟩
      obtain ⟨f, pp, c, l, rfl, rfl, hll, hp5, hc5, hsl, hex, hF, hfu, hcN, hpc⟩ := hrel
      replace hll := Lib.hid hll
      replace hsl := Lib.hid hsl
      replace hex := Lib.hid hex
      cases f with
      | zero => omega
      | succ f =>
      replace hF := Lib.hid hF
      replace hcN := Lib.hid hcN
      have hcN2 : c + invs l ≤ N := by rw [hcN.out]; exact Nat.le_refl _
      go_wp2
      go_loopw [8, 10] (fun cc ii wr => ∃ k : Nat, (k + 1 ≤ n ∨ k = 0) ∧ ii = .int .i64 k ∧ cc = .int .i64 (bubK l c k).2 ∧ Sl wr 3 (.slice ao n cap) (ints (bubK l c k).1) ∧ Ex (Value.slice ao n cap).ownBlock.toList w2 wr) (fun _ ii _ => n + 1 - (intOf ii).toNat)
      case atStart => exact ⟨0, .inr rfl, rfl, rfl, hsl.out, hex.out⟩
      case round =>
        clear hsl hex
        obtain ⟨wi, rfl⟩ : ∃ wi : World, wi = wr := ⟨_, rfl⟩
        obtain ⟨k, hk, rfl, rfl, hs2, hx2⟩ := hrel
        have hki := (bubK_inv l c k (by rw [hll.out]; omega)).1
        have hkc := (bubK_inv l c k (by rw [hll.out]; omega)).2
        have hkl := bubK_length l c k
        have hks : bubK l c (k + 1) = bubStep (bubK l c k) k := rfl
        generalize hb1 : bubK l c (k + 1) = B1 at *
        generalize hbk : bubK l c k = Bk at *
        obtain ⟨l', c'⟩ := Bk
        dsimp only at hki hkc hkl hs2 ⊢
        replace hb1 := Lib.hid hb1
        replace hbk := Lib.hid hbk
        replace hks := Lib.hid hks
        rw [hll.out] at hkl
        by_cases hlt : k + 1 < n
        · obtain ⟨b, off, rfl, _, hR⟩ := hs2.rowInts (by omega)
          have hc1 : wi.cell? ⟨b, off + k, none⟩ = some (.int .i64 (gi l' k)) := hR.cellInt (by omega)
          have hc2 : wi.cell? ⟨b, off + (k + 1), none⟩ = some (.int .i64 (gi l' (k + 1))) := hR.cellInt (by omega)
          have hf1 := hR.frozen (off + k)
          have hf2 := hR.frozen (off + (k + 1))
          clear hR
          have hset := Lib.hid ((hs2.setInt (i := k) (by omega) (gi l' (k + 1))).setInt (i := k + 1) (by omega) (gi l' k))
          have hi2 : IntKind.i64.wrap ((k : Int) + 1) = (k : Int) + 1 := IntWalk.i64_in _ (by omega)
          have hi3 : ((k : Int) + 1).toNat = k + 1 := by omega
          have hi4 : (0 : Int) ≤ (k : Int) := by omega
          have hi5 : (0 : Int) ≤ (k : Int) + 1 := by omega
          replace hkl := Lib.hid hkl
          replace hs2 := Lib.hid hs2
          replace hx2 := Lib.hid hx2
          replace hki := Lib.hid hki
          have hcb : c' ≤ 5000 := by have := hki.out; omega
          have hE1 : gi l' k > gi l' (k + 1) → B1 = (swp l' k (k + 1), c' + 1) := fun hh => by rw [hks.out, bubStep, if_pos hh]
          have hE0 : ¬ gi l' k > gi l' (k + 1) → B1 = (l', c') := fun hh => by rw [hks.out, bubStep, if_neg hh]
          
          generalize hx : gi l' k = X at *
          generalize hy : gi l' (k + 1) = Y at *
          replace hx := Lib.hid hx
          replace hy := Lib.hid hy
          by_cases hxy : X > Y
          · have hE := Lib.hid (hE1 hxy)
            clear hE1 hE0
            go_wp2
            go_quiet (fail)
            go_wp2
            clear hi2 hi3
            go_roundw
            case rel => exact ⟨k + 1, by omega, by go_num, by rw [hb1.out, hE.out]; go_num,  by rw [hb1.out, hE.out]; unfold swp; rw [hx.out, hy.out]; exact hset.out, Ex.setIn (p := ⟨b, off + (k + 1), none⟩) (Ex.setIn (p := ⟨b, off + k, none⟩) (Ex.drewN hx2.out _) (by simp [Value.ownBlock])) (by simp [Value.ownBlock])⟩
            case measure => simp [intOf]; omega
          · have hE := Lib.hid (hE0 hxy)
            clear hE1 hE0
            go_wp2
            go_quiet (fail)
            clear hi2 hi3
            go_wp2
            go_roundw
            case rel => exact ⟨k + 1, by omega, by go_num, by rw [hb1.out, hE.out],  by rw [hb1.out, hE.out]; exact hs2.out, Ex.drewN hx2.out _⟩
            case measure => simp [intOf]; omega
        · have hkn : k = n - 1 := by omega
          have hbn : bubK l c (l.length - 1) = (l', c') := by rw [hll.out, ← hkn, hbk.out]
          have hF2 := hF.out
          rw [bubF, hbn] at hF2
          dsimp only at hF2
          have hcN3 := hcN.out
          replace hbn := True.intro
          replace hs2 := Lib.hid hs2
          replace hx2 := Lib.hid hx2
          replace hkl := Lib.hid hkl
          by_cases hcc : c' = c
          · rw [if_pos hcc] at hF2
            replace hF2 := Lib.hid hF2
            have hch : ((c' : Int) == (c : Int)) = true := by simp [hcc]
            clear hki hcN3
            go_wp2
            refine bodyPost_ret (results_tmp4 rfl _ _ _) rfl ?_
            have hfin := FreshOwn.wrote hb.out hf.out hs2.out hx2.out
            rw [← hF2.out] at hlen ⊢
            exact ⟨_, _, rfl, hfin.law.1, hfin.law.2.1, hfin.law.2.2, hlen.out⟩
          · rw [if_neg hcc] at hF2
            have hch : ((c' : Int) == (c : Int)) = false := by simp; omega
            replace hF2 := Lib.hid hF2
            have hlt2 : c < c' := by omega
            have hcN4 : c' + invs l' = N := by omega
            have hfu2 : invs l' < f := by omega
            have hc'N : c' ≤ N := by omega
            replace hcN4 := Lib.hid hcN4
            clear hki hcN3
            go_wp2
            go_roundw
            case rel => exact ⟨f, pp + 1, c', l', by go_num, rfl, hkl.out, by omega, by omega, hs2.out, hx2.out, hF2.out, hfu2, hcN4.out, by omega⟩
            case measure => simp [intOf]; omega
end Go.Proofs.Ytdhcpoeopooejaa
