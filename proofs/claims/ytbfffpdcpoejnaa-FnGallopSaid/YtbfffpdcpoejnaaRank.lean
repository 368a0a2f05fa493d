/- Factorials, RankPermutation. -/
import Derived.Test.YtbfffpdcpoejnaaPermOk
namespace Go.Proofs.Ytbfffpdcpoejnaa
open Go.RowKit
set_option linter.unusedVariables false
set_option linter.unusedSimpArgs false

def fct : Nat → Nat
  | 0 => 1
  | n + 1 => (n + 1) * fct n
theorem fct_pos (n : Nat) : 1 ≤ fct n := by
  induction n with
  | zero => simp [fct]
  | succ n ih => rw [fct]; exact Nat.le_trans ih (Nat.le_mul_of_pos_left _ (by omega))
theorem fct_bd : ∀ n, n ≤ 10 → fct n ≤ 3628800 := by decide
theorem fct_next (k : Nat) (hk : 1 ≤ k) : fct (k - 1) * k = fct k := by
  obtain ⟨m, rfl⟩ : ∃ m, k = m + 1 := ⟨k - 1, by omega⟩
  rw [fct, Nat.mul_comm]; rfl

set_option maxHeartbeats 400000 in
theorem impl_factorial_any (n : Nat) (w : World) (hn : n ≤ 10) :
    Calls Try.prog 71 #[.int .i64 n] w fun e w' => e = .returned (.int .i64 (fct n)) ∧ w = w' := by
  go_enter Try.func71, Try.ntmps71
  go_wp2
  go_loop [3, 4] (fun f i => ∃ k : Nat, 2 ≤ k ∧ (k ≤ n + 1 ∨ k = 2) ∧ i = .int .i64 k ∧ f = .int .i64 (fct (k - 1))) (fun _ i => 12 - (intOf i).toNat)
  case atStart => exact ⟨2, by omega, by omega, rfl, rfl⟩
  case round =>
    obtain ⟨k, h1, h2, rfl, rfl⟩ := hrel
    by_cases hlt : k ≤ n
    · have hm : ((fct (k - 1) : Nat) : Int) * (k : Int) = ((fct k : Nat) : Int) := by rw [← fct_next k (by omega)]; simp
      have hb : ((fct k : Nat) : Int) ≤ 3628800 := by have := fct_bd k (by omega); omega
      have hb0 : (0 : Int) ≤ ((fct k : Nat) : Int) := by omega
      generalize hf : fct k = fk at *
      replace hf := Lib.hid hf
      generalize fct (k - 1) = f at *
      go_wp2
      go_round
      case rel => exact ⟨k + 1, by omega, by omega, by go_num, by rw [Nat.add_sub_cancel, hf.out]⟩
      case measure => simp [intOf]; omega
    · have hf : fct (k - 1) = fct n := by
        rcases h2 with h2 | h2
        · congr 1; omega
        · subst h2
          have : n = 0 ∨ n = 1 := by omega
          rcases this with rfl | rfl <;> rfl
      rw [hf]
      clear hf
      go_wp2
      go_ret
      exact ⟨rfl, rfl⟩

set_option maxHeartbeats 400000 in
theorem l3Factorial_any (n : Nat) (w : World) (hn : n ≤ 10) :
    Calls Try.prog 72 #[.int .i64 n] w fun e w' => e = .returned (.int .i64 (fct n)) ∧ w = w' := by
  have hbn := fct_bd n hn
  generalize hN : fct n = N at *
  replace hN := Lib.hid hN
  go_enter Try.func72, Try.ntmps72
  go_wp2
  go_loop [0, 3] (fun i f => ∃ k g : Nat, k ≤ n ∧ i = .int .i64 k ∧ f = .int .i64 g ∧ g * fct k = N) (fun i _ => (intOf i).toNat)
  case atStart => exact ⟨n, 1, by omega, rfl, rfl, by rw [hN.out]; omega⟩
  case round =>
    obtain ⟨k, g, h1, rfl, rfl, h3⟩ := hrel
    by_cases hlt : 1 < k
    · have e1 : g * k * fct (k - 1) = N := by rw [← h3, Nat.mul_assoc, Nat.mul_comm k, fct_next k (by omega)]
      have hp := fct_pos (k - 1)
      have hb : g * k ≤ N := by rw [← e1]; exact Nat.le_mul_of_pos_right _ hp
      have hm : (g : Int) * (k : Int) = ((g * k : Nat) : Int) := by simp
      replace e1 := Lib.hid e1
      clear h3 hp
      generalize g * k = q at *
      go_wp2
      go_round
      case rel => exact ⟨k - 1, q, by omega, by go_num, by go_num, e1.out⟩
      case measure => simp [intOf]; omega
    · have hg : g = N := by
        rw [← h3]
        have : k = 0 ∨ k = 1 := by omega
        rcases this with rfl | rfl <;> simp [fct]
      replace h3 := True.intro
      subst hg
      go_wp2
      go_ret
      exact ⟨rfl, rfl⟩

/-- How many of the m elements behind place i are less. -/
def lessK (p : List Int) (i : Nat) : Nat → Nat
  | 0 => 0
  | m + 1 => lessK p i m + if gi p (i + 1 + m) < gi p i then 1 else 0
theorem lessK_le (p : List Int) (i m : Nat) : lessK p i m ≤ m := by
  induction m with
  | zero => simp [lessK]
  | succ m ih => rw [lessK]; split <;> omega
/-- The rank, summed over the first k places. -/
def rankK (p : List Int) : Nat → Nat
  | 0 => 0
  | i + 1 => rankK p i + lessK p i (p.length - 1 - i) * fct (p.length - 1 - i)
theorem rank_term (p : List Int) (i : Nat) (hl : p.length ≤ 10) : lessK p i (p.length - 1 - i) * fct (p.length - 1 - i) ≤ 36288000 := by
  have h1 := lessK_le p i (p.length - 1 - i)
  have h2 := fct_bd (p.length - 1 - i) (by omega)
  have := Nat.mul_le_mul (show lessK p i (p.length - 1 - i) ≤ 10 by omega) h2
  omega
theorem rankK_bd (p : List Int) (k : Nat) (hl : p.length ≤ 10) : rankK p k ≤ k * 36288000 := by
  induction k with
  | zero => simp [rankK]
  | succ k ih =>
    have := rank_term p k hl
    rw [rankK]
    omega
/-- The result of RankPermutation. -/
def rankR (p : List Int) : Int × Bool := if goodP p && decide (p.length ≤ 10) then (((rankK p p.length : Nat) : Int), true) else (0, false)
theorem rankR_no {p : List Int} (h : ¬ (goodP p = true ∧ p.length ≤ 10)) : rankR p = (0, false) := by
  unfold rankR
  rw [if_neg]
  simp
  intro h1
  by_cases h2 : p.length ≤ 10
  · exact absurd ⟨h1, h2⟩ h
  · omega

set_option maxHeartbeats 1000000 in
theorem impl_Rank_any (v : Value) (p : List Int) (w : World) (hv : Rd w v p) :
    Calls Try.prog 27 #[v] w fun e w' => e = .returned (.tuple #[.int .i64 (rankR p).1, .bool (rankR p).2]) ∧ Below w.heap.size w w' := by
  have hv' := hv
  obtain ⟨ao, c, rfl, h1, h2, _⟩ := hv'
  unfold maxLen at h2
  replace hv := Lib.hid hv
  cases hp : goodP p
  · rw [rankR_no (by simp [hp])]
    go_enter Try.func27, Try.ntmps27
    go_wp2_with (go_at_call 16; refine (impl_permOk_any _ _ _ hv.out).mono ?_; rintro e w' ⟨rfl, hb⟩)
    go_ret2
    exact ⟨rfl, by assumption⟩
  by_cases hl : p.length ≤ 10
  · have hR : rankR p = (((rankK p p.length : Nat) : Int), true) := by simp [rankR, hp, hl]
    rw [hR]
    clear hR
    have hd : decide (10 < (p.length : Int)) = false := by simp; omega
    go_enter Try.func27, Try.ntmps27
    go_wp2_with fail
    refine (impl_permOk_any _ _ _ hv.out).mono ?_
    rintro e w1 ⟨rfl, hb⟩
    have hv1 := hv.out.below hb
    replace hb := Lib.hid hb
    obtain ⟨ao', c', hv2, _, _, HA⟩ := hv1
    simp only [Value.slice.injEq] at hv2
    obtain ⟨rfl, _, rfl⟩ := hv2
    replace HA := Lib.hid HA
    have hbd := Lib.hid (fun k => rankK_bd p k hl)
    have htm := Lib.hid (fun i => rank_term p i hl)
    have hst : ∀ i, rankK p (i + 1) = rankK p i + lessK p i (p.length - 1 - i) * fct (p.length - 1 - i) := fun i => rfl
    replace hst := Lib.hid hst
    generalize hn : p.length = n at *
    replace hn := Lib.hid hn
    go_wp2
    go_loop [4, 20] (fun r i => ∃ k : Nat, k ≤ n ∧ i = .int .i64 k ∧ r = .int .i64 (rankK p k)) (fun _ i => n - (intOf i).toNat)
    case atStart => exact ⟨0, Nat.zero_le _, rfl, rfl⟩
    case round =>
      obtain ⟨k, hk, rfl, rfl⟩ := hrel
      by_cases hlt : k < n
      · obtain ⟨b, off, rfl, hR⟩ := HA.out (by omega)
        have hc1 := hR k hlt
        have hrb := hbd.out k
        have htk := htm.out k
        have hsk := Lib.hid (hst.out k)
        have hrd := Lib.hid hR
        clear hR
        generalize hx : gi p k = x at *
        replace hx := Lib.hid hx
        generalize hrk : rankK p k = rk at *
        replace hrk := Lib.hid hrk
        by_cases hcap : c = k + 1
        · have hnk : n - 1 - k = 0 := by omega
          have hz : rankK p (k + 1) = rk := by have := hsk.out; rw [hnk] at this; simpa [lessK] using this
          have hnk2 : (n : Int) - 1 - (k : Int) = 0 := by omega
          clear hsk htk hst htm
          replace hz := Lib.hid hz
          replace hnk := Lib.hid hnk
          replace hnk2 := Lib.hid hnk2
          subst hcap
          go_wp2
          go_loop [7, 30] (fun l i => i = .int .i64 0 ∧ l = .int .i64 0) (fun _ i => 0)
          case atStart => exact ⟨rfl, rfl⟩
          case round =>
            obtain ⟨rfl, rfl⟩ := hrel
            go_wp2_with fail
            rw [hnk2.out]
            refine (impl_factorial_any 0 _ (by omega)).mono ?_
            rintro e w' ⟨rfl, rfl⟩
            go_wp2
            go_round
            case rel => exact ⟨k + 1, by omega, by go_num, by rw [hz.out]⟩
            case measure => simp [intOf]; omega
        · go_wp2
          go_loop [7, 30] (fun l i => ∃ m : Nat, m ≤ n - 1 - k ∧ i = .int .i64 m ∧ l = .int .i64 (lessK p k m)) (fun _ i => n - (intOf i).toNat)
          case atStart => exact ⟨0, Nat.zero_le _, rfl, rfl⟩
          case round =>
            obtain ⟨m, hm, rfl, rfl⟩ := hrel
            have hlk := lessK_le p k m
            have hlk1 : lessK p k (m + 1) = lessK p k m + if gi p (k + 1 + m) < gi p k then 1 else 0 := rfl
            rw [hx.out] at hlk1
            replace hlk1 := Lib.hid hlk1
            by_cases hlt2 : m < n - 1 - k
            · have hc2 := hrd.out (k + 1 + m) (by omega)
              have hc2' : w1.cell? ⟨b, off + (k + 1) + m, none⟩ = some (.int .i64 (gi p (k + 1 + m))) := by rw [Nat.add_assoc]; exact hc2
              clear hc2
              generalize hy : gi p (k + 1 + m) = y at *
              replace hy := Lib.hid hy
              by_cases hyx : y < x
              · have hl2 := hlk1.out
                rw [if_pos hyx] at hl2
                replace hl2 := Lib.hid hl2
                go_wp2
                go_round
                case rel => exact ⟨m + 1, by omega, by go_num, by rw [hl2.out]; go_num⟩
                case measure => simp [intOf]; omega
              · have hl2 := hlk1.out
                rw [if_neg hyx] at hl2
                replace hl2 := Lib.hid hl2
                go_wp2
                go_round
                case rel => exact ⟨m + 1, by omega, by go_num, by rw [hl2.out]; go_num⟩
                case measure => simp [intOf]; omega
            · have hm2 : m = n - 1 - k := by omega
              have hfc : ((n : Int) - 1 - (k : Int)) = ((n - 1 - k : Nat) : Int) := by omega
              have hprod : ((lessK p k (n - 1 - k) : Nat) : Int) * ((fct (n - 1 - k) : Nat) : Int) = ((lessK p k (n - 1 - k) * fct (n - 1 - k) : Nat) : Int) := by simp
              have hfb : fct (n - 1 - k) ≤ 3628800 := fct_bd _ (by omega)
              rw [hm2] at hlk ⊢
              clear hlk1 hm2
              generalize hT : lessK p k (n - 1 - k) * fct (n - 1 - k) = T at *
              generalize hL : lessK p k (n - 1 - k) = L at *
              replace hT := Lib.hid hT
              replace hL := Lib.hid hL
              have hkn : n - 1 - k ≤ 10 := by omega
              replace hfc := Lib.hid hfc
              replace hprod := Lib.hid hprod
              go_wp2_with fail
              rw [hfc.out]
              refine (impl_factorial_any _ _ hkn).mono ?_
              rintro e w' ⟨rfl, rfl⟩
              have hp2 := hprod.out
              go_wp2
              go_round
              case rel =>
                refine ⟨k + 1, by omega, by go_num, ?_⟩
                rw [hsk.out]
                go_num
              case measure => simp [intOf]; omega
      · obtain rfl : k = n := by omega
        go_wp2
        go_ret2
        exact ⟨by rw [hn.out]; first | done | rfl, hb.out⟩
  · rw [rankR_no (by omega)]
    have hd : decide (10 < (p.length : Int)) = true := by simp; omega
    go_enter Try.func27, Try.ntmps27
    go_wp2_with (go_at_call 16; refine (impl_permOk_any _ _ _ hv.out).mono ?_; rintro e w' ⟨rfl, hb⟩)
    go_ret2
    exact ⟨rfl, by assumption⟩

set_option maxHeartbeats 1000000 in
theorem spec_Rank_any (v : Value) (p : List Int) (w : World) (hv : Rd w v p) :
    Calls Try.prog 28 #[v] w fun e w' => e = .returned (.tuple #[.int .i64 (rankR p).1, .bool (rankR p).2]) ∧ Below w.heap.size w w' := by
  have hv' := hv
  obtain ⟨ao, c, rfl, h1, h2, _⟩ := hv'
  unfold maxLen at h2
  replace hv := Lib.hid hv
  cases hp : goodP p
  · rw [rankR_no (by simp [hp])]
    go_enter Try.func28, Try.ntmps28
    go_wp2_with (go_at_call 59; refine (l3Good_any _ _ _ hv.out).mono ?_; rintro e w' ⟨rfl, hb⟩)
    go_ret2
    exact ⟨rfl, by assumption⟩
  by_cases hl : p.length ≤ 10
  · have hR : rankR p = (((rankK p p.length : Nat) : Int), true) := by simp [rankR, hp, hl]
    rw [hR]
    clear hR
    have hd : decide (10 < (p.length : Int)) = false := by simp; omega
    go_enter Try.func28, Try.ntmps28
    go_wp2_with fail
    refine (l3Good_any _ _ _ hv.out).mono ?_
    rintro e w1 ⟨rfl, hb⟩
    have hv1 := hv.out.below hb
    replace hb := Lib.hid hb
    obtain ⟨ao', c', hv2, _, _, HA⟩ := hv1
    simp only [Value.slice.injEq] at hv2
    obtain ⟨rfl, _, rfl⟩ := hv2
    replace HA := Lib.hid HA
    have hbd := Lib.hid (fun k => rankK_bd p k hl)
    have htm := Lib.hid (fun i => rank_term p i hl)
    have hst : ∀ i, rankK p (i + 1) = rankK p i + lessK p i (p.length - 1 - i) * fct (p.length - 1 - i) := fun i => rfl
    replace hst := Lib.hid hst
    generalize hn : p.length = n at *
    replace hn := Lib.hid hn
    go_wp2
    go_loopw [4, 5] (fun r i wr => ∃ k q : Nat, k ≤ n ∧ i = .int .i64 k ∧ r = .int .i64 (rankK p k) ∧ wr = w1.drewN q) (fun _ i _ => n - (intOf i).toNat)
    case atStart => exact ⟨0, 0, Nat.zero_le _, rfl, rfl, rfl⟩
    case round =>
      obtain ⟨k, q, hk, rfl, rfl, rfl⟩ := hrel
      by_cases hlt : k < n
      · obtain ⟨b, off, rfl, hR⟩ := HA.out (by omega)
        have hc1 := hR k hlt
        have hrb := hbd.out k
        have htk := htm.out k
        have hsk := Lib.hid (hst.out k)
        have hrd := Lib.hid hR
        clear hR
        generalize hx : gi p k = x at *
        replace hx := Lib.hid hx
        generalize hrk : rankK p k = rk at *
        replace hrk := Lib.hid hrk
        go_wp2
        go_loopw [6, 7] (fun l i wr => ∃ m q : Nat, m ≤ n - 1 - k ∧ i = .int .i64 (k + 1 + m : Nat) ∧ l = .int .i64 (lessK p k m) ∧ wr = w1.drewN q) (fun _ i _ => n - (intOf i).toNat)
        case atStart => exact ⟨0, q, Nat.zero_le _, by go_num, rfl, rfl⟩
        case round =>
          obtain ⟨m, q2, hm, rfl, rfl, rfl⟩ := hrel
          have hlk := lessK_le p k m
          have hlk1 : lessK p k (m + 1) = lessK p k m + if gi p (k + 1 + m) < gi p k then 1 else 0 := rfl
          rw [hx.out] at hlk1
          replace hlk1 := Lib.hid hlk1
          by_cases hlt2 : m < n - 1 - k
          · have hc2 := hrd.out (k + 1 + m) (by omega)
            generalize hy : gi p (k + 1 + m) = y at *
            replace hy := Lib.hid hy
            obtain ⟨j, hj⟩ : ∃ j, j = k + 1 + m := ⟨_, rfl⟩
            rw [← hj] at hc2 ⊢
            have hj1 : j < n := by omega
            replace hj := Lib.hid hj
            have hi1 : (0 : Int) ≤ (j : Int) := by omega
            have hi2 : (0 : Int) ≤ (k : Int) := by omega
            by_cases hyx : y < x
            · have hl2 := hlk1.out
              rw [if_pos hyx] at hl2
              replace hl2 := Lib.hid hl2
              go_wp2
              go_quiet (fail)
              go_wp2
              go_roundw
              case rel => exact ⟨m + 1, _, by omega, by rw [hj.out]; go_num, by rw [hl2.out]; go_num, rfl⟩
              case measure => simp [intOf]; omega
            · have hl2 := hlk1.out
              rw [if_neg hyx] at hl2
              replace hl2 := Lib.hid hl2
              go_wp2
              go_quiet (fail)
              go_wp2
              go_roundw
              case rel => exact ⟨m + 1, _, by omega, by rw [hj.out]; go_num, by rw [hl2.out]; go_num, rfl⟩
              case measure => simp [intOf]; omega
          · have hm2 : m = n - 1 - k := by omega
            have hkn1 : ((k + 1 + (n - 1 - k) : Nat) : Int) = (n : Int) := by omega
            have hfc : ((n : Int) - 1 - (k : Int)) = ((n - 1 - k : Nat) : Int) := by omega
            have hprod : ((lessK p k (n - 1 - k) : Nat) : Int) * ((fct (n - 1 - k) : Nat) : Int) = ((lessK p k (n - 1 - k) * fct (n - 1 - k) : Nat) : Int) := by simp
            have hfb : fct (n - 1 - k) ≤ 3628800 := fct_bd _ (by omega)
            rw [hm2] at hlk ⊢
            rw [hkn1]
            clear hlk1 hm2 hkn1
            generalize hT : lessK p k (n - 1 - k) * fct (n - 1 - k) = T at *
            generalize hL : lessK p k (n - 1 - k) = L at *
            replace hT := Lib.hid hT
            replace hL := Lib.hid hL
            have hkn : n - 1 - k ≤ 10 := by omega
            replace hfc := Lib.hid hfc
            replace hprod := Lib.hid hprod
            go_wp2_with fail
            rw [hfc.out]
            refine (l3Factorial_any _ _ hkn).mono ?_
            rintro e w' ⟨rfl, rfl⟩
            have hp2 := hprod.out
            go_wp2
            go_roundw
            case rel =>
              refine ⟨k + 1, _, by omega, by go_num, ?_, rfl⟩
              rw [hsk.out]
              go_num
            case measure => simp [intOf]; omega
      · obtain rfl : k = n := by omega
        go_wp2
        go_ret2
        exact ⟨by rw [hn.out]; first | done | rfl, Below.next hb.out (Below.drewN (Below.refl _ _) _)⟩
  · rw [rankR_no (by omega)]
    have hd : decide (10 < (p.length : Int)) = true := by simp; omega
    go_enter Try.func28, Try.ntmps28
    go_wp2_with (go_at_call 59; refine (l3Good_any _ _ _ hv.out).mono ?_; rintro e w' ⟨rfl, hb⟩)
    go_ret2
    exact ⟨rfl, by assumption⟩
theorem impl_RankPermutation_law {v : Value} {x : List Int} {F : List Nat} {w : World} (r : RIntS w v x F) :
    Calls Try.prog 27 #[v] w fun e w' => e = .returned (.tuple #[.int .i64 (rankR x).1, .bool (rankR x).2]) ∧ Below w.heap.size w w' := impl_Rank_any v x w r.rd
theorem spec_RankPermutation_law {v : Value} {x : List Int} {F : List Nat} {w : World} (r : RIntS w v x F) :
    Calls Try.prog 28 #[v] w fun e w' => e = .returned (.tuple #[.int .i64 (rankR x).1, .bool (rankR x).2]) ∧ Below w.heap.size w w' := spec_Rank_any v x w r.rd
end Go.Proofs.Ytbfffpdcpoejnaa
