/- Valid permutations: l3Good, IsValidPermutation. -/
import Derived.Test.YtdhcpoeopooejaaValid
namespace Go.Proofs.Ytdhcpoeopooejaa
open Go.RowKit
set_option linter.unusedVariables false
set_option linter.unusedSimpArgs false

/-- Element k of the list may stand in a permutation: in range, and not met before. -/
def permAt (xs : List Int) (k : Nat) : Bool := inB (gi xs k) 0 ((xs.length : Int) - 1) && !(xs.take k).contains (gi xs k)
/-- A valid permutation. -/
def goodP (xs : List Int) : Bool := decide (xs.length ≤ 64) && (List.range xs.length).all (permAt xs)
/-- Which of 0 .. n - 1 are among the first k. -/
def seenL (n : Nat) (xs : List Int) (k : Nat) : List Bool := (List.range n).map fun (j : Nat) => (xs.take k).contains (j : Int)
@[simp] theorem seenL_length (n : Nat) (xs : List Int) (k : Nat) : (seenL n xs k).length = n := by simp [seenL]
theorem seenL_zero (n : Nat) (xs : List Int) : seenL n xs 0 = List.replicate n false := by
  apply List.ext_getElem (by simp)
  intro i h1 h2
  simp [seenL]
theorem seenL_at (n : Nat) (xs : List Int) (k j : Nat) (hj : j < n) : gb (seenL n xs k) j = (xs.take k).contains (j : Int) := by
  rw [gb_eq (by simpa using hj)]; simp [seenL]
theorem seenL_step (n : Nat) (xs : List Int) (k j : Nat) (hk : k < xs.length) (hx : gi xs k = j) : (seenL n xs k).set j true = seenL n xs (k + 1) := by
  apply List.ext_getElem (by simp)
  intro i h1 h2
  have ht : xs.take (k + 1) = xs.take k ++ [(j : Int)] := by
    rw [List.take_succ_eq_append_getElem hk, ← hx, gi_eq hk]
  rw [List.getElem_set]
  simp only [seenL, List.getElem_map, List.getElem_range, ht]
  by_cases h : j = i
  · subst h; simp
  · rw [if_neg h, Bool.eq_iff_iff]
    simp
    intro h'; omega
theorem goodP_long {xs : List Int} (h : 64 < xs.length) : goodP xs = false := by
  have : decide (xs.length ≤ 64) = false := decide_eq_false (by omega)
  simp [goodP, this]
theorem goodP_bad {xs : List Int} {k : Nat} (hk : k < xs.length) (h : permAt xs k = false) : goodP xs = false := by
  have : (List.range xs.length).all (permAt xs) = false := by
    rw [List.all_eq_false]
    exact ⟨k, by simpa using hk, by simp [h]⟩
  simp [goodP, this]
theorem goodP_good {xs : List Int} (hl : xs.length ≤ 64) (h : ∀ j, j < xs.length → permAt xs j = true) : goodP xs = true := by
  have : (List.range xs.length).all (permAt xs) = true := by
    rw [List.all_eq_true]
    intro j hj
    exact h j (by simpa using hj)
  simp [goodP, this, hl]
theorem permAt_iff {xs : List Int} {k : Nat} : permAt xs k = true ↔ (0 ≤ gi xs k ∧ gi xs k ≤ (xs.length : Int) - 1) ∧ ¬ gi xs k ∈ xs.take k := by
  simp [permAt, inB_iff]
theorem goodP_iff {xs : List Int} : goodP xs = true ↔ xs.length ≤ 64 ∧ ∀ k, k < xs.length → permAt xs k = true := by
  constructor
  · intro h
    simp [goodP] at h
    exact ⟨h.1, h.2⟩
  · intro h
    exact goodP_good h.1 h.2


set_option maxHeartbeats 1000000 in
theorem impl_permOk_any (v : Value) (xs : List Int) (w : World) (hv : Rd w v xs) :
    Calls Try.prog 88 #[v] w fun e w' => e = .returned (.bool (goodP xs)) ∧ Below w.heap.size w w' := by
  obtain ⟨i0, hi, hz0, hz1, hz2⟩ := info_parts info4
  obtain ⟨ao, c, rfl, h1, h2, HA⟩ := hv
  unfold maxLen at h2
  generalize hn : xs.length = n at *
  replace HA := Lib.hid HA
  replace hn := Lib.hid hn
  by_cases h64 : n ≤ 64
  · have hd : decide (64 < (n : Int)) = false := by simp; omega
    go_enter Try.func88, Try.ntmps88
    go_wp2_with (at_make; refine wpList_make_full _ rfl _ _ 56 rfl w.heap.size 4 i0 (.bool false) 1 Try.underlying56 hi hz0 hz1 _ _ _ _ n rfl rfl rfl rfl (by rw [hz2]; omega) (by unfold maxLen; omega) (Nat.le_refl _) ?_)
    intro w1 hown hgrow
    have hrow := Row.of_owns hown
    rw [made_bools, ← seenL_zero n xs] at hrow
    have HR := Lib.hid hrow
    have HG := Lib.hid hgrow
    clear hrow hown hgrow hi hz0 hz1 hz2
    go_wp2
    go_loopw [14] (fun i wr => ∃ k : Nat, k ≤ n ∧ i = .int .i64 k ∧ Row wr 4 w.heap.size 0 n (bools (seenL n xs k)) ∧ w.grownBy wr none ∧ ∀ j, j < k → permAt xs j = true) (fun i _ => n - (intOf i).toNat)
    case atStart => exact ⟨0, Nat.zero_le _, rfl, HR.out, HG.out, fun j hj => absurd hj (by omega)⟩
    case round =>
      obtain ⟨k, hk, rfl, hrow, hgrow, hq⟩ := hrel
      replace hq := Lib.hid hq
      by_cases hlt : k < n
      · obtain ⟨b, off, rfl, hR⟩ := HA.out (by omega)
        have hc1 : wr.cell? ⟨b, off + k, none⟩ = some (.int .i64 (gi xs k)) := by
          have h0 := hR k hlt
          rw [World.cell?_of_block (w := w) (hgrow.block b (block_lt_of_cell h0) (by simp))]
          exact h0
        clear hR
        generalize hx : gi xs k = x at *
        replace hx := Lib.hid hx
        cases hb : inB x 0 ((n : Int) - 1)
        · clear hrow
          replace hgrow := Lib.hid hgrow
          go_wp2_with (go_at_call 98; refine (in_any _ _ _ _).mono ?_; rintro e w' ⟨rfl, rfl⟩)
          go_ret
          exact ⟨ret_bool (goodP_bad (k := k) (by rw [hn.out]; omega) (by simp [permAt, hx.out, hn.out, hb])).symm, grownBy.below hgrow.out⟩
        · have hb' := inB_iff.1 hb
          obtain ⟨X, rfl⟩ := Int.eq_ofNat_of_zero_le hb'.1
          have hX : X < n := by omega
          replace hb' := True.intro
          have hc2 : wr.cell? ⟨w.heap.size, X, none⟩ = some (.bool ((xs.take k).contains (X : Int))) := by
            have := hrow.cellBool (i := X) (by simpa using hX)
            rwa [Nat.zero_add, seenL_at n xs k X hX] at this
          have hf := hrow.frozen X
          replace hrow := Lib.hid hrow
          replace hgrow := Lib.hid hgrow
          cases hs : (xs.take k).contains (X : Int)
          · rw [hs] at hc2
            replace hs := Lib.hid hs
            go_wp2_with (go_at_call 98; refine (in_any _ _ _ _).mono ?_; rintro e w' ⟨rfl, rfl⟩)
            go_roundw
            case rel =>
              refine ⟨k + 1, by omega, by go_num, ?_, grownBy.setNew hgrow.out (Nat.le_refl _), fun j hj => ?_⟩
              · have := hrow.out.setBool (i := X) (by simpa using hX) true
                rwa [Nat.zero_add, seenL_step n xs k X (by rw [hn.out]; omega) hx.out] at this
              · by_cases hjk : j = k
                · subst hjk; simp only [permAt, hx.out, hn.out, hb, hs.out]; rfl
                · exact hq.out j (by omega)
            case measure => simp [intOf]; omega
          · rw [hs] at hc2
            replace hs := Lib.hid hs
            go_wp2_with (go_at_call 98; refine (in_any _ _ _ _).mono ?_; rintro e w' ⟨rfl, rfl⟩)
            go_ret
            exact ⟨ret_bool (goodP_bad (k := k) (by rw [hn.out]; omega) (by simp only [permAt, hx.out, hs.out]; simp)).symm, grownBy.below hgrow.out⟩
      · replace hgrow := Lib.hid hgrow
        clear hrow
        go_wp2
        go_ret
        obtain rfl : k = n := by omega
        exact ⟨ret_bool (goodP_good (by rw [hn.out]; omega) (by rw [hn.out]; exact hq.out)).symm, grownBy.below hgrow.out⟩
  · have hd : decide (64 < (n : Int)) = true := by simp; omega
    rw [goodP_long (by rw [hn.out]; omega)]
    go_enter Try.func88, Try.ntmps88
    go_wp2
    go_ret
    exact ⟨rfl, Below.refl _ _⟩

theorem impl_IsValidPermutation_law {v : Value} {x : List Int} {F : List Nat} {w : World} (r : RIntS w v x F) :
    Calls Try.prog 88 #[v] w fun e w' => e = .returned (.bool (goodP x)) ∧ Below w.heap.size w w' := impl_permOk_any v x w r.rd
end Go.Proofs.Ytdhcpoeopooejaa
