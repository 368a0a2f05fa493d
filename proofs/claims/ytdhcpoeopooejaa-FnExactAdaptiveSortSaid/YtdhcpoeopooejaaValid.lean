/- Bounds and valid lists: l1In, in, isKey, l2List, all[int], IsValidList. -/
import Derived.Test.YtdhcpoeopooejaaFrame
namespace Go.Proofs.Ytdhcpoeopooejaa
open Go.RowKit
set_option linter.unusedVariables false
set_option linter.unusedSimpArgs false

/-- a ≤ x ≤ b. -/
def inB (x a b : Int) : Bool := decide (a ≤ x) && decide (x ≤ b)
def keyB (x : Int) : Bool := inB x (-100000) 100000
/-- A valid list. -/
def vlist (xs : List Int) : Bool := decide (xs.length ≤ 64) && xs.all keyB
theorem inB_iff {x a b : Int} : inB x a b = true ↔ a ≤ x ∧ x ≤ b := by simp [inB]
theorem keyB_iff {x : Int} : keyB x = true ↔ -100000 ≤ x ∧ x ≤ 100000 := inB_iff
theorem vlist_bad {xs : List Int} {k : Nat} (hk : k < xs.length) (h : keyB (gi xs k) = false) : vlist xs = false := by
  rw [gi_eq hk] at h
  have : xs.all keyB = false := by
    rw [List.all_eq_false]
    exact ⟨_, List.getElem_mem hk, by simp [h]⟩
  simp [vlist, this]
theorem vlist_good {xs : List Int} (hl : xs.length ≤ 64) (h : ∀ j, j < xs.length → keyB (gi xs j) = true) : vlist xs = true := by
  have : xs.all keyB = true := by
    rw [List.all_eq_true]
    intro x hx
    obtain ⟨j, hj, rfl⟩ := List.getElem_of_mem hx
    have := h j hj
    rwa [gi_eq hj] at this
  simp [vlist, this, hl]
theorem vlist_long {xs : List Int} (hl : 64 < xs.length) : vlist xs = false := by
  have : decide (xs.length ≤ 64) = false := decide_eq_false (by omega)
  simp [vlist, this]
theorem vlist_iff {xs : List Int} : vlist xs = true ↔ xs.length ≤ 64 ∧ ∀ j, j < xs.length → -100000 ≤ gi xs j ∧ gi xs j ≤ 100000 := by
  constructor
  · intro h
    simp [vlist] at h
    refine ⟨h.1, fun j hj => ?_⟩
    rw [gi_eq hj]
    exact keyB_iff.1 (h.2 _ (List.getElem_mem hj))
  · intro h
    exact vlist_good h.1 fun j hj => keyB_iff.2 (h.2 j hj)

set_option maxHeartbeats 400000 in
theorem l1In_any (x a b : Int) (w : World) :
    Calls Try.prog 95 #[.int .i64 x, .int .i64 a, .int .i64 b] w fun e w' => e = .returned (.bool (inB x a b)) ∧ w = w' := by
  by_cases h : a ≤ x
  · go_enter Try.func95, Try.ntmps95
    go_wp2
    go_ret
    exact ⟨ret_bool (by simp [inB, h]), rfl⟩
  · go_enter Try.func95, Try.ntmps95
    go_wp2
    go_ret
    have h2 : ¬ a ≤ x := by omega
    exact ⟨ret_bool (by simp [inB, h2]), rfl⟩

set_option maxHeartbeats 400000 in
theorem in_any (x a b : Int) (w : World) :
    Calls Try.prog 98 #[.int .i64 x, .int .i64 a, .int .i64 b] w fun e w' => e = .returned (.bool (inB x a b)) ∧ w = w' := by
  by_cases h : a ≤ x
  · go_enter Try.func98, Try.ntmps98
    go_wp2
    go_ret
    exact ⟨ret_bool (by simp [inB, h]), rfl⟩
  · go_enter Try.func98, Try.ntmps98
    go_wp2
    go_ret
    have h2 : ¬ a ≤ x := by omega
    exact ⟨ret_bool (by simp [inB, h2]), rfl⟩

set_option maxHeartbeats 400000 in
theorem isKey_any (x : Int) (w : World) :
    Calls Try.prog 87 #[.int .i64 x] w fun e w' => e = .returned (.bool (keyB x)) ∧ w = w' := by
  go_enter Try.func87, Try.ntmps87
  go_wp2_with (go_at_call 98; refine (in_any _ _ _ _).mono ?_; rintro e w' ⟨rfl, rfl⟩)
  go_ret
  exact ⟨rfl, rfl⟩

set_option maxHeartbeats 400000 in
theorem l2List_any (v : Value) (xs : List Int) (w : World) (hv : Rd w v xs) :
    Calls Try.prog 52 #[v] w fun e w' => e = .returned (.bool (vlist xs)) ∧ w = w' := by
  obtain ⟨ao, c, rfl, h1, h2, HA⟩ := hv
  unfold maxLen at h2
  generalize hn : xs.length = n at *
  replace HA := Lib.hid HA
  replace hn := Lib.hid hn
  go_enter Try.func52, Try.ntmps52
  go_wp2
  go_loop [3] (fun i => ∃ k : Nat, k ≤ n ∧ k ≤ 65 ∧ i = .int .i64 k ∧ ∀ j, j < k → keyB (gi xs j) = true) (fun i => n - (intOf i).toNat)
  case atStart => exact ⟨0, Nat.zero_le _, Nat.zero_le _, rfl, fun j hj => absurd hj (by omega)⟩
  case round =>
    obtain ⟨k, hk, hk2, rfl, hq⟩ := hrel
    replace hq := Lib.hid hq
    by_cases hlt : k < n
    · obtain ⟨b, off, rfl, hR⟩ := HA.out (by omega)
      have hc1 := hR k hlt
      clear hR
      by_cases h64 : k ≤ 64
      · generalize hx : gi xs k = x at *
        replace hx := Lib.hid hx
        by_cases hb : inB x (-100000) 100000 = true
        · go_wp2_with (go_at_call 95; refine (l1In_any _ _ _ _).mono ?_; rintro e w' ⟨rfl, rfl⟩)
          go_round
          case rel =>
            refine ⟨k + 1, by omega, by omega, by go_num, fun j hj => ?_⟩
            by_cases hjk : j = k
            · subst hjk; rw [hx.out]; exact hb
            · exact hq.out j (by omega)
          case measure => simp [intOf]; omega
        · replace hb : inB x (-100000) 100000 = false := by simpa using hb
          go_wp2_with (go_at_call 95; refine (l1In_any _ _ _ _).mono ?_; rintro e w' ⟨rfl, rfl⟩)
          go_ret
          exact ⟨ret_bool (vlist_bad (k := k) (by rw [hn.out]; omega) (by rw [hx.out]; exact hb)).symm, rfl⟩
      · go_wp2
        go_ret
        exact ⟨ret_bool (by rw [vlist_long (by rw [hn.out]; omega)]; simp; omega), rfl⟩
    · obtain rfl : k = n := by omega
      have hv : decide (k ≤ 64) = vlist xs := by
        by_cases h64 : k ≤ 64
        · rw [vlist_good (by rw [hn.out]; omega) (by rw [hn.out]; exact hq.out)]; simpa using h64
        · rw [vlist_long (by rw [hn.out]; omega)]; simpa using h64
      replace hv := Lib.hid hv
      go_wp2
      go_ret
      exact ⟨ret_bool (by rw [← hv.out]; simp; omega), rfl⟩

set_option maxHeartbeats 400000 in
theorem allKeyFn_any (x : Int) (bp : Nat) (w : World) (hc : w.cell? ⟨bp, 0, none⟩ = some (.func (.func 87) #[] #[])) :
    Calls Try.prog 116 #[.int .i64 x, .pointer (some ⟨bp, 0, none⟩)] w fun e w' => e = .returned (.bool (!keyB x)) ∧ w = w' := by
  go_enter Try.func116, Try.ntmps116
  go_wp2_with (go_at_call 87; refine (isKey_any _ _).mono ?_; rintro e w' ⟨rfl, rfl⟩)
  go_ret
  exact ⟨rfl, rfl⟩

set_option maxHeartbeats 400000 in
theorem indexKey_any (v : Value) (xs : List Int) (bp : Nat) (w : World) (hv : Rd w v xs) (hc : w.cell? ⟨bp, 0, none⟩ = some (.func (.func 87) #[] #[])) :
    Calls Try.prog 130 #[v, .func (.func 116) #[] #[.pointer (some ⟨bp, 0, none⟩)]] w fun e w' => e = .returned (.int .i64 (ixf (fun x => !keyB x) xs)) ∧ w = w' := by
  obtain ⟨ao, c, rfl, h1, h2, HA⟩ := hv
  unfold maxLen at h2
  generalize hn : xs.length = n at *
  replace HA := Lib.hid HA
  replace hn := Lib.hid hn
  go_enter Try.func130, Try.ntmps130
  go_wp2
  go_loop [8] (fun i => ∃ k : Nat, k ≤ n ∧ i = .int .i64 k ∧ ∀ j, j < k → keyB (gi xs j) = true) (fun i => n - (intOf i).toNat)
  case atStart => exact ⟨0, Nat.zero_le _, rfl, fun j hj => absurd hj (by omega)⟩
  case round =>
    obtain ⟨k, hk, rfl, hq⟩ := hrel
    replace hq := Lib.hid hq
    by_cases hlt : k < n
    · obtain ⟨b, off, rfl, hR⟩ := HA.out (by omega)
      have hc1 := hR k hlt
      clear hR
      generalize hx : gi xs k = x at *
      replace hx := Lib.hid hx
      by_cases hb : keyB x = true
      · go_wp2_with (go_at_call 116; refine (allKeyFn_any _ _ _ hc).mono ?_; rintro e w' ⟨rfl, rfl⟩)
        go_round
        case rel =>
          refine ⟨k + 1, by omega, by go_num, fun j hj => ?_⟩
          by_cases hjk : j = k
          · subst hjk; rw [hx.out]; exact hb
          · exact hq.out j (by omega)
        case measure => simp [intOf]; omega
      · replace hb : keyB x = false := by simpa using hb
        go_wp2_with (go_at_call 116; refine (allKeyFn_any _ _ _ hc).mono ?_; rintro e w' ⟨rfl, rfl⟩)
        go_ret
        refine ⟨ret_int (ixf_some (by rw [hn.out]; omega) ?_ fun j hj => ?_).symm, rfl⟩
        · rw [← gi_eq, hx.out, hb]; rfl
        · have := hq.out j hj
          rw [← gi_eq, this]; rfl
    · obtain rfl : k = n := by omega
      go_wp2
      go_ret
      refine ⟨ret_int (ixf_none fun j hj => ?_).symm, rfl⟩
      have := hq.out j (by rw [← hn.out]; exact hj)
      rw [← gi_eq, this]; rfl

set_option maxHeartbeats 400000 in
theorem containsKey_any (v : Value) (xs : List Int) (bp : Nat) (w : World) (hv : Rd w v xs) (hc : w.cell? ⟨bp, 0, none⟩ = some (.func (.func 87) #[] #[])) :
    Calls Try.prog 115 #[v, .func (.func 116) #[] #[.pointer (some ⟨bp, 0, none⟩)]] w fun e w' => e = .returned (.bool (xs.any fun x => !keyB x)) ∧ w = w' := by
  rw [← ixf_nonneg]
  go_enter Try.func115, Try.ntmps115
  go_wp2_with (go_at_call 130; refine (indexKey_any _ _ _ _ hv hc).mono ?_; rintro e w' ⟨rfl, rfl⟩)
  go_ret
  exact ⟨rfl, rfl⟩

set_option maxHeartbeats 400000 in
theorem allKey_any (v : Value) (xs : List Int) (w : World) (hv : Rd w v xs) :
    Calls Try.prog 86 #[v, .func (.func 87) #[] #[]] w fun e w' => e = .returned (.bool (xs.all keyB)) ∧ Below w.heap.size w w' := by
  have hv2 := hv.below (w' := w.alloc (.cells #[.func (.func 87) #[] #[]] 98)) ((Below.refl _ _).alloc (Nat.le_refl _) _)
  replace hv := Lib.hid hv
  replace hv2 := Lib.hid hv2
  go_enter Try.func86, Try.ntmps86
  go_wp2_with fail
  refine (containsKey_any _ _ _ _ hv2.out (by simp [go_sem])).mono ?_
  rintro e w' ⟨rfl, rfl⟩
  go_wp2
  go_ret
  exact ⟨ret_bool (any_not keyB xs), (Below.refl _ _).alloc (Nat.le_refl _) _⟩

set_option maxHeartbeats 400000 in
theorem isValidList_any (v : Value) (xs : List Int) (w : World) (hv : Rd w v xs) :
    Calls Try.prog 43 #[v] w fun e w' => e = .returned (.bool (vlist xs)) ∧ Below w.heap.size w w' := by
  have hv' := hv
  obtain ⟨ao, c, rfl, h1, h2, _⟩ := hv'
  unfold maxLen at h2
  replace hv := Lib.hid hv
  by_cases h : xs.length ≤ 64
  · have hd : decide ((xs.length : Int) ≤ 64) = true := by simp; omega
    have hr : vlist xs = xs.all keyB := by simp [vlist, h]
    rw [hr]
    clear hr
    go_enter Try.func43, Try.ntmps43
    go_wp2_with (go_at_call 86; refine (allKey_any _ _ _ hv.out).mono ?_; rintro e w' ⟨rfl, hb⟩)
    go_ret
    exact ⟨rfl, by assumption⟩
  · have hd : decide ((xs.length : Int) ≤ 64) = false := by simp; omega
    rw [vlist_long (by omega)]
    go_enter Try.func43, Try.ntmps43
    go_wp2
    go_ret
    exact ⟨rfl, Below.refl _ _⟩


theorem impl_IsValidList_law {v : Value} {x : List Int} {F : List Nat} {w : World} (r : RIntS w v x F) :
    Calls Try.prog 43 #[v] w fun e w' => e = .returned (.bool (vlist x)) ∧ Below w.heap.size w w' :=
  isValidList_any v x w r.rd
end Go.Proofs.Ytdhcpoeopooejaa
