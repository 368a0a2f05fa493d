/- Valid records: l2Records, IsValidRecords. -/
import Derived.Test.YtdhcpoeopooejaaValid
import Derived.Test.YtdhcpoeopooejaaHRecord
namespace Go.Proofs.Ytdhcpoeopooejaa
open Go.RowKit
set_option linter.unusedVariables false
set_option linter.unusedSimpArgs false

def recB (r : Int × Int) : Bool := keyB r.1 && inB r.2 0 999
/-- A valid record list. -/
def vrecs (xs : List (Int × Int)) : Bool := decide (xs.length ≤ 64) && xs.all recB
theorem vrecs_bad {xs : List (Int × Int)} {k : Nat} (hk : k < xs.length) (h : recB (gr xs k) = false) : vrecs xs = false := by
  rw [gr_eq hk] at h
  have : xs.all recB = false := by
    rw [List.all_eq_false]
    exact ⟨_, List.getElem_mem hk, by simp [h]⟩
  simp [vrecs, this]
theorem vrecs_good {xs : List (Int × Int)} (hl : xs.length ≤ 64) (h : ∀ j, j < xs.length → recB (gr xs j) = true) : vrecs xs = true := by
  have : xs.all recB = true := by
    rw [List.all_eq_true]
    intro x hx
    obtain ⟨j, hj, rfl⟩ := List.getElem_of_mem hx
    have := h j hj
    rwa [gr_eq hj] at this
  simp [vrecs, this, hl]
theorem vrecs_long {xs : List (Int × Int)} (hl : 64 < xs.length) : vrecs xs = false := by
  have : decide (xs.length ≤ 64) = false := decide_eq_false (by omega)
  simp [vrecs, this]
theorem vrecs_iff {xs : List (Int × Int)} : vrecs xs = true ↔ xs.length ≤ 64 ∧ ∀ j, j < xs.length → recB (gr xs j) = true := by
  constructor
  · intro h
    simp [vrecs] at h
    refine ⟨h.1, fun j hj => ?_⟩
    rw [gr_eq hj]
    exact h.2 _ _ (List.getElem_mem hj)
  · intro h
    exact vrecs_good h.1 h.2

set_option maxHeartbeats 400000 in
theorem isRecord_any (a b : Int) (w : World) :
    Calls Try.prog 107 #[.agg #[.int .i64 a, .int .i64 b]] w fun e w' => e = .returned (.bool (recB (a, b))) ∧ Below w.heap.size w w' := by
  cases hk : keyB a
  · rw [show recB (a, b) = false by simp [recB, hk]]
    go_enter Try.func107, Try.ntmps107
    go_wp2_with (go_at_call 87; refine (isKey_any _ _).mono ?_; rintro e w' ⟨rfl, rfl⟩)
    go_ret
    exact ⟨rfl, (Below.refl _ _).alloc (Nat.le_refl _) _⟩
  · rw [show recB (a, b) = inB b 0 999 by simp [recB, hk]]
    go_enter Try.func107, Try.ntmps107
    go_wp2_with (first | (go_at_call 87; refine (isKey_any _ _).mono ?_; rintro e w' ⟨rfl, rfl⟩) | (go_at_call 98; refine (in_any _ _ _ _).mono ?_; rintro e w' ⟨rfl, rfl⟩))
    go_ret
    exact ⟨rfl, (Below.refl _ _).alloc (Nat.le_refl _) _⟩

set_option maxHeartbeats 400000 in
theorem allRecFn_any (a b : Int) (bp : Nat) (w : World) (hc : w.cell? ⟨bp, 0, none⟩ = some (.func (.func 107) #[] #[])) :
    Calls Try.prog 124 #[.agg #[.int .i64 a, .int .i64 b], .pointer (some ⟨bp, 0, none⟩)] w fun e w' => e = .returned (.bool (!recB (a, b))) ∧ Below w.heap.size w w' := by
  have hlt := block_lt_of_cell hc
  have hca : ∀ o, (w.alloc o).cell? ⟨bp, 0, none⟩ = some (.func (.func 107) #[] #[]) := fun o => (((Below.refl w.heap.size w).alloc (Nat.le_refl _) o).cell (p := ⟨bp, 0, none⟩) hlt).trans hc
  go_enter Try.func124, Try.ntmps124
  go_wp2_with fail
  refine (isRecord_any _ _ _).mono ?_
  rintro e w1 ⟨rfl, hb⟩
  replace hb := Lib.hid hb
  go_wp2
  go_ret
  exact ⟨rfl, Below.next ((Below.refl w.heap.size w).alloc (Nat.le_refl _) _) hb.out⟩

set_option maxHeartbeats 1000000 in
theorem indexRec_any (v : Value) (xs : List (Int × Int)) (bp : Nat) (w : World) (hv : RdR w v xs) (hc : w.cell? ⟨bp, 0, none⟩ = some (.func (.func 107) #[] #[])) :
    Calls Try.prog 145 #[v, .func (.func 124) #[] #[.pointer (some ⟨bp, 0, none⟩)]] w fun e w' => e = .returned (.int .i64 (ixf (fun x => !recB x) xs)) ∧ Below w.heap.size w w' := by
  obtain ⟨ao, c, rfl, h1, h2, HA⟩ := hv
  unfold maxLen at h2
  have hlt0 := block_lt_of_cell hc
  generalize hn : xs.length = n at *
  replace HA := Lib.hid HA
  replace hn := Lib.hid hn
  replace hc := Lib.hid hc
  go_enter Try.func145, Try.ntmps145
  go_wp2
  go_loopw [8] (fun i wr => ∃ k : Nat, k ≤ n ∧ i = .int .i64 k ∧ Below w.heap.size w wr ∧ ∀ j, j < k → recB (gr xs j) = true) (fun i _ => n - (intOf i).toNat)
  case atStart => exact ⟨0, Nat.zero_le _, rfl, Below.refl _ _, fun j hj => absurd hj (by omega)⟩
  case round =>
    obtain ⟨k, hk, rfl, hb, hq⟩ := hrel
    replace hq := Lib.hid hq
    by_cases hlt : k < n
    · obtain ⟨b, off, rfl, hR⟩ := HA.out (by omega)
      have h3 := hR k hlt
      have hb1 : b < w.heap.size := block_lt_of_cell h3.1
      have hc1 : wr.cell? ⟨b, off + k * 2, none⟩ = some (.int .i64 (gr xs k).1) := (hb.cell (p := ⟨b, off + k * 2, none⟩) hb1).trans h3.1
      have hc2 : wr.cell? ⟨b, off + k * 2 + 1, none⟩ = some (.int .i64 (gr xs k).2) := (hb.cell (p := ⟨b, off + k * 2 + 1, none⟩) hb1).trans h3.2
      have hcf := Lib.hid ((hb.cell (p := ⟨bp, 0, none⟩) hlt0).trans hc.out)
      clear hR h3
      generalize hx : gr xs k = x at *
      obtain ⟨x1, x2⟩ := x
      dsimp only at hc1 hc2
      replace hx := Lib.hid hx
      replace hb := Lib.hid hb
      cases hr : recB (x1, x2)
      · replace hr := Lib.hid hr
        go_wp2_with fail
        refine (allRecFn_any _ _ _ _ hcf.out).mono ?_
        rintro e w2 ⟨rfl, b2⟩
        replace hb := Lib.hid (Below.next hb.out b2)
        clear b2
        rw [hr.out]
        go_wp2
        go_ret
        refine ⟨ret_int (ixf_some (by rw [hn.out]; omega) ?_ fun j hj => ?_).symm, hb.out⟩
        · rw [← gr_eq, hx.out, hr.out]; rfl
        · have := hq.out j hj
          rw [← gr_eq, this]; rfl
      · replace hr := Lib.hid hr
        go_wp2_with fail
        refine (allRecFn_any _ _ _ _ hcf.out).mono ?_
        rintro e w2 ⟨rfl, b2⟩
        replace hb := Lib.hid (Below.next hb.out b2)
        clear b2
        rw [hr.out]
        go_wp2
        go_roundw
        case rel =>
          refine ⟨k + 1, by omega, by go_num, hb.out, fun j hj => ?_⟩
          by_cases hjk : j = k
          · subst hjk; rw [hx.out]; exact hr.out
          · exact hq.out j (by omega)
        case measure => simp [intOf]; omega
    · obtain rfl : k = n := by omega
      replace hb := Lib.hid hb
      go_wp2
      go_ret
      refine ⟨ret_int (ixf_none fun j hj => ?_).symm, hb.out⟩
      have := hq.out j (by rw [← hn.out]; exact hj)
      rw [← gr_eq, this]; rfl

set_option maxHeartbeats 400000 in
theorem containsRec_any (v : Value) (xs : List (Int × Int)) (bp : Nat) (w : World) (hv : RdR w v xs) (hc : w.cell? ⟨bp, 0, none⟩ = some (.func (.func 107) #[] #[])) :
    Calls Try.prog 123 #[v, .func (.func 124) #[] #[.pointer (some ⟨bp, 0, none⟩)]] w fun e w' => e = .returned (.bool (xs.any fun x => !recB x)) ∧ Below w.heap.size w w' := by
  rw [← ixf_nonneg]
  replace hv := Lib.hid hv
  replace hc := Lib.hid hc
  go_enter Try.func123, Try.ntmps123
  go_wp2_with fail
  refine (indexRec_any _ _ _ _ hv.out hc.out).mono ?_
  rintro e w1 ⟨rfl, hb⟩
  replace hb := Lib.hid hb
  go_wp2
  go_ret
  exact ⟨rfl, hb.out⟩

set_option maxHeartbeats 400000 in
theorem allRec_any (v : Value) (xs : List (Int × Int)) (w : World) (hv : RdR w v xs) :
    Calls Try.prog 106 #[v, .func (.func 107) #[] #[]] w fun e w' => e = .returned (.bool (xs.all recB)) ∧ Below w.heap.size w w' := by
  have hv2 := hv.below (w' := w.alloc (.cells #[.func (.func 107) #[] #[]] 113)) ((Below.refl _ _).alloc (Nat.le_refl _) _)
  replace hv := Lib.hid hv
  replace hv2 := Lib.hid hv2
  go_enter Try.func106, Try.ntmps106
  go_wp2_with fail
  refine (containsRec_any _ _ _ _ hv2.out (by simp [go_sem])).mono ?_
  rintro e w1 ⟨rfl, hb⟩
  have hb2 := Lib.hid (Below.next ((Below.refl w.heap.size w).alloc (Nat.le_refl _) (.cells #[.func (.func 107) #[] #[]] 113)) hb)
  clear hb
  go_wp2
  go_ret
  exact ⟨ret_bool (any_not recB xs), hb2.out⟩

set_option maxHeartbeats 400000 in
theorem isValidRecords_any (v : Value) (xs : List (Int × Int)) (w : World) (hv : RdR w v xs) :
    Calls Try.prog 70 #[v] w fun e w' => e = .returned (.bool (vrecs xs)) ∧ Below w.heap.size w w' := by
  have hv' := hv
  obtain ⟨ao, c, rfl, h1, h2, _⟩ := hv'
  unfold maxLen at h2
  replace hv := Lib.hid hv
  by_cases h : xs.length ≤ 64
  · have hd : decide ((xs.length : Int) ≤ 64) = true := by simp; omega
    have hr : vrecs xs = xs.all recB := by simp [vrecs, h]
    rw [hr]
    clear hr
    go_enter Try.func70, Try.ntmps70
    go_wp2_with (go_at_call 106; refine (allRec_any _ _ _ hv.out).mono ?_; rintro e w' ⟨rfl, hb⟩)
    go_ret
    exact ⟨rfl, by assumption⟩
  · have hd : decide ((xs.length : Int) ≤ 64) = false := by simp; omega
    rw [vrecs_long (by omega)]
    go_enter Try.func70, Try.ntmps70
    go_wp2
    go_ret
    exact ⟨rfl, Below.refl _ _⟩

set_option maxHeartbeats 1000000 in
theorem l2Records_any (v : Value) (xs : List (Int × Int)) (w : World) (hv : RdR w v xs) :
    Calls Try.prog 67 #[v] w fun e w' => e = .returned (.bool (vrecs xs)) ∧ w = w' := by
  obtain ⟨ao, c, rfl, h1, h2, HA⟩ := hv
  unfold maxLen at h2
  generalize hn : xs.length = n at *
  replace HA := Lib.hid HA
  replace hn := Lib.hid hn
  go_enter Try.func67, Try.ntmps67
  go_wp2
  go_loop [3] (fun i => ∃ k : Nat, k ≤ n ∧ k ≤ 65 ∧ i = .int .i64 k ∧ ∀ j, j < k → recB (gr xs j) = true) (fun i => n - (intOf i).toNat)
  case atStart => exact ⟨0, Nat.zero_le _, Nat.zero_le _, rfl, fun j hj => absurd hj (by omega)⟩
  case round =>
    obtain ⟨k, hk, hk2, rfl, hq⟩ := hrel
    replace hq := Lib.hid hq
    by_cases hlt : k < n
    · obtain ⟨b, off, rfl, hR⟩ := HA.out (by omega)
      have h3 := hR k hlt
      have hc1 := h3.1
      have hc2 := h3.2
      clear hR h3
      by_cases h64 : k ≤ 64
      · generalize hx : gr xs k = x at *
        obtain ⟨x1, x2⟩ := x
        dsimp only at hc1 hc2
        replace hx := Lib.hid hx
        cases hb : inB x1 (-100000) 100000
        · have hbad := Lib.hid (vrecs_bad (k := k) (by rw [hn.out]; omega) (show recB (gr xs k) = false by rw [hx.out]; simp [recB, keyB, hb]))
          go_wp2_with (go_at_call 95; refine (l1In_any _ _ _ _).mono ?_; rintro e w' ⟨rfl, rfl⟩)
          go_ret
          exact ⟨ret_bool hbad.out.symm, rfl⟩
        cases hb2 : inB x2 0 999
        · have hbad := Lib.hid (vrecs_bad (k := k) (by rw [hn.out]; omega) (show recB (gr xs k) = false by rw [hx.out]; simp [recB, hb2]))
          go_wp2_with (go_at_call 95; refine (l1In_any _ _ _ _).mono ?_; rintro e w' ⟨rfl, rfl⟩)
          go_ret
          exact ⟨ret_bool hbad.out.symm, rfl⟩
        · have hgood := Lib.hid (show recB (gr xs k) = true by rw [hx.out]; simp [recB, keyB, hb, hb2])
          go_wp2_with (go_at_call 95; refine (l1In_any _ _ _ _).mono ?_; rintro e w' ⟨rfl, rfl⟩)
          go_round
          case rel =>
            refine ⟨k + 1, by omega, by omega, by go_num, fun j hj => ?_⟩
            by_cases hjk : j = k
            · subst hjk; exact hgood.out
            · exact hq.out j (by omega)
          case measure => simp [intOf]; omega
      · have hbad := Lib.hid (vrecs_long (xs := xs) (by rw [hn.out]; omega))
        go_wp2
        go_ret
        exact ⟨by rw [hbad.out]; simp; omega, rfl⟩
    · obtain rfl : k = n := by omega
      have hv : decide (k ≤ 64) = vrecs xs := by
        by_cases h64 : k ≤ 64
        · rw [vrecs_good (by rw [hn.out]; omega) (by rw [hn.out]; exact hq.out)]; simpa using h64
        · rw [vrecs_long (by rw [hn.out]; omega)]; simpa using h64
      replace hv := Lib.hid hv
      go_wp2
      go_ret
      exact ⟨ret_bool (by rw [← hv.out]; simp; omega), rfl⟩

theorem impl_IsValidRecords_law {v : Value} {x : List (Int × Int)} {F : List Nat} {w : World} (r : RRecordS w v x F) :
    Calls Try.prog 70 #[v] w fun e w' => e = .returned (.bool (vrecs x)) ∧ Below w.heap.size w w' := isValidRecords_any v x w r.rd
end Go.Proofs.Ytdhcpoeopooejaa
