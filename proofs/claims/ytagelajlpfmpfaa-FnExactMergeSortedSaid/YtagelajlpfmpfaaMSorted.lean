/- MergeSorted; cmp.Compare, compareKeys, slices.IsSortedFunc at records, spec.l5Ascending. -/
import Derived.Test.YtagelajlpfmpfaaMerge
import Derived.Test.YtagelajlpfmpfaaValidR
namespace Go.Proofs.Ytagelajlpfmpfaa
open Go.RowKit
set_option linter.unusedVariables false
set_option linter.unusedSimpArgs false

/-- Ascending by key. -/
def ascB (xs : List (Int × Int)) : Bool := (List.range (xs.length - 1)).all fun i => decide ((gr xs i).1 ≤ (gr xs (i + 1)).1)
theorem ascB_true {xs : List (Int × Int)} (h : ∀ i, i + 1 < xs.length → (gr xs i).1 ≤ (gr xs (i + 1)).1) : ascB xs = true := by
  unfold ascB
  rw [List.all_eq_true]
  intro i hi
  exact decide_eq_true (h i (by simp at hi; omega))
theorem ascB_false {xs : List (Int × Int)} {i : Nat} (hi : i + 1 < xs.length) (h : ¬ (gr xs i).1 ≤ (gr xs (i + 1)).1) : ascB xs = false := by
  unfold ascB
  rw [List.all_eq_false]
  exact ⟨i, by simp; omega, by simpa using h⟩
/-- cmp.Compare at ints. -/
def cmpI (a b : Int) : Int := if a < b then -1 else if a > b then 1 else 0

set_option maxHeartbeats 400000 in
theorem isNaN_any (a : Int) (w : World) : Calls Try.prog 135 #[.int .i64 a] w fun e w' => e = .returned (.bool false) ∧ w = w' := by
  go_enter Try.func135, Try.ntmps135
  go_wp2
  go_ret
  exact ⟨rfl, rfl⟩
set_option maxHeartbeats 400000 in
theorem cmpInt_any (a b : Int) (w : World) : Calls Try.prog 118 #[.int .i64 a, .int .i64 b] w fun e w' => e = .returned (.int .i64 (cmpI a b)) ∧ w = w' := by
  have ha : Hid (∀ w, Calls Try.prog 135 #[.int .i64 a] w fun e w' => e = .returned (.bool false) ∧ w = w') := Lib.hid fun w => isNaN_any a w
  have hb : Hid (∀ w, Calls Try.prog 135 #[.int .i64 b] w fun e w' => e = .returned (.bool false) ∧ w = w') := Lib.hid fun w => isNaN_any b w
  by_cases h1 : a < b
  · rw [show cmpI a b = -1 by simp [cmpI, h1]]
    go_enter Try.func118, Try.ntmps118
    go_wp2_with (go_at_call 135; refine (isNaN_any _ _).mono ?_; rintro e w' ⟨rfl, rfl⟩)
    go_ret
    exact ⟨rfl, rfl⟩
  · by_cases h2 : a > b
    · rw [show cmpI a b = 1 by unfold cmpI; rw [if_neg h1, if_pos h2]]
      go_enter Try.func118, Try.ntmps118
      go_wp2_with (go_at_call 135; refine (isNaN_any _ _).mono ?_; rintro e w' ⟨rfl, rfl⟩)
      go_ret
      exact ⟨rfl, rfl⟩
    · rw [show cmpI a b = 0 by unfold cmpI; rw [if_neg h1, if_neg h2]]
      go_enter Try.func118, Try.ntmps118
      go_wp2_with (go_at_call 135; refine (isNaN_any _ _).mono ?_; rintro e w' ⟨rfl, rfl⟩)
      go_ret
      exact ⟨rfl, rfl⟩
set_option maxHeartbeats 400000 in
theorem compareKeys_any (a b c d : Int) (w : World) : Calls Try.prog 125 #[.agg #[.int .i64 a, .int .i64 b], .agg #[.int .i64 c, .int .i64 d]] w fun e w' => e = .returned (.int .i64 (cmpI a c)) ∧ Below w.heap.size w w' := by
  go_enter Try.func125, Try.ntmps125
  go_wp2_with (go_at_call 118; refine (cmpInt_any _ _ _).mono ?_; rintro e w' ⟨rfl, rfl⟩)
  go_ret
  exact ⟨rfl, ((Below.refl _ _).alloc (Nat.le_refl _) _).alloc (by simp) _⟩
theorem compareKeys_lt (a b c d : Int) (w : World) (t : Bool) (h : decide (cmpI a c < 0) = t) : Calls Try.prog 125 #[.agg #[.int .i64 a, .int .i64 b], .agg #[.int .i64 c, .int .i64 d]] w fun e w' => e = .returned (.int .i64 (cmpI a c)) ∧ Below w.heap.size w w' := compareKeys_any a b c d w

set_option maxHeartbeats 1000000 in
theorem isSortedRec_any (v : Value) (xs : List (Int × Int)) (w : World) (hv : RdR w v xs) :
    Calls Try.prog 126 #[v, .func (.func 125) #[] #[]] w fun e w' => e = .returned (.bool (ascB xs)) ∧ Below w.heap.size w w' := by
  obtain ⟨ao, c, rfl, h1, h2, HA⟩ := hv
  unfold maxLen at h2
  generalize hn : xs.length = n at *
  replace HA := Lib.hid HA
  replace hn := Lib.hid hn
  go_enter Try.func126, Try.ntmps126
  go_wp2
  go_loopw [5] (fun i wr => ∃ k : Nat, k + 1 ≤ n + 1 ∧ i = .int .i64 ((k : Int) - 1) ∧ Below w.heap.size w wr ∧ ∀ j, k ≤ j + 1 → j + 1 < n → (gr xs j).1 ≤ (gr xs (j + 1)).1) (fun i _ => (intOf i).toNat)
  case atStart => exact ⟨n, Nat.le_refl _, by first | rfl | go_num, Below.refl _ _, fun j hj hj2 => absurd hj2 (by omega)⟩
  case round =>
    obtain ⟨k, hk, rfl, hb, hq⟩ := hrel
    replace hq := Lib.hid hq
    by_cases hlt : 1 < k
    · obtain ⟨b, off, rfl, hR⟩ := HA.out (by omega)
      obtain ⟨p, hp⟩ : ∃ p, k = p + 2 := ⟨k - 2, by omega⟩
      have h3 := hR (p + 1) (by omega)
      have h4 := hR p (by omega)
      have hb1 : b < w.heap.size := block_lt_of_cell h3.1
      obtain ⟨q, hq1⟩ : ∃ q, q = p + 1 := ⟨_, rfl⟩
      rw [← hq1] at h3
      have hc1 : wr.cell? ⟨b, off + q * 2, none⟩ = some (.int .i64 (gr xs q).1) := (hb.cell (p := ⟨b, off + q * 2, none⟩) hb1).trans h3.1
      have hc2 : wr.cell? ⟨b, off + q * 2 + 1, none⟩ = some (.int .i64 (gr xs q).2) := (hb.cell (p := ⟨b, off + q * 2 + 1, none⟩) hb1).trans h3.2
      have hc3 : wr.cell? ⟨b, off + p * 2, none⟩ = some (.int .i64 (gr xs p).1) := (hb.cell (p := ⟨b, off + p * 2, none⟩) hb1).trans h4.1
      have hc4 : wr.cell? ⟨b, off + p * 2 + 1, none⟩ = some (.int .i64 (gr xs p).2) := (hb.cell (p := ⟨b, off + p * 2 + 1, none⟩) hb1).trans h4.2
      have hB1 : b < wr.heap.size := Nat.lt_of_lt_of_le hb1 hb.size
      have hi1 : (k : Int) - 1 = (q : Int) := by omega
      have hi2 : (q : Int) - 1 = (p : Int) := by omega
      have hi3 : (0 : Int) < (q : Int) := by omega
      have hi4 : (q : Int) < (n : Int) := by omega
      have hi5 : (p : Int) < (n : Int) := by omega
      have hi6 : (0 : Int) ≤ (p : Int) := by omega
      have hi7 : IntKind.i64.wrap ((q : Int) - 1) = (p : Int) := by rw [hi2]; exact IntWalk.i64_in _ (by omega)
      have hi8 : (0 : Int) ≤ (q : Int) := by omega
      have hi9 : IntKind.i64.wrap (p : Int) = (p : Int) := IntWalk.i64_in _ (by omega)
      clear hR h3 h4 hb1
      rw [hi1]
      replace hb := Lib.hid hb
      generalize hx : gr xs q = x at *
      generalize hy : gr xs p = y at *
      obtain ⟨x1, x2⟩ := x
      obtain ⟨y1, y2⟩ := y
      dsimp only at hc1 hc2 hc3 hc4
      replace hx := Lib.hid hx
      replace hy := Lib.hid hy
      replace hi1 := Lib.hid hi1
      replace hp := Lib.hid hp
      replace hq1 := Lib.hid hq1
      by_cases hxy : y1 ≤ x1
      · have hcv : ¬ cmpI x1 y1 < 0 := by
          unfold cmpI; rw [if_neg (by omega)]; split <;> omega
        have hxy' := Lib.hid hxy
        generalize hcm : cmpI x1 y1 = cm at *
        replace hcm := Lib.hid hcm
        clear hxy
        go_wp2
        go_region_held3 (fun w' => w'.cell? ⟨b, off + q * 2, none⟩ = some (.int .i64 x1) ∧ w'.cell? ⟨b, off + q * 2 + 1, none⟩ = some (.int .i64 x2) ∧ w'.cell? ⟨b, off + p * 2, none⟩ = some (.int .i64 y1) ∧ w'.cell? ⟨b, off + p * 2 + 1, none⟩ = some (.int .i64 y2)) ((first | exact ⟨(hbel.cell (p := ⟨b, off + q * 2, none⟩) hB1).trans hc1, (hbel.cell (p := ⟨b, off + q * 2 + 1, none⟩) hB1).trans hc2, (hbel.cell (p := ⟨b, off + p * 2, none⟩) hB1).trans hc3, (hbel.cell (p := ⟨b, off + p * 2 + 1, none⟩) hB1).trans hc4⟩ | go_keep)) ((go_at_call 125; refine (compareKeys_any _ _ _ _ _).mono ?_; rintro e w' ⟨rfl, hbel⟩; rw [hcm.out]))
        go_wp2
        go_roundw
        case rel =>
          refine ⟨q, by have := hp.out; have := hq1.out; omega, by go_num, ?_, fun j hj hj2 => ?_⟩
          · refine Below.next (w := wr.drew) (Below.drewN hb.out 1) ?_
            assumption
          · by_cases hjk : j = p
            · subst hjk; rw [hy.out, show j + 1 = q by rw [hq1.out], hx.out]; exact hxy'.out
            · exact hq.out j (by have := hp.out; have := hq1.out; omega) hj2
        case measure => simp [intOf]; omega
      · have hcv : cmpI x1 y1 < 0 := by
          unfold cmpI; rw [if_pos (by omega)]; omega
        have hxy' := Lib.hid hxy
        generalize hcm : cmpI x1 y1 = cm at *
        replace hcm := Lib.hid hcm
        clear hxy
        go_wp2
        go_region_held3 (fun w' => w'.cell? ⟨b, off + q * 2, none⟩ = some (.int .i64 x1) ∧ w'.cell? ⟨b, off + q * 2 + 1, none⟩ = some (.int .i64 x2) ∧ w'.cell? ⟨b, off + p * 2, none⟩ = some (.int .i64 y1) ∧ w'.cell? ⟨b, off + p * 2 + 1, none⟩ = some (.int .i64 y2)) ((first | exact ⟨(hbel.cell (p := ⟨b, off + q * 2, none⟩) hB1).trans hc1, (hbel.cell (p := ⟨b, off + q * 2 + 1, none⟩) hB1).trans hc2, (hbel.cell (p := ⟨b, off + p * 2, none⟩) hB1).trans hc3, (hbel.cell (p := ⟨b, off + p * 2 + 1, none⟩) hB1).trans hc4⟩ | go_keep)) ((go_at_call 125; refine (compareKeys_any _ _ _ _ _).mono ?_; rintro e w' ⟨rfl, hbel⟩; rw [hcm.out]))
        go_wp2
        go_ret
        refine ⟨ret_bool ?_, ?_⟩
        · refine (ascB_false (i := p) (by rw [hn.out]; have := hp.out; omega) ?_).symm
          rw [hy.out, show p + 1 = q by rw [hq1.out], hx.out]
          have := hxy'.out
          dsimp only
          omega
        · refine Below.next (w := wr.drew) (Below.drewN hb.out 1) ?_
          assumption
    · have hz : ¬ (0 : Int) < (k : Int) - 1 := by omega
      have hd : ascB xs = true := ascB_true fun i hi => hq.out i (by omega) (by rw [← hn.out]; exact hi)
      replace hd := Lib.hid hd
      replace hb := Lib.hid hb
      go_wp2
      go_ret
      exact ⟨ret_bool hd.out.symm, hb.out⟩
set_option maxHeartbeats 400000 in
theorem areAscending_any (v : Value) (xs : List (Int × Int)) (w : World) (hv : RdR w v xs) :
    Calls Try.prog 93 #[v] w fun e w' => e = .returned (.bool (vrecs xs && ascB xs)) ∧ Below w.heap.size w w' := by
  replace hv := Lib.hid hv
  cases h : vrecs xs
  · go_enter Try.func93, Try.ntmps93
    go_wp2_with fail
    refine (isValidRecords_any _ _ _ hv.out).mono ?_
    rintro e w1 ⟨rfl, hb⟩
    rw [h]
    replace hb := Lib.hid hb
    go_wp2
    go_ret
    exact ⟨rfl, hb.out⟩
  · go_enter Try.func93, Try.ntmps93
    go_wp2_with fail
    refine (isValidRecords_any _ _ _ hv.out).mono ?_
    rintro e w1 ⟨rfl, hb⟩
    rw [h]
    have hv1 := Lib.hid (hv.out.below hb)
    replace hb := Lib.hid hb
    go_wp2_with fail
    refine (isSortedRec_any _ _ _ hv1.out).mono ?_
    rintro e w2 ⟨rfl, hb2⟩
    replace hb2 := Lib.hid (Below.next hb.out hb2)
    go_wp2
    go_ret
    exact ⟨by simp, hb2.out⟩

set_option maxHeartbeats 1000000 in
theorem l5Ascending_any (v : Value) (xs : List (Int × Int)) (w : World) (hv : RdR w v xs) :
    Calls Try.prog 91 #[v] w fun e w' => e = .returned (.bool (ascB xs)) ∧ Below w.heap.size w w' := by
  obtain ⟨ao, c, rfl, h1, h2, HA⟩ := hv
  unfold maxLen at h2
  generalize hn : xs.length = n at *
  replace HA := Lib.hid HA
  replace hn := Lib.hid hn
  go_enter Try.func91, Try.ntmps91
  go_wp2
  go_loopw [3] (fun i wr => ∃ k q : Nat, (k + 1 ≤ n ∨ k = 0) ∧ i = .int .i64 k ∧ wr = w.drewN q ∧ ∀ j, j < k → (gr xs j).1 ≤ (gr xs (j + 1)).1) (fun i _ => n - (intOf i).toNat)
  case atStart => exact ⟨0, 0, by omega, rfl, rfl, fun j hj => absurd hj (by omega)⟩
  case round =>
    obtain ⟨k, q, hk, rfl, rfl, hq⟩ := hrel
    replace hq := Lib.hid hq
    by_cases hlt : k + 1 < n
    · obtain ⟨b, off, rfl, hR⟩ := HA.out (by omega)
      have hc1 := (hR k (by omega)).1
      have hc2 := (hR (k + 1) hlt).1
      clear hR
      have hi1 : (0 : Int) ≤ (k : Int) := by omega
      have hi2 : IntKind.i64.wrap ((k : Int) + 1) = (k : Int) + 1 := IntWalk.i64_in _ (by omega)
      have hi3 : ((k : Int) + 1).toNat = k + 1 := by omega
      have hi4 : (0 : Int) ≤ (k : Int) + 1 := by omega
      generalize hx : (gr xs k).1 = x at *
      generalize hy : (gr xs (k + 1)).1 = y at *
      replace hx := Lib.hid hx
      replace hy := Lib.hid hy
      by_cases hxy : x > y
      · go_wp2
        go_quiet (fail)
        clear hi2 hi3
        go_wp2
        go_ret
        refine ⟨ret_bool ?_, by first | exact Below.drewN (Below.drewN (Below.refl _ _) _) _ | exact Below.drewN (Below.refl _ _) _⟩
        exact (ascB_false (i := k) (by rw [hn.out]; exact hlt) (by rw [hx.out, hy.out]; omega)).symm
      · go_wp2
        go_quiet (fail)
        clear hi2 hi3
        go_wp2
        go_roundw
        case rel =>
          refine ⟨k + 1, _, by omega, by go_num, rfl, fun j hj => ?_⟩
          by_cases hjk : j = k
          · subst hjk; rw [hx.out, hy.out]; omega
          · exact hq.out j (by omega)
        case measure => simp [intOf]; omega
    · have hd : ascB xs = true := ascB_true fun i hi => hq.out i (by rw [hn.out] at hi; omega)
      replace hd := Lib.hid hd
      go_wp2
      go_ret
      exact ⟨ret_bool hd.out.symm, Below.drewN (Below.refl _ _) _⟩

/-- The result of MergeSorted. -/
def mgB (x y : List (Int × Int)) : Bool := vrecs x && vrecs y && ascB x && ascB y && decide (x.length + y.length ≤ 64)
def mgR (x y : List (Int × Int)) : List (Int × Int) × Nat × Bool := if mgB x y then ((mergeF x y).1, (mergeF x y).2, true) else ([], 0, false)
theorem mgR_sz (x y : List (Int × Int)) : szRecordS (mgR x y).1 ≤ 100000000000 := by
  unfold mgR
  split
  · rename_i h
    simp [mgB] at h
    have h2 := (mergeF_len _ x y rfl).1
    unfold szRecordS
    dsimp only
    omega
  · simp [szRecordS]
set_option maxHeartbeats 1000000 in
theorem impl_MergeSorted_law {v u : Value} {x y : List (Int × Int)} {F G : List Nat} {w : World} (r : RRecordS w v x F) (s : RRecordS w u y G) :
  Calls Try.prog 50 #[v, u] w fun e w' => ∃ r F, e = .returned (.tuple #[r, .int .i64 ((mgR x y).2.1 : Nat), .bool (mgR x y).2.2]) ∧ RRecordS w' r (mgR x y).1 F ∧ Fr w.heap.size F ∧ Below w.heap.size w w' ∧ szRecordS (mgR x y).1 ≤ 100000000000 := by
  have hvx := Lib.hid r.rd
  have hvy := Lib.hid s.rd
  have hpx := Lib.hid r.rdP
  have hpy := Lib.hid s.rdP
  obtain ⟨ao, ca, rfl, hx1, hx2⟩ := r.rdP.shape
  obtain ⟨bo, cb, rfl, hy1, hy2⟩ := s.rdP.shape
  unfold maxLen at hx2 hy2
  clear r s
  have hsz := Lib.hid (mgR_sz x y)
  have hB := Lib.hid (Below.refl w.heap.size w)
  have hQ : Hid (∀ w1, Below w.heap.size w w1 → RRecordS (w1.alloc (.cells #[] 77)) (.slice (some ⟨w1.heap.size, 0, none⟩) 0 0) [] [w1.heap.size] ∧ Fr w.heap.size [w1.heap.size] ∧ Below w.heap.size w (w1.alloc (.cells #[] 77))) := Lib.hid fun w1 h1 => ⟨⟨(OwnQ.empty 77 w1).sl (by simp), rfl⟩, by intro b hb; simp at hb; have := h1.size; omega, h1.alloc h1.size _⟩
  cases a1 : (vrecs x && ascB x)
  · have e0 : mgR x y = ([], 0, false) := by
      unfold mgR
      rw [if_neg]
      simp only [mgB, Bool.and_eq_true, not_and, decide_eq_true_eq]
      intro h
      simp_all
    rw [e0] at hsz ⊢
    clear e0
    go_enter Try.func50, Try.ntmps50
    go_wp2_with fail
    refine (areAscending_any _ _ _ (hvx.out.below hB.out)).mono ?_
    rintro e w1 ⟨rfl, hb⟩
    rw [a1]
    replace hB := Lib.hid (Below.next hB.out hb)
    clear hb
    go_wp2
    go_ret3
    exact ⟨_, [], rfl, ⟨SlQ.nil _ _, rfl⟩, by intro b hb; simp at hb, hB.out, hsz.out⟩
  cases a2 : (vrecs y && ascB y)
  · have e0 : mgR x y = ([], 0, false) := by
      unfold mgR
      rw [if_neg]
      simp only [mgB, Bool.and_eq_true, not_and, decide_eq_true_eq]
      intro h
      simp_all
    rw [e0] at hsz ⊢
    clear e0
    go_enter Try.func50, Try.ntmps50
    go_wp2_with fail
    refine (areAscending_any _ _ _ (hvx.out.below hB.out)).mono ?_
    rintro e w1 ⟨rfl, hb⟩
    rw [a1]
    replace hB := Lib.hid (Below.next hB.out hb)
    clear hb
    go_wp2_with fail
    refine (areAscending_any _ _ _ (hvy.out.below hB.out)).mono ?_
    rintro e w2 ⟨rfl, hb⟩
    rw [a2]
    replace hB := Lib.hid (Below.next hB.out hb)
    clear hb
    go_wp2
    go_ret3
    exact ⟨_, [], rfl, ⟨SlQ.nil _ _, rfl⟩, by intro b hb; simp at hb, hB.out, hsz.out⟩
  by_cases hl : x.length + y.length ≤ 64
  · have e0 : mgR x y = ((mergeF x y).1, (mergeF x y).2, true) := by
      unfold mgR
      rw [if_pos]
      simp [mgB]; simp_all
    have hm := Lib.hid (mergeF_len _ x y rfl).1
    rw [e0] at hsz ⊢
    clear e0
    have hz : ¬ (64 : Int) < (x.length : Int) + (y.length : Int) := by omega
    go_enter Try.func50, Try.ntmps50
    go_wp2_with fail
    refine (areAscending_any _ _ _ (hvx.out.below hB.out)).mono ?_
    rintro e w1 ⟨rfl, hb⟩
    rw [a1]
    replace hB := Lib.hid (Below.next hB.out hb)
    clear hb
    go_wp2_with fail
    refine (areAscending_any _ _ _ (hvy.out.below hB.out)).mono ?_
    rintro e w2 ⟨rfl, hb⟩
    rw [a2]
    replace hB := Lib.hid (Below.next hB.out hb)
    clear hb
    go_wp2_with fail
    refine (impl_merge_any _ _ _ _ _ (hpx.out.below hB.out) (hpy.out.below hB.out) (by omega)).mono ?_
    rintro e w9 ⟨o, rfl, ho, hb2⟩
    have hlw := ho.law (by rw [hm.out]; omega)
    have h1 := Lib.hid hlw.1
    have h2 := Lib.hid (Fr.of hB.out hlw.2)
    have h3 := Lib.hid (Below.next hB.out hb2)
    clear ho hb2 hlw
    go_wp2
    go_ret3
    exact ⟨_, _, rfl, h1.out, h2.out, h3.out, hsz.out⟩
  · have e0 : mgR x y = ([], 0, false) := by
      unfold mgR
      rw [if_neg]
      simp only [mgB, Bool.and_eq_true, decide_eq_true_eq]
      exact fun h => hl h.2
    rw [e0] at hsz ⊢
    clear e0
    have hlx : x.length ≤ 64 := (vrecs_iff.1 (by simp_all)).1
    have hly : y.length ≤ 64 := (vrecs_iff.1 (by simp_all)).1
    have hz : (64 : Int) < (x.length : Int) + (y.length : Int) := by omega
    go_enter Try.func50, Try.ntmps50
    go_wp2_with fail
    refine (areAscending_any _ _ _ (hvx.out.below hB.out)).mono ?_
    rintro e w1 ⟨rfl, hb⟩
    rw [a1]
    replace hB := Lib.hid (Below.next hB.out hb)
    clear hb
    go_wp2_with fail
    refine (areAscending_any _ _ _ (hvy.out.below hB.out)).mono ?_
    rintro e w2 ⟨rfl, hb⟩
    rw [a2]
    replace hB := Lib.hid (Below.next hB.out hb)
    clear hb
    go_wp2
    go_ret3
    exact ⟨_, [], rfl, ⟨SlQ.nil _ _, rfl⟩, by intro b hb; simp at hb, hB.out, hsz.out⟩
set_option maxHeartbeats 1000000 in
theorem spec_MergeSorted_law {v u : Value} {x y : List (Int × Int)} {F G : List Nat} {w : World} (r : RRecordS w v x F) (s : RRecordS w u y G) :
  Calls Try.prog 49 #[v, u] w fun e w' => ∃ r F, e = .returned (.tuple #[r, .int .i64 ((mgR x y).2.1 : Nat), .bool (mgR x y).2.2]) ∧ RRecordS w' r (mgR x y).1 F ∧ Fr w.heap.size F ∧ Below w.heap.size w w' ∧ szRecordS (mgR x y).1 ≤ 100000000000 := by
  have hvx := Lib.hid r.rd
  have hvy := Lib.hid s.rd
  have hpx := Lib.hid r.rdP
  have hpy := Lib.hid s.rdP
  obtain ⟨ao, ca, rfl, hx1, hx2⟩ := r.rdP.shape
  obtain ⟨bo, cb, rfl, hy1, hy2⟩ := s.rdP.shape
  unfold maxLen at hx2 hy2
  clear r s
  have hsz := Lib.hid (mgR_sz x y)
  have hB := Lib.hid (Below.refl w.heap.size w)
  have hQ : Hid (∀ w1, Below w.heap.size w w1 → RRecordS (w1.alloc (.cells #[] 77)) (.slice (some ⟨w1.heap.size, 0, none⟩) 0 0) [] [w1.heap.size] ∧ Fr w.heap.size [w1.heap.size] ∧ Below w.heap.size w (w1.alloc (.cells #[] 77))) := Lib.hid fun w1 h1 => ⟨⟨(OwnQ.empty 77 w1).sl (by simp), rfl⟩, by intro b hb; simp at hb; have := h1.size; omega, h1.alloc h1.size _⟩
  cases a1 : (vrecs x)
  · have e0 : mgR x y = ([], 0, false) := by
      unfold mgR
      rw [if_neg]
      simp only [mgB, Bool.and_eq_true, not_and, decide_eq_true_eq]
      intro h
      simp_all
    rw [e0] at hsz ⊢
    clear e0
    go_enter Try.func49, Try.ntmps49
    go_wp2_with fail
    refine (l2Records_any _ _ _ (hvx.out.below hB.out)).mono ?_
    rintro e w1 ⟨rfl, rfl⟩
    rw [a1]
    go_wp2
    go_ret3
    exact ⟨_, _, rfl, (hQ.out _ hB.out).1, (hQ.out _ hB.out).2.1, (hQ.out _ hB.out).2.2, hsz.out⟩
  cases a2 : (vrecs y)
  · have e0 : mgR x y = ([], 0, false) := by
      unfold mgR
      rw [if_neg]
      simp only [mgB, Bool.and_eq_true, not_and, decide_eq_true_eq]
      intro h
      simp_all
    rw [e0] at hsz ⊢
    clear e0
    go_enter Try.func49, Try.ntmps49
    go_wp2_with fail
    refine (l2Records_any _ _ _ (hvx.out.below hB.out)).mono ?_
    rintro e w1 ⟨rfl, rfl⟩
    rw [a1]
    go_wp2_with fail
    refine (l2Records_any _ _ _ (hvy.out.below hB.out)).mono ?_
    rintro e w2 ⟨rfl, rfl⟩
    rw [a2]
    go_wp2
    go_ret3
    exact ⟨_, _, rfl, (hQ.out _ hB.out).1, (hQ.out _ hB.out).2.1, (hQ.out _ hB.out).2.2, hsz.out⟩
  cases a3 : (ascB x)
  · have e0 : mgR x y = ([], 0, false) := by
      unfold mgR
      rw [if_neg]
      simp only [mgB, Bool.and_eq_true, not_and, decide_eq_true_eq]
      intro h
      simp_all
    rw [e0] at hsz ⊢
    clear e0
    go_enter Try.func49, Try.ntmps49
    go_wp2_with fail
    refine (l2Records_any _ _ _ (hvx.out.below hB.out)).mono ?_
    rintro e w1 ⟨rfl, rfl⟩
    rw [a1]
    go_wp2_with fail
    refine (l2Records_any _ _ _ (hvy.out.below hB.out)).mono ?_
    rintro e w2 ⟨rfl, rfl⟩
    rw [a2]
    go_wp2_with fail
    refine (l5Ascending_any _ _ _ (hvx.out.below hB.out)).mono ?_
    rintro e w3 ⟨rfl, hb⟩
    rw [a3]
    replace hB := Lib.hid (Below.next hB.out hb)
    clear hb
    go_wp2
    go_ret3
    exact ⟨_, _, rfl, (hQ.out _ hB.out).1, (hQ.out _ hB.out).2.1, (hQ.out _ hB.out).2.2, hsz.out⟩
  cases a4 : (ascB y)
  · have e0 : mgR x y = ([], 0, false) := by
      unfold mgR
      rw [if_neg]
      simp only [mgB, Bool.and_eq_true, not_and, decide_eq_true_eq]
      intro h
      simp_all
    rw [e0] at hsz ⊢
    clear e0
    go_enter Try.func49, Try.ntmps49
    go_wp2_with fail
    refine (l2Records_any _ _ _ (hvx.out.below hB.out)).mono ?_
    rintro e w1 ⟨rfl, rfl⟩
    rw [a1]
    go_wp2_with fail
    refine (l2Records_any _ _ _ (hvy.out.below hB.out)).mono ?_
    rintro e w2 ⟨rfl, rfl⟩
    rw [a2]
    go_wp2_with fail
    refine (l5Ascending_any _ _ _ (hvx.out.below hB.out)).mono ?_
    rintro e w3 ⟨rfl, hb⟩
    rw [a3]
    replace hB := Lib.hid (Below.next hB.out hb)
    clear hb
    go_wp2_with fail
    refine (l5Ascending_any _ _ _ (hvy.out.below hB.out)).mono ?_
    rintro e w4 ⟨rfl, hb⟩
    rw [a4]
    replace hB := Lib.hid (Below.next hB.out hb)
    clear hb
    go_wp2
    go_ret3
    exact ⟨_, _, rfl, (hQ.out _ hB.out).1, (hQ.out _ hB.out).2.1, (hQ.out _ hB.out).2.2, hsz.out⟩
  by_cases hl : x.length + y.length ≤ 64
  · have e0 : mgR x y = ((mergeF x y).1, (mergeF x y).2, true) := by
      unfold mgR
      rw [if_pos]
      simp [mgB]; simp_all
    have hm := Lib.hid (mergeF_len _ x y rfl).1
    rw [e0] at hsz ⊢
    clear e0
    have hz : ¬ (64 : Int) < (x.length : Int) + (y.length : Int) := by omega
    go_enter Try.func49, Try.ntmps49
    go_wp2_with fail
    refine (l2Records_any _ _ _ (hvx.out.below hB.out)).mono ?_
    rintro e w1 ⟨rfl, rfl⟩
    rw [a1]
    go_wp2_with fail
    refine (l2Records_any _ _ _ (hvy.out.below hB.out)).mono ?_
    rintro e w2 ⟨rfl, rfl⟩
    rw [a2]
    go_wp2_with fail
    refine (l5Ascending_any _ _ _ (hvx.out.below hB.out)).mono ?_
    rintro e w3 ⟨rfl, hb⟩
    rw [a3]
    replace hB := Lib.hid (Below.next hB.out hb)
    clear hb
    go_wp2_with fail
    refine (l5Ascending_any _ _ _ (hvy.out.below hB.out)).mono ?_
    rintro e w4 ⟨rfl, hb⟩
    rw [a4]
    replace hB := Lib.hid (Below.next hB.out hb)
    clear hb
    go_wp2_with fail
    refine (l5Merge_any _ _ _ _ _ (hpx.out.below hB.out) (hpy.out.below hB.out) (by omega)).mono ?_
    rintro e w9 ⟨o, rfl, ho, hb2⟩
    have hlw := ho.law (by rw [hm.out]; omega)
    have h1 := Lib.hid hlw.1
    have h2 := Lib.hid (Fr.of hB.out hlw.2)
    have h3 := Lib.hid (Below.next hB.out hb2)
    clear ho hb2 hlw
    go_wp2
    go_ret3
    exact ⟨_, _, rfl, h1.out, h2.out, h3.out, hsz.out⟩
  · have e0 : mgR x y = ([], 0, false) := by
      unfold mgR
      rw [if_neg]
      simp only [mgB, Bool.and_eq_true, decide_eq_true_eq]
      exact fun h => hl h.2
    rw [e0] at hsz ⊢
    clear e0
    have hlx : x.length ≤ 64 := (vrecs_iff.1 (by simp_all)).1
    have hly : y.length ≤ 64 := (vrecs_iff.1 (by simp_all)).1
    have hz : (64 : Int) < (x.length : Int) + (y.length : Int) := by omega
    go_enter Try.func49, Try.ntmps49
    go_wp2_with fail
    refine (l2Records_any _ _ _ (hvx.out.below hB.out)).mono ?_
    rintro e w1 ⟨rfl, rfl⟩
    rw [a1]
    go_wp2_with fail
    refine (l2Records_any _ _ _ (hvy.out.below hB.out)).mono ?_
    rintro e w2 ⟨rfl, rfl⟩
    rw [a2]
    go_wp2_with fail
    refine (l5Ascending_any _ _ _ (hvx.out.below hB.out)).mono ?_
    rintro e w3 ⟨rfl, hb⟩
    rw [a3]
    replace hB := Lib.hid (Below.next hB.out hb)
    clear hb
    go_wp2_with fail
    refine (l5Ascending_any _ _ _ (hvy.out.below hB.out)).mono ?_
    rintro e w4 ⟨rfl, hb⟩
    rw [a4]
    replace hB := Lib.hid (Below.next hB.out hb)
    clear hb
    go_wp2
    go_ret3
    exact ⟨_, _, rfl, (hQ.out _ hB.out).1, (hQ.out _ hB.out).2.1, (hQ.out _ hB.out).2.2, hsz.out⟩
end Go.Proofs.Ytagelajlpfmpfaa
