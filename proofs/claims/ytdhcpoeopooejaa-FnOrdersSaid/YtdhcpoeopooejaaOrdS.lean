/- OrderDefect, spec. -/
import Derived.Test.YtdhcpoeopooejaaOrd
import Derived.Test.YtdhcpoeopooejaaApply
namespace Go.Proofs.Ytdhcpoeopooejaa
open Go.RowKit
set_option linter.unusedVariables false
set_option linter.unusedSimpArgs false

def t3 (_n : Nat) (h : Nat → Nat → Bool) (i k m : Nat) : Option (List Int) := if h i k && h k m && !h i m then some [(i : Int), (k : Int), (m : Int)] else none
/-- A square relation of n rows as it lies. -/
def Rel (w : World) (v : Value) (x : List (List Bool)) (n : Nat) : Prop :=
  ∃ b off c, v = .slice (some ⟨b, off, none⟩) n c ∧ n ≤ c ∧ c ≤ maxLen ∧ ∀ i, i < n → ∃ b2 off2 c2, w.cell? ⟨b, off + i, none⟩ = some (.slice (some ⟨b2, off2, none⟩) n c2) ∧ n ≤ c2 ∧ ∀ k, k < n → w.cell? ⟨b2, off2 + k, none⟩ = some (.bool (lsB x i k))
theorem RdBB.rel {w : World} {v : Value} {x : List (List Bool)} (h : RdBB w v x) (hr : relB x = true) : Rel w v x x.length := by
  have hp := relB_len hr
  obtain ⟨ao, c, us, rfl, h1, h2, h3, h4, h5⟩ := h
  obtain ⟨b, off, rfl, hR⟩ := h4 (by omega)
  refine ⟨b, off, c, rfl, h1, h2, fun i hi => ?_⟩
  obtain ⟨ao2, c2, e2, h7, _, h6⟩ := h5 i hi
  have hl := relB_row hr hi
  obtain ⟨b2, off2, rfl, hR2⟩ := h6 (by omega)
  rw [hl] at e2 hR2 h7
  exact ⟨b2, off2, c2, by rw [hR i hi, e2], h7, hR2⟩
theorem Rel.below {w w' : World} {v : Value} {x : List (List Bool)} {n : Nat} (h : Rel w v x n) (hb : Below w.heap.size w w') : Rel w' v x n := by
  obtain ⟨b, off, c, rfl, h1, h2, h3⟩ := h
  refine ⟨b, off, c, rfl, h1, h2, fun i hi => ?_⟩
  obtain ⟨b2, off2, c2, e1, h4, h5⟩ := h3 i hi
  refine ⟨b2, off2, c2, (hb.cell (p := ⟨b, off + i, none⟩) (block_lt_of_cell e1)).trans e1, h4, fun k hk => ?_⟩
  have e2 := h5 k hk
  exact (hb.cell (p := ⟨b2, off2 + k, none⟩) (block_lt_of_cell e2)).trans e2
/-- New memory that reads as a list of ints. -/
theorem Fresh.lits {w w1 : World} (hb : Below w.heap.size w w1) (xs : List Int) (hl : xs.length ≤ 1000) : Fresh w (w1.alloc (.cells (ints xs).toArray 3)) (.slice (some ⟨w1.heap.size, 0, none⟩) xs.length xs.length) xs := by
  have hr : Row (w1.alloc (.cells (ints xs).toArray 3)) 3 w1.heap.size 0 xs.length (ints xs) := by
    refine ⟨(ints xs).toArray, by show (w1.heap.push _)[w1.heap.size]? = _; simp, by simp, by simp, by unfold maxLen; omega, fun i hi => ?_⟩
    rw [Nat.zero_add, List.getElem?_toArray, List.getElem?_eq_getElem]
  have hs := Sl.of_row hr
  rw [ints_length] at hs
  exact ⟨hs, fun k hk => by simp [Value.ownBlock] at hk; have := hb.size; omega, hb.alloc hb.size _⟩

set_option maxHeartbeats 1000000 in
theorem l2Relation_any (v : Value) (x : List (List Bool)) (w : World) (hv : RdBB w v x) :
    Calls Try.prog 56 #[v] w fun e w' => e = .returned (.bool (relB x)) ∧ w = w' := by
  obtain ⟨ao, c, us, rfl, h1, h2, hu, HA, HB⟩ := hv
  unfold maxLen at h2
  have hno : ∀ k, k < x.length → ¬ (gbl x k).length = x.length → relB x = false := by
    intro k hk hne
    cases h : relB x
    · rfl
    · exact absurd (relB_row h hk) hne
  have hyes : (∀ j, j < x.length → (gbl x j).length = x.length) → relB x = inB x.length 1 12 := by
    intro h
    have : squareB x = true := by
      unfold squareB
      rw [List.all_eq_true]
      intro r hr
      obtain ⟨j, hj, rfl⟩ := List.getElem_of_mem hr
      have := h j hj
      rw [gbl_eq hj] at this
      exact decide_eq_true this
    unfold relB
    rw [this, Bool.and_true]
  obtain ⟨R, hR0⟩ : ∃ R, relB x = R := ⟨_, rfl⟩
  rw [hR0] at hno hyes ⊢
  generalize hn : x.length = n at *
  replace HA := Lib.hid HA
  replace HB := Lib.hid HB
  replace hn := Lib.hid hn
  replace hu := Lib.hid hu
  replace hno := Lib.hid hno
  replace hyes := Lib.hid hyes
  replace hR0 := Lib.hid hR0
  go_enter Try.func56, Try.ntmps56
  go_wp2
  go_loop [3] (fun i => ∃ k : Nat, k ≤ n ∧ i = .int .i64 k ∧ ∀ j, j < k → (gbl x j).length = n) (fun i => n - (intOf i).toNat)
  case atStart => exact ⟨0, Nat.zero_le _, rfl, fun j hj => absurd hj (by omega)⟩
  case round =>
    obtain ⟨k, hk, rfl, hq⟩ := hrel
    replace hq := Lib.hid hq
    by_cases hlt : k < n
    · obtain ⟨b, off, rfl, hRd⟩ := HA.out (by omega)
      have hc1 := hRd k hlt
      obtain ⟨a2, c2, e2, q2, q3, _⟩ := HB.out k hlt
      rw [e2] at hc1
      unfold maxLen at q3
      generalize hL : (gbl x k).length = L at *
      replace hL := Lib.hid hL
      clear hRd e2
      by_cases he : L = n
      · subst he
        go_wp2
        go_round
        case rel =>
          refine ⟨k + 1, by omega, by go_num, fun j hj => ?_⟩
          by_cases hjk : j = k
          · subst hjk; exact hL.out
          · exact hq.out j (by omega)
        case measure => simp [intOf]; omega
      · have he2 : ¬ (L : Int) = (n : Int) := by omega
        have hf := Lib.hid (hno.out k hlt (by rw [hL.out]; exact he))
        go_wp2
        go_ret
        exact ⟨by rw [hf.out]; rfl, rfl⟩
    · obtain rfl : k = n := by omega
      have hf := Lib.hid (hyes.out hq.out)
      go_wp2_with (go_at_call 95; refine (l1In_any _ _ _ _).mono ?_; rintro e w' ⟨rfl, rfl⟩)
      go_ret
      exact ⟨by rw [hf.out]; rfl, rfl⟩

set_option maxHeartbeats 1000000 in
theorem l2Tie_any (v : Value) (x : List (List Bool)) (n i k : Nat) (w : World) (hv : Rel w v x n) (hi : i < n) (hk : k < n) :
    Calls Try.prog 58 #[v, .int .i64 i, .int .i64 k] w fun e w' => e = .returned (.bool (tieB x i k)) ∧ w = w' := by
  obtain ⟨b, off, c, rfl, h1, h2, HA⟩ := hv
  unfold maxLen at h2
  obtain ⟨b2, off2, c2, e1, h4, h5⟩ := HA i hi
  obtain ⟨b3, off3, c3, f1, g4, g5⟩ := HA k hk
  have e2 := h5 k hk
  have f2 := g5 i hi
  unfold tieB
  generalize lsB x i k = B1 at *
  generalize lsB x k i = B2 at *
  clear HA h5 g5
  cases B1 <;> cases B2 <;> go_enter Try.func58, Try.ntmps58
  all_goals go_wp2
  all_goals go_ret
  all_goals exact ⟨rfl, rfl⟩

set_option maxRecDepth 10000 in
set_option maxHeartbeats 4000000 in
theorem l2Triple_false (v : Value) (x : List (List Bool)) (n : Nat) (w : World) (hv : Rel w v x n) (hn : n ≤ 12) :
    Calls Try.prog 97 #[v, .bool false] w fun e w' => ∃ r, e = .returned r ∧ Fresh w w' r ((tr1 n (lsB x)).getD []) := by
  have hx := Lib.hid hv
  obtain ⟨b, off, c, rfl, h1, h2, HA⟩ := hv
  unfold maxLen at h2
  replace HA := Lib.hid HA
  go_enter Try.func97, Try.ntmps97
  go_wp2
  go_loop [6] (fun i => ∃ k : Nat, k ≤ n ∧ i = .int .i64 k ∧ ∀ j, j < k → tr2 n (lsB x) j = none) (fun i => n - (intOf i).toNat)
  case atStart => exact ⟨0, Nat.zero_le _, rfl, fun j hj => absurd hj (by omega)⟩
  case round =>
    obtain ⟨k1, m1, rfl, q1⟩ := hrel
    replace q1 := Lib.hid q1
    by_cases l1 : k1 < n
    · have i1 : (k1 : Int) < (n : Int) := by omega
      go_wp2
      go_loop [7] (fun i => ∃ k : Nat, k ≤ n ∧ i = .int .i64 k ∧ ∀ j, j < k → tr3 n (lsB x) k1 j = none) (fun i => n - (intOf i).toNat)
      case atStart => exact ⟨0, Nat.zero_le _, rfl, fun j hj => absurd hj (by omega)⟩
      case round =>
        obtain ⟨k2, m2, rfl, q2⟩ := hrel
        replace q2 := Lib.hid q2
        by_cases l2 : k2 < n
        · have i2 : (k2 : Int) < (n : Int) := by omega
          go_wp2
          go_loop [8] (fun i => ∃ k : Nat, k ≤ n ∧ i = .int .i64 k ∧ ∀ j, j < k → t3 n (lsB x) k1 k2 j = none) (fun i => n - (intOf i).toNat)
          case atStart => exact ⟨0, Nat.zero_le _, rfl, fun j hj => absurd hj (by omega)⟩
          case round =>
            obtain ⟨k3, m3, rfl, q3⟩ := hrel
            replace q3 := Lib.hid q3
            by_cases l3 : k3 < n
            · have i3 : (k3 : Int) < (n : Int) := by omega
              obtain ⟨b1, off1, cc1, e1, g1, d1⟩ := HA.out k1 l1
              obtain ⟨b2, off2, cc2, e2, g2, d2⟩ := HA.out k2 l2
              have c1 := d1 k2 l2
              have c2 := d2 k3 l3
              have c3 := d1 k3 l3
              clear d1 d2
              cases hb1 : lsB x k1 k2
              · cases hb2 : lsB x k2 k3 <;> cases hb3 : lsB x k1 k3
                all_goals
                  have hnone : Hid (t3 n (lsB x) k1 k2 k3 = none) := Lib.hid (by simp [t3, hb1, hb2, hb3])
                  rw [hb1] at c1
                  rw [hb2] at c2
                  rw [hb3] at c3
                  replace hb1 := Lib.hid hb1
                  replace hb2 := Lib.hid hb2
                  replace hb3 := Lib.hid hb3
                  go_wp2
                  go_round
                  case rel =>
                    refine ⟨k3 + 1, by omega, by go_num, fun j hj => ?_⟩
                    by_cases hjk : j = k3
                    · subst hjk; exact hnone.out
                    · exact q3.out j (by omega)
                  case measure => simp [intOf]; omega
              · cases hb2 : lsB x k2 k3
                · cases hb3 : lsB x k1 k3
                  all_goals
                    have hnone : Hid (t3 n (lsB x) k1 k2 k3 = none) := Lib.hid (by simp [t3, hb1, hb2, hb3])
                    rw [hb1] at c1
                    rw [hb2] at c2
                    rw [hb3] at c3
                    replace hb1 := Lib.hid hb1
                    replace hb2 := Lib.hid hb2
                    replace hb3 := Lib.hid hb3
                    go_wp2
                    go_round
                    case rel =>
                      refine ⟨k3 + 1, by omega, by go_num, fun j hj => ?_⟩
                      by_cases hjk : j = k3
                      · subst hjk; exact hnone.out
                      · exact q3.out j (by omega)
                    case measure => simp [intOf]; omega
                · cases hb3 : lsB x k1 k3
                  · have hsome : t3 n (lsB x) k1 k2 k3 = some [(k1 : Int), (k2 : Int), (k3 : Int)] := by simp [t3, hb1, hb2, hb3]
                    have hfound : Hid ((tr1 n (lsB x)).getD [] = [(k1 : Int), (k2 : Int), (k3 : Int)]) := Lib.hid (by
                      rw [tr1, fs_some (fs_some (fs_some hsome q3.out n l3) q2.out n l2) q1.out n l1]; rfl)
                    clear hsome
                    rw [hb1] at c1
                    rw [hb2] at c2
                    rw [hb3] at c3
                    replace hb1 := Lib.hid hb1
                    replace hb2 := Lib.hid hb2
                    replace hb3 := Lib.hid hb3
                    go_wp2
                    go_ret
                    refine ⟨_, rfl, ?_⟩
                    rw [hfound.out]
                    exact Fresh.lits (Below.refl _ _) [(k1 : Int), (k2 : Int), (k3 : Int)] (by simp)
                  · have hnone : Hid (t3 n (lsB x) k1 k2 k3 = none) := Lib.hid (by simp [t3, hb1, hb2, hb3])
                    rw [hb1] at c1
                    rw [hb2] at c2
                    rw [hb3] at c3
                    replace hb1 := Lib.hid hb1
                    replace hb2 := Lib.hid hb2
                    replace hb3 := Lib.hid hb3
                    go_wp2
                    go_round
                    case rel =>
                      refine ⟨k3 + 1, by omega, by go_num, fun j hj => ?_⟩
                      by_cases hjk : j = k3
                      · subst hjk; exact hnone.out
                      · exact q3.out j (by omega)
                    case measure => simp [intOf]; omega
            · have hnone : Hid (tr3 n (lsB x) k1 k2 = none) := Lib.hid (fs_none (fun j hj => q3.out j (by omega)))
              go_wp2
              go_round
              case rel =>
                refine ⟨k2 + 1, by omega, by go_num, fun j hj => ?_⟩
                by_cases hjk : j = k2
                · subst hjk; exact hnone.out
                · exact q2.out j (by omega)
              case measure => simp [intOf]; omega
        · have hnone : Hid (tr2 n (lsB x) k1 = none) := Lib.hid (fs_none (fun j hj => q2.out j (by omega)))
          go_wp2
          go_round
          case rel =>
            refine ⟨k1 + 1, by omega, by go_num, fun j hj => ?_⟩
            by_cases hjk : j = k1
            · subst hjk; exact hnone.out
            · exact q1.out j (by omega)
          case measure => simp [intOf]; omega
    · have hnone : Hid (tr1 n (lsB x) = none) := Lib.hid (fs_none (fun j hj => q1.out j (by omega)))
      go_wp2
      go_ret
      refine ⟨_, rfl, ?_⟩
      rw [hnone.out]
      exact Fresh.empty (Below.refl _ _)

set_option maxRecDepth 10000 in
set_option maxHeartbeats 4000000 in
theorem l2Triple_true (v : Value) (x : List (List Bool)) (n : Nat) (w : World) (hv : Rel w v x n) (hn : n ≤ 12) :
    Calls Try.prog 97 #[v, .bool true] w fun e w' => ∃ r, e = .returned r ∧ Fresh w w' r ((tr1 n (tieB x)).getD []) := by
  have hx := Lib.hid hv
  obtain ⟨b, off, c, rfl, h1, h2, HA⟩ := hv
  unfold maxLen at h2
  replace HA := Lib.hid HA
  go_enter Try.func97, Try.ntmps97
  go_wp2
  go_loop [6] (fun i => ∃ k : Nat, k ≤ n ∧ i = .int .i64 k ∧ ∀ j, j < k → tr2 n (tieB x) j = none) (fun i => n - (intOf i).toNat)
  case atStart => exact ⟨0, Nat.zero_le _, rfl, fun j hj => absurd hj (by omega)⟩
  case round =>
    obtain ⟨k1, m1, rfl, q1⟩ := hrel
    replace q1 := Lib.hid q1
    by_cases l1 : k1 < n
    · have i1 : (k1 : Int) < (n : Int) := by omega
      go_wp2
      go_loop [7] (fun i => ∃ k : Nat, k ≤ n ∧ i = .int .i64 k ∧ ∀ j, j < k → tr3 n (tieB x) k1 j = none) (fun i => n - (intOf i).toNat)
      case atStart => exact ⟨0, Nat.zero_le _, rfl, fun j hj => absurd hj (by omega)⟩
      case round =>
        obtain ⟨k2, m2, rfl, q2⟩ := hrel
        replace q2 := Lib.hid q2
        by_cases l2 : k2 < n
        · have i2 : (k2 : Int) < (n : Int) := by omega
          go_wp2
          go_loop [8] (fun i => ∃ k : Nat, k ≤ n ∧ i = .int .i64 k ∧ ∀ j, j < k → t3 n (tieB x) k1 k2 j = none) (fun i => n - (intOf i).toNat)
          case atStart => exact ⟨0, Nat.zero_le _, rfl, fun j hj => absurd hj (by omega)⟩
          case round =>
            obtain ⟨k3, m3, rfl, q3⟩ := hrel
            replace q3 := Lib.hid q3
            by_cases l3 : k3 < n
            · have i3 : (k3 : Int) < (n : Int) := by omega
              cases hb1 : tieB x k1 k2
              · cases hb2 : tieB x k2 k3 <;> cases hb3 : tieB x k1 k3
                all_goals
                  have hnone : Hid (t3 n (tieB x) k1 k2 k3 = none) := Lib.hid (by simp [t3, hb1, hb2, hb3])
                  replace hb1 := Lib.hid hb1
                  replace hb2 := Lib.hid hb2
                  replace hb3 := Lib.hid hb3
                  go_wp2_with fail
                  refine (l2Tie_any _ x n k1 k2 _ hx.out l1 l2).mono ?_
                  rintro e w' ⟨rfl, rfl⟩
                  rw [hb1.out]
                  go_wp2
                  go_round
                  case rel =>
                    refine ⟨k3 + 1, by omega, by go_num, fun j hj => ?_⟩
                    by_cases hjk : j = k3
                    · subst hjk; exact hnone.out
                    · exact q3.out j (by omega)
                  case measure => simp [intOf]; omega
              · cases hb2 : tieB x k2 k3
                · cases hb3 : tieB x k1 k3
                  all_goals
                    have hnone : Hid (t3 n (tieB x) k1 k2 k3 = none) := Lib.hid (by simp [t3, hb1, hb2, hb3])
                    replace hb1 := Lib.hid hb1
                    replace hb2 := Lib.hid hb2
                    replace hb3 := Lib.hid hb3
                    go_wp2_with fail
                    refine (l2Tie_any _ x n k1 k2 _ hx.out l1 l2).mono ?_
                    rintro e w' ⟨rfl, rfl⟩
                    rw [hb1.out]
                    go_wp2_with fail
                    refine (l2Tie_any _ x n k2 k3 _ hx.out l2 l3).mono ?_
                    rintro e w' ⟨rfl, rfl⟩
                    rw [hb2.out]
                    go_wp2
                    go_round
                    case rel =>
                      refine ⟨k3 + 1, by omega, by go_num, fun j hj => ?_⟩
                      by_cases hjk : j = k3
                      · subst hjk; exact hnone.out
                      · exact q3.out j (by omega)
                    case measure => simp [intOf]; omega
                · cases hb3 : tieB x k1 k3
                  · have hsome : t3 n (tieB x) k1 k2 k3 = some [(k1 : Int), (k2 : Int), (k3 : Int)] := by simp [t3, hb1, hb2, hb3]
                    have hfound : Hid ((tr1 n (tieB x)).getD [] = [(k1 : Int), (k2 : Int), (k3 : Int)]) := Lib.hid (by
                      rw [tr1, fs_some (fs_some (fs_some hsome q3.out n l3) q2.out n l2) q1.out n l1]; rfl)
                    clear hsome
                    replace hb1 := Lib.hid hb1
                    replace hb2 := Lib.hid hb2
                    replace hb3 := Lib.hid hb3
                    go_wp2_with fail
                    refine (l2Tie_any _ x n k1 k2 _ hx.out l1 l2).mono ?_
                    rintro e w' ⟨rfl, rfl⟩
                    rw [hb1.out]
                    go_wp2_with fail
                    refine (l2Tie_any _ x n k2 k3 _ hx.out l2 l3).mono ?_
                    rintro e w' ⟨rfl, rfl⟩
                    rw [hb2.out]
                    go_wp2_with fail
                    refine (l2Tie_any _ x n k1 k3 _ hx.out l1 l3).mono ?_
                    rintro e w' ⟨rfl, rfl⟩
                    rw [hb3.out]
                    go_wp2
                    go_ret
                    refine ⟨_, rfl, ?_⟩
                    rw [hfound.out]
                    exact Fresh.lits (Below.refl _ _) [(k1 : Int), (k2 : Int), (k3 : Int)] (by simp)
                  · have hnone : Hid (t3 n (tieB x) k1 k2 k3 = none) := Lib.hid (by simp [t3, hb1, hb2, hb3])
                    replace hb1 := Lib.hid hb1
                    replace hb2 := Lib.hid hb2
                    replace hb3 := Lib.hid hb3
                    go_wp2_with fail
                    refine (l2Tie_any _ x n k1 k2 _ hx.out l1 l2).mono ?_
                    rintro e w' ⟨rfl, rfl⟩
                    rw [hb1.out]
                    go_wp2_with fail
                    refine (l2Tie_any _ x n k2 k3 _ hx.out l2 l3).mono ?_
                    rintro e w' ⟨rfl, rfl⟩
                    rw [hb2.out]
                    go_wp2_with fail
                    refine (l2Tie_any _ x n k1 k3 _ hx.out l1 l3).mono ?_
                    rintro e w' ⟨rfl, rfl⟩
                    rw [hb3.out]
                    go_wp2
                    go_round
                    case rel =>
                      refine ⟨k3 + 1, by omega, by go_num, fun j hj => ?_⟩
                      by_cases hjk : j = k3
                      · subst hjk; exact hnone.out
                      · exact q3.out j (by omega)
                    case measure => simp [intOf]; omega
            · have hnone : Hid (tr3 n (tieB x) k1 k2 = none) := Lib.hid (fs_none (fun j hj => q3.out j (by omega)))
              go_wp2
              go_round
              case rel =>
                refine ⟨k2 + 1, by omega, by go_num, fun j hj => ?_⟩
                by_cases hjk : j = k2
                · subst hjk; exact hnone.out
                · exact q2.out j (by omega)
              case measure => simp [intOf]; omega
        · have hnone : Hid (tr2 n (tieB x) k1 = none) := Lib.hid (fs_none (fun j hj => q2.out j (by omega)))
          go_wp2
          go_round
          case rel =>
            refine ⟨k1 + 1, by omega, by go_num, fun j hj => ?_⟩
            by_cases hjk : j = k1
            · subst hjk; exact hnone.out
            · exact q1.out j (by omega)
          case measure => simp [intOf]; omega
    · have hnone : Hid (tr1 n (tieB x) = none) := Lib.hid (fs_none (fun j hj => q1.out j (by omega)))
      go_wp2
      go_ret
      refine ⟨_, rfl, ?_⟩
      rw [hnone.out]
      exact Fresh.empty (Below.refl _ _)

theorem fsD {p : Option (List Int)} {v : List Int} (h : p.getD [] = v) (hp : ∀ u, p = some u → 1 ≤ u.length) : (v = [] ∧ p = none) ∨ (1 ≤ v.length ∧ p = some v) := by
  cases p with
  | none => exact .inl ⟨h.symm, rfl⟩
  | some u => simp at h; subst h; exact .inr ⟨hp _ rfl, rfl⟩

set_option maxRecDepth 10000 in
set_option maxHeartbeats 4000000 in
theorem l2Defect_any (v : Value) (x : List (List Bool)) (n : Nat) (w : World) (hv : Rel w v x n) (hn : n ≤ 12) (hl : x.length = n) :
    Calls Try.prog 57 #[v] w fun e w' => ∃ r, e = .returned r ∧ Fresh w w' r (defF x) := by
  have hx := Lib.hid hv
  obtain ⟨b, off, c, rfl, h1, h2, HA⟩ := hv
  unfold maxLen at h2
  replace HA := Lib.hid HA
  have hl2 := Lib.hid hl
  obtain ⟨D, hD⟩ : ∃ D, defF x = D := ⟨_, rfl⟩
  rw [hD]
  replace hD := Lib.hid hD
  clear hl
  go_enter Try.func57, Try.ntmps57
  go_wp2
  go_loop [4] (fun i => ∃ k : Nat, k ≤ n ∧ i = .int .i64 k ∧ ∀ j, j < k → (if lsB x j j then some [(j : Int)] else none : Option (List Int)) = none) (fun i => n - (intOf i).toNat)
  case atStart => exact ⟨0, Nat.zero_le _, rfl, fun j hj => absurd hj (by omega)⟩
  case round =>
    obtain ⟨k1, m1, rfl, q1⟩ := hrel
    replace q1 := Lib.hid q1
    by_cases l1 : k1 < n
    · have i1 : (k1 : Int) < (n : Int) := by omega
      obtain ⟨b1, off1, cc1, e1, g1, d1⟩ := HA.out k1 l1
      have c1 := d1 k1 l1
      clear d1
      cases hb1 : lsB x k1 k1
      · rw [hb1] at c1
        replace hb1 := Lib.hid hb1
        go_wp2
        go_round
        case rel =>
          refine ⟨k1 + 1, by omega, by go_num, fun j hj => ?_⟩
          by_cases hjk : j = k1
          · subst hjk; rw [hb1.out]; rfl
          · exact q1.out j (by omega)
        case measure => simp [intOf]; omega
      · have hfound : D = [(k1 : Int)] := by
          rw [← hD.out]
          refine defF_1 ?_
          rw [dg1]
          refine fs_some (k := k1) (by rw [hb1]; rfl) q1.out _ (by rw [hl2.out]; exact l1)
        rw [hb1] at c1
        replace hb1 := Lib.hid hb1
        replace hfound := Lib.hid hfound
        go_wp2
        go_ret
        refine ⟨_, rfl, ?_⟩
        rw [hfound.out]
        exact Fresh.lits (Below.refl _ _) [(k1 : Int)] (by simp)
    · have hz1 : Hid (dg1 x = none) := Lib.hid (by rw [dg1, hl2.out]; exact fs_none (fun j hj => q1.out j (by omega)))
      clear q1
      go_wp2
      go_loop [5] (fun i => ∃ k : Nat, k ≤ n ∧ i = .int .i64 k ∧ ∀ j, j < k → dgRow2 x j = none) (fun i => n - (intOf i).toNat)
      case atStart => exact ⟨0, Nat.zero_le _, rfl, fun j hj => absurd hj (by omega)⟩
      case round =>
        obtain ⟨k1, m1, rfl, q1⟩ := hrel
        replace q1 := Lib.hid q1
        by_cases l1 : k1 < n
        · have i1 : (k1 : Int) < (n : Int) := by omega
          go_wp2
          go_loop [6] (fun i => ∃ k : Nat, k ≤ n ∧ i = .int .i64 k ∧ ∀ j, j < k → (if lsB x k1 j && lsB x j k1 then some [(k1 : Int), (j : Int)] else none : Option (List Int)) = none) (fun i => n - (intOf i).toNat)
          case atStart => exact ⟨0, Nat.zero_le _, rfl, fun j hj => absurd hj (by omega)⟩
          case round =>
            obtain ⟨k2, m2, rfl, q2⟩ := hrel
            replace q2 := Lib.hid q2
            by_cases l2 : k2 < n
            · have i2 : (k2 : Int) < (n : Int) := by omega
              obtain ⟨b1, off1, cc1, e1, g1, d1⟩ := HA.out k1 l1
              obtain ⟨b2, off2, cc2, e2, g2, d2⟩ := HA.out k2 l2
              have c1 := d1 k2 l2
              have c2 := d2 k1 l1
              clear d1 d2
              cases hb1 : lsB x k1 k2
              · rw [hb1] at c1
                replace hb1 := Lib.hid hb1
                generalize hb2 : lsB x k2 k1 = B2 at *
                replace hb2 := Lib.hid hb2
                go_wp2
                go_round
                case rel =>
                  refine ⟨k2 + 1, by omega, by go_num, fun j hj => ?_⟩
                  by_cases hjk : j = k2
                  · subst hjk; rw [hb1.out]; rfl
                  · exact q2.out j (by omega)
                case measure => simp [intOf]; omega
              · cases hb2 : lsB x k2 k1
                · rw [hb1] at c1
                  rw [hb2] at c2
                  replace hb1 := Lib.hid hb1
                  replace hb2 := Lib.hid hb2
                  go_wp2
                  go_round
                  case rel =>
                    refine ⟨k2 + 1, by omega, by go_num, fun j hj => ?_⟩
                    by_cases hjk : j = k2
                    · subst hjk; rw [hb1.out, hb2.out]; rfl
                    · exact q2.out j (by omega)
                  case measure => simp [intOf]; omega
                · have hfound : D = [(k1 : Int), (k2 : Int)] := by
                    rw [← hD.out]
                    refine defF_2 hz1.out ?_
                    rw [dg2]
                    refine fs_some (k := k1) ?_ q1.out _ (by rw [hl2.out]; exact l1)
                    rw [dgRow2]
                    exact fs_some (k := k2) (by rw [hb1, hb2]; rfl) q2.out _ (by rw [hl2.out]; exact l2)
                  rw [hb1] at c1
                  rw [hb2] at c2
                  replace hb1 := Lib.hid hb1
                  replace hb2 := Lib.hid hb2
                  replace hfound := Lib.hid hfound
                  go_wp2
                  go_ret
                  refine ⟨_, rfl, ?_⟩
                  rw [hfound.out]
                  exact Fresh.lits (Below.refl _ _) [(k1 : Int), (k2 : Int)] (by simp)
            · have hnone : Hid (dgRow2 x k1 = none) := Lib.hid (by rw [dgRow2, hl2.out]; exact fs_none (fun j hj => q2.out j (by omega)))
              go_wp2
              go_round
              case rel =>
                refine ⟨k1 + 1, by omega, by go_num, fun j hj => ?_⟩
                by_cases hjk : j = k1
                · subst hjk; exact hnone.out
                · exact q1.out j (by omega)
              case measure => simp [intOf]; omega
        · have hz2 : Hid (dg2 x = none) := Lib.hid (by rw [dg2, hl2.out]; exact fs_none (fun j hj => q1.out j (by omega)))
          go_wp2_with fail
          refine (l2Triple_false _ x n _ hx.out hn).mono ?_
          rintro e w2 ⟨r2, rfl, hf⟩
          obtain ⟨V, hV⟩ : ∃ V, (tr1 n (lsB x)).getD [] = V := ⟨_, rfl⟩
          rw [hV] at hf
          obtain ⟨aV, cV, rfl, _⟩ := hf.1
          rw [ints_length] at hf ⊢
          rcases fsD hV (fun u hu => (tr1_len hu).1) with ⟨rfl, hz3⟩ | ⟨hpos, hz3⟩
          · have hx2 := Lib.hid (hx.out.below hf.2.2)
            have hbl := Lib.hid hf.2.2
            replace hz3 := Lib.hid hz3
            clear hf hV
            go_wp2_with fail
            refine (l2Triple_true _ x n _ hx2.out hn).mono ?_
            rintro e w3 ⟨r3, rfl, hf⟩
            have hfound : (tr1 n (tieB x)).getD [] = D := by
              rw [← hD.out]
              cases h4 : tr1 n (tieB x) with
              | none => exact (defF_5 hz1.out hz2.out (by rw [hl2.out]; exact hz3.out) (by rw [hl2.out]; exact h4)).symm
              | some u => exact (defF_4 hz1.out hz2.out (by rw [hl2.out]; exact hz3.out) (by rw [hl2.out]; exact h4)).symm
            rw [hfound] at hf
            have hf2 : Hid (Fresh w w3 r3 D) := Lib.hid ⟨hf.1, fun k hk => Nat.le_trans hbl.out.size (hf.2.1 k hk), hbl.out.trans (hf.2.2.mono hbl.out.size)⟩
            clear hf
            go_wp2
            go_ret
            exact ⟨_, rfl, hf2.out⟩
          · have hfound : V = D := by
              rw [← hD.out]
              exact (defF_3 hz1.out hz2.out (by rw [hl2.out]; exact hz3)).symm
            subst hfound
            have hf2 := Lib.hid hf
            clear hf
            generalize V.length = L at *
            have hp : (0 : Int) < (L : Int) := by omega
            go_wp2
            go_ret
            exact ⟨_, rfl, hf2.out⟩

set_option maxHeartbeats 1000000 in
theorem spec_OrderDefect_law {v : Value} {x : List (List Bool)} {F : List Nat} {w : World} (r : RBoolSS w v x F) :
    Calls Try.prog 40 #[v] w fun e w' => ∃ r F, e = .returned (.tuple #[r, .bool (odR x).2]) ∧ RIntS w' r (odR x).1 F ∧ Fr w.heap.size F ∧ Below w.heap.size w w' ∧ (odR x).1.length ≤ 100000000000 := by
  have hv := Lib.hid r.rd
  have hlen := Lib.hid (odR_len x)
  have hfe := Lib.hid (Fresh.empty (Below.refl w.heap.size w))
  clear r
  cases h : relB x
  · have e0 : odR x = ([], false) := by simp [odR, h]
    rw [e0] at hlen ⊢
    clear e0
    go_enter Try.func40, Try.ntmps40
    go_wp2_with fail
    refine (l2Relation_any _ _ _ hv.out).mono ?_
    rintro e w1 ⟨rfl, rfl⟩
    rw [h]
    go_wp2
    go_ret2
    exact ⟨_, _, rfl, hfe.out.law.1, hfe.out.law.2.1, hfe.out.law.2.2, hlen.out⟩
  · have e0 : odR x = (defF x, true) := by simp [odR, h]
    rw [e0] at hlen ⊢
    clear e0
    have hrel := Lib.hid (hv.out.rel h)
    have hln := relB_len h
    go_enter Try.func40, Try.ntmps40
    go_wp2_with fail
    refine (l2Relation_any _ _ _ hv.out).mono ?_
    rintro e w1 ⟨rfl, rfl⟩
    rw [h]
    go_wp2_with fail
    refine (l2Defect_any _ x x.length _ hrel.out hln.2 rfl).mono ?_
    rintro e w1 ⟨r1, rfl, hf⟩
    replace hf := Lib.hid hf
    go_wp2
    go_ret2
    exact ⟨_, _, rfl, hf.out.law.1, hf.out.law.2.1, hf.out.law.2.2, hlen.out⟩
end Go.Proofs.Ytdhcpoeopooejaa
