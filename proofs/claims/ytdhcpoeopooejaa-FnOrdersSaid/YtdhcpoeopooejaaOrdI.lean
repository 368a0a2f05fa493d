/- OrderDefect, impl. -/
import Derived.Test.YtdhcpoeopooejaaOrdS
namespace Go.Proofs.Ytdhcpoeopooejaa
open Go.RowKit
set_option linter.unusedVariables false
set_option linter.unusedSimpArgs false

theorem Fresh.litsz {w w1 : World} {z : Nat} (hb : Below w.heap.size w w1) (xs : List Int) (hl : xs.length ≤ 1000) (hz : z = w1.heap.size) : Fresh w (w1.alloc (.cells (ints xs).toArray 3)) (.slice (some ⟨z, 0, none⟩) xs.length xs.length) xs := by
  subst hz; exact Fresh.lits hb xs hl

set_option maxHeartbeats 400000 in
theorem rowFn_any (a2 ao : Option Addr) (L c2 n c bp : Nat) (w : World) (hc : w.cell? ⟨bp, 0, none⟩ = some (.slice ao n c)) :
    Calls Try.prog 100 #[.slice a2 L c2, .pointer (some ⟨bp, 0, none⟩)] w fun e w' => e = .returned (.bool (decide (L = n))) ∧ w = w' := by
  by_cases h : L = n
  · subst h
    go_enter Try.func100, Try.ntmps100
    go_wp2
    go_ret
    exact ⟨ret_bool (by simp), rfl⟩
  · have h2 : ((L : Int) == (n : Int)) = false := by simp; omega
    go_enter Try.func100, Try.ntmps100
    go_wp2
    go_ret
    exact ⟨ret_bool (by simp [h]), rfl⟩

set_option maxHeartbeats 400000 in
theorem allRowFn_any (a2 ao : Option Addr) (L c2 n c bp fp : Nat) (w : World) (hc : w.cell? ⟨bp, 0, none⟩ = some (.slice ao n c)) (hf : w.cell? ⟨fp, 0, none⟩ = some (.func (.func 100) #[] #[.pointer (some ⟨bp, 0, none⟩)])) :
    Calls Try.prog 120 #[.slice a2 L c2, .pointer (some ⟨fp, 0, none⟩)] w fun e w' => e = .returned (.bool (!decide (L = n))) ∧ w = w' := by
  go_enter Try.func120, Try.ntmps120
  go_wp2_with (go_at_call 100; refine (rowFn_any _ _ _ _ _ _ _ _ hc).mono ?_; rintro e w' ⟨rfl, rfl⟩)
  go_ret
  exact ⟨rfl, rfl⟩

set_option maxHeartbeats 400000 in
theorem indexRow_any (v : Value) (x : List (List Bool)) (ao : Option Addr) (n c bp fp : Nat) (w : World) (hv : RdBB w v x) (hc : w.cell? ⟨bp, 0, none⟩ = some (.slice ao n c)) (hf : w.cell? ⟨fp, 0, none⟩ = some (.func (.func 100) #[] #[.pointer (some ⟨bp, 0, none⟩)])) :
    Calls Try.prog 142 #[v, .func (.func 120) #[] #[.pointer (some ⟨fp, 0, none⟩)]] w fun e w' => e = .returned (.int .i64 (ixf (fun r : List Bool => !decide (r.length = n)) x)) ∧ w = w' := by
  obtain ⟨a0, c0, us, rfl, h1, h2, h3, HA, HB⟩ := hv
  unfold maxLen at h2
  generalize hm : x.length = m at *
  replace HA := Lib.hid HA
  replace HB := Lib.hid HB
  replace hm := Lib.hid hm
  replace h3 := Lib.hid h3
  go_enter Try.func142, Try.ntmps142
  go_wp2
  go_loop [8] (fun i => ∃ k : Nat, k ≤ m ∧ i = .int .i64 k ∧ ∀ j, j < k → (gbl x j).length = n) (fun i => m - (intOf i).toNat)
  case atStart => exact ⟨0, Nat.zero_le _, rfl, fun j hj => absurd hj (by omega)⟩
  case round =>
    obtain ⟨k, hk, rfl, hq⟩ := hrel
    replace hq := Lib.hid hq
    by_cases hlt : k < m
    · obtain ⟨b, off, rfl, hR⟩ := HA.out (by omega)
      have hc1 := hR k hlt
      obtain ⟨a2, c2, e2, q2, q3, _⟩ := HB.out k hlt
      rw [e2] at hc1
      clear hR e2
      generalize hL : (gbl x k).length = L at *
      replace hL := Lib.hid hL
      by_cases he : L = n
      · have hd : Hid (decide (L = n) = true) := Lib.hid (decide_eq_true he)
        replace he := Lib.hid he
        go_wp2_with fail
        refine (allRowFn_any _ _ _ _ _ _ _ _ _ hc hf).mono ?_
        rintro e w' ⟨rfl, rfl⟩
        rw [hd.out]
        go_wp2
        go_round
        case rel =>
          refine ⟨k + 1, by omega, by go_num, fun j hj => ?_⟩
          by_cases hjk : j = k
          · subst hjk; rw [hL.out]; exact he.out
          · exact hq.out j (by omega)
        case measure => simp [intOf]; omega
      · have hd : Hid (decide (L = n) = false) := Lib.hid (decide_eq_false he)
        replace he := Lib.hid he
        go_wp2_with fail
        refine (allRowFn_any _ _ _ _ _ _ _ _ _ hc hf).mono ?_
        rintro e w' ⟨rfl, rfl⟩
        rw [hd.out]
        go_wp2
        go_ret
        refine ⟨ret_int (ixf_some (by rw [hm.out]; omega) ?_ fun j hj => ?_).symm, rfl⟩
        · rw [← gbl_eq, hL.out, hd.out]; rfl
        · have := hq.out j hj
          rw [← gbl_eq, this]; simp
    · obtain rfl : k = m := by omega
      go_wp2
      go_ret
      refine ⟨ret_int (ixf_none fun j hj => ?_).symm, rfl⟩
      have := hq.out j (by rw [← hm.out]; exact hj)
      rw [← gbl_eq, this]; simp

set_option maxHeartbeats 400000 in
theorem containsRow_any (v : Value) (x : List (List Bool)) (ao : Option Addr) (n c bp fp : Nat) (w : World) (hv : RdBB w v x) (hc : w.cell? ⟨bp, 0, none⟩ = some (.slice ao n c)) (hf : w.cell? ⟨fp, 0, none⟩ = some (.func (.func 100) #[] #[.pointer (some ⟨bp, 0, none⟩)])) :
    Calls Try.prog 119 #[v, .func (.func 120) #[] #[.pointer (some ⟨fp, 0, none⟩)]] w fun e w' => e = .returned (.bool (x.any fun r => !decide (r.length = n))) ∧ w = w' := by
  rw [← ixf_nonneg]
  go_enter Try.func119, Try.ntmps119
  go_wp2_with (go_at_call 142; refine (indexRow_any _ _ _ _ _ _ _ _ hv hc hf).mono ?_; rintro e w' ⟨rfl, rfl⟩)
  go_ret
  exact ⟨rfl, rfl⟩

set_option maxHeartbeats 400000 in
theorem allRow_any (v : Value) (x : List (List Bool)) (ao : Option Addr) (n c bp : Nat) (w : World) (hv : RdBB w v x) (hc : w.cell? ⟨bp, 0, none⟩ = some (.slice ao n c)) :
    Calls Try.prog 99 #[v, .func (.func 100) #[] #[.pointer (some ⟨bp, 0, none⟩)]] w fun e w' => e = .returned (.bool (x.all fun r => decide (r.length = n))) ∧ Below w.heap.size w w' := by
  have hb : Below w.heap.size w (w.alloc (.cells #[.func (.func 100) #[] #[.pointer (some ⟨bp, 0, none⟩)]] 107)) := (Below.refl _ _).alloc (Nat.le_refl _) _
  have hv2 := Lib.hid (hv.below hb)
  have hc2 := Lib.hid ((hb.cell (p := ⟨bp, 0, none⟩) (block_lt_of_cell hc)).trans hc)
  replace hv := Lib.hid hv
  replace hc := Lib.hid hc
  replace hb := Lib.hid hb
  go_enter Try.func99, Try.ntmps99
  go_wp2_with fail
  refine (containsRow_any _ _ _ _ _ _ _ _ hv2.out hc2.out (by simp [go_sem])).mono ?_
  rintro e w' ⟨rfl, rfl⟩
  go_wp2
  go_ret
  exact ⟨ret_bool (any_not _ x), hb.out⟩

set_option maxHeartbeats 400000 in
theorem isRelation_any (v : Value) (x : List (List Bool)) (w : World) (hv : RdBB w v x) :
    Calls Try.prog 60 #[v] w fun e w' => e = .returned (.bool (relB x)) ∧ Below w.heap.size w w' := by
  have hb : Below w.heap.size w (w.alloc (.cells #[v] 28)) := (Below.refl _ _).alloc (Nat.le_refl _) _
  have hv2 := Lib.hid (hv.below hb)
  obtain ⟨ao, c, us, rfl, q1, q2, _⟩ := hv
  unfold maxLen at q2
  replace hb := Lib.hid hb
  unfold relB squareB
  generalize hn : x.length = n at *
  replace hn := Lib.hid hn
  cases hi : inB (n : Int) 1 12
  · go_enter Try.func60, Try.ntmps60
    go_wp2_with (go_at_call 98; refine (in_any _ _ _ _).mono ?_; rintro e w' ⟨rfl, rfl⟩)
    go_ret
    exact ⟨rfl, hb.out⟩
  · go_enter Try.func60, Try.ntmps60
    go_wp2_with fail
    refine (in_any _ _ _ _).mono ?_
    rintro e w' ⟨rfl, rfl⟩
    rw [hi]
    go_wp2_with fail
    refine (allRow_any _ x ao n c w.heap.size _ hv2.out (by simp [go_sem])).mono ?_
    rintro e w' ⟨rfl, hb2⟩
    have hb3 := Lib.hid (Below.next hb.out hb2)
    clear hb2
    go_wp2
    go_ret
    exact ⟨rfl, hb3.out⟩

set_option maxHeartbeats 1000000 in
theorem apart_any (v : Value) (x : List (List Bool)) (n i k bp : Nat) (w : World) (hv : Rel w v x n) (hc : w.cell? ⟨bp, 0, none⟩ = some v) (hi : i < n) (hk : k < n) :
    Calls Try.prog 101 #[.int .i64 i, .int .i64 k, .pointer (some ⟨bp, 0, none⟩)] w fun e w' => e = .returned (.bool (tieB x i k)) ∧ w = w' := by
  obtain ⟨b, off, c, rfl, h1, h2, HA⟩ := hv
  unfold maxLen at h2
  obtain ⟨b2, off2, c2, e1, h4, h5⟩ := HA i hi
  obtain ⟨b3, off3, c3, f1, g4, g5⟩ := HA k hk
  have e2 := h5 k hk
  have f2 := g5 i hi
  unfold tieB
  generalize lsB x i k = B1 at *
  generalize lsB x k i = B2 at *
  clear HA h5 g5
  cases B1 <;> cases B2 <;> go_enter Try.func101, Try.ntmps101
  all_goals go_wp2
  all_goals go_ret
  all_goals exact ⟨rfl, rfl⟩

set_option maxHeartbeats 1000000 in
theorem lessFn_any (v : Value) (x : List (List Bool)) (n i k bp : Nat) (w : World) (hv : Rel w v x n) (hc : w.cell? ⟨bp, 0, none⟩ = some v) (hi : i < n) (hk : k < n) :
    Calls Try.prog 102 #[.int .i64 i, .int .i64 k, .pointer (some ⟨bp, 0, none⟩)] w fun e w' => e = .returned (.bool (lsB x i k)) ∧ w = w' := by
  obtain ⟨b, off, c, rfl, h1, h2, HA⟩ := hv
  unfold maxLen at h2
  obtain ⟨b2, off2, c2, e1, h4, h5⟩ := HA i hi
  have e2 := h5 k hk
  generalize lsB x i k = B1 at *
  clear HA h5
  cases B1 <;> go_enter Try.func102, Try.ntmps102
  all_goals go_wp2
  all_goals go_ret
  all_goals exact ⟨rfl, rfl⟩

set_option maxRecDepth 10000 in
set_option maxHeartbeats 8000000 in
theorem orderDefect_any (v : Value) (x : List (List Bool)) (n : Nat) (w : World) (hv : Rel w v x n) (hn : n ≤ 12) (hl : x.length = n) :
    Calls Try.prog 61 #[v] w fun e w' => ∃ r, e = .returned r ∧ Fresh w w' r (defF x) ∧ (defF x = [] → r = .slice none 0 0) := by
  have hbel : Below w.heap.size w (w.alloc (.cells #[v] 28)) := (Below.refl _ _).alloc (Nat.le_refl _) _
  have hx := hv.below hbel
  have hbx : (w.alloc (.cells #[v] 28)).cell? ⟨w.heap.size, 0, none⟩ = some v := by simp [go_sem]
  have hl2 := Lib.hid hl
  obtain ⟨D, hD⟩ : ∃ D, defF x = D := ⟨_, rfl⟩
  rw [hD]
  replace hD := Lib.hid hD
  clear hl hv
  obtain ⟨b, off, c, rfl, h1, h2, HA⟩ := id hx
  unfold maxLen at h2
  clear h1
  replace HA := Lib.hid HA
  replace hx := Lib.hid hx
  replace hbel := Lib.hid hbel
  go_enter Try.func61, Try.ntmps61
  go_wp2
  go_loop [17] (fun i => ∃ k : Nat, k ≤ n ∧ i = .int .i64 k ∧ ∀ j, j < k → (if lsB x j j then some [(j : Int)] else none : Option (List Int)) = none) (fun i => n - (intOf i).toNat)
  case atStart => exact ⟨0, Nat.zero_le _, rfl, fun j hj => absurd hj (by omega)⟩
  case round =>
    obtain ⟨k1, m1, rfl, q1⟩ := hrel
    replace q1 := Lib.hid q1
    by_cases l1 : k1 < n
    · have i1 : (k1 : Int) < (n : Int) := by omega
      obtain ⟨b1, off1, cc1, e1, g1, d1⟩ := HA.out k1 l1
      have c1 := d1 k1 l1
      clear d1
      cases hb1 : lsB x k1 k1
      · rw [hb1] at c1
        have hnone : Hid ((if lsB x k1 k1 then some [(k1 : Int)] else none : Option (List Int)) = none) := Lib.hid (by rw [hb1]; rfl)
        replace hb1 := Lib.hid hb1
        go_wp2
        go_round
        case rel =>
          refine ⟨k1 + 1, by omega, by go_num, fun j hj => ?_⟩
          by_cases hjk : j = k1
          · subst hjk; exact hnone.out
          · exact q1.out j (by omega)
        case measure => simp [intOf]; omega
      · have hfound : D = [(k1 : Int)] := by
          rw [← hD.out]
          refine defF_1 ?_
          rw [dg1]
          refine fs_some (k := k1) (by rw [hb1]; rfl) q1.out _ (by rw [hl2.out]; exact l1)
        rw [hb1] at c1
        replace hb1 := Lib.hid hb1
        replace hfound := Lib.hid hfound
        go_wp2
        go_ret
        refine ⟨_, rfl, ?_⟩
        rw [hfound.out]
        exact ⟨Fresh.litsz hbel.out [(k1 : Int)] (by simp) (by simp), fun h => by simp at h⟩
    · have hz1 : Hid (dg1 x = none) := Lib.hid (by rw [dg1, hl2.out]; exact fs_none (fun j hj => q1.out j (by omega)))
      clear q1
      go_wp2
      go_loop [31] (fun i => ∃ k : Nat, k ≤ n ∧ i = .int .i64 k ∧ ∀ j, j < k → dgRow2 x j = none) (fun i => n - (intOf i).toNat)
      case atStart => exact ⟨0, Nat.zero_le _, rfl, fun j hj => absurd hj (by omega)⟩
      case round =>
        obtain ⟨k1, m1, rfl, q1⟩ := hrel
        replace q1 := Lib.hid q1
        by_cases l1 : k1 < n
        · have i1 : (k1 : Int) < (n : Int) := by omega
          go_wp2
          go_loop [35] (fun i => ∃ k : Nat, k ≤ n ∧ i = .int .i64 k ∧ ∀ j, j < k → (if lsB x k1 j && lsB x j k1 then some [(k1 : Int), (j : Int)] else none : Option (List Int)) = none) (fun i => n - (intOf i).toNat)
          case atStart => exact ⟨0, Nat.zero_le _, rfl, fun j hj => absurd hj (by omega)⟩
          case round =>
            obtain ⟨k2, m2, rfl, q2⟩ := hrel
            replace q2 := Lib.hid q2
            by_cases l2 : k2 < n
            · have i2 : (k2 : Int) < (n : Int) := by omega
              obtain ⟨b1, off1, cc1, e1, g1, d1⟩ := HA.out k1 l1
              obtain ⟨b2, off2, cc2, e2, g2, d2⟩ := HA.out k2 l2
              have c1 := d1 k2 l2
              have c2 := d2 k1 l1
              clear d1 d2
              cases hb1 : lsB x k1 k2
              · rw [hb1] at c1
                generalize hb2 : lsB x k2 k1 = B2 at *
                have hnone : Hid ((if lsB x k1 k2 && lsB x k2 k1 then some [(k1 : Int), (k2 : Int)] else none : Option (List Int)) = none) := Lib.hid (by rw [hb1]; rfl)
                replace hb1 := Lib.hid hb1
                replace hb2 := Lib.hid hb2
                go_wp2
                go_round
                case rel =>
                  refine ⟨k2 + 1, by omega, by go_num, fun j hj => ?_⟩
                  by_cases hjk : j = k2
                  · subst hjk; exact hnone.out
                  · exact q2.out j (by omega)
                case measure => simp [intOf]; omega
              · cases hb2 : lsB x k2 k1
                · rw [hb1] at c1
                  rw [hb2] at c2
                  have hnone : Hid ((if lsB x k1 k2 && lsB x k2 k1 then some [(k1 : Int), (k2 : Int)] else none : Option (List Int)) = none) := Lib.hid (by rw [hb1, hb2]; rfl)
                  replace hb1 := Lib.hid hb1
                  replace hb2 := Lib.hid hb2
                  go_wp2
                  go_round
                  case rel =>
                    refine ⟨k2 + 1, by omega, by go_num, fun j hj => ?_⟩
                    by_cases hjk : j = k2
                    · subst hjk; exact hnone.out
                    · exact q2.out j (by omega)
                  case measure => simp [intOf]; omega
                · have hfound : D = [(k1 : Int), (k2 : Int)] := by
                    rw [← hD.out]
                    refine defF_2 hz1.out ?_
                    rw [dg2]
                    refine fs_some (k := k1) ?_ q1.out _ (by rw [hl2.out]; exact l1)
                    rw [dgRow2]
                    exact fs_some (k := k2) (by rw [hb1, hb2]; rfl) q2.out _ (by rw [hl2.out]; exact l2)
                  rw [hb1] at c1
                  rw [hb2] at c2
                  replace hb1 := Lib.hid hb1
                  replace hb2 := Lib.hid hb2
                  replace hfound := Lib.hid hfound
                  go_wp2
                  go_ret
                  refine ⟨_, rfl, ?_⟩
                  rw [hfound.out]
                  exact ⟨Fresh.litsz hbel.out [(k1 : Int), (k2 : Int)] (by simp) (by simp), fun h => by simp at h⟩
            · have hnone : Hid (dgRow2 x k1 = none) := Lib.hid (by rw [dgRow2, hl2.out]; exact fs_none (fun j hj => q2.out j (by omega)))
              go_wp2
              go_round
              case rel =>
                refine ⟨k1 + 1, by omega, by go_num, fun j hj => ?_⟩
                by_cases hjk : j = k1
                · subst hjk; exact hnone.out
                · exact q1.out j (by omega)
              case measure => simp [intOf]; omega
        · have hz2 : Hid (dg2 x = none) := Lib.hid (by rw [dg2, hl2.out]; exact fs_none (fun j hj => q1.out j (by omega)))
          clear q1
          have hb3 : Below (w.alloc (.cells #[.slice (some ⟨b, off, none⟩) n c] 28)).heap.size (w.alloc (.cells #[.slice (some ⟨b, off, none⟩) n c] 28)) ((w.alloc (.cells #[.slice (some ⟨b, off, none⟩) n c] 28)).alloc (.cells #[.func (.func 102) #[] #[.pointer (some ⟨w.heap.size, 0, none⟩)], .func (.func 101) #[] #[.pointer (some ⟨w.heap.size, 0, none⟩)]] 108)) := (Below.refl _ _).alloc (Nat.le_refl _) _
          have hx3 := Lib.hid (hx.out.below hb3)
          have hbx3 := Lib.hid ((hb3.cell (p := ⟨w.heap.size, 0, none⟩) (block_lt_of_cell hbx)).trans hbx)
          have hbel3 := Lib.hid (Below.next hbel.out hb3)
          clear hb3 hx hbx hbel HA
          have hfc0 : ((w.alloc (.cells #[.slice (some ⟨b, off, none⟩) n c] 28)).alloc (.cells #[.func (.func 102) #[] #[.pointer (some ⟨w.heap.size, 0, none⟩)], .func (.func 101) #[] #[.pointer (some ⟨w.heap.size, 0, none⟩)]] 108)).cell? ⟨w.heap.size + 1, 0, none⟩ = some (.func (.func 102) #[] #[.pointer (some ⟨w.heap.size, 0, none⟩)]) := by simp [go_sem]
          have hfc1 : ((w.alloc (.cells #[.slice (some ⟨b, off, none⟩) n c] 28)).alloc (.cells #[.func (.func 102) #[] #[.pointer (some ⟨w.heap.size, 0, none⟩)], .func (.func 101) #[] #[.pointer (some ⟨w.heap.size, 0, none⟩)]] 108)).cell? ⟨w.heap.size + 1, 1, none⟩ = some (.func (.func 101) #[] #[.pointer (some ⟨w.heap.size, 0, none⟩)]) := by simp [go_sem]
          go_wp2
          go_loop [63] (fun i => ∃ k : Nat, k ≤ 2 ∧ i = .int .i64 k ∧ (1 ≤ k → tr1 n (lsB x) = none) ∧ (2 ≤ k → tr1 n (tieB x) = none)) (fun i => 2 - (intOf i).toNat)
          case atStart => exact ⟨0, Nat.zero_le _, rfl, fun h => by omega, fun h => by omega⟩
          case round =>
            obtain ⟨k0, m0, rfl, hz3, hz4⟩ := hrel
            match k0, m0, hz3, hz4 with
            | 0, m0, hz3, hz4 =>
              clear hz3 hz4
              rw [show ((0 : Nat) : Int) = 0 from rfl]
              go_wp2
              go_loop [68] (fun i => ∃ k : Nat, k ≤ n ∧ i = .int .i64 k ∧ ∀ j, j < k → tr2 n (lsB x) j = none) (fun i => n - (intOf i).toNat)
              case atStart => exact ⟨0, Nat.zero_le _, rfl, fun j hj => absurd hj (by omega)⟩
              case round =>
                obtain ⟨k1, m1, rfl, q1⟩ := hrel
                replace q1 := Lib.hid q1
                by_cases l1 : k1 < n
                · have i1 : (k1 : Int) < (n : Int) := by omega
                  go_wp2
                  go_loop [72] (fun i => ∃ k : Nat, k ≤ n ∧ i = .int .i64 k ∧ ∀ j, j < k → tr3 n (lsB x) k1 j = none) (fun i => n - (intOf i).toNat)
                  case atStart => exact ⟨0, Nat.zero_le _, rfl, fun j hj => absurd hj (by omega)⟩
                  case round =>
                    obtain ⟨k2, m2, rfl, q2⟩ := hrel
                    replace q2 := Lib.hid q2
                    by_cases l2 : k2 < n
                    · have i2 : (k2 : Int) < (n : Int) := by omega
                      go_wp2
                      go_loop [76] (fun i => ∃ k : Nat, k ≤ n ∧ i = .int .i64 k ∧ ∀ j, j < k → t3 n (lsB x) k1 k2 j = none) (fun i => n - (intOf i).toNat)
                      case atStart => exact ⟨0, Nat.zero_le _, rfl, fun j hj => absurd hj (by omega)⟩
                      case round =>
                        obtain ⟨k3, m3, rfl, q3⟩ := hrel
                        replace q3 := Lib.hid q3
                        by_cases l3 : k3 < n
                        · have i3 : (k3 : Int) < (n : Int) := by omega
                          cases hb1 : lsB x k1 k2
                          · cases hb2 : lsB x k2 k3 <;> cases hb3 : lsB x k1 k3
                            all_goals
                              have hnone : Hid (t3 n (lsB x) k1 k2 k3 = none) := Lib.hid (by simp [t3, hb1, hb2, hb3])
                              replace hb1 := Lib.hid hb1
                              replace hb2 := Lib.hid hb2
                              replace hb3 := Lib.hid hb3
                              go_wp2_with fail
                              refine (lessFn_any _ x n k1 k2 w.heap.size _ hx3.out hbx3.out l1 l2).mono ?_
                              rintro e w' ⟨rfl, rfl⟩
                              rw [hb1.out]
                              go_wp2
                              go_round
                              case rel =>
                                refine ⟨k3 + 1, by omega, by go_num, fun j hj => ?_⟩
                                by_cases hjk : j = k3
                                · subst hjk; exact hnone.out
                                · exact q3.out j (by omega)
                              case measure => simp [intOf]; omega
                          · cases hb2 : lsB x k2 k3
                            · cases hb3 : lsB x k1 k3
                              all_goals
                                have hnone : Hid (t3 n (lsB x) k1 k2 k3 = none) := Lib.hid (by simp [t3, hb1, hb2, hb3])
                                replace hb1 := Lib.hid hb1
                                replace hb2 := Lib.hid hb2
                                replace hb3 := Lib.hid hb3
                                go_wp2_with fail
                                refine (lessFn_any _ x n k1 k2 w.heap.size _ hx3.out hbx3.out l1 l2).mono ?_
                                rintro e w' ⟨rfl, rfl⟩
                                rw [hb1.out]
                                go_wp2_with fail
                                refine (lessFn_any _ x n k2 k3 w.heap.size _ hx3.out hbx3.out l2 l3).mono ?_
                                rintro e w' ⟨rfl, rfl⟩
                                rw [hb2.out]
                                go_wp2
                                go_round
                                case rel =>
                                  refine ⟨k3 + 1, by omega, by go_num, fun j hj => ?_⟩
                                  by_cases hjk : j = k3
                                  · subst hjk; exact hnone.out
                                  · exact q3.out j (by omega)
                                case measure => simp [intOf]; omega
                            · cases hb3 : lsB x k1 k3
                              · have hsome : t3 n (lsB x) k1 k2 k3 = some [(k1 : Int), (k2 : Int), (k3 : Int)] := by simp [t3, hb1, hb2, hb3]
                                have hfound : Hid (D = [(k1 : Int), (k2 : Int), (k3 : Int)]) := Lib.hid (by
                                  have : tr1 n (lsB x) = some [(k1 : Int), (k2 : Int), (k3 : Int)] := by rw [tr1, fs_some (fs_some (fs_some hsome q3.out n l3) q2.out n l2) q1.out n l1]
                                  rw [← hD.out]
                                  exact defF_3 hz1.out hz2.out (by rw [hl2.out]; exact this))
                                clear hsome
                                replace hb1 := Lib.hid hb1
                                replace hb2 := Lib.hid hb2
                                replace hb3 := Lib.hid hb3
                                go_wp2_with fail
                                refine (lessFn_any _ x n k1 k2 w.heap.size _ hx3.out hbx3.out l1 l2).mono ?_
                                rintro e w' ⟨rfl, rfl⟩
                                rw [hb1.out]
                                go_wp2_with fail
                                refine (lessFn_any _ x n k2 k3 w.heap.size _ hx3.out hbx3.out l2 l3).mono ?_
                                rintro e w' ⟨rfl, rfl⟩
                                rw [hb2.out]
                                go_wp2_with fail
                                refine (lessFn_any _ x n k1 k3 w.heap.size _ hx3.out hbx3.out l1 l3).mono ?_
                                rintro e w' ⟨rfl, rfl⟩
                                rw [hb3.out]
                                go_wp2
                                go_ret
                                refine ⟨_, rfl, ?_⟩
                                rw [hfound.out]
                                exact ⟨Fresh.litsz hbel3.out [(k1 : Int), (k2 : Int), (k3 : Int)] (by simp) (by simp), fun h => by simp at h⟩
                              · have hnone : Hid (t3 n (lsB x) k1 k2 k3 = none) := Lib.hid (by simp [t3, hb1, hb2, hb3])
                                replace hb1 := Lib.hid hb1
                                replace hb2 := Lib.hid hb2
                                replace hb3 := Lib.hid hb3
                                go_wp2_with fail
                                refine (lessFn_any _ x n k1 k2 w.heap.size _ hx3.out hbx3.out l1 l2).mono ?_
                                rintro e w' ⟨rfl, rfl⟩
                                rw [hb1.out]
                                go_wp2_with fail
                                refine (lessFn_any _ x n k2 k3 w.heap.size _ hx3.out hbx3.out l2 l3).mono ?_
                                rintro e w' ⟨rfl, rfl⟩
                                rw [hb2.out]
                                go_wp2_with fail
                                refine (lessFn_any _ x n k1 k3 w.heap.size _ hx3.out hbx3.out l1 l3).mono ?_
                                rintro e w' ⟨rfl, rfl⟩
                                rw [hb3.out]
                                go_wp2
                                go_round
                                case rel =>
                                  refine ⟨k3 + 1, by omega, by go_num, fun j hj => ?_⟩
                                  by_cases hjk : j = k3
                                  · subst hjk; exact hnone.out
                                  · exact q3.out j (by omega)
                                case measure => simp [intOf]; omega
                        · have hnone : Hid (tr3 n (lsB x) k1 k2 = none) := Lib.hid (fs_none (fun j hj => q3.out j (by omega)))
                          go_wp2
                          go_round
                          case rel =>
                            refine ⟨k2 + 1, by omega, by go_num, fun j hj => ?_⟩
                            by_cases hjk : j = k2
                            · subst hjk; exact hnone.out
                            · exact q2.out j (by omega)
                          case measure => simp [intOf]; omega
                    · have hnone : Hid (tr2 n (lsB x) k1 = none) := Lib.hid (fs_none (fun j hj => q2.out j (by omega)))
                      go_wp2
                      go_round
                      case rel =>
                        refine ⟨k1 + 1, by omega, by go_num, fun j hj => ?_⟩
                        by_cases hjk : j = k1
                        · subst hjk; exact hnone.out
                        · exact q1.out j (by omega)
                      case measure => simp [intOf]; omega
                · have hnone : Hid (tr1 n (lsB x) = none) := Lib.hid (fs_none (fun j hj => q1.out j (by omega)))
                  clear q1
                  go_wp2
                  go_round
                  case rel => exact ⟨1, by omega, rfl, fun _ => hnone.out, fun h => by omega⟩
                  case measure => simp [intOf]; try omega
            | 1, m0, hz3, hz4 =>
              have hz3 := Lib.hid (hz3 (Nat.le_refl _))
              clear hz4
              rw [show ((1 : Nat) : Int) = 1 from rfl]
              go_wp2
              go_loop [68] (fun i => ∃ k : Nat, k ≤ n ∧ i = .int .i64 k ∧ ∀ j, j < k → tr2 n (tieB x) j = none) (fun i => n - (intOf i).toNat)
              case atStart => exact ⟨0, Nat.zero_le _, rfl, fun j hj => absurd hj (by omega)⟩
              case round =>
                obtain ⟨k1, m1, rfl, q1⟩ := hrel
                replace q1 := Lib.hid q1
                by_cases l1 : k1 < n
                · have i1 : (k1 : Int) < (n : Int) := by omega
                  go_wp2
                  go_loop [72] (fun i => ∃ k : Nat, k ≤ n ∧ i = .int .i64 k ∧ ∀ j, j < k → tr3 n (tieB x) k1 j = none) (fun i => n - (intOf i).toNat)
                  case atStart => exact ⟨0, Nat.zero_le _, rfl, fun j hj => absurd hj (by omega)⟩
                  case round =>
                    obtain ⟨k2, m2, rfl, q2⟩ := hrel
                    replace q2 := Lib.hid q2
                    by_cases l2 : k2 < n
                    · have i2 : (k2 : Int) < (n : Int) := by omega
                      go_wp2
                      go_loop [76] (fun i => ∃ k : Nat, k ≤ n ∧ i = .int .i64 k ∧ ∀ j, j < k → t3 n (tieB x) k1 k2 j = none) (fun i => n - (intOf i).toNat)
                      case atStart => exact ⟨0, Nat.zero_le _, rfl, fun j hj => absurd hj (by omega)⟩
                      case round =>
                        obtain ⟨k3, m3, rfl, q3⟩ := hrel
                        replace q3 := Lib.hid q3
                        by_cases l3 : k3 < n
                        · have i3 : (k3 : Int) < (n : Int) := by omega
                          cases hb1 : tieB x k1 k2
                          · cases hb2 : tieB x k2 k3 <;> cases hb3 : tieB x k1 k3
                            all_goals
                              have hnone : Hid (t3 n (tieB x) k1 k2 k3 = none) := Lib.hid (by simp [t3, hb1, hb2, hb3])
                              replace hb1 := Lib.hid hb1
                              replace hb2 := Lib.hid hb2
                              replace hb3 := Lib.hid hb3
                              go_wp2_with fail
                              refine (apart_any _ x n k1 k2 w.heap.size _ hx3.out hbx3.out l1 l2).mono ?_
                              rintro e w' ⟨rfl, rfl⟩
                              rw [hb1.out]
                              go_wp2
                              go_round
                              case rel =>
                                refine ⟨k3 + 1, by omega, by go_num, fun j hj => ?_⟩
                                by_cases hjk : j = k3
                                · subst hjk; exact hnone.out
                                · exact q3.out j (by omega)
                              case measure => simp [intOf]; omega
                          · cases hb2 : tieB x k2 k3
                            · cases hb3 : tieB x k1 k3
                              all_goals
                                have hnone : Hid (t3 n (tieB x) k1 k2 k3 = none) := Lib.hid (by simp [t3, hb1, hb2, hb3])
                                replace hb1 := Lib.hid hb1
                                replace hb2 := Lib.hid hb2
                                replace hb3 := Lib.hid hb3
                                go_wp2_with fail
                                refine (apart_any _ x n k1 k2 w.heap.size _ hx3.out hbx3.out l1 l2).mono ?_
                                rintro e w' ⟨rfl, rfl⟩
                                rw [hb1.out]
                                go_wp2_with fail
                                refine (apart_any _ x n k2 k3 w.heap.size _ hx3.out hbx3.out l2 l3).mono ?_
                                rintro e w' ⟨rfl, rfl⟩
                                rw [hb2.out]
                                go_wp2
                                go_round
                                case rel =>
                                  refine ⟨k3 + 1, by omega, by go_num, fun j hj => ?_⟩
                                  by_cases hjk : j = k3
                                  · subst hjk; exact hnone.out
                                  · exact q3.out j (by omega)
                                case measure => simp [intOf]; omega
                            · cases hb3 : tieB x k1 k3
                              · have hsome : t3 n (tieB x) k1 k2 k3 = some [(k1 : Int), (k2 : Int), (k3 : Int)] := by simp [t3, hb1, hb2, hb3]
                                have hfound : Hid (D = [(k1 : Int), (k2 : Int), (k3 : Int)]) := Lib.hid (by
                                  have : tr1 n (tieB x) = some [(k1 : Int), (k2 : Int), (k3 : Int)] := by rw [tr1, fs_some (fs_some (fs_some hsome q3.out n l3) q2.out n l2) q1.out n l1]
                                  rw [← hD.out]
                                  exact defF_4 hz1.out hz2.out (by rw [hl2.out]; exact hz3.out) (by rw [hl2.out]; exact this))
                                clear hsome
                                replace hb1 := Lib.hid hb1
                                replace hb2 := Lib.hid hb2
                                replace hb3 := Lib.hid hb3
                                go_wp2_with fail
                                refine (apart_any _ x n k1 k2 w.heap.size _ hx3.out hbx3.out l1 l2).mono ?_
                                rintro e w' ⟨rfl, rfl⟩
                                rw [hb1.out]
                                go_wp2_with fail
                                refine (apart_any _ x n k2 k3 w.heap.size _ hx3.out hbx3.out l2 l3).mono ?_
                                rintro e w' ⟨rfl, rfl⟩
                                rw [hb2.out]
                                go_wp2_with fail
                                refine (apart_any _ x n k1 k3 w.heap.size _ hx3.out hbx3.out l1 l3).mono ?_
                                rintro e w' ⟨rfl, rfl⟩
                                rw [hb3.out]
                                go_wp2
                                go_ret
                                refine ⟨_, rfl, ?_⟩
                                rw [hfound.out]
                                exact ⟨Fresh.litsz hbel3.out [(k1 : Int), (k2 : Int), (k3 : Int)] (by simp) (by simp), fun h => by simp at h⟩
                              · have hnone : Hid (t3 n (tieB x) k1 k2 k3 = none) := Lib.hid (by simp [t3, hb1, hb2, hb3])
                                replace hb1 := Lib.hid hb1
                                replace hb2 := Lib.hid hb2
                                replace hb3 := Lib.hid hb3
                                go_wp2_with fail
                                refine (apart_any _ x n k1 k2 w.heap.size _ hx3.out hbx3.out l1 l2).mono ?_
                                rintro e w' ⟨rfl, rfl⟩
                                rw [hb1.out]
                                go_wp2_with fail
                                refine (apart_any _ x n k2 k3 w.heap.size _ hx3.out hbx3.out l2 l3).mono ?_
                                rintro e w' ⟨rfl, rfl⟩
                                rw [hb2.out]
                                go_wp2_with fail
                                refine (apart_any _ x n k1 k3 w.heap.size _ hx3.out hbx3.out l1 l3).mono ?_
                                rintro e w' ⟨rfl, rfl⟩
                                rw [hb3.out]
                                go_wp2
                                go_round
                                case rel =>
                                  refine ⟨k3 + 1, by omega, by go_num, fun j hj => ?_⟩
                                  by_cases hjk : j = k3
                                  · subst hjk; exact hnone.out
                                  · exact q3.out j (by omega)
                                case measure => simp [intOf]; omega
                        · have hnone : Hid (tr3 n (tieB x) k1 k2 = none) := Lib.hid (fs_none (fun j hj => q3.out j (by omega)))
                          go_wp2
                          go_round
                          case rel =>
                            refine ⟨k2 + 1, by omega, by go_num, fun j hj => ?_⟩
                            by_cases hjk : j = k2
                            · subst hjk; exact hnone.out
                            · exact q2.out j (by omega)
                          case measure => simp [intOf]; omega
                    · have hnone : Hid (tr2 n (tieB x) k1 = none) := Lib.hid (fs_none (fun j hj => q2.out j (by omega)))
                      go_wp2
                      go_round
                      case rel =>
                        refine ⟨k1 + 1, by omega, by go_num, fun j hj => ?_⟩
                        by_cases hjk : j = k1
                        · subst hjk; exact hnone.out
                        · exact q1.out j (by omega)
                      case measure => simp [intOf]; omega
                · have hnone : Hid (tr1 n (tieB x) = none) := Lib.hid (fs_none (fun j hj => q1.out j (by omega)))
                  clear q1
                  go_wp2
                  go_round
                  case rel => exact ⟨2, by omega, rfl, fun _ => hz3.out, fun _ => hnone.out⟩
                  case measure => simp [intOf]; try omega
            | 2, m0, hz3, hz4 =>
              have hz3 := Lib.hid (hz3 (by omega))
              have hz4 := Lib.hid (hz4 (Nat.le_refl _))
              have hfound : Hid (D = []) := Lib.hid (by
                rw [← hD.out]
                exact defF_5 hz1.out hz2.out (by rw [hl2.out]; exact hz3.out) (by rw [hl2.out]; exact hz4.out))
              rw [show ((2 : Nat) : Int) = 2 from rfl]
              go_wp2
              go_ret
              refine ⟨_, rfl, ?_⟩
              rw [hfound.out]
              exact ⟨Fresh.nil hbel3.out, fun _ => rfl⟩
            | k + 3, m0, _, _ => omega

set_option maxHeartbeats 1000000 in
theorem impl_OrderDefect_law {v : Value} {x : List (List Bool)} {F : List Nat} {w : World} (r : RBoolSS w v x F) :
    Calls Try.prog 39 #[v] w fun e w' => ∃ r F, e = .returned (.tuple #[r, .bool (odR x).2]) ∧ RIntS w' r (odR x).1 F ∧ Fr w.heap.size F ∧ Below w.heap.size w w' ∧ (odR x).1.length ≤ 100000000000 := by
  have hv := Lib.hid r.rd
  have hlen := Lib.hid (odR_len x)
  clear r
  cases h : relB x
  · have e0 : odR x = ([], false) := by simp [odR, h]
    rw [e0] at hlen ⊢
    clear e0
    go_enter Try.func39, Try.ntmps39
    go_wp2_with fail
    refine (isRelation_any _ _ _ hv.out).mono ?_
    rintro e w1 ⟨rfl, hb⟩
    have hfe := Lib.hid (Fresh.nil hb)
    rw [h]
    clear hb
    go_wp2
    go_ret2
    exact ⟨_, _, rfl, hfe.out.law.1, hfe.out.law.2.1, hfe.out.law.2.2, hlen.out⟩
  · have e0 : odR x = (defF x, true) := by simp [odR, h]
    rw [e0] at hlen ⊢
    clear e0
    have hln := relB_len h
    go_enter Try.func39, Try.ntmps39
    go_wp2_with fail
    refine (isRelation_any _ _ _ hv.out).mono ?_
    rintro e w1 ⟨rfl, hb⟩
    have hrel := Lib.hid ((hv.out.below hb).rel h)
    replace hb := Lib.hid hb
    rw [h]
    go_wp2_with fail
    refine (orderDefect_any _ x x.length _ hrel.out hln.2 rfl).mono ?_
    rintro e w2 ⟨r1, rfl, hf, _⟩
    have hf2 : Hid (Fresh w w2 r1 (defF x)) := Lib.hid ⟨hf.1, fun k hk => Nat.le_trans hb.out.size (hf.2.1 k hk), hb.out.trans (hf.2.2.mono hb.out.size)⟩
    clear hf
    go_wp2
    go_ret2
    exact ⟨_, _, rfl, hf2.out.law.1, hf2.out.law.2.1, hf2.out.law.2.2, hlen.out⟩
end Go.Proofs.Ytdhcpoeopooejaa
