/- The draws: DrawRankPermutation, DrawUnrankPermutation. -/
import Derived.Test.YtbfffpdcpoejnaaDrawL
import Derived.Test.YtbfffpdcpoejnaaRank
namespace Go.Proofs.Ytbfffpdcpoejnaa
open Go.RowKit
set_option linter.unusedVariables false
set_option linter.unusedSimpArgs false

set_option maxHeartbeats 1000000 in
theorem DrawRankPermutation_law {d : Value} {w : World} (h : RdBy w d) (hd : ∀ b, d.ownBlock = some b → b < w.heap.size) :
    Calls Try.prog 26 #[d] w fun e w' => ∃ (r : Value) (L : List Int) (F : List Nat), e = .returned r ∧ RIntS w' r L F ∧ Fr w.heap.size F ∧ Below w.heap.size w w' ∧ L.length ≤ 100 := by
  have hal := Lib.hid (DrawIsValidPermutation_law h hd)
  clear hd
  obtain ⟨ao, n, c, rfl, h1, h2, _⟩ := h
  go_enter Try.func26, Try.ntmps26
  go_wp2_with fail
  refine hal.out.mono ?_
  rintro e w1 ⟨r, L, F, rfl, hR, hF, hB, hL⟩
  replace hR := Lib.hid hR
  replace hF := Lib.hid hF
  replace hB := Lib.hid hB
  clear hal
  go_wp2
  go_ret
  exact ⟨_, L, F, rfl, hR.out, hF.out, hB.out, hL⟩

theorem l1Least_any (a b : Int) (w : World) :
    Calls Try.prog 78 #[.int .i64 a, .int .i64 b] w fun e w' => e = .returned (.int .i64 (if a < b then a else b)) ∧ w' = w := by
  by_cases h : a < b
  · rw [if_pos h]
    go_enter Try.func78, Try.ntmps78
    go_wp2
    go_ret
    exact ⟨rfl, rfl⟩
  · rw [if_neg h]
    go_enter Try.func78, Try.ntmps78
    go_wp2
    go_ret
    exact ⟨rfl, rfl⟩
theorem gi_all {xs : List Int} {P : Int → Prop} (h : ∀ x ∈ xs, P x) {i : Nat} (hi : i < xs.length) : P (gi xs i) := by
  rw [gi_eq hi]; exact h _ (List.getElem_mem _)
set_option maxRecDepth 10000 in
set_option maxHeartbeats 4000000 in
theorem DrawUnrankPermutation_law {d : Value} {w : World} (h : RdBy w d) (hd : ∀ b, d.ownBlock = some b → b < w.heap.size) :
    Calls Try.prog 31 #[d] w fun e w' => ∃ (n r : Int), e = .returned (.tuple #[.int .i64 n, .int .i64 r]) ∧ (-9223372036854775808 ≤ n ∧ n ≤ 9223372036854775807) ∧ (-9223372036854775808 ≤ r ∧ r ≤ 9223372036854775807) ∧ Below w.heap.size w w' := by
  have hc := Lib.hid (Cur.start h hd)
  obtain ⟨ao, n, c, rfl, h1, h2, _⟩ := h
  have hcb : w.heap.size < (w.alloc (.cells #[.slice ao n c, .int .i64 0, .int .u64 0] 60)).heap.size := by simp
  have hB0 : Hid (∀ w', Ex [w.heap.size] (w.alloc (.cells #[.slice ao n c, .int .i64 0, .int .u64 0] 60)) w' → Below w.heap.size w w') := Lib.hid (fun w' hx =>
    Below.ex ((Below.refl _ _).alloc (Nat.le_refl _) _) hx (fun x hx => by simp at hx; omega))
  clear hd
  go_enter Try.func31, Try.ntmps31
  go_wp2_with fail
  refine (pick_any w.heap.size _ 0 12 _ hc.out (by omega) (by omega)).mono ?_
  rintro e w1 ⟨⟨m, rfl, hm1, _⟩, hc1, hx1⟩
  have hm := hm1 (by omega)
  generalize hw0 : w.alloc (.cells #[.slice ao n c, .int .i64 0, .int .u64 0] 60) = w0 at *
  replace hw0 := Lib.hid hw0
  replace hc1 := Lib.hid hc1
  replace hx1 := Lib.hid hx1
  clear hc hm1
  go_wp2_with fail
  refine (one_any w.heap.size _ _ 12 _ hc1.out (by omega) (by omega)).mono ?_
  rintro e w2 ⟨⟨b, rfl⟩, hc2, hx2⟩
  have hx3 := Lib.hid (hx1.out.trans hx2)
  have hs3 := hx3.out.size
  replace hc2 := Lib.hid hc2
  clear hx1 hx2 hc1
  cases b
  · go_wp2_with fail
    refine (l1Least_any (m : Int) 7 w2).mono ?_
    rintro e w3 ⟨rfl, rfl⟩
    obtain ⟨k, hk, hk7⟩ : ∃ k : Nat, (if (m : Int) < 7 then (m : Int) else 7) = (k : Int) ∧ k ≤ 7 := by
      by_cases h : (m : Int) < 7
      · exact ⟨m, by rw [if_pos h], by omega⟩
      · exact ⟨7, by rw [if_neg h]; rfl, Nat.le_refl _⟩
    rw [hk]
    clear hk
    go_wp2_with fail
    refine (l3Factorial_any k w3 (by omega)).mono ?_
    rintro e w4 ⟨rfl, rfl⟩
    have hf := fct_bd k (by omega)
    generalize fct k = f at *
    go_wp2_with fail
    refine (l1Least_any (f : Int) 40000 w3).mono ?_
    rintro e w4 ⟨rfl, rfl⟩
    obtain ⟨g, hg, hg7⟩ : ∃ g : Nat, (if (f : Int) < 40000 then (f : Int) else 40000) = (g : Int) ∧ g ≤ 40000 := by
      by_cases h : (f : Int) < 40000
      · exact ⟨f, by rw [if_pos h], by omega⟩
      · exact ⟨40000, by rw [if_neg h]; rfl, Nat.le_refl _⟩
    rw [hg]
    clear hg hf
    go_wp2_with fail
    refine (pick_any w.heap.size _ _ (g : Int) _ hc2.out (by omega) (by omega)).mono ?_
    rintro e w5 ⟨⟨r, rfl, hr1, hr2⟩, hc5, hx5⟩
    have hfin := Lib.hid (hB0.out w5 (hx3.out.trans hx5))
    have hr : r ≤ 40000 := by
      by_cases h : 1 ≤ (g : Int)
      · have := hr1 h; omega
      · have := hr2 (by omega); omega
    clear hr1 hr2 hc5 hx5 hc2 hx3
    go_wp2
    go_ret2
    exact ⟨(m : Int), (r : Int), rfl, ⟨by omega, by omega⟩, ⟨by omega, by omega⟩, hfin.out⟩
  · have hB : Below w2.heap.size w2 (w2.alloc (.cells (ints [-1, 10, 11, 3]).toArray 3)) := (Below.refl _ _).alloc (Nat.le_refl _) _
    have hal := Lib.hid (among_any w.heap.size _ _ [-1, 10, 11, 3] _ _ (hc2.out.ex (Ex.of_below (F := []) hB) (by simp) (fun _ _ => by simp)) (by omega) (Rd.lits w2 _ (by simp)) (by simp) (by simp) (by intro b9 h9; simp [Value.ownBlock] at h9; omega))
    have hx6 := Lib.hid (Ex.of_below (F := [w.heap.size]) hB)
    clear hB
    go_wp2_with fail
    refine hal.out.mono ?_
    rintro e w4 ⟨⟨i, hi, rfl⟩, hc4, hx7⟩
    have hy := gi_all (xs := [-1, 10, 11, 3]) (P := fun x => -1 ≤ x ∧ x ≤ 11) (by decide) hi
    generalize gi [-1, 10, 11, 3] i = y at *
    try dsimp only at hy
    have hx8 := Lib.hid (hx3.out.trans (hx6.out.trans hx7))
    have hs4 := hx8.out.size
    replace hc4 := Lib.hid hc4
    clear hal hi hx7 hx6 hc2 hx3
    have hB : Below w4.heap.size w4 (w4.alloc (.cells (ints [-1, 0, 6, 3628799, 3628800]).toArray 3)) := (Below.refl _ _).alloc (Nat.le_refl _) _
    have hal := Lib.hid (among_any w.heap.size _ _ [-1, 0, 6, 3628799, 3628800] _ _ (hc4.out.ex (Ex.of_below (F := []) hB) (by simp) (fun _ _ => by simp)) (by omega) (Rd.lits w4 _ (by simp)) (by simp) (by simp) (by intro b9 h9; simp [Value.ownBlock] at h9; omega))
    have hx6 := Lib.hid (Ex.of_below (F := [w.heap.size]) hB)
    clear hB
    go_wp2_with fail
    refine hal.out.mono ?_
    rintro e w5 ⟨⟨j, hj, rfl⟩, hc5, hx7⟩
    have hz := gi_all (xs := [-1, 0, 6, 3628799, 3628800]) (P := fun x => -1 ≤ x ∧ x ≤ 3628800) (by decide) hj
    generalize gi [-1, 0, 6, 3628799, 3628800] j = z at *
    try dsimp only at hz
    have hfin := Lib.hid (hB0.out w5 (hx8.out.trans (hx6.out.trans hx7)))
    clear hal hj hx7 hx6 hc4 hx8 hc5
    go_wp2
    go_ret2
    exact ⟨y, z, rfl, ⟨by omega, by omega⟩, ⟨by omega, by omega⟩, hfin.out⟩
end Go.Proofs.Ytbfffpdcpoejnaa
