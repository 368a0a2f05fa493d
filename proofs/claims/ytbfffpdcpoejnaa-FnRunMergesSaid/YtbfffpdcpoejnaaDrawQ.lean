/- The draws: anyPermutation, DrawIsValidPermutation. -/
import Derived.Test.YtbfffpdcpoejnaaDrawP
import Derived.Test.YtbfffpdcpoejnaaIntSS
namespace Go.Proofs.Ytbfffpdcpoejnaa
open Go.RowKit
set_option linter.unusedVariables false
set_option linter.unusedSimpArgs false

/-- New memory that reads as a list of ints. -/
theorem Rd.lits (w : World) (xs : List Int) (hl : xs.length ≤ 1000) : Rd (w.alloc (.cells (ints xs).toArray 3)) (.slice (some ⟨w.heap.size, 0, none⟩) xs.length xs.length) xs := by
  refine ⟨_, xs.length, rfl, Nat.le_refl _, by unfold maxLen; omega, fun _ => ⟨w.heap.size, 0, rfl, fun i hi => ?_⟩⟩
  have hr : Row (w.alloc (.cells (ints xs).toArray 3)) 3 w.heap.size 0 xs.length (ints xs) := by
    refine ⟨(ints xs).toArray, by show (w.heap.push _)[w.heap.size]? = _; simp, by simp, by simp, by unfold maxLen; omega, fun i hi => ?_⟩
    rw [Nat.zero_add, List.getElem?_toArray, List.getElem?_eq_getElem]
  exact hr.cellInt hi

/-- A row of one's own grown: what lay there before stands. -/
theorem Ex.grown {F : List Nat} {w0 w w' : World} {r : Option Nat} {b : Nat} (h : Ex F w0 w) (hg : w.grownBy w' r) (hb : r = some b) (hlt : w0.heap.size ≤ b) : Ex F w0 w' :=
  ⟨hg.os.trans h.os, hg.tape.trans h.tape, hg.output.trans h.output, Nat.le_trans h.size hg.size, fun k hk hr => (hg.block k (Nat.lt_of_lt_of_le hk h.size) (by subst hb; intro e; injection e; omega)).trans (h.block k hk hr)⟩

/-- The cursor stands while a row of one's own grows. -/
theorem Cur.grown {w w' : World} {cb K b B : Nat} {v : Value} {r : Option Nat} (h : Cur w cb v K) (hg : w.grownBy w' r) (hr : r = some b) (hcb : cb < B) (hvb : ∀ b, v.ownBlock = some b → b < B) (hB : B ≤ b) : Cur w' cb v K :=
  h.ex (F := [b]) ⟨hg.os, hg.tape, hg.output, hg.size, fun k hk hr2 => hg.block k hk (by subst hr; intro e; injection e with e; exact hr2 (by simp [e]))⟩ (by simp; omega) (fun b9 h9 => by have := hvb b9 h9; simp; omega)

set_option maxRecDepth 10000 in
set_option maxHeartbeats 4000000 in
theorem anyPermutation_any (cb : Nat) (v : Value) (K : Nat) (w : World) (h : Cur w cb v K) (hcb : cb < w.heap.size) (hvb : ∀ b, v.ownBlock = some b → b < w.heap.size) (hK : K ≤ 100000) :
    Calls Try.prog 64 #[.pointer (some ⟨cb, 0, none⟩)] w fun e w' => ∃ (r : Value) (L : List Int), e = .returned r ∧ Own w' 3 w.heap.size r (ints L) ∧ L.length ≤ 100 ∧ Cur w' cb v (K + 200) ∧ Ex [cb] w w' := by
  have hc := Lib.hid h
  clear h
  replace hvb := Lib.hid hvb
  go_enter Try.func64, Try.ntmps64
  go_wp2_with fail
  refine (pick_any cb v K 9 w hc.out (by omega) (by omega)).mono ?_
  rintro e w1 ⟨⟨n, rfl, hn1, _⟩, hc1, hx1⟩
  have hn9 := hn1 (by omega)
  have hs1 := hx1.size
  replace hc1 := Lib.hid hc1
  replace hx1 := Lib.hid hx1
  clear hn1
  go_wp2_with fail
  refine (permutation_any cb v (K + 2) n w1 hc1.out (by omega) (by omega) (by omega)).mono ?_
  rintro e w2 ⟨b, c, L, rfl, hLn, hO, hR, hb, hc2, hx2⟩
  have hs2 := hx2.size
  have hO2 := Lib.hid (hO.base hs1)
  have hx3 := Lib.hid (hx1.out.trans hx2)
  replace hc2 := Lib.hid hc2
  replace hLn := Lib.hid hLn
  have hRl := hR.lt
  clear hO hR hx2 hx1 hc1
  go_wp2_with fail
  refine (pick_any cb v _ 16 w2 hc2.out (by omega) (by omega)).mono ?_
  rintro e w3 ⟨⟨x, rfl, hx16, _⟩, hc3, hx4⟩
  have hs3 := hx4.size
  have hO3 := Lib.hid (hO2.out.kept (r := some cb) ⟨hx4.os, hx4.tape, hx4.output, hx4.size, fun k hk hr => hx4.block k hk (by simp; rintro rfl; exact hr rfl)⟩ (.inr (by simp [Value.ownBlock]; omega)))
  have hx5 := Lib.hid (hx3.out.trans hx4)
  replace hc3 := Lib.hid hc3
  clear hx4 hx3 hc2 hO2 hx16
  by_cases h0 : x = 0
  · subst h0
    have hB : Below w3.heap.size w3 (w3.alloc (.cells (ints [-1, 0, 9, (n : Int), (n : Int) + 1]).toArray 3)) := (Below.refl _ _).alloc (Nat.le_refl _) _
    have hal := Lib.hid (among_any cb v _ [-1, 0, 9, (n : Int), (n : Int) + 1] _ _ (hc3.out.ex (Ex.of_below (F := []) hB) (by simp) (fun _ _ => by simp)) (by omega) (Rd.lits w3 _ (by simp)) (by simp) (by simp) (by intro b9 h9; simp [Value.ownBlock] at h9; omega))
    have hx6 := Lib.hid (Ex.of_below (F := [cb]) hB)
    clear hB
    go_wp2_with fail
    refine hal.out.mono ?_
    rintro e w4 ⟨⟨i, hi, rfl⟩, hc4, hx7⟩
    have hx8 := Lib.hid (hx6.out.trans hx7)
    have hO4 := Lib.hid (hO3.out.kept (r := some cb) ⟨hx8.out.os, hx8.out.tape, hx8.out.output, hx8.out.size, fun k hk hr => hx8.out.block k hk (by simp; rintro rfl; exact hr rfl)⟩ (.inr (by simp [Value.ownBlock]; omega)))
    have hx9 := Lib.hid (hx5.out.trans hx8.out)
    have hs4 := hx9.out.size
    have hl4 : (ints L).length ≤ 1000000000 := by have := hLn.out; simp; omega
    generalize gi [-1, 0, 9, (n : Int), (n : Int) + 1] i = y
    replace hc4 := Lib.hid hc4
    clear hx7 hx8 hal hi hx6 hx5 hO3
    go_wp2_with (at_builtin; refine append_one_at eltInt rfl _ _ rfl w.heap.size _ _ rfl hO4.out rfl rfl hl4 hs4 ?_; intro v5 w5 ho5 hg5 _)
    go_ret
    exact ⟨_, L ++ [y], rfl, by simpa [ints] using ho5, by have := hLn.out; simp; omega, (hc4.out.grown hg5 rfl hcb hvb.out (by show w.heap.size ≤ _; dsimp only; omega)).le (by omega), hx9.out.grown hg5 rfl (by show w.heap.size ≤ _; dsimp only; omega)⟩
  · by_cases h1 : x = 1
    · subst h1
      have hB : Below w3.heap.size w3 (w3.alloc (.cells (ints [10, 11, 20, 64]).toArray 3)) := (Below.refl _ _).alloc (Nat.le_refl _) _
      have hal := Lib.hid (among_any cb v _ [10, 11, 20, 64] _ _ (hc3.out.ex (Ex.of_below (F := []) hB) (by simp) (fun _ _ => by simp)) (by omega) (Rd.lits w3 _ (by simp)) (by simp) (by simp) (by intro b9 h9; simp [Value.ownBlock] at h9; omega))
      have hx6 := Lib.hid (Ex.of_below (F := [cb]) hB)
      clear hB
      go_wp2_with fail
      refine hal.out.mono ?_
      rintro e w4 ⟨⟨i, hi, rfl⟩, hc4, hx7⟩
      have hx8 := Lib.hid (hx5.out.trans (hx6.out.trans hx7))
      have hs4 := hx8.out.size
      obtain ⟨m, hm, hm2⟩ : ∃ m : Nat, gi [10, 11, 20, 64] i = (m : Int) ∧ m ≤ 64 := by
        match i, hi with
        | 0, _ => exact ⟨10, rfl, by omega⟩
        | 1, _ => exact ⟨11, rfl, by omega⟩
        | 2, _ => exact ⟨20, rfl, by omega⟩
        | 3, _ => exact ⟨64, rfl, by omega⟩
      rw [hm]
      replace hc4 := Lib.hid hc4
      clear hx7 hal hi hx6 hx5 hO3 hm
      go_wp2_with fail
      refine (permutation_any cb v _ m w4 hc4.out (by omega) (by omega) (by omega)).mono ?_
      rintro e w5 ⟨b5, c5, L5, rfl, hLn5, hO5, hR5, hb5, hc5, hx5⟩
      have hO6 := Lib.hid (hO5.base hs4)
      have hx9 := Lib.hid (hx8.out.trans hx5)
      replace hc5 := Lib.hid hc5
      clear hO5 hR5 hx5
      go_wp2
      go_ret
      exact ⟨_, L5, rfl, hO6.out, by omega, hc5.out.le (by omega), hx9.out⟩
    · by_cases h2 : x = 2
      · subst h2
        go_wp2_with fail
        refine (permutation_any cb v _ 64 w3 hc3.out (by omega) (by omega) (by omega)).mono ?_
        rintro e w5 ⟨b5, c5, L5, rfl, hLn5, hO5, hR5, hb5, hc5, hx6⟩
        have hO6 := Lib.hid (hO5.base (Nat.le_trans (Nat.le_trans hs1 hs2) hs3))
        have hx9 := Lib.hid (hx5.out.trans hx6)
        have hs4 := hx9.out.size
        have hl4 : (ints L5).length ≤ 1000000000 := by simp; omega
        replace hc5 := Lib.hid hc5
        clear hO5 hR5 hx6
        go_wp2_with (at_builtin; refine append_one_at eltInt rfl _ _ rfl w.heap.size _ _ rfl hO6.out rfl rfl hl4 hs4 ?_; intro v5 w6 ho5 hg5 _)
        go_ret
        exact ⟨_, L5 ++ [64], rfl, by simpa [ints] using ho5, by simp; omega, (hc5.out.grown hg5 rfl hcb hvb.out (by show w.heap.size ≤ _; dsimp only; omega)).le (by omega), hx9.out.grown hg5 rfl (by show w.heap.size ≤ _; dsimp only; omega)⟩
      · have e0 : ((x : Int) == 0) = false := by simp; omega
        have e1 : ((x : Int) == 1) = false := by simp; omega
        have e2 : ((x : Int) == 2) = false := by simp; omega
        go_wp2
        go_ret
        exact ⟨_, L, rfl, hO3.out, by have := hLn.out; omega, hc3.out.le (by omega), hx5.out⟩
end Go.Proofs.Ytbfffpdcpoejnaa
