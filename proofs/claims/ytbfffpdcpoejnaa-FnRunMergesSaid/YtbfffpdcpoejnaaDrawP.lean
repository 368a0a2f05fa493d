/- The draws: one, among, permutation. -/
import Derived.Test.YtbfffpdcpoejnaaCur
import Derived.Test.YtbfffpdcpoejnaaBin
namespace Go.Proofs.Ytbfffpdcpoejnaa
open Go.RowKit
set_option linter.unusedVariables false
set_option linter.unusedSimpArgs false

set_option maxHeartbeats 400000 in
theorem one_any (cb : Nat) (v : Value) (K : Nat) (n : Int) (w : World) (h : Cur w cb v K) (hK : K ≤ 100000000) (hn : -1000000 ≤ n ∧ n ≤ 1000000) :
    Calls Try.prog 63 #[.pointer (some ⟨cb, 0, none⟩), .int .i64 n] w fun e w' => (∃ b : Bool, e = .returned (.bool b)) ∧ Cur w' cb v (K + 2) ∧ Ex [cb] w w' := by
  have hc := Lib.hid (pick_any cb v K n w h hK hn)
  clear h
  go_enter Try.func63, Try.ntmps63
  go_wp2_with fail
  refine hc.out.mono ?_
  rintro e w1 ⟨⟨x, rfl, _, _⟩, hc1, hx1⟩
  replace hc1 := Lib.hid hc1
  replace hx1 := Lib.hid hx1
  go_wp2
  go_ret
  exact ⟨⟨_, rfl⟩, hc1.out, hx1.out⟩

theorem Rd.exc {w w' : World} {l : Value} {xs : List Int} {F : List Nat} (h : Rd w l xs) (hb : Ex F w w') (hF : ∀ b, l.ownBlock = some b → ¬ b ∈ F) : Rd w' l xs := by
  obtain ⟨ao, c, rfl, h1, h2, h3⟩ := h
  refine ⟨ao, c, rfl, h1, h2, fun hp => ?_⟩
  obtain ⟨b, off, rfl, hr⟩ := h3 hp
  refine ⟨b, off, rfl, fun i hi => ?_⟩
  have hc := hr i hi
  rw [World.cell?_of_block (w := w) (hb.block b (block_lt_of_cell hc) (hF b rfl))]
  exact hc
set_option maxHeartbeats 400000 in
theorem among_any (cb : Nat) (v l : Value) (xs : List Int) (K : Nat) (w : World) (h : Cur w cb v K) (hK : K ≤ 100000000) (hl : Rd w l xs) (h1 : 1 ≤ xs.length) (h2 : xs.length ≤ 1000) (hb : ∀ b, l.ownBlock = some b → b ≠ cb) :
    Calls Try.prog 77 #[.pointer (some ⟨cb, 0, none⟩), l] w fun e w' => (∃ i : Nat, i < xs.length ∧ e = .returned (.int .i64 (gi xs i))) ∧ Cur w' cb v (K + 2) ∧ Ex [cb] w w' := by
  have hc := Lib.hid (fun (n : Int) hn => pick_any cb v K n w h hK hn)
  clear h
  have hl2 := Lib.hid hl
  obtain ⟨ao, c, rfl, q1, q2, _⟩ := hl
  unfold maxLen at q2
  replace hb := Lib.hid hb
  generalize hn : xs.length = n at *
  replace hn := Lib.hid hn
  go_enter Try.func77, Try.ntmps77
  go_wp2_with fail
  refine (hc.out _ (by omega)).mono ?_
  rintro e w1 ⟨⟨x, rfl, hx, _⟩, hc1, hx1⟩
  have hxn := hx (by omega)
  have hr1 := hl2.out.exc hx1 (fun b hb2 h => hb.out b hb2 (by simpa using h))
  obtain ⟨a9, c9, e9, _, _, HR⟩ := hr1
  rw [hn.out] at e9 HR
  simp at e9
  obtain ⟨rfl, rfl⟩ := e9
  obtain ⟨b, off, rfl, hR⟩ := HR (by omega)
  have hc2 := hR x (by omega)
  replace hc1 := Lib.hid hc1
  replace hx1 := Lib.hid hx1
  clear hR HR
  generalize hg : gi xs x = y at *
  replace hg := Lib.hid hg
  have hxn2 : x < n := by omega
  go_wp2
  go_ret
  exact ⟨⟨x, hxn2, by rw [hg.out]; rfl⟩, hc1.out, hx1.out⟩

/-- An element put at its place, in new memory. -/
theorem Own_insAt2 {w : World} {B j lo : Nat} {v : Value} {S : List Int} {X : Int} (h : Own w 3 B v ((([] ++ ints (S.take lo)) ++ [.int .i64 X]) ++ ints (S.drop lo))) (hS : S.length = j) (hl : lo ≤ j) :
    ∃ g cap, v = .slice (some ⟨g, 0, none⟩) (j + 1) cap ∧ Hid (Own w 3 B (.slice (some ⟨g, 0, none⟩) (j + 1) cap) (ints (insAt S lo X))) ∧ Hid (Row w 3 g 0 cap (ints (insAt S lo X))) ∧ Hid (B ≤ g) := by
  have he : ((([] ++ ints (S.take lo)) ++ [.int .i64 X]) ++ ints (S.drop lo)) = ints (insAt S lo X) := by simp [ints, insAt]
  rw [he] at h
  have hn : (ints (insAt S lo X)).length = j + 1 := by simp [insAt]; omega
  have h2 := h
  unfold Own at h
  rw [hn] at h
  obtain ⟨g, cap, rfl, hg, _⟩ := World.ownsRow.form h (by omega)
  exact ⟨g, cap, rfl, Lib.hid h2, Lib.hid (Row.of_owns h), Lib.hid hg⟩

set_option maxRecDepth 10000 in
set_option maxHeartbeats 4000000 in
theorem permutation_any (cb : Nat) (v : Value) (K n : Nat) (w : World) (h : Cur w cb v K) (hcb : cb < w.heap.size) (hn : n ≤ 100) (hK : K ≤ 1000000) :
    Calls Try.prog 65 #[.pointer (some ⟨cb, 0, none⟩), .int .i64 (n : Int)] w fun e w' => ∃ (b c : Nat) (L : List Int), e = .returned (.slice (some ⟨b, 0, none⟩) n c) ∧ L.length = n ∧ Own w' 3 w.heap.size (.slice (some ⟨b, 0, none⟩) n c) (ints L) ∧ Row w' 3 b 0 c (ints L) ∧ w.heap.size ≤ b ∧ Cur w' cb v (K + 2 * n) ∧ Ex [cb] w w' := by
  have hB0 : Below w.heap.size w (w.alloc (.cells #[] 3)) := (Below.refl _ _).alloc (Nat.le_refl _) _
  have hrow0 : Hid (Row (w.alloc (.cells #[] 3)) 3 w.heap.size 0 0 (ints [])) := Lib.hid (Row.of_owns (base := w.heap.size) (n := 0) (xs := ints []) (Own.empty w 3))
  have hown0 := Lib.hid (Own.empty w 3)
  have hc0 := Lib.hid (h.ex (Ex.of_below (F := []) hB0) (by simp) (fun _ _ => by simp))
  have hx0 := Lib.hid (Ex.of_below (F := [cb]) hB0)
  clear h hB0
  go_enter Try.func65, Try.ntmps65
  go_wp2
  go_loopw [5, 6] (fun o iv wr => ∃ (i b c0 : Nat) (L : List Int), i ≤ n ∧ iv = .int .i64 (i : Nat) ∧ o = .slice (some ⟨b, 0, none⟩) i c0 ∧ L.length = i ∧ Own wr 3 w.heap.size o (ints L) ∧ Row wr 3 b 0 c0 (ints L) ∧ w.heap.size ≤ b ∧ Cur wr cb v (K + 2 * i) ∧ Ex [cb] w wr) (fun _ iv _ => 200 - (intOf iv).toNat)
  case atStart => exact ⟨0, w.heap.size, 0, [], Nat.zero_le _, rfl, rfl, rfl, hown0.out, hrow0.out, Nat.le_refl _, hc0.out, hx0.out⟩
  case round =>
    clear hrow0 hc0 hx0 hown0
    obtain ⟨i, b, c0, L, hi, rfl, rfl, hLn, hOw, hRow, hbw, hc, hx⟩ := hrel
    replace hOw := Lib.hid hOw
    replace hc := Lib.hid hc
    replace hx := Lib.hid hx
    by_cases hlt : i < n
    · have hli : (i : Int) < (n : Int) := by omega
      replace hRow := Lib.hid hRow
      have hcap : i ≤ c0 := by have := hRow.out.le; rw [ints_length, hLn] at this; exact this
      replace hLn := Lib.hid hLn
      go_wp2_with fail
      refine (pick_any cb v (K + 2 * i) ((i : Int) + 1) _ hc.out (by omega) (by omega)).mono ?_
      rintro e w3 ⟨⟨k, rfl, hk1, _⟩, hc1, hx1⟩
      have hk2 := hk1 (by omega)
      have hki : k ≤ i := by omega
      have hRow3 := Lib.hid (hRow.out.of_block (hx1.block b hRow.out.lt (by simp; omega)))
      replace hc1 := Lib.hid hc1
      replace hx1 := Lib.hid hx1
      clear hk1 hRow hc hOw
      have hn0 := Nat.le_refl w3.heap.size
      have hbW : Hid (Below w3.heap.size w3 w3.drew) := Lib.hid (Below.drewN (Below.refl _ _) 1)
      have ho : Hid (Own (w3.drew.alloc (.cells #[] 3)) 3 w3.heap.size (.slice (some ⟨w3.heap.size, 0, none⟩) 0 0) []) := Lib.hid (Own.empty w3.drew 3)
      have hb2 := hRow3.out.lt
      have hoC : Hid (Own ((w3.drew.alloc (.cells #[.int .i64 (i : Int)] 3)).alloc (.cells #[] 3)) 3 w3.heap.size (.slice (some ⟨w3.heap.size + 1, 0, none⟩) 0 0) []) :=
        Lib.hid ((show Own _ _ (w3.heap.size + 1) (.slice (some ⟨w3.heap.size + 1, 0, none⟩) 0 0) [] by simpa using Own.empty (w3.drew.alloc (.cells #[.int .i64 (i : Int)] 3)) 3).base (by omega))
      have hxA : Hid (RdV ((w3.drew.alloc (.cells #[] 3)).alloc (.cells #[.int .i64 (i : Int)] 3)) (.slice (some ⟨w3.heap.size + 1, 0, none⟩) 1 1) [.int .i64 (i : Int)]) := Lib.hid (by simpa using RdV.new (w := w3.drew.alloc (.cells #[] 3)) (y := .int .i64 (i : Int)))
      have hxC : Hid (RdV ((w3.drew.alloc (.cells #[.int .i64 (i : Int)] 3)).alloc (.cells #[] 3)) (.slice (some ⟨w3.heap.size, 0, none⟩) 1 1) [.int .i64 (i : Int)]) := Lib.hid ((RdV.new (w := w3.drew) (e := 3) (y := .int .i64 (i : Int))).kept (Below.heap_alloc _ _ _ (by simp)))
      have hbC : Hid (Below w3.heap.size w3 ((w3.drew.alloc (.cells #[.int .i64 (i : Int)] 3)).alloc (.cells #[] 3))) := Lib.hid (Below.alloc (Below.alloc hbW.out hn0 _) (by simp) _)
      have hsC : Hid (w3.heap.size ≤ ((w3.drew.alloc (.cells #[.int .i64 (i : Int)] 3)).alloc (.cells #[] 3)).heap.size) := Lib.hid hbC.out.size
      have hkC : Hid (w3.heap.size < ((w3.drew.alloc (.cells #[.int .i64 (i : Int)] 3)).alloc (.cells #[] 3)).heap.size) := Lib.hid (by simp; try omega)
      have hT : Hid (∀ w', Below w3.heap.size w3 w' → RdV w' (.slice (some ⟨b, 0, none⟩) k c0) (ints (L.take k))) := Lib.hid fun w' hw' => (hRow3.out.below hw' hb2).rdTake (by have := hLn.out; omega)
      have hL1 : Hid ((ints (L.take k)).length ≤ 1000) := Lib.hid (by simp; omega)
      have hL2 : Hid ((ints (L.drop k)).length ≤ 1000) := Lib.hid (by have := hLn.out; simp; omega)
      have hp1 : (0 : Int) ≤ (k : Int) := by omega
      have hp2 : (k : Int) ≤ (i : Int) := by omega
      have hp3 : k ≤ c0 := by omega
      have hp4 : (k : Int) ≤ (c0 : Int) := by omega
      by_cases hck : c0 = k
      · have hik : i = k := by omega
        have hD : Hid (∀ w', Below w3.heap.size w3 w' → RdV w' (.slice (some ⟨b, 0, none⟩) 0 0) (ints (L.drop k))) := Lib.hid fun w' hw' => by
          rw [List.drop_eq_nil_of_le (by have := hLn.out; omega)]; exact RdV.none0
        subst hck
        subst hik
        go_wp2
        go_region_law (first
          | (refine step_append_all eltInt rfl (.tmp 18) (.tmp 21) rfl w3.heap.size (.slice (some ⟨w3.heap.size, 0, none⟩) 0 0) [] (by simp [Act.eval, Act.put]) ho.out (.slice (some ⟨b, 0, none⟩) i i) (ints (L.take i)) (by simp [Act.eval, Act.put]; try omega) (hT.out _ (Below.alloc hbW.out hn0 _)) (ints_one _) (by have := hL1.out; simp only [List.length_nil]; omega) (by simp) ?_; intro v3 w4 ho3 hg3; have hb4 := Lib.hid (Below.appended (Below.alloc hbW.out hn0 _) ho.out hg3 (by simp)); clear hg3; replace ho3 := Lib.hid ho3)
          | (refine step_append_all eltInt rfl (.tmp 18) (.tmp 21) rfl w3.heap.size (.slice (some ⟨w3.heap.size, 0, none⟩) 0 0) [] (by simp [Act.eval, Act.put]) (ho.out.alloc (.cells #[.int .i64 (i : Int)] 3)) (.slice (some ⟨b, 0, none⟩) i i) (ints (L.take i)) (by simp [Act.eval, Act.put]; try omega) (hT.out _ (Below.alloc (Below.alloc hbW.out hn0 _) (by simp) _)) (ints_one _) (by have := hL1.out; simp only [List.length_nil]; omega) (by simp; try omega) ?_; intro v3 w4 ho3 hg3; have hx4 := Lib.hid (grownBy.rdNew hg3 (b := w3.heap.size + 1) (by simp) (by simp [Value.ownBlock]) hxA.out); have hb4 := Lib.hid (Below.appended (Below.alloc (Below.alloc hbW.out hn0 _) (by simp) _) (ho.out.alloc (.cells #[.int .i64 (i : Int)] 3)) hg3 (by simp; try omega)); clear hg3; replace ho3 := Lib.hid ho3)
          | (refine step_append_all eltInt rfl (.tmp 18) (.tmp 21) rfl w3.heap.size (.slice (some ⟨w3.heap.size + 1, 0, none⟩) 0 0) [] (by simp [Act.eval, Act.put]) hoC.out (.slice (some ⟨b, 0, none⟩) i i) (ints (L.take i)) (by simp [Act.eval, Act.put]; try omega) (hT.out _ hbC.out) (ints_one _) (by have := hL1.out; simp only [List.length_nil]; omega) hsC.out ?_; intro v3 w4 ho3 hg3; have hx4 := Lib.hid (grownBy.rdNew hg3 (b := w3.heap.size) hkC.out (by simp [Value.ownBlock]) hxC.out); have hb4 := Lib.hid (Below.appended hbC.out hoC.out hg3 hsC.out); clear hg3; replace ho3 := Lib.hid ho3)
          | (refine step_append_all eltInt rfl (.tmp 22) (.tmp 24) rfl w3.heap.size v3 _ (by simp [Act.eval, Act.put]) (ho3.out.alloc _) (.slice (some ⟨w4.heap.size, 0, none⟩) 1 1) [.int .i64 (i : Int)] (by simp [Act.eval, Act.put]) RdV.new (ints_one [(i : Int)]) (by have := hL1.out; simp only [List.nil_append, List.length_singleton]; omega) (by have := hb4.out.size; simp; omega) ?_; intro v4 w5 ho4 hg4; have hb5 := Lib.hid (Below.appended (Below.alloc hb4.out hb4.out.size _) (ho3.out.alloc _) hg4 (by have := hb4.out.size; simp; omega)); clear hg4; replace ho4 := Lib.hid ho4)
          | (refine step_append_all eltInt rfl (.tmp 22) (.tmp 24) rfl w3.heap.size v3 _ (by simp [Act.eval, Act.put]) ho3.out (.slice (some ⟨w3.heap.size + 1, 0, none⟩) 1 1) [.int .i64 (i : Int)] (by simp [Act.eval, Act.put]) hx4.out (ints_one [(i : Int)]) (by have := hL1.out; simp only [List.nil_append, List.length_singleton]; omega) (by have := hb4.out.size; simp; omega) ?_; intro v4 w5 ho4 hg4; have hb5 := Lib.hid (Below.appended hb4.out ho3.out hg4 hb4.out.size); clear hg4; replace ho4 := Lib.hid ho4)
          | (refine step_append_all eltInt rfl (.tmp 22) (.tmp 24) rfl w3.heap.size v3 _ (by simp [Act.eval, Act.put]) ho3.out (.slice (some ⟨w3.heap.size, 0, none⟩) 1 1) [.int .i64 (i : Int)] (by simp [Act.eval, Act.put]) hx4.out (ints_one [(i : Int)]) (by have := hL1.out; simp only [List.nil_append, List.length_singleton]; omega) (by have := hb4.out.size; simp; omega) ?_; intro v4 w5 ho4 hg4; have hb5 := Lib.hid (Below.appended hb4.out ho3.out hg4 hb4.out.size); clear hg4; replace ho4 := Lib.hid ho4)
          | (refine step_append_all eltInt rfl (.tmp 25) (.tmp 28) rfl w3.heap.size v4 _ (by simp [Act.eval, Act.put]) ho4.out (.slice (some ⟨b, 0, none⟩) 0 0) (ints (L.drop i)) (by simp [Act.eval, Act.put]; try omega) (hD.out _ hb5.out) (ints_one _) (by have := hL1.out; have := hL2.out; simp only [List.nil_append, List.length_append, List.length_singleton]; omega) (by have := hb5.out.size; simp; omega) ?_; intro v5 w6 ho5 hg5; have hb6 := Lib.hid (Below.appended hb5.out ho4.out hg5 hb5.out.size); clear hg5; obtain ⟨g, cap, rfl, hO6, hR6, hg6⟩ := Own_insAt2 ho5 hLn.out hki; clear ho5))
        all_goals
          have hc6 := Lib.hid (hc1.out.ex (Ex.of_below (F := []) hb6.out) (by simp) (fun _ _ => by simp))
          have hx6 := Lib.hid ((hx.out.trans hx1.out).trans (Ex.of_below hb6.out))
          have hge := Lib.hid (Nat.le_trans (Nat.le_trans hx.out.size hx1.out.size) hg6.out)
          have hO7 := Lib.hid (hO6.out.base (Nat.le_trans hx.out.size hx1.out.size))
          have hln6 := Lib.hid (show (insAt L i (i : Int)).length = i + 1 by have := hLn.out; simp [insAt]; omega)
          go_wp2
          go_roundw
          case rel => exact ⟨i + 1, g, cap, insAt L i (i : Int), by omega, by go_num, rfl, hln6.out, hO7.out, hR6.out, hge.out, by have := hc6.out; rwa [show K + 2 * i + 2 = K + 2 * (i + 1) by omega] at this, hx6.out⟩
          case measure => simp [intOf]; omega
      · have hD : Hid (∀ w', Below w3.heap.size w3 w' → RdV w' (.slice (some ⟨b, k, none⟩) (i - k) (c0 - k)) (ints (L.drop k))) := Lib.hid fun w' hw' => by
          have := (hRow3.out.below hw' hb2).rdDrop (lo := k) (n := i - k) (by have := hLn.out; omega) (by have := hLn.out; omega)
          simpa using this
        have hck2 : ¬ k = c0 := fun h => hck h.symm
        go_wp2
        go_region_law (first
          | (refine step_append_all eltInt rfl (.tmp 18) (.tmp 21) rfl w3.heap.size (.slice (some ⟨w3.heap.size, 0, none⟩) 0 0) [] (by simp [Act.eval, Act.put]) ho.out (.slice (some ⟨b, 0, none⟩) k c0) (ints (L.take k)) (by simp [Act.eval, Act.put]; try omega) (hT.out _ (Below.alloc hbW.out hn0 _)) (ints_one _) (by have := hL1.out; simp only [List.length_nil]; omega) (by simp) ?_; intro v3 w4 ho3 hg3; have hb4 := Lib.hid (Below.appended (Below.alloc hbW.out hn0 _) ho.out hg3 (by simp)); clear hg3; replace ho3 := Lib.hid ho3)
          | (refine step_append_all eltInt rfl (.tmp 18) (.tmp 21) rfl w3.heap.size (.slice (some ⟨w3.heap.size, 0, none⟩) 0 0) [] (by simp [Act.eval, Act.put]) (ho.out.alloc (.cells #[.int .i64 (i : Int)] 3)) (.slice (some ⟨b, 0, none⟩) k c0) (ints (L.take k)) (by simp [Act.eval, Act.put]; try omega) (hT.out _ (Below.alloc (Below.alloc hbW.out hn0 _) (by simp) _)) (ints_one _) (by have := hL1.out; simp only [List.length_nil]; omega) (by simp; try omega) ?_; intro v3 w4 ho3 hg3; have hx4 := Lib.hid (grownBy.rdNew hg3 (b := w3.heap.size + 1) (by simp) (by simp [Value.ownBlock]) hxA.out); have hb4 := Lib.hid (Below.appended (Below.alloc (Below.alloc hbW.out hn0 _) (by simp) _) (ho.out.alloc (.cells #[.int .i64 (i : Int)] 3)) hg3 (by simp; try omega)); clear hg3; replace ho3 := Lib.hid ho3)
          | (refine step_append_all eltInt rfl (.tmp 18) (.tmp 21) rfl w3.heap.size (.slice (some ⟨w3.heap.size + 1, 0, none⟩) 0 0) [] (by simp [Act.eval, Act.put]) hoC.out (.slice (some ⟨b, 0, none⟩) k c0) (ints (L.take k)) (by simp [Act.eval, Act.put]; try omega) (hT.out _ hbC.out) (ints_one _) (by have := hL1.out; simp only [List.length_nil]; omega) hsC.out ?_; intro v3 w4 ho3 hg3; have hx4 := Lib.hid (grownBy.rdNew hg3 (b := w3.heap.size) hkC.out (by simp [Value.ownBlock]) hxC.out); have hb4 := Lib.hid (Below.appended hbC.out hoC.out hg3 hsC.out); clear hg3; replace ho3 := Lib.hid ho3)
          | (refine step_append_all eltInt rfl (.tmp 22) (.tmp 24) rfl w3.heap.size v3 _ (by simp [Act.eval, Act.put]) (ho3.out.alloc _) (.slice (some ⟨w4.heap.size, 0, none⟩) 1 1) [.int .i64 (i : Int)] (by simp [Act.eval, Act.put]) RdV.new (ints_one [(i : Int)]) (by have := hL1.out; simp only [List.nil_append, List.length_singleton]; omega) (by have := hb4.out.size; simp; omega) ?_; intro v4 w5 ho4 hg4; have hb5 := Lib.hid (Below.appended (Below.alloc hb4.out hb4.out.size _) (ho3.out.alloc _) hg4 (by have := hb4.out.size; simp; omega)); clear hg4; replace ho4 := Lib.hid ho4)
          | (refine step_append_all eltInt rfl (.tmp 22) (.tmp 24) rfl w3.heap.size v3 _ (by simp [Act.eval, Act.put]) ho3.out (.slice (some ⟨w3.heap.size + 1, 0, none⟩) 1 1) [.int .i64 (i : Int)] (by simp [Act.eval, Act.put]) hx4.out (ints_one [(i : Int)]) (by have := hL1.out; simp only [List.nil_append, List.length_singleton]; omega) (by have := hb4.out.size; simp; omega) ?_; intro v4 w5 ho4 hg4; have hb5 := Lib.hid (Below.appended hb4.out ho3.out hg4 hb4.out.size); clear hg4; replace ho4 := Lib.hid ho4)
          | (refine step_append_all eltInt rfl (.tmp 22) (.tmp 24) rfl w3.heap.size v3 _ (by simp [Act.eval, Act.put]) ho3.out (.slice (some ⟨w3.heap.size, 0, none⟩) 1 1) [.int .i64 (i : Int)] (by simp [Act.eval, Act.put]) hx4.out (ints_one [(i : Int)]) (by have := hL1.out; simp only [List.nil_append, List.length_singleton]; omega) (by have := hb4.out.size; simp; omega) ?_; intro v4 w5 ho4 hg4; have hb5 := Lib.hid (Below.appended hb4.out ho3.out hg4 hb4.out.size); clear hg4; replace ho4 := Lib.hid ho4)
          | (refine step_append_all eltInt rfl (.tmp 25) (.tmp 28) rfl w3.heap.size v4 _ (by simp [Act.eval, Act.put]) ho4.out (.slice (some ⟨b, k, none⟩) (i - k) (c0 - k)) (ints (L.drop k)) (by simp [Act.eval, Act.put]; try omega) (hD.out _ hb5.out) (ints_one _) (by have := hL1.out; have := hL2.out; simp only [List.nil_append, List.length_append, List.length_singleton]; omega) (by have := hb5.out.size; simp; omega) ?_; intro v5 w6 ho5 hg5; have hb6 := Lib.hid (Below.appended hb5.out ho4.out hg5 hb5.out.size); clear hg5; obtain ⟨g, cap, rfl, hO6, hR6, hg6⟩ := Own_insAt2 ho5 hLn.out hki; clear ho5))
        all_goals
          have hc6 := Lib.hid (hc1.out.ex (Ex.of_below (F := []) hb6.out) (by simp) (fun _ _ => by simp))
          have hx6 := Lib.hid ((hx.out.trans hx1.out).trans (Ex.of_below hb6.out))
          have hge := Lib.hid (Nat.le_trans (Nat.le_trans hx.out.size hx1.out.size) hg6.out)
          have hO7 := Lib.hid (hO6.out.base (Nat.le_trans hx.out.size hx1.out.size))
          have hln6 := Lib.hid (show (insAt L k (i : Int)).length = i + 1 by have := hLn.out; simp [insAt]; omega)
          go_wp2
          go_roundw
          case rel => exact ⟨i + 1, g, cap, insAt L k (i : Int), by omega, by go_num, rfl, hln6.out, hO7.out, hR6.out, hge.out, by have := hc6.out; rwa [show K + 2 * i + 2 = K + 2 * (i + 1) by omega] at this, hx6.out⟩
          case measure => simp [intOf]; omega
    · obtain rfl : i = n := by omega
      have hli : ¬ (i : Int) < (i : Int) := by omega
      replace hRow := Lib.hid hRow
      go_wp2
      go_ret
      exact ⟨b, c0, rfl, L, hLn, hOw.out, hRow.out, hbw, hc.out, hx.out⟩
end Go.Proofs.Ytbfffpdcpoejnaa
