/- spec.SortingPermutation. -/
import Derived.Test.YtdhcpoeopooejaaSrtM
import Derived.Test.YtdhcpoeopooejaaCopy
namespace Go.Proofs.Ytdhcpoeopooejaa
open Go.RowKit
set_option linter.unusedVariables false
set_option linter.unusedSimpArgs false

/-- An element put at its place, in new memory. -/
theorem Own_insAt4 {w : World} {B j lo : Nat} {v : Value} {S : List Int} {X : Int} (h : Own w 3 B v ((([] ++ ints (S.take lo)) ++ [.int .i64 X]) ++ ints (S.drop lo))) (hS : S.length = j) (hl : lo ≤ j) :
    ∃ g cap, v = .slice (some ⟨g, 0, none⟩) (j + 1) cap ∧ Hid (Own w 3 B (.slice (some ⟨g, 0, none⟩) (j + 1) cap) (ints (insAt S lo X))) ∧ Hid (Row w 3 g 0 cap (ints (insAt S lo X))) ∧ Hid (B ≤ g) := by
  have he : ((([] ++ ints (S.take lo)) ++ [.int .i64 X]) ++ ints (S.drop lo)) = ints (insAt S lo X) := by simp [ints, insAt]
  rw [he] at h
  have hn : (ints (insAt S lo X)).length = j + 1 := by simp [insAt]; omega
  have h2 := h
  unfold Own at h
  rw [hn] at h
  obtain ⟨g, cap, rfl, hg, _⟩ := World.ownsRow.form h (by omega)
  exact ⟨g, cap, rfl, Lib.hid h2, Lib.hid (Row.of_owns h), Lib.hid hg⟩

set_option maxRecDepth 10000 in
set_option maxHeartbeats 16000000 in
theorem l3Sorting_any (v : Value) (x : List Int) (w : World) (hv : Sl w 3 v (ints x)) (hl64 : x.length ≤ 64) :
    Calls Try.prog 65 #[v] w fun e w' => ∃ r, e = .returned r ∧ Fresh w w' r (srtK x x.length) := by
  have hrd := hv.rd
  have hlt := hv.lt
  obtain ⟨ao, c, rfl, _, hc9, hcm, _⟩ := hv.openInts
  unfold maxLen at hcm
  clear hv
  generalize hn : x.length = n at *
  have hB0 : Hid (Below w.heap.size w (w.alloc (.cells #[] 3))) := Lib.hid ((Below.refl _ _).alloc (Nat.le_refl _) _)
  have hrow0 : Hid (Row (w.alloc (.cells #[] 3)) 3 w.heap.size 0 0 (ints [])) := Lib.hid (Row.of_owns (base := w.heap.size) (n := 0) (xs := ints []) (Own.empty w 3))
  have hown0 := Lib.hid (Own.empty w 3)
  replace hrd := Lib.hid hrd
  replace hlt := Lib.hid hlt
  replace hn := Lib.hid hn
  go_enter Try.func65, Try.ntmps65
  go_wp2
  go_loopw [3, 4] (fun o iv wr => ∃ (i b c0 : Nat) (L : List Int), i ≤ n ∧ iv = .int .i64 (i : Nat) ∧ o = .slice (some ⟨b, 0, none⟩) i c0 ∧ L = srtK x i ∧ Own wr 3 w.heap.size o (ints L) ∧ Row wr 3 b 0 c0 (ints L) ∧ w.heap.size ≤ b ∧ Below w.heap.size w wr) (fun _ iv _ => 200 - (intOf iv).toNat)
  case atStart => exact ⟨0, w.heap.size, 0, [], Nat.zero_le _, rfl, rfl, rfl, hown0.out, hrow0.out, Nat.le_refl _, hB0.out⟩
  case round =>
    clear hrow0 hown0 hB0
    obtain ⟨i, b, c0, L, hi, rfl, rfl, hLe, hOw, hRow, hbw, hB⟩ := hrel
    have hLn : Hid (L.length = i) := Lib.hid (by rw [hLe, srtK_length])
    have hLr : Hid (∀ j, j < i → 0 ≤ gi L j ∧ gi L j < (i : Int)) := Lib.hid (fun j hj => by rw [hLe]; exact perm_pl_range (srtK_perm x i) hj)
    have hnext : Hid (srtK x (i + 1) = insAt L (posW x L (gi x i) i) (i : Int)) := Lib.hid (by rw [hLe]; rfl)
    replace hLe := Lib.hid hLe
    replace hOw := Lib.hid hOw
    replace hRow := Lib.hid hRow
    replace hB := Lib.hid hB
    by_cases hlt2 : i < n
    · have hli : (i : Int) < (n : Int) := by omega
      have hcap : i ≤ c0 := by have := hRow.out.le; rw [ints_length, hLn.out] at this; exact this
      have hcap2 : (i : Int) ≤ (c0 : Int) := by omega
      go_wp2
      go_loopw [5] (fun kv wr => ∃ k : Nat, k ≤ i ∧ kv = .int .i64 (k : Nat) ∧ posW x L (gi x i) k = posW x L (gi x i) i ∧ Own wr 3 w.heap.size (.slice (some ⟨b, 0, none⟩) i c0) (ints L) ∧ Row wr 3 b 0 c0 (ints L) ∧ Below w.heap.size w wr) (fun kv _ => (intOf kv).toNat)
      case atStart => exact ⟨i, Nat.le_refl _, rfl, rfl, hOw.out, hRow.out, hB.out⟩
      case round =>
        clear hOw hRow hB
        obtain ⟨wi, rfl⟩ : ∃ wi : World, wi = wr := ⟨_, rfl⟩
        obtain ⟨k, hki, rfl, hpk, hOw, hRow, hB⟩ := hrel
        by_cases hk0 : 0 < k
        · have hk0i : (0 : Int) < (k : Int) := by omega
          obtain ⟨k', hk'⟩ : ∃ k', k = k' + 1 := ⟨k - 1, by omega⟩
          have hkk : (k : Int) - 1 = (k' : Int) := by omega
          obtain ⟨y1, y2⟩ := hLr.out k' (by omega)
          obtain ⟨Y, hY⟩ := Int.eq_ofNat_of_zero_le y1
          have hYi : Y < i := by omega
          have hc1 : wi.cell? ⟨b, k', none⟩ = some (.int .i64 (Y : Int)) := by have := hRow.cellInt (i := k') (by rw [hLn.out]; omega); rw [Nat.zero_add, hY] at this; exact this
          obtain ⟨a9, c9, e9, _, _, HX⟩ := hrd.out.below hB
          rw [hn.out] at e9 HX
          simp at e9
          obtain ⟨rfl, rfl⟩ := e9
          obtain ⟨bx, ox, rfl, hX⟩ := HX (by omega)
          have hc2 := hX Y (by omega)
          have hc3 := hX i hlt2
          have hE1 : gi x Y > gi x i → posW x L (gi x i) k' = posW x L (gi x i) i := fun h => by
            rw [← hpk, hk', posW, hY, Int.toNat_natCast, if_pos h]
          have hE0 : ¬ gi x Y > gi x i → srtK x (i + 1) = insAt L k (i : Int) := fun h => by
            rw [hnext.out, ← hpk]
            rw [hk', posW, hY, Int.toNat_natCast, if_neg h]
          clear hX HX hpk y1 y2
          replace hY := Lib.hid hY
          replace hOw := Lib.hid hOw
          replace hRow := Lib.hid hRow
          replace hB := Lib.hid hB
          have hYn : (Y : Int) < (n : Int) := by omega
          have hki2 : (k' : Int) < (i : Int) := by omega
          replace hk' := Lib.hid hk'
          generalize gi x Y = u at *
          generalize hvx : gi x i = vx at *
          replace hvx := Lib.hid hvx
          by_cases huv : u > vx
          · have hE := Lib.hid (hE1 huv)
            clear hE1 hE0
            go_wp2
            go_quiet (fail)
            try go_wp2
            go_roundw
            case rel => exact ⟨k', by have := hk'.out; omega, by first | rfl | go_num, hE.out, hOw.out.drewN _, hRow.out.drewN _, Below.drewN hB.out _⟩
            case measure => have := hk'.out; first | (simp [intOf]; done) | (simp [intOf]; omega)
          · have hfin := Lib.hid (hE0 huv).symm
            have huvd : decide (u > vx) = false := decide_eq_false huv
            go_wp2
            go_quiet (fail)
            try rw [World.drewN_drewN]
            obtain ⟨w3, hw3⟩ : ∃ w3, w3 = wi.drewN nq := ⟨_, rfl⟩
            have hRow3 : Hid (Row w3 3 b 0 c0 (ints L)) := Lib.hid (by rw [hw3]; exact hRow.out.drewN _)
            have hB3 : Hid (Below w.heap.size w w3) := Lib.hid (by rw [hw3]; exact Below.drewN hB.out _)
            rw [← hw3]
            clear hw3 hRow hB hOw hE1 hE0
            have hn0 := Nat.le_refl w3.heap.size
            have hbW : Hid (Below w3.heap.size w3 w3.drew) := Lib.hid (Below.drewN (Below.refl _ _) 1)
            have ho : Hid (Own (w3.drew.alloc (.cells #[] 3)) 3 w3.heap.size (.slice (some ⟨w3.heap.size, 0, none⟩) 0 0) []) := Lib.hid (Own.empty w3.drew 3)
            have hb2 := hRow3.out.lt
            have hoC : Hid (Own ((w3.drew.alloc (.cells #[.int .i64 (i : Int)] 3)).alloc (.cells #[] 3)) 3 w3.heap.size (.slice (some ⟨w3.heap.size + 1, 0, none⟩) 0 0) []) :=
              Lib.hid ((show Own _ _ (w3.heap.size + 1) (.slice (some ⟨w3.heap.size + 1, 0, none⟩) 0 0) [] by simpa using Own.empty (w3.drew.alloc (.cells #[.int .i64 (i : Int)] 3)) 3).base (by omega))
            have hxA : Hid (RdV ((w3.drew.alloc (.cells #[] 3)).alloc (.cells #[.int .i64 (i : Int)] 3)) (.slice (some ⟨w3.heap.size + 1, 0, none⟩) 1 1) [.int .i64 (i : Int)]) := Lib.hid (by simpa using RdV.new (w := w3.drew.alloc (.cells #[] 3)) (y := .int .i64 (i : Int)))
            have hxC : Hid (RdV ((w3.drew.alloc (.cells #[.int .i64 (i : Int)] 3)).alloc (.cells #[] 3)) (.slice (some ⟨w3.heap.size, 0, none⟩) 1 1) [.int .i64 (i : Int)]) := Lib.hid ((RdV.new (w := w3.drew) (e := 3) (y := .int .i64 (i : Int))).kept (Below.heap_alloc _ _ _ (by simp)))
            have hbC : Hid (Below w3.heap.size w3 ((w3.drew.alloc (.cells #[.int .i64 (i : Int)] 3)).alloc (.cells #[] 3))) := Lib.hid (Below.alloc (Below.alloc hbW.out hn0 _) (by simp) _)
            have hsC : Hid (w3.heap.size ≤ ((w3.drew.alloc (.cells #[.int .i64 (i : Int)] 3)).alloc (.cells #[] 3)).heap.size) := Lib.hid hbC.out.size
            have hkC : Hid (w3.heap.size < ((w3.drew.alloc (.cells #[.int .i64 (i : Int)] 3)).alloc (.cells #[] 3)).heap.size) := Lib.hid (by simp; try omega)
            have hT : Hid (∀ w', Below w3.heap.size w3 w' → RdV w' (.slice (some ⟨b, 0, none⟩) k c0) (ints (L.take k))) := Lib.hid fun w' hw' => (hRow3.out.below hw' hb2).rdTake (by have := hLn.out; omega)
            have hL1 : Hid ((ints (L.take k)).length ≤ 1000) := Lib.hid (by simp; omega)
            have hL2 : Hid ((ints (L.drop k)).length ≤ 1000) := Lib.hid (by have := hLn.out; simp; omega)
            have hp1 : (0 : Int) ≤ (k : Int) := by omega
            have hp2 : (k : Int) ≤ (i : Int) := by omega
            have hp3 : k ≤ c0 := by omega
            have hp4 : (k : Int) ≤ (c0 : Int) := by omega
            by_cases hck : c0 = k
            · have hik : i = k := by omega
              have hD : Hid (∀ w', Below w3.heap.size w3 w' → RdV w' (.slice (some ⟨b, 0, none⟩) 0 0) (ints (L.drop k))) := Lib.hid fun w' hw' => by
                rw [List.drop_eq_nil_of_le (by have := hLn.out; omega)]; exact RdV.none0
              subst hck
              subst hik
              go_wp2
              go_region_law (first
                | (refine step_append_all eltInt rfl (.tmp 34) (.tmp 37) rfl w3.heap.size (.slice (some ⟨w3.heap.size, 0, none⟩) 0 0) [] (by simp [Act.eval, Act.put]) ho.out (.slice (some ⟨b, 0, none⟩) i i) (ints (L.take i)) (by simp [Act.eval, Act.put]; try omega) (hT.out _ (Below.alloc hbW.out hn0 _)) (ints_one _) (by have := hL1.out; simp only [List.length_nil]; omega) (by simp) ?_; intro v3 w4 ho3 hg3; have hb4 := Lib.hid (Below.appended (Below.alloc hbW.out hn0 _) ho.out hg3 (by simp)); clear hg3; replace ho3 := Lib.hid ho3)
                | (refine step_append_all eltInt rfl (.tmp 34) (.tmp 37) rfl w3.heap.size (.slice (some ⟨w3.heap.size, 0, none⟩) 0 0) [] (by simp [Act.eval, Act.put]) (ho.out.alloc (.cells #[.int .i64 (i : Int)] 3)) (.slice (some ⟨b, 0, none⟩) i i) (ints (L.take i)) (by simp [Act.eval, Act.put]; try omega) (hT.out _ (Below.alloc (Below.alloc hbW.out hn0 _) (by simp) _)) (ints_one _) (by have := hL1.out; simp only [List.length_nil]; omega) (by simp; try omega) ?_; intro v3 w4 ho3 hg3; have hx4 := Lib.hid (grownBy.rdNew hg3 (b := w3.heap.size + 1) (by simp) (by simp [Value.ownBlock]) hxA.out); have hb4 := Lib.hid (Below.appended (Below.alloc (Below.alloc hbW.out hn0 _) (by simp) _) (ho.out.alloc (.cells #[.int .i64 (i : Int)] 3)) hg3 (by simp; try omega)); clear hg3; replace ho3 := Lib.hid ho3)
                | (refine step_append_all eltInt rfl (.tmp 34) (.tmp 37) rfl w3.heap.size (.slice (some ⟨w3.heap.size + 1, 0, none⟩) 0 0) [] (by simp [Act.eval, Act.put]) hoC.out (.slice (some ⟨b, 0, none⟩) i i) (ints (L.take i)) (by simp [Act.eval, Act.put]; try omega) (hT.out _ hbC.out) (ints_one _) (by have := hL1.out; simp only [List.length_nil]; omega) hsC.out ?_; intro v3 w4 ho3 hg3; have hx4 := Lib.hid (grownBy.rdNew hg3 (b := w3.heap.size) hkC.out (by simp [Value.ownBlock]) hxC.out); have hb4 := Lib.hid (Below.appended hbC.out hoC.out hg3 hsC.out); clear hg3; replace ho3 := Lib.hid ho3)
                | (refine step_append_all eltInt rfl (.tmp 38) (.tmp 40) rfl w3.heap.size v3 _ (by simp [Act.eval, Act.put]) (ho3.out.alloc _) (.slice (some ⟨w4.heap.size, 0, none⟩) 1 1) [.int .i64 (i : Int)] (by simp [Act.eval, Act.put]) RdV.new (ints_one [(i : Int)]) (by have := hL1.out; simp only [List.nil_append, List.length_singleton]; omega) (by have := hb4.out.size; simp; omega) ?_; intro v4 w5 ho4 hg4; have hb5 := Lib.hid (Below.appended (Below.alloc hb4.out hb4.out.size _) (ho3.out.alloc _) hg4 (by have := hb4.out.size; simp; omega)); clear hg4; replace ho4 := Lib.hid ho4)
                | (refine step_append_all eltInt rfl (.tmp 38) (.tmp 40) rfl w3.heap.size v3 _ (by simp [Act.eval, Act.put]) ho3.out (.slice (some ⟨w3.heap.size + 1, 0, none⟩) 1 1) [.int .i64 (i : Int)] (by simp [Act.eval, Act.put]) hx4.out (ints_one [(i : Int)]) (by have := hL1.out; simp only [List.nil_append, List.length_singleton]; omega) (by have := hb4.out.size; simp; omega) ?_; intro v4 w5 ho4 hg4; have hb5 := Lib.hid (Below.appended hb4.out ho3.out hg4 hb4.out.size); clear hg4; replace ho4 := Lib.hid ho4)
                | (refine step_append_all eltInt rfl (.tmp 38) (.tmp 40) rfl w3.heap.size v3 _ (by simp [Act.eval, Act.put]) ho3.out (.slice (some ⟨w3.heap.size, 0, none⟩) 1 1) [.int .i64 (i : Int)] (by simp [Act.eval, Act.put]) hx4.out (ints_one [(i : Int)]) (by have := hL1.out; simp only [List.nil_append, List.length_singleton]; omega) (by have := hb4.out.size; simp; omega) ?_; intro v4 w5 ho4 hg4; have hb5 := Lib.hid (Below.appended hb4.out ho3.out hg4 hb4.out.size); clear hg4; replace ho4 := Lib.hid ho4)
                | (refine step_append_all eltInt rfl (.tmp 41) (.tmp 44) rfl w3.heap.size v4 _ (by simp [Act.eval, Act.put]) ho4.out (.slice (some ⟨b, 0, none⟩) 0 0) (ints (L.drop i)) (by simp [Act.eval, Act.put]; try omega) (hD.out _ hb5.out) (ints_one _) (by have := hL1.out; have := hL2.out; simp only [List.nil_append, List.length_append, List.length_singleton]; omega) (by have := hb5.out.size; simp; omega) ?_; intro v5 w6 ho5 hg5; have hb6 := Lib.hid (Below.appended hb5.out ho4.out hg5 hb5.out.size); clear hg5; obtain ⟨g, cap, rfl, hO6, hR6, hg6⟩ := Own_insAt4 ho5 hLn.out hki; clear ho5))
              all_goals
                have hB6 := Lib.hid (Below.next hB3.out hb6.out)
                have hge := Lib.hid (Nat.le_trans hB3.out.size hg6.out)
                have hO7 := Lib.hid (hO6.out.base hB3.out.size)
                go_wp2
                go_roundw
                case rel => exact ⟨i + 1, g, cap, insAt L i (i : Int), by omega, by go_num, rfl, hfin.out, hO7.out, hR6.out, hge.out, hB6.out⟩
                case measure => simp [intOf]; omega
            · have hD : Hid (∀ w', Below w3.heap.size w3 w' → RdV w' (.slice (some ⟨b, k, none⟩) (i - k) (c0 - k)) (ints (L.drop k))) := Lib.hid fun w' hw' => by
                have := (hRow3.out.below hw' hb2).rdDrop (lo := k) (n := i - k) (by have := hLn.out; omega) (by have := hLn.out; omega)
                simpa using this
              have hck2 : ¬ k = c0 := fun h => hck h.symm
              go_wp2
              go_region_law (first
                | (refine step_append_all eltInt rfl (.tmp 34) (.tmp 37) rfl w3.heap.size (.slice (some ⟨w3.heap.size, 0, none⟩) 0 0) [] (by simp [Act.eval, Act.put]) ho.out (.slice (some ⟨b, 0, none⟩) k c0) (ints (L.take k)) (by simp [Act.eval, Act.put]; try omega) (hT.out _ (Below.alloc hbW.out hn0 _)) (ints_one _) (by have := hL1.out; simp only [List.length_nil]; omega) (by simp) ?_; intro v3 w4 ho3 hg3; have hb4 := Lib.hid (Below.appended (Below.alloc hbW.out hn0 _) ho.out hg3 (by simp)); clear hg3; replace ho3 := Lib.hid ho3)
                | (refine step_append_all eltInt rfl (.tmp 34) (.tmp 37) rfl w3.heap.size (.slice (some ⟨w3.heap.size, 0, none⟩) 0 0) [] (by simp [Act.eval, Act.put]) (ho.out.alloc (.cells #[.int .i64 (i : Int)] 3)) (.slice (some ⟨b, 0, none⟩) k c0) (ints (L.take k)) (by simp [Act.eval, Act.put]; try omega) (hT.out _ (Below.alloc (Below.alloc hbW.out hn0 _) (by simp) _)) (ints_one _) (by have := hL1.out; simp only [List.length_nil]; omega) (by simp; try omega) ?_; intro v3 w4 ho3 hg3; have hx4 := Lib.hid (grownBy.rdNew hg3 (b := w3.heap.size + 1) (by simp) (by simp [Value.ownBlock]) hxA.out); have hb4 := Lib.hid (Below.appended (Below.alloc (Below.alloc hbW.out hn0 _) (by simp) _) (ho.out.alloc (.cells #[.int .i64 (i : Int)] 3)) hg3 (by simp; try omega)); clear hg3; replace ho3 := Lib.hid ho3)
                | (refine step_append_all eltInt rfl (.tmp 34) (.tmp 37) rfl w3.heap.size (.slice (some ⟨w3.heap.size + 1, 0, none⟩) 0 0) [] (by simp [Act.eval, Act.put]) hoC.out (.slice (some ⟨b, 0, none⟩) k c0) (ints (L.take k)) (by simp [Act.eval, Act.put]; try omega) (hT.out _ hbC.out) (ints_one _) (by have := hL1.out; simp only [List.length_nil]; omega) hsC.out ?_; intro v3 w4 ho3 hg3; have hx4 := Lib.hid (grownBy.rdNew hg3 (b := w3.heap.size) hkC.out (by simp [Value.ownBlock]) hxC.out); have hb4 := Lib.hid (Below.appended hbC.out hoC.out hg3 hsC.out); clear hg3; replace ho3 := Lib.hid ho3)
                | (refine step_append_all eltInt rfl (.tmp 38) (.tmp 40) rfl w3.heap.size v3 _ (by simp [Act.eval, Act.put]) (ho3.out.alloc _) (.slice (some ⟨w4.heap.size, 0, none⟩) 1 1) [.int .i64 (i : Int)] (by simp [Act.eval, Act.put]) RdV.new (ints_one [(i : Int)]) (by have := hL1.out; simp only [List.nil_append, List.length_singleton]; omega) (by have := hb4.out.size; simp; omega) ?_; intro v4 w5 ho4 hg4; have hb5 := Lib.hid (Below.appended (Below.alloc hb4.out hb4.out.size _) (ho3.out.alloc _) hg4 (by have := hb4.out.size; simp; omega)); clear hg4; replace ho4 := Lib.hid ho4)
                | (refine step_append_all eltInt rfl (.tmp 38) (.tmp 40) rfl w3.heap.size v3 _ (by simp [Act.eval, Act.put]) ho3.out (.slice (some ⟨w3.heap.size + 1, 0, none⟩) 1 1) [.int .i64 (i : Int)] (by simp [Act.eval, Act.put]) hx4.out (ints_one [(i : Int)]) (by have := hL1.out; simp only [List.nil_append, List.length_singleton]; omega) (by have := hb4.out.size; simp; omega) ?_; intro v4 w5 ho4 hg4; have hb5 := Lib.hid (Below.appended hb4.out ho3.out hg4 hb4.out.size); clear hg4; replace ho4 := Lib.hid ho4)
                | (refine step_append_all eltInt rfl (.tmp 38) (.tmp 40) rfl w3.heap.size v3 _ (by simp [Act.eval, Act.put]) ho3.out (.slice (some ⟨w3.heap.size, 0, none⟩) 1 1) [.int .i64 (i : Int)] (by simp [Act.eval, Act.put]) hx4.out (ints_one [(i : Int)]) (by have := hL1.out; simp only [List.nil_append, List.length_singleton]; omega) (by have := hb4.out.size; simp; omega) ?_; intro v4 w5 ho4 hg4; have hb5 := Lib.hid (Below.appended hb4.out ho3.out hg4 hb4.out.size); clear hg4; replace ho4 := Lib.hid ho4)
                | (refine step_append_all eltInt rfl (.tmp 41) (.tmp 44) rfl w3.heap.size v4 _ (by simp [Act.eval, Act.put]) ho4.out (.slice (some ⟨b, k, none⟩) (i - k) (c0 - k)) (ints (L.drop k)) (by simp [Act.eval, Act.put]; try omega) (hD.out _ hb5.out) (ints_one _) (by have := hL1.out; have := hL2.out; simp only [List.nil_append, List.length_append, List.length_singleton]; omega) (by have := hb5.out.size; simp; omega) ?_; intro v5 w6 ho5 hg5; have hb6 := Lib.hid (Below.appended hb5.out ho4.out hg5 hb5.out.size); clear hg5; obtain ⟨g, cap, rfl, hO6, hR6, hg6⟩ := Own_insAt4 ho5 hLn.out hki; clear ho5))
              all_goals
                have hB6 := Lib.hid (Below.next hB3.out hb6.out)
                have hge := Lib.hid (Nat.le_trans hB3.out.size hg6.out)
                have hO7 := Lib.hid (hO6.out.base hB3.out.size)
                go_wp2
                go_roundw
                case rel => exact ⟨i + 1, g, cap, insAt L k (i : Int), by omega, by go_num, rfl, hfin.out, hO7.out, hR6.out, hge.out, hB6.out⟩
                case measure => simp [intOf]; omega
        · obtain rfl : k = 0 := by omega
          have hfin : Hid (insAt L 0 (i : Int) = srtK x (i + 1)) := Lib.hid (by rw [hnext.out, ← hpk]; rfl)
          obtain ⟨k, hk⟩ : ∃ k : Nat, k = 0 := ⟨_, rfl⟩
          have hk0i : ¬ (0 : Int) < (k : Int) := by omega
          have hk0d : decide ((0 : Int) < (k : Int)) = false := decide_eq_false hk0i
          have hk0e : decide (0 < k) = false := decide_eq_false (by omega)
          have hki3 : k ≤ i := by omega
          rw [← hk] at hfin
          have hE1 := True.intro
          have hE0 := True.intro
          have hcast : ((0 : Nat) : Int) = (k : Int) := by omega
          rw [hcast]
          replace hk := Lib.hid hk
          clear hpk hki hcast
          have hki := hki3
          replace hOw := Lib.hid hOw
          replace hRow := Lib.hid hRow
          replace hB := Lib.hid hB
          go_wp2
          go_quiet (fail)
          try rw [World.drewN_drewN]
          obtain ⟨w3, hw3⟩ : ∃ w3, w3 = wi.drewN nq := ⟨_, rfl⟩
          have hRow3 : Hid (Row w3 3 b 0 c0 (ints L)) := Lib.hid (by rw [hw3]; exact hRow.out.drewN _)
          have hB3 : Hid (Below w.heap.size w w3) := Lib.hid (by rw [hw3]; exact Below.drewN hB.out _)
          rw [← hw3]
          clear hw3 hRow hB hOw hE1 hE0
          have hn0 := Nat.le_refl w3.heap.size
          have hbW : Hid (Below w3.heap.size w3 w3.drew) := Lib.hid (Below.drewN (Below.refl _ _) 1)
          have ho : Hid (Own (w3.drew.alloc (.cells #[] 3)) 3 w3.heap.size (.slice (some ⟨w3.heap.size, 0, none⟩) 0 0) []) := Lib.hid (Own.empty w3.drew 3)
          have hb2 := hRow3.out.lt
          have hoC : Hid (Own ((w3.drew.alloc (.cells #[.int .i64 (i : Int)] 3)).alloc (.cells #[] 3)) 3 w3.heap.size (.slice (some ⟨w3.heap.size + 1, 0, none⟩) 0 0) []) :=
            Lib.hid ((show Own _ _ (w3.heap.size + 1) (.slice (some ⟨w3.heap.size + 1, 0, none⟩) 0 0) [] by simpa using Own.empty (w3.drew.alloc (.cells #[.int .i64 (i : Int)] 3)) 3).base (by omega))
          have hxA : Hid (RdV ((w3.drew.alloc (.cells #[] 3)).alloc (.cells #[.int .i64 (i : Int)] 3)) (.slice (some ⟨w3.heap.size + 1, 0, none⟩) 1 1) [.int .i64 (i : Int)]) := Lib.hid (by simpa using RdV.new (w := w3.drew.alloc (.cells #[] 3)) (y := .int .i64 (i : Int)))
          have hxC : Hid (RdV ((w3.drew.alloc (.cells #[.int .i64 (i : Int)] 3)).alloc (.cells #[] 3)) (.slice (some ⟨w3.heap.size, 0, none⟩) 1 1) [.int .i64 (i : Int)]) := Lib.hid ((RdV.new (w := w3.drew) (e := 3) (y := .int .i64 (i : Int))).kept (Below.heap_alloc _ _ _ (by simp)))
          have hbC : Hid (Below w3.heap.size w3 ((w3.drew.alloc (.cells #[.int .i64 (i : Int)] 3)).alloc (.cells #[] 3))) := Lib.hid (Below.alloc (Below.alloc hbW.out hn0 _) (by simp) _)
          have hsC : Hid (w3.heap.size ≤ ((w3.drew.alloc (.cells #[.int .i64 (i : Int)] 3)).alloc (.cells #[] 3)).heap.size) := Lib.hid hbC.out.size
          have hkC : Hid (w3.heap.size < ((w3.drew.alloc (.cells #[.int .i64 (i : Int)] 3)).alloc (.cells #[] 3)).heap.size) := Lib.hid (by simp; try omega)
          have hT : Hid (∀ w', Below w3.heap.size w3 w' → RdV w' (.slice (some ⟨b, 0, none⟩) k c0) (ints (L.take k))) := Lib.hid fun w' hw' => (hRow3.out.below hw' hb2).rdTake (by have := hLn.out; omega)
          have hL1 : Hid ((ints (L.take k)).length ≤ 1000) := Lib.hid (by simp; omega)
          have hL2 : Hid ((ints (L.drop k)).length ≤ 1000) := Lib.hid (by have := hLn.out; simp; omega)
          have hp1 : (0 : Int) ≤ (k : Int) := by omega
          have hp2 : (k : Int) ≤ (i : Int) := by omega
          have hp3 : k ≤ c0 := by omega
          have hp4 : (k : Int) ≤ (c0 : Int) := by omega
          by_cases hck : c0 = k
          · have hik : i = k := by omega
            have hD : Hid (∀ w', Below w3.heap.size w3 w' → RdV w' (.slice (some ⟨b, 0, none⟩) 0 0) (ints (L.drop k))) := Lib.hid fun w' hw' => by
              rw [List.drop_eq_nil_of_le (by have := hLn.out; omega)]; exact RdV.none0
            subst hck
            subst hik
            go_wp2
            go_region_law (first
              | (refine step_append_all eltInt rfl (.tmp 34) (.tmp 37) rfl w3.heap.size (.slice (some ⟨w3.heap.size, 0, none⟩) 0 0) [] (by simp [Act.eval, Act.put]) ho.out (.slice (some ⟨b, 0, none⟩) i i) (ints (L.take i)) (by simp [Act.eval, Act.put]; try omega) (hT.out _ (Below.alloc hbW.out hn0 _)) (ints_one _) (by have := hL1.out; simp only [List.length_nil]; omega) (by simp) ?_; intro v3 w4 ho3 hg3; have hb4 := Lib.hid (Below.appended (Below.alloc hbW.out hn0 _) ho.out hg3 (by simp)); clear hg3; replace ho3 := Lib.hid ho3)
              | (refine step_append_all eltInt rfl (.tmp 34) (.tmp 37) rfl w3.heap.size (.slice (some ⟨w3.heap.size, 0, none⟩) 0 0) [] (by simp [Act.eval, Act.put]) (ho.out.alloc (.cells #[.int .i64 (i : Int)] 3)) (.slice (some ⟨b, 0, none⟩) i i) (ints (L.take i)) (by simp [Act.eval, Act.put]; try omega) (hT.out _ (Below.alloc (Below.alloc hbW.out hn0 _) (by simp) _)) (ints_one _) (by have := hL1.out; simp only [List.length_nil]; omega) (by simp; try omega) ?_; intro v3 w4 ho3 hg3; have hx4 := Lib.hid (grownBy.rdNew hg3 (b := w3.heap.size + 1) (by simp) (by simp [Value.ownBlock]) hxA.out); have hb4 := Lib.hid (Below.appended (Below.alloc (Below.alloc hbW.out hn0 _) (by simp) _) (ho.out.alloc (.cells #[.int .i64 (i : Int)] 3)) hg3 (by simp; try omega)); clear hg3; replace ho3 := Lib.hid ho3)
              | (refine step_append_all eltInt rfl (.tmp 34) (.tmp 37) rfl w3.heap.size (.slice (some ⟨w3.heap.size + 1, 0, none⟩) 0 0) [] (by simp [Act.eval, Act.put]) hoC.out (.slice (some ⟨b, 0, none⟩) i i) (ints (L.take i)) (by simp [Act.eval, Act.put]; try omega) (hT.out _ hbC.out) (ints_one _) (by have := hL1.out; simp only [List.length_nil]; omega) hsC.out ?_; intro v3 w4 ho3 hg3; have hx4 := Lib.hid (grownBy.rdNew hg3 (b := w3.heap.size) hkC.out (by simp [Value.ownBlock]) hxC.out); have hb4 := Lib.hid (Below.appended hbC.out hoC.out hg3 hsC.out); clear hg3; replace ho3 := Lib.hid ho3)
              | (refine step_append_all eltInt rfl (.tmp 38) (.tmp 40) rfl w3.heap.size v3 _ (by simp [Act.eval, Act.put]) (ho3.out.alloc _) (.slice (some ⟨w4.heap.size, 0, none⟩) 1 1) [.int .i64 (i : Int)] (by simp [Act.eval, Act.put]) RdV.new (ints_one [(i : Int)]) (by have := hL1.out; simp only [List.nil_append, List.length_singleton]; omega) (by have := hb4.out.size; simp; omega) ?_; intro v4 w5 ho4 hg4; have hb5 := Lib.hid (Below.appended (Below.alloc hb4.out hb4.out.size _) (ho3.out.alloc _) hg4 (by have := hb4.out.size; simp; omega)); clear hg4; replace ho4 := Lib.hid ho4)
              | (refine step_append_all eltInt rfl (.tmp 38) (.tmp 40) rfl w3.heap.size v3 _ (by simp [Act.eval, Act.put]) ho3.out (.slice (some ⟨w3.heap.size + 1, 0, none⟩) 1 1) [.int .i64 (i : Int)] (by simp [Act.eval, Act.put]) hx4.out (ints_one [(i : Int)]) (by have := hL1.out; simp only [List.nil_append, List.length_singleton]; omega) (by have := hb4.out.size; simp; omega) ?_; intro v4 w5 ho4 hg4; have hb5 := Lib.hid (Below.appended hb4.out ho3.out hg4 hb4.out.size); clear hg4; replace ho4 := Lib.hid ho4)
              | (refine step_append_all eltInt rfl (.tmp 38) (.tmp 40) rfl w3.heap.size v3 _ (by simp [Act.eval, Act.put]) ho3.out (.slice (some ⟨w3.heap.size, 0, none⟩) 1 1) [.int .i64 (i : Int)] (by simp [Act.eval, Act.put]) hx4.out (ints_one [(i : Int)]) (by have := hL1.out; simp only [List.nil_append, List.length_singleton]; omega) (by have := hb4.out.size; simp; omega) ?_; intro v4 w5 ho4 hg4; have hb5 := Lib.hid (Below.appended hb4.out ho3.out hg4 hb4.out.size); clear hg4; replace ho4 := Lib.hid ho4)
              | (refine step_append_all eltInt rfl (.tmp 41) (.tmp 44) rfl w3.heap.size v4 _ (by simp [Act.eval, Act.put]) ho4.out (.slice (some ⟨b, 0, none⟩) 0 0) (ints (L.drop i)) (by simp [Act.eval, Act.put]; try omega) (hD.out _ hb5.out) (ints_one _) (by have := hL1.out; have := hL2.out; simp only [List.nil_append, List.length_append, List.length_singleton]; omega) (by have := hb5.out.size; simp; omega) ?_; intro v5 w6 ho5 hg5; have hb6 := Lib.hid (Below.appended hb5.out ho4.out hg5 hb5.out.size); clear hg5; obtain ⟨g, cap, rfl, hO6, hR6, hg6⟩ := Own_insAt4 ho5 hLn.out hki; clear ho5))
            all_goals
              have hB6 := Lib.hid (Below.next hB3.out hb6.out)
              have hge := Lib.hid (Nat.le_trans hB3.out.size hg6.out)
              have hO7 := Lib.hid (hO6.out.base hB3.out.size)
              go_wp2
              go_roundw
              case rel => exact ⟨i + 1, g, cap, insAt L i (i : Int), by omega, by go_num, rfl, hfin.out, hO7.out, hR6.out, hge.out, hB6.out⟩
              case measure => simp [intOf]; omega
          · have hD : Hid (∀ w', Below w3.heap.size w3 w' → RdV w' (.slice (some ⟨b, k, none⟩) (i - k) (c0 - k)) (ints (L.drop k))) := Lib.hid fun w' hw' => by
              have := (hRow3.out.below hw' hb2).rdDrop (lo := k) (n := i - k) (by have := hLn.out; omega) (by have := hLn.out; omega)
              simpa using this
            have hck2 : ¬ k = c0 := fun h => hck h.symm
            go_wp2
            go_region_law (first
              | (refine step_append_all eltInt rfl (.tmp 34) (.tmp 37) rfl w3.heap.size (.slice (some ⟨w3.heap.size, 0, none⟩) 0 0) [] (by simp [Act.eval, Act.put]) ho.out (.slice (some ⟨b, 0, none⟩) k c0) (ints (L.take k)) (by simp [Act.eval, Act.put]; try omega) (hT.out _ (Below.alloc hbW.out hn0 _)) (ints_one _) (by have := hL1.out; simp only [List.length_nil]; omega) (by simp) ?_; intro v3 w4 ho3 hg3; have hb4 := Lib.hid (Below.appended (Below.alloc hbW.out hn0 _) ho.out hg3 (by simp)); clear hg3; replace ho3 := Lib.hid ho3)
              | (refine step_append_all eltInt rfl (.tmp 34) (.tmp 37) rfl w3.heap.size (.slice (some ⟨w3.heap.size, 0, none⟩) 0 0) [] (by simp [Act.eval, Act.put]) (ho.out.alloc (.cells #[.int .i64 (i : Int)] 3)) (.slice (some ⟨b, 0, none⟩) k c0) (ints (L.take k)) (by simp [Act.eval, Act.put]; try omega) (hT.out _ (Below.alloc (Below.alloc hbW.out hn0 _) (by simp) _)) (ints_one _) (by have := hL1.out; simp only [List.length_nil]; omega) (by simp; try omega) ?_; intro v3 w4 ho3 hg3; have hx4 := Lib.hid (grownBy.rdNew hg3 (b := w3.heap.size + 1) (by simp) (by simp [Value.ownBlock]) hxA.out); have hb4 := Lib.hid (Below.appended (Below.alloc (Below.alloc hbW.out hn0 _) (by simp) _) (ho.out.alloc (.cells #[.int .i64 (i : Int)] 3)) hg3 (by simp; try omega)); clear hg3; replace ho3 := Lib.hid ho3)
              | (refine step_append_all eltInt rfl (.tmp 34) (.tmp 37) rfl w3.heap.size (.slice (some ⟨w3.heap.size + 1, 0, none⟩) 0 0) [] (by simp [Act.eval, Act.put]) hoC.out (.slice (some ⟨b, 0, none⟩) k c0) (ints (L.take k)) (by simp [Act.eval, Act.put]; try omega) (hT.out _ hbC.out) (ints_one _) (by have := hL1.out; simp only [List.length_nil]; omega) hsC.out ?_; intro v3 w4 ho3 hg3; have hx4 := Lib.hid (grownBy.rdNew hg3 (b := w3.heap.size) hkC.out (by simp [Value.ownBlock]) hxC.out); have hb4 := Lib.hid (Below.appended hbC.out hoC.out hg3 hsC.out); clear hg3; replace ho3 := Lib.hid ho3)
              | (refine step_append_all eltInt rfl (.tmp 38) (.tmp 40) rfl w3.heap.size v3 _ (by simp [Act.eval, Act.put]) (ho3.out.alloc _) (.slice (some ⟨w4.heap.size, 0, none⟩) 1 1) [.int .i64 (i : Int)] (by simp [Act.eval, Act.put]) RdV.new (ints_one [(i : Int)]) (by have := hL1.out; simp only [List.nil_append, List.length_singleton]; omega) (by have := hb4.out.size; simp; omega) ?_; intro v4 w5 ho4 hg4; have hb5 := Lib.hid (Below.appended (Below.alloc hb4.out hb4.out.size _) (ho3.out.alloc _) hg4 (by have := hb4.out.size; simp; omega)); clear hg4; replace ho4 := Lib.hid ho4)
              | (refine step_append_all eltInt rfl (.tmp 38) (.tmp 40) rfl w3.heap.size v3 _ (by simp [Act.eval, Act.put]) ho3.out (.slice (some ⟨w3.heap.size + 1, 0, none⟩) 1 1) [.int .i64 (i : Int)] (by simp [Act.eval, Act.put]) hx4.out (ints_one [(i : Int)]) (by have := hL1.out; simp only [List.nil_append, List.length_singleton]; omega) (by have := hb4.out.size; simp; omega) ?_; intro v4 w5 ho4 hg4; have hb5 := Lib.hid (Below.appended hb4.out ho3.out hg4 hb4.out.size); clear hg4; replace ho4 := Lib.hid ho4)
              | (refine step_append_all eltInt rfl (.tmp 38) (.tmp 40) rfl w3.heap.size v3 _ (by simp [Act.eval, Act.put]) ho3.out (.slice (some ⟨w3.heap.size, 0, none⟩) 1 1) [.int .i64 (i : Int)] (by simp [Act.eval, Act.put]) hx4.out (ints_one [(i : Int)]) (by have := hL1.out; simp only [List.nil_append, List.length_singleton]; omega) (by have := hb4.out.size; simp; omega) ?_; intro v4 w5 ho4 hg4; have hb5 := Lib.hid (Below.appended hb4.out ho3.out hg4 hb4.out.size); clear hg4; replace ho4 := Lib.hid ho4)
              | (refine step_append_all eltInt rfl (.tmp 41) (.tmp 44) rfl w3.heap.size v4 _ (by simp [Act.eval, Act.put]) ho4.out (.slice (some ⟨b, k, none⟩) (i - k) (c0 - k)) (ints (L.drop k)) (by simp [Act.eval, Act.put]; try omega) (hD.out _ hb5.out) (ints_one _) (by have := hL1.out; have := hL2.out; simp only [List.nil_append, List.length_append, List.length_singleton]; omega) (by have := hb5.out.size; simp; omega) ?_; intro v5 w6 ho5 hg5; have hb6 := Lib.hid (Below.appended hb5.out ho4.out hg5 hb5.out.size); clear hg5; obtain ⟨g, cap, rfl, hO6, hR6, hg6⟩ := Own_insAt4 ho5 hLn.out hki; clear ho5))
            all_goals
              have hB6 := Lib.hid (Below.next hB3.out hb6.out)
              have hge := Lib.hid (Nat.le_trans hB3.out.size hg6.out)
              have hO7 := Lib.hid (hO6.out.base hB3.out.size)
              go_wp2
              go_roundw
              case rel => exact ⟨i + 1, g, cap, insAt L k (i : Int), by omega, by go_num, rfl, hfin.out, hO7.out, hR6.out, hge.out, hB6.out⟩
              case measure => simp [intOf]; omega
    · obtain rfl : i = n := by omega
      have hli : ¬ (i : Int) < (i : Int) := by omega
      go_wp2
      go_ret
      refine ⟨_, rfl, ?_⟩
      have hOw2 := hOw.out
      rw [hLe.out] at hOw2
      exact Fresh.of_own hOw2 hB.out

set_option maxHeartbeats 1000000 in
theorem spec_SortingPermutation_law {v : Value} {x : List Int} {F : List Nat} {w : World} (r : RIntS w v x F) :
    Calls Try.prog 24 #[v] w fun e w' => ∃ r F, e = .returned (.tuple #[r, .bool (srR x).2]) ∧ RIntS w' r (srR x).1 F ∧ Fr w.heap.size F ∧ Below w.heap.size w w' ∧ (srR x).1.length ≤ 100000000000 := by
  have hv := Lib.hid r.1
  have hlen := Lib.hid (srR_len x)
  clear r
  cases h : vlist x
  · have e0 : srR x = ([], false) := by simp [srR, h]
    rw [e0] at hlen ⊢
    clear e0
    go_enter Try.func24, Try.ntmps24
    go_wp2_with fail
    refine (l2List_any _ _ _ (Sl.rd hv.out)).mono ?_
    rintro e w1 ⟨rfl, rfl⟩
    rw [h]
    have hb := Lib.hid (Below.refl w.heap.size w)
    go_wp2
    go_ret2
    exact ⟨_, _, rfl, (Fresh.empty hb.out).law.1, (Fresh.empty hb.out).law.2.1, (Fresh.empty hb.out).law.2.2, hlen.out⟩
  · have e0 : srR x = (srtK x x.length, true) := by simp [srR, h]
    have hl := (vlist_iff.1 h).1
    rw [e0] at hlen ⊢
    clear e0
    go_enter Try.func24, Try.ntmps24
    go_wp2_with fail
    refine (l2List_any _ _ _ (Sl.rd hv.out)).mono ?_
    rintro e w1 ⟨rfl, rfl⟩
    rw [h]
    go_wp2_with fail
    refine (l3Sorting_any _ _ _ hv.out hl).mono ?_
    rintro e w2 ⟨r, rfl, hf⟩
    have f1 := Lib.hid hf.law.1
    have f2 := Lib.hid hf.law.2.1
    have f3 := Lib.hid hf.law.2.2
    clear hf
    go_wp2
    go_ret2
    exact ⟨_, _, rfl, f1.out, f2.out, f3.out, hlen.out⟩
end Go.Proofs.Ytdhcpoeopooejaa
