/- The draws: one, among, permutation. -/
import Derived.Test.YtoeonplbgbgjmaaDoorCur
import Derived.Test.YtoeonplbgbgjmaaDoorMg3
namespace Go.Proofs.YtoeonplbgbgjmaaDoor
open Go.RowKit
set_option linter.unusedVariables false
set_option linter.unusedSimpArgs false

set_option maxHeartbeats 400000 in
theorem one_any (cb : Nat) (v : Value) (K : Nat) (n : Int) (w : World) (h : Cur w cb v K) (hK : K ≤ 100000000) (hn : -1000000 ≤ n ∧ n ≤ 1000000) :
    Calls Tryd.prog 85 #[.pointer (some ⟨cb, 0, none⟩), .int .i64 n] w fun e w' => (∃ b : Bool, e = .returned (.bool b)) ∧ Cur w' cb v (K + 2) ∧ Ex [cb] w w' := by
  have hc := Lib.hid (pick_any cb v K n w h hK hn)
  clear h
  go_enter Tryd.func85, Tryd.ntmps85
  go_wp2_with fail
  refine hc.out.mono ?_
  rintro e w1 ⟨⟨x, rfl, _, _⟩, hc1, hx1⟩
  replace hc1 := Lib.hid hc1
  replace hx1 := Lib.hid hx1
  go_wp2
  go_ret
  exact ⟨⟨_, rfl⟩, hc1.out, hx1.out⟩

theorem Rd.exc {w w' : World} {l : Value} {xs : List Int} {F : List Nat} (h : Rd w l xs) (hb : Ex F w w') (hF : ∀ b, l.ownBlock = some b → ¬ b ∈ F) : Rd w' l xs := by
  obtain ⟨ao, c, rfl, h1, h2, h3⟩ := h
  refine ⟨ao, c, rfl, h1, h2, fun hp => ?_⟩
  obtain ⟨b, off, rfl, hr⟩ := h3 hp
  refine ⟨b, off, rfl, fun i hi => ?_⟩
  have hc := hr i hi
  rw [World.cell?_of_block (w := w) (hb.block b (block_lt_of_cell hc) (hF b rfl))]
  exact hc
set_option maxHeartbeats 400000 in
theorem among_any (cb : Nat) (v l : Value) (xs : List Int) (K : Nat) (w : World) (h : Cur w cb v K) (hK : K ≤ 100000000) (hl : Rd w l xs) (h1 : 1 ≤ xs.length) (h2 : xs.length ≤ 1000) (hb : ∀ b, l.ownBlock = some b → b ≠ cb) :
    Calls Tryd.prog 87 #[.pointer (some ⟨cb, 0, none⟩), l] w fun e w' => (∃ i : Nat, i < xs.length ∧ e = .returned (.int .i64 (gi xs i))) ∧ Cur w' cb v (K + 2) ∧ Ex [cb] w w' := by
  have hc := Lib.hid (fun (n : Int) hn => pick_any cb v K n w h hK hn)
  clear h
  have hl2 := Lib.hid hl
  obtain ⟨ao, c, rfl, q1, q2, _⟩ := hl
  unfold maxLen at q2
  replace hb := Lib.hid hb
  generalize hn : xs.length = n at *
  replace hn := Lib.hid hn
  go_enter Tryd.func87, Tryd.ntmps87
  go_wp2_with fail
  refine (hc.out _ (by omega)).mono ?_
  rintro e w1 ⟨⟨x, rfl, hx, _⟩, hc1, hx1⟩
  have hxn := hx (by omega)
  have hr1 := hl2.out.exc hx1 (fun b hb2 h => hb.out b hb2 (by simpa using h))
  obtain ⟨a9, c9, e9, _, _, HR⟩ := hr1
  rw [hn.out] at e9 HR
  simp at e9
  obtain ⟨rfl, rfl⟩ := e9
  obtain ⟨b, off, rfl, hR⟩ := HR (by omega)
  have hc2 := hR x (by omega)
  replace hc1 := Lib.hid hc1
  replace hx1 := Lib.hid hx1
  clear hR HR
  generalize hg : gi xs x = y at *
  replace hg := Lib.hid hg
  have hxn2 : x < n := by omega
  go_wp2
  go_ret
  exact ⟨⟨x, hxn2, by rw [hg.out]; rfl⟩, hc1.out, hx1.out⟩

/-- An element put at its place, in new memory. -/
theorem Own_insAt2 {w : World} {B j lo : Nat} {v : Value} {S : List Int} {X : Int} (h : Own w 3 B v ((([] ++ ints (S.take lo)) ++ [.int .i64 X]) ++ ints (S.drop lo))) (hS : S.length = j) (hl : lo ≤ j) :
    ∃ g cap, v = .slice (some ⟨g, 0, none⟩) (j + 1) cap ∧ Hid (Own w 3 B (.slice (some ⟨g, 0, none⟩) (j + 1) cap) (ints (insAt S lo X))) ∧ Hid (Row w 3 g 0 cap (ints (insAt S lo X))) ∧ Hid (B ≤ g) := by
  have he : ((([] ++ ints (S.take lo)) ++ [.int .i64 X]) ++ ints (S.drop lo)) = ints (insAt S lo X) := by simp [ints, insAt]
  rw [he] at h
  have hn : (ints (insAt S lo X)).length = j + 1 := by simp [insAt]; omega
  have h2 := h
  unfold Own at h
  rw [hn] at h
  obtain ⟨g, cap, rfl, hg, _⟩ := World.ownsRow.form h (by omega)
  exact ⟨g, cap, rfl, Lib.hid h2, Lib.hid (Row.of_owns h), Lib.hid hg⟩

end Go.Proofs.YtoeonplbgbgjmaaDoor
