/- The draws: ints. -/
import Derived.Test.YtdhcpoeopooejaaDrawR
namespace Go.Proofs.Ytdhcpoeopooejaa
open Go.RowKit
set_option linter.unusedVariables false
set_option linter.unusedSimpArgs false

set_option maxRecDepth 10000 in
set_option maxHeartbeats 4000000 in
theorem ints_any (cb : Nat) (v : Value) (K : Nat) (w : World) (h : Cur w cb v K) (hcb : cb < w.heap.size) (hvb : ∀ b, v.ownBlock = some b → b < w.heap.size) (hK : K ≤ 100000) :
    Calls Try.prog 128 #[.pointer (some ⟨cb, 0, none⟩)] w fun e w' => ∃ (r : Value) (L : List Int), e = .returned r ∧ Own w' 3 w.heap.size r (ints L) ∧ L.length ≤ 24 ∧ Cur w' cb v (K + 200) ∧ Ex [cb] w w' := by
  have hB0 : Below w.heap.size w (w.alloc (.cells #[] 3)) := (Below.refl _ _).alloc (Nat.le_refl _) _
  have hown0 := Lib.hid (Own.empty w 3)
  have hc0 := Lib.hid (h.ex (Ex.of_below (F := []) hB0) (by simp) (fun _ _ => by simp))
  have hx0 := Lib.hid (Ex.of_below (F := [cb]) hB0)
  clear h hB0
  replace hvb := Lib.hid hvb
  go_enter Try.func128, Try.ntmps128
  go_wp2_with fail
  refine (pick_any cb v K 9 _ hc0.out (by omega) (by omega)).mono ?_
  rintro e w1 ⟨⟨n, rfl, hn1, _⟩, hc1, hx1⟩
  have hn9 := hn1 (by omega)
  have hx2 := Lib.hid (hx0.out.trans hx1)
  replace hc1 := Lib.hid hc1
  clear hn1
  go_wp2_with fail
  refine (one_any cb v _ 6 w1 hc1.out (by omega) (by omega)).mono ?_
  rintro e w2 ⟨⟨b, rfl⟩, hc2, hx3⟩
  replace hc2 := Lib.hid hc2
  have hx4 := Lib.hid (hx2.out.trans hx3)
  cases b
  · skip
    have hO2 := Lib.hid (hown0.out.kept (r := some cb) ⟨(hx1.trans hx3).os, (hx1.trans hx3).tape, (hx1.trans hx3).output, (hx1.trans hx3).size, fun k hk hr => (hx1.trans hx3).block k hk (by simp; rintro rfl; exact hr rfl)⟩ (.inr (by simp [Value.ownBlock]; omega)))
    clear hown0 hc0 hx0 hx1 hx2 hx3 hc1
    go_wp2
    go_loopw [3, 4] (fun o iv wr => ∃ (i : Nat) (L : List Int) (bo co : Nat), i + L.length = n ∧ iv = .int .i64 (i : Nat) ∧ o = .slice (some ⟨bo, 0, none⟩) L.length co ∧ w.heap.size ≤ bo ∧ Own wr 3 w.heap.size o (ints L) ∧ Cur wr cb v (K + 6 + 4 * L.length) ∧ Ex [cb] w wr) (fun _ iv _ => (intOf iv).toNat)
    case atStart => exact ⟨n, [], w.heap.size, 0, rfl, rfl, rfl, Nat.le_refl _, hO2.out, hc2.out.le (by simp), hx4.out⟩
    case round =>
      obtain ⟨i, L, bo, co, hin, rfl, rfl, hbo, hO, hC, hX⟩ := hrel
      replace hO := Lib.hid hO
      replace hC := Lib.hid hC
      replace hX := Lib.hid hX
      clear hO2 hc2 hx4
      by_cases h0 : 0 < i
      · have hi0 : (0 : Int) < (i : Int) := by omega
        go_wp2_with fail
        refine (one_any cb v _ 8 _ hC.out (by omega) (by omega)).mono ?_
        rintro e w3 ⟨⟨b2, rfl⟩, hc3, hx5⟩
        cases b2
        · go_wp2_with fail
          refine (pick_any cb v _ 7 _ hc3 (by omega) (by omega)).mono ?_
          rintro e w4 ⟨⟨x, rfl, _, _⟩, hc4, hx6⟩
          have hx7 := hx5.trans hx6
          have hO4 := Lib.hid (hO.out.kept (r := some cb) ⟨hx7.os, hx7.tape, hx7.output, hx7.size, fun k hk hr => hx7.block k hk (by simp; rintro rfl; exact hr rfl)⟩ (.inr (by simp [Value.ownBlock]; omega)))
          have hx8 := Lib.hid (hX.out.trans hx7)
          have hs4 := hx8.out.size
          have hl4 : (ints L).length ≤ 1000000000 := by simp; omega
          replace hc4 := Lib.hid hc4
          clear hx7 hx5 hx6 hc3 hO hC hX
          go_wp2_with (at_builtin; refine append_one_at eltInt rfl _ _ rfl w.heap.size _ _ rfl hO4.out rfl rfl hl4 hs4 ?_; intro v5 w5 ho5 hg5 _)
          replace hg5 : w4.grownBy w5 (some bo) := hg5
          have hg6 : Ex [bo] w4 w5 := ⟨hg5.os, hg5.tape, hg5.output, hg5.size, fun k hk hr => hg5.block k hk (by simp at hr; intro e9; injection e9; omega)⟩
          have hc5 := hc4.out.ex hg6 (by simp; omega) (fun b9 h9 => by have := hvb.out b9 h9; simp; omega)
          have hx9 := hx8.out.grown hg5 rfl hbo
          have ho6 := ho5
          unfold Own at ho5
          obtain ⟨b6, c6, rfl, hb6, _⟩ := World.ownsRow.form ho5 (by simp)
          refine ⟨⟨i - 1, L ++ [(x : Int)], b6, c6, by simp; omega, by congr 1; omega, by simp, hb6, by simpa [ints] using ho6, hc5.le (by simp; omega), hx9⟩, by simp [intOf]; omega⟩
        · have hB : Below w3.heap.size w3 (w3.alloc (.cells (ints [100000, -100000, 999, -5]).toArray 3)) := (Below.refl _ _).alloc (Nat.le_refl _) _
          have hal := Lib.hid (among_any cb v _ [100000, -100000, 999, -5] _ _ (hc3.ex (Ex.of_below (F := []) hB) (by simp) (fun _ _ => by simp)) (by omega) (Rd.lits w3 _ (by simp)) (by simp) (by simp) (by intro b9 h9; simp [Value.ownBlock] at h9; have := hX.out.size; have := hx5.size; omega))
          have hxb := Ex.of_below (F := [cb]) hB
          clear hB
          go_wp2_with fail
          refine hal.out.mono ?_
          rintro e w4 ⟨⟨i9, hi9, rfl⟩, hc4, hxa⟩
          have hx6 := hxb.trans hxa
          have hx7 := hx5.trans hx6
          generalize gi [100000, -100000, 999, -5] i9 = y
          clear hal hi9 hxb hxa
          have hO4 := Lib.hid (hO.out.kept (r := some cb) ⟨hx7.os, hx7.tape, hx7.output, hx7.size, fun k hk hr => hx7.block k hk (by simp; rintro rfl; exact hr rfl)⟩ (.inr (by simp [Value.ownBlock]; omega)))
          have hx8 := Lib.hid (hX.out.trans hx7)
          have hs4 := hx8.out.size
          have hl4 : (ints L).length ≤ 1000000000 := by simp; omega
          replace hc4 := Lib.hid hc4
          clear hx7 hx5 hx6 hc3 hO hC hX
          go_wp2_with (at_builtin; refine append_one_at eltInt rfl _ _ rfl w.heap.size _ _ rfl hO4.out rfl rfl hl4 hs4 ?_; intro v5 w5 ho5 hg5 _)
          replace hg5 : w4.grownBy w5 (some bo) := hg5
          have hg6 : Ex [bo] w4 w5 := ⟨hg5.os, hg5.tape, hg5.output, hg5.size, fun k hk hr => hg5.block k hk (by simp at hr; intro e9; injection e9; omega)⟩
          have hc5 := hc4.out.ex hg6 (by simp; omega) (fun b9 h9 => by have := hvb.out b9 h9; simp; omega)
          have hx9 := hx8.out.grown hg5 rfl hbo
          have ho6 := ho5
          unfold Own at ho5
          obtain ⟨b6, c6, rfl, hb6, _⟩ := World.ownsRow.form ho5 (by simp)
          refine ⟨⟨i - 1, L ++ [y], b6, c6, by simp; omega, by congr 1; omega, by simp, hb6, by simpa [ints] using ho6, hc5.le (by simp; omega), hx9⟩, by simp [intOf]; omega⟩
      · obtain rfl : i = 0 := by omega
        go_wp2
        go_ret
        exact ⟨_, L, rfl, hO.out, by omega, hC.out.le (by omega), hX.out⟩
  · go_wp2_with fail
    refine (pick_any cb v _ 24 w2 hc2.out (by omega) (by omega)).mono ?_
    rintro e w2 ⟨⟨n, rfl, hn1, _⟩, hc2, hx9⟩
    have hn24 := hn1 (by omega)
    clear hn1
    replace hc2 := Lib.hid hc2
    replace hx3 := hx3.trans hx9
    replace hx4 := Lib.hid (hx4.out.trans hx9)
    clear hx9
    have hO2 := Lib.hid (hown0.out.kept (r := some cb) ⟨(hx1.trans hx3).os, (hx1.trans hx3).tape, (hx1.trans hx3).output, (hx1.trans hx3).size, fun k hk hr => (hx1.trans hx3).block k hk (by simp; rintro rfl; exact hr rfl)⟩ (.inr (by simp [Value.ownBlock]; omega)))
    clear hown0 hc0 hx0 hx1 hx2 hx3 hc1
    go_wp2
    go_loopw [3, 4] (fun o iv wr => ∃ (i : Nat) (L : List Int) (bo co : Nat), i + L.length = n ∧ iv = .int .i64 (i : Nat) ∧ o = .slice (some ⟨bo, 0, none⟩) L.length co ∧ w.heap.size ≤ bo ∧ Own wr 3 w.heap.size o (ints L) ∧ Cur wr cb v (K + 6 + 4 * L.length) ∧ Ex [cb] w wr) (fun _ iv _ => (intOf iv).toNat)
    case atStart => exact ⟨n, [], w.heap.size, 0, rfl, rfl, rfl, Nat.le_refl _, hO2.out, hc2.out.le (by simp), hx4.out⟩
    case round =>
      obtain ⟨i, L, bo, co, hin, rfl, rfl, hbo, hO, hC, hX⟩ := hrel
      replace hO := Lib.hid hO
      replace hC := Lib.hid hC
      replace hX := Lib.hid hX
      clear hO2 hc2 hx4
      by_cases h0 : 0 < i
      · have hi0 : (0 : Int) < (i : Int) := by omega
        go_wp2_with fail
        refine (one_any cb v _ 8 _ hC.out (by omega) (by omega)).mono ?_
        rintro e w3 ⟨⟨b2, rfl⟩, hc3, hx5⟩
        cases b2
        · go_wp2_with fail
          refine (pick_any cb v _ 7 _ hc3 (by omega) (by omega)).mono ?_
          rintro e w4 ⟨⟨x, rfl, _, _⟩, hc4, hx6⟩
          have hx7 := hx5.trans hx6
          have hO4 := Lib.hid (hO.out.kept (r := some cb) ⟨hx7.os, hx7.tape, hx7.output, hx7.size, fun k hk hr => hx7.block k hk (by simp; rintro rfl; exact hr rfl)⟩ (.inr (by simp [Value.ownBlock]; omega)))
          have hx8 := Lib.hid (hX.out.trans hx7)
          have hs4 := hx8.out.size
          have hl4 : (ints L).length ≤ 1000000000 := by simp; omega
          replace hc4 := Lib.hid hc4
          clear hx7 hx5 hx6 hc3 hO hC hX
          go_wp2_with (at_builtin; refine append_one_at eltInt rfl _ _ rfl w.heap.size _ _ rfl hO4.out rfl rfl hl4 hs4 ?_; intro v5 w5 ho5 hg5 _)
          replace hg5 : w4.grownBy w5 (some bo) := hg5
          have hg6 : Ex [bo] w4 w5 := ⟨hg5.os, hg5.tape, hg5.output, hg5.size, fun k hk hr => hg5.block k hk (by simp at hr; intro e9; injection e9; omega)⟩
          have hc5 := hc4.out.ex hg6 (by simp; omega) (fun b9 h9 => by have := hvb.out b9 h9; simp; omega)
          have hx9 := hx8.out.grown hg5 rfl hbo
          have ho6 := ho5
          unfold Own at ho5
          obtain ⟨b6, c6, rfl, hb6, _⟩ := World.ownsRow.form ho5 (by simp)
          refine ⟨⟨i - 1, L ++ [(x : Int)], b6, c6, by simp; omega, by congr 1; omega, by simp, hb6, by simpa [ints] using ho6, hc5.le (by simp; omega), hx9⟩, by simp [intOf]; omega⟩
        · have hB : Below w3.heap.size w3 (w3.alloc (.cells (ints [100000, -100000, 999, -5]).toArray 3)) := (Below.refl _ _).alloc (Nat.le_refl _) _
          have hal := Lib.hid (among_any cb v _ [100000, -100000, 999, -5] _ _ (hc3.ex (Ex.of_below (F := []) hB) (by simp) (fun _ _ => by simp)) (by omega) (Rd.lits w3 _ (by simp)) (by simp) (by simp) (by intro b9 h9; simp [Value.ownBlock] at h9; have := hX.out.size; have := hx5.size; omega))
          have hxb := Ex.of_below (F := [cb]) hB
          clear hB
          go_wp2_with fail
          refine hal.out.mono ?_
          rintro e w4 ⟨⟨i9, hi9, rfl⟩, hc4, hxa⟩
          have hx6 := hxb.trans hxa
          have hx7 := hx5.trans hx6
          generalize gi [100000, -100000, 999, -5] i9 = y
          clear hal hi9 hxb hxa
          have hO4 := Lib.hid (hO.out.kept (r := some cb) ⟨hx7.os, hx7.tape, hx7.output, hx7.size, fun k hk hr => hx7.block k hk (by simp; rintro rfl; exact hr rfl)⟩ (.inr (by simp [Value.ownBlock]; omega)))
          have hx8 := Lib.hid (hX.out.trans hx7)
          have hs4 := hx8.out.size
          have hl4 : (ints L).length ≤ 1000000000 := by simp; omega
          replace hc4 := Lib.hid hc4
          clear hx7 hx5 hx6 hc3 hO hC hX
          go_wp2_with (at_builtin; refine append_one_at eltInt rfl _ _ rfl w.heap.size _ _ rfl hO4.out rfl rfl hl4 hs4 ?_; intro v5 w5 ho5 hg5 _)
          replace hg5 : w4.grownBy w5 (some bo) := hg5
          have hg6 : Ex [bo] w4 w5 := ⟨hg5.os, hg5.tape, hg5.output, hg5.size, fun k hk hr => hg5.block k hk (by simp at hr; intro e9; injection e9; omega)⟩
          have hc5 := hc4.out.ex hg6 (by simp; omega) (fun b9 h9 => by have := hvb.out b9 h9; simp; omega)
          have hx9 := hx8.out.grown hg5 rfl hbo
          have ho6 := ho5
          unfold Own at ho5
          obtain ⟨b6, c6, rfl, hb6, _⟩ := World.ownsRow.form ho5 (by simp)
          refine ⟨⟨i - 1, L ++ [y], b6, c6, by simp; omega, by congr 1; omega, by simp, hb6, by simpa [ints] using ho6, hc5.le (by simp; omega), hx9⟩, by simp [intOf]; omega⟩
      · obtain rfl : i = 0 := by omega
        go_wp2
        go_ret
        exact ⟨_, L, rfl, hO.out, by omega, hC.out.le (by omega), hX.out⟩
end Go.Proofs.Ytdhcpoeopooejaa
