/- The draws: DrawRunMerges. -/
import Derived.Test.YtbfffpdcpoejnaaDrawL
namespace Go.Proofs.Ytbfffpdcpoejnaa
open Go.RowKit
set_option linter.unusedVariables false
set_option linter.unusedSimpArgs false

set_option maxRecDepth 10000 in
set_option maxHeartbeats 8000000 in
theorem DrawRunMerges_law {d : Value} {w : World} (h : RdBy w d) (hd : ∀ b, d.ownBlock = some b → b < w.heap.size) :
    Calls Try.prog 49 #[d] w fun e w' => ∃ (r : Value) (L : List Int) (F : List Nat), e = .returned r ∧ RIntS w' r L F ∧ Fr w.heap.size F ∧ Below w.heap.size w w' ∧ L.length ≤ 100 := by
  have hc := Lib.hid (Cur.start h hd)
  obtain ⟨ao_, n, c_, rfl, h1, h2, _⟩ := h
  have hvb : Hid (∀ b, (Value.slice ao_ n c_).ownBlock = some b → b < (w.alloc (.cells #[.slice ao_ n c_, .int .i64 0, .int .u64 0] 60)).heap.size) := Lib.hid (fun b hb => by have := hd b hb; simp; omega)
  have hcb : w.heap.size < (w.alloc (.cells #[.slice ao_ n c_, .int .i64 0, .int .u64 0] 60)).heap.size := by simp
  have hfin := Lib.hid (fun (w' : World) (r : Value) (L : List Int) hO hx => drawn (w := w) (o := .cells #[.slice ao_ n c_, .int .i64 0, .int .u64 0] 60) (w' := w') (r := r) (L := L) hO hx)
  have hO0 := Lib.hid (Own.empty (w.alloc (.cells #[.slice ao_ n c_, .int .i64 0, .int .u64 0] 60)) 3)
  have hB0 : Below (w.alloc (.cells #[.slice ao_ n c_, .int .i64 0, .int .u64 0] 60)).heap.size (w.alloc (.cells #[.slice ao_ n c_, .int .i64 0, .int .u64 0] 60)) ((w.alloc (.cells #[.slice ao_ n c_, .int .i64 0, .int .u64 0] 60)).alloc (.cells #[] 3)) := (Below.refl _ _).alloc (Nat.le_refl _) _
  have hc0 := Lib.hid (hc.out.ex (Ex.of_below (F := []) hB0) (by simp) (fun _ _ => by simp))
  have hx0 := Lib.hid (Ex.of_below (F := [w.heap.size]) hB0)
  clear hd hB0 hc
  go_enter Try.func49, Try.ntmps49
  go_wp2_with fail
  refine (pick_any w.heap.size _ 0 9 _ hc0.out (by omega) (by omega)).mono ?_
  rintro e w1 ⟨⟨m, rfl, hm1, _⟩, hc1, hx1⟩
  have hm := hm1 (by omega)
  have hO1 := Lib.hid (hO0.out.exc hx1 hcb)
  have hx2 := Lib.hid (hx0.out.trans hx1)
  generalize hw0 : w.alloc (.cells #[.slice ao_ n c_, .int .i64 0, .int .u64 0] 60) = w0 at *
  replace hw0 := Lib.hid hw0
  replace hc1 := Lib.hid hc1
  clear hc0 hm1 hx0 hx1 hO0
  go_wp2
  go_loopw [4, 5] (fun o iv wr => ∃ (i : Nat) (L : List Int) (ao : Option Addr) (c : Nat), i + L.length = m ∧ iv = .int .i64 (i : Nat) ∧ o = .slice ao L.length c ∧ Own wr 3 w0.heap.size o (ints L) ∧ Cur wr w.heap.size (.slice ao_ n c_) (10 + 4 * L.length) ∧ Ex [w.heap.size] w0 wr) (fun _ iv _ => (intOf iv).toNat)
  case atStart =>
    have hz : w.heap.size + 1 = w0.heap.size := by rw [← hw0.out]; simp
    exact ⟨m, [], _, 0, rfl, rfl, rfl, by rw [hz]; exact hO1.out, hc1.out.le (by omega), hx2.out⟩
  case round =>
    clear hO1 hc1 hx2
    obtain ⟨i, L, bo, dc, hin, rfl, rfl, hO, hC, hX⟩ := hrel
    replace hO := Lib.hid hO
    replace hC := Lib.hid hC
    replace hX := Lib.hid hX
    by_cases h0 : 0 < i
    · have hi0 : (0 : Int) < (i : Int) := by omega
      go_wp2_with fail
      refine (pick_any w.heap.size _ _ 12 _ hC.out (by omega) (by omega)).mono ?_
      rintro e w4 ⟨⟨x, rfl, hx12, _⟩, hc4, hx4⟩
      have hxb := hx12 (by omega)
      have hO4 := Lib.hid (hO.out.exc hx4 hcb)
      have hx8 := Lib.hid (hX.out.trans hx4)
      have hs4 := hx8.out.size
      have hl4 : (ints L).length ≤ 1000000000 := by simp; omega
      replace hc4 := Lib.hid hc4
      clear hx4 hO hC hX hx12
      go_wp2_with (at_builtin; refine append_one_at eltInt rfl _ _ rfl w0.heap.size _ _ rfl hO4.out rfl rfl hl4 hs4 ?_; intro v5 w5 ho5 hg5 _)
      have hc5 := hc4.out.appended hO4.out hg5 hcb hvb.out
      have hx9 := hx8.out.appended hO4.out hg5
      have ho7 : Own w5 3 w0.heap.size v5 (ints (L ++ [1 + (x : Int)])) := by simpa [ints] using ho5
      obtain ⟨ao7, c7, rfl, _, _, _, _⟩ := ho7.sl.openInts
      exact ⟨⟨i - 1, L ++ [1 + (x : Int)], ao7, c7, by simp; omega, by congr 1; omega, rfl, ho7, hc5.le (by simp; omega), hx9⟩, by simp [intOf]; omega⟩
    · obtain rfl : i = 0 := by omega
      have hLm : L.length ≤ 9 := by omega
      clear hin
      go_wp2_with fail
      refine (pick_any w.heap.size _ _ 20 _ hC.out (by omega) (by omega)).mono ?_
      rintro e w3 ⟨⟨x, rfl, _, _⟩, hc3, hx4⟩
      have hO3 := Lib.hid (hO.out.exc hx4 hcb)
      have hx5 := Lib.hid (hX.out.trans hx4)
      have hs3 := hx5.out.size
      replace hc3 := Lib.hid hc3
      clear hx4 hO hC hX
      by_cases h0 : x = 0
      · subst h0
        have hB : Below w3.heap.size w3 (w3.alloc (.cells (ints [0, -1, 100000, 100001]).toArray 3)) := (Below.refl _ _).alloc (Nat.le_refl _) _
        have hal := Lib.hid (among_any w.heap.size _ _ [0, -1, 100000, 100001] _ _ (hc3.out.ex (Ex.of_below (F := []) hB) (by simp) (fun _ _ => by simp)) (by omega) (Rd.lits w3 _ (by simp)) (by simp) (by simp) (by intro b9 h9; simp [Value.ownBlock] at h9; omega))
        have hx6 := Lib.hid (Ex.of_below (F := [w.heap.size]) hB)
        clear hB
        go_wp2_with fail
        refine hal.out.mono ?_
        rintro e w4 ⟨⟨i, hi, rfl⟩, hc4, hx7⟩
        have hx8 := Lib.hid (hx6.out.trans hx7)
        have hO4 := Lib.hid (hO3.out.exc hx8.out hcb)
        have hx9 := Lib.hid (hx5.out.trans hx8.out)
        have hs4 := hx9.out.size
        have hl4 : (ints L).length ≤ 1000000000 := by simp; omega
        generalize gi [0, -1, 100000, 100001] i = y
        clear hx7 hx8 hal hi hx6 hx5 hO3 hc4
        go_wp2_with (at_builtin; refine append_one_at eltInt rfl _ _ rfl w0.heap.size _ _ rfl hO4.out rfl rfl hl4 hs4 ?_; intro v5 w5 ho5 hg5 _)
        have hM : Own w5 3 w0.heap.size v5 (ints (L ++ [y])) := by simpa [ints] using ho5
        have hx10 := hx9.out.appended hO4.out hg5
        go_ret
        exact ⟨_, L ++ [y], _, rfl, (hfin.out _ _ _ hM hx10).1, (hfin.out _ _ _ hM hx10).2.1, (hfin.out _ _ _ hM hx10).2.2, by simp; omega⟩
      · by_cases h1 : x = 1
        · subst h1
          go_wp2
          go_loopw [4] (fun o wr => ∃ (L : List Int) (ao : Option Addr) (c : Nat), L.length ≤ 65 ∧ o = .slice ao L.length c ∧ Own wr 3 w0.heap.size o (ints L) ∧ Cur wr w.heap.size (.slice ao_ n c_) (100 + 4 * L.length) ∧ Ex [w.heap.size] w0 wr) (fun o _ => 200 - slN o)
          case atStart => exact ⟨L, _, _, by omega, rfl, hO3.out, hc3.out.le (by omega), hx5.out⟩
          case round =>
            clear hO3 hc3 hx5 hLm
            obtain ⟨L, bo, dc, hL, rfl, hO, hC, hX⟩ := hrel
            replace hO := Lib.hid hO
            replace hC := Lib.hid hC
            replace hX := Lib.hid hX
            go_wp2_with fail
            refine (pick_any w.heap.size _ _ 2 _ hC.out (by omega) (by omega)).mono ?_
            rintro e w4 ⟨⟨y, rfl, hy2, _⟩, hc4, hx4⟩
            have hy := hy2 (by omega)
            have hO4 := Lib.hid (hO.out.exc hx4 hcb)
            have hx5 := Lib.hid (hX.out.trans hx4)
            replace hc4 := Lib.hid hc4
            clear hx4 hO hC hX hy2
            by_cases hlt : (L.length : Int) < 40 + (y : Int)
            · go_wp2_with fail
              refine (pick_any w.heap.size _ _ 30 _ hc4.out (by omega) (by omega)).mono ?_
              rintro e w5 ⟨⟨z, rfl, hz1, _⟩, hc5, hx6⟩
              have hz := hz1 (by omega)
              have hO5 := Lib.hid (hO4.out.exc hx6 hcb)
              have hx7 := Lib.hid (hx5.out.trans hx6)
              have hs5 := hx7.out.size
              have hl5 : (ints L).length ≤ 1000000000 := by simp; omega
              replace hc5 := Lib.hid hc5
              clear hx6 hO4 hc4 hx5 hz1
              go_wp2_with (at_builtin; refine append_one_at eltInt rfl _ _ rfl w0.heap.size _ _ rfl hO5.out rfl rfl hl5 hs5 ?_; intro v6 w6 ho6 hg6 _)
              have hc6 := hc5.out.appended hO5.out hg6 hcb hvb.out
              have hx8 := hx7.out.appended hO5.out hg6
              have ho7 : Own w6 3 w0.heap.size v6 (ints (L ++ [1 + (z : Int)])) := by simpa [ints] using ho6
              obtain ⟨ao7, c7, rfl, _, _, _, _⟩ := ho7.sl.openInts
              exact ⟨⟨L ++ [1 + (z : Int)], ao7, c7, by simp; omega, rfl, ho7, hc6.le (by simp; omega), hx8⟩, by simp [slN]; omega⟩
            · go_wp2
              go_ret
              exact ⟨_, L, _, rfl, (hfin.out _ _ _ hO4.out hx5.out).1, (hfin.out _ _ _ hO4.out hx5.out).2.1, (hfin.out _ _ _ hO4.out hx5.out).2.2, by omega⟩
        · have e0 : ((x : Int) == 0) = false := by simp; omega
          have e1 : ((x : Int) == 1) = false := by simp; omega
          go_wp2
          go_ret
          exact ⟨_, L, _, rfl, (hfin.out _ _ _ hO3.out hx5.out).1, (hfin.out _ _ _ hO3.out hx5.out).2.1, (hfin.out _ _ _ hO3.out hx5.out).2.2, by omega⟩
end Go.Proofs.Ytbfffpdcpoejnaa
